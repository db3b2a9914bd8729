/- Standing orders, plain. -/
import Derived.Test.YtoocihhnlhehlaaSpf
namespace Go.Proofs.Ytoocihhnlhehlaa
open Go Go.Proofs.Ytoocihhnlhehlaa.Den
set_option linter.unusedVariables false
def byteAt (s : ByteArray) (i : Int) : Int := (s.data.toList.getD i.toNat 0).toNat
def charB (s : ByteArray) (i : Int) : Bool := !(decide (byteAt s i < 32) || decide (byteAt s i > 126))
def textB (s : ByteArray) : Bool := allTo (fun j => charB s j) s.size && decide ((s.size : Int) ≤ 64)
def everyB (n : Int) : Bool := (n == 0) || (n == 1) || (n == 3) || (n == 6) || (n == 12)
def ordOk (o : Order) : Bool :=
  !(decide (o.id < 1) || decide (o.fr < 1000) || decide (o.to < 1000) || (o.fr == o.to) || decide (o.am < 1) || decide (o.am > 1000000000000)) &&
  !(!dayB o.day || !dayB o.un || decide (o.day > o.un)) && !(!everyB o.ev || decide (o.an < 1) || decide (o.an > 31)) &&
  !(decide (o.tr < 0) || decide (o.tr > 3) || !textB o.tx)
def checkO (o : Order) : Int := if ordOk o then 0 else 1
/-- A day that is moved to a business day of its month, if there is one. -/
def movedS (we ho : Sl Int) (n : Int) : Int := if (adjS we ho n).2 != 0 || (monthEnd (adjS we ho n).1 != monthEnd n) then n else (adjS we ho n).1
def nextO (we ho : Sl Int) (o : Order) : Int × Int :=
  if checkO o != 0 then (0, 1) else if o.ev == 0 then (0, 23) else if (addM o.day o.ev o.an).2 != 0 then (0, 23)
  else if decide (movedS we ho (addM o.day o.ev o.an).1 > o.un) then (0, 23) else (movedS we ho (addM o.day o.ev o.an).1, 0)
def noOrder : Order := ⟨0, 0, 0, 0, 0, 0, 0, 0, 0, ByteArray.empty⟩
def noOrders : Sl Order := ⟨0, fun _ => noOrder⟩
def pushO (l : Sl Order) (o : Order) : Sl Order := ⟨l.n + 1, fun j => if j < l.n then l.at' j else o⟩
def addS (l : Sl Order) (o : Order) : Sl Order × Int :=
  if decide ((l.n : Int) > 0) && decide (o.id ≤ (l.at' (l.n - 1)).id) then (noOrders, 10) else if decide ((l.n : Int) ≥ 64) then (noOrders, 5)
  else if checkO o != 0 then (noOrders, checkO o) else (pushO l o, 0)
def ixO (l : Sl Order) (id : Int) : Int := idx (fun j => (l.at' j).id == id) l.n 0
def delO (l : Sl Order) (i : Nat) : Sl Order := ⟨l.n - 1, fun j => if j < i then l.at' j else l.at' (j + 1)⟩
def setO (l : Sl Order) (i : Nat) (o : Order) : Sl Order := ⟨l.n, fun j => if j = i then o else l.at' j⟩
def cancelS (l : Sl Order) (id : Int) : Sl Order × Int := if ixO l id < 0 then (noOrders, 11) else (delO l (ixO l id).toNat, 0)
def dueOs (l : Sl Order) (day : Int) : Sl Order := Sl.of noOrder (l.list.filter fun o => decide (o.day ≤ day))
def doneS (we ho : Sl Int) (l : Sl Order) (id day : Int) (ok : Bool) : Sl Order × Int :=
  if ixO l id < 0 then (noOrders, 11) else if decide ((l.at' (ixO l id).toNat).day > day) then (noOrders, 17)
  else if !ok && decide ((l.at' (ixO l id).toNat).tr < 2) then (setO l (ixO l id).toNat { l.at' (ixO l id).toNat with tr := w64 ((l.at' (ixO l id).toNat).tr + 1) }, 0)
  else if (nextO we ho (l.at' (ixO l id).toNat)).2 != 0 then (delO l (ixO l id).toNat, 0)
  else (setO l (ixO l id).toNat { l.at' (ixO l id).toNat with tr := 0, day := (nextO we ho (l.at' (ixO l id).toNat)).1 }, 0)
end Go.Proofs.Ytoocihhnlhehlaa
