/- Loans: what a payment does, plain; both sides. -/
import Derived.Test.YtoocihhnlhehlaaSpc
import Derived.Test.YtoocihhnlhehlaaDenl
namespace Go.Proofs.Ytoocihhnlhehlaa
open Go Go.Proofs.Ytoocihhnlhehlaa.Den
set_option maxRecDepth 100000
/-- What is paid so far. -/
structure Paid where
  fe : Int
  pe : Int
  pi : Int
  pp : Int
  lf : Int
  parts : Sl Part
def push (p : Sl Part) (x : Part) : Sl Part := ⟨p.n + 1, fun j => if j < p.n then p.at' j else x⟩
def ixS (owed : Sl Part) (kind : Int) : Int := idx (fun j => (owed.at' j).k == kind) owed.n 0
def foundS (owed : Sl Part) (kind lf : Int) : Bool := !(decide (ixS owed kind < 0)) && !(lf == 0)
def mn (x y : Int) : Int := if y < x then y else x
def tk (owed : Sl Part) (kind lf : Int) : Int := if foundS owed kind lf then mn lf (owed.at' (ixS owed kind).toNat).a else 0
def lfS (owed : Sl Part) (kind lf : Int) : Int := if foundS owed kind lf then w64 (lf - tk owed kind lf) else lf
def partsS (owed : Sl Part) (kind : Int) (z : Paid) : Sl Part := if foundS owed kind z.lf then push z.parts ⟨kind, tk owed kind z.lf⟩ else z.parts
def step1 (owed : Sl Part) (z : Paid) : Paid := { z with lf := lfS owed 1 z.lf, parts := partsS owed 1 z, fe := w64 (z.fe - tk owed 1 z.lf) }
def step2 (owed : Sl Part) (z : Paid) : Paid := { z with lf := lfS owed 2 z.lf, parts := partsS owed 2 z, pe := w64 (z.pe - tk owed 2 z.lf) }
def step3 (owed : Sl Part) (z : Paid) : Paid := { z with lf := lfS owed 3 z.lf, parts := partsS owed 3 z, pi := w64 (z.pi + tk owed 3 z.lf) }
def step4 (owed : Sl Part) (z : Paid) : Paid := { z with lf := lfS owed 4 z.lf, parts := partsS owed 4 z, pp := w64 (z.pp + tk owed 4 z.lf) }
def firstS (owed : Sl Part) : Int := if ((owed.n : Int) == 0) then 5 else (owed.at' 0).k
def rest5 (z : Paid) : Paid := if decide (z.lf > 0) then { z with parts := push z.parts ⟨5, z.lf⟩ } else z
theorem rest5_y {z : Paid} (h : decide (z.lf > 0) = true) : (rest5 z).parts = push z.parts ⟨5, z.lf⟩ := by simp [rest5, h]
theorem rest5_n {z : Paid} (h : decide (z.lf > 0) = false) : (rest5 z).parts = z.parts := by simp [rest5, h]
def stepsS (owed : Sl Part) (z : Paid) : Paid :=
  if firstS owed == 1 then step4 owed (step3 owed (step2 owed (step1 owed z)))
  else if firstS owed == 2 then step4 owed (step3 owed (step2 owed z))
  else if firstS owed == 3 then step4 owed (step3 owed z)
  else if firstS owed == 4 then step4 owed z else z
theorem stepsS_1 {owed : Sl Part} {z : Paid} (h1 : (firstS owed == 1) = true) : stepsS owed z = step4 owed (step3 owed (step2 owed (step1 owed z))) := by simp only [stepsS, h1, if_true]
theorem stepsS_2 {owed : Sl Part} {z : Paid} (h1 : (firstS owed == 1) = false) (h2 : (firstS owed == 2) = true) : stepsS owed z = step4 owed (step3 owed (step2 owed z)) := by simp [stepsS, h1, h2]
theorem stepsS_3 {owed : Sl Part} {z : Paid} (h1 : (firstS owed == 1) = false) (h2 : (firstS owed == 2) = false) (h3 : (firstS owed == 3) = true) : stepsS owed z = step4 owed (step3 owed z) := by simp [stepsS, h1, h2, h3]
theorem stepsS_4 {owed : Sl Part} {z : Paid} (h1 : (firstS owed == 1) = false) (h2 : (firstS owed == 2) = false) (h3 : (firstS owed == 3) = false) (h4 : (firstS owed == 4) = true) : stepsS owed z = step4 owed z := by simp [stepsS, h1, h2, h3, h4]
theorem stepsS_5 {owed : Sl Part} {z : Paid} (h1 : (firstS owed == 1) = false) (h2 : (firstS owed == 2) = false) (h3 : (firstS owed == 3) = false) (h4 : (firstS owed == 4) = false) : stepsS owed z = z := by simp [stepsS, h1, h2, h3, h4]
def upd5 (l : Loan) (z : Paid) : Loan := { l with fe := z.fe, pe := z.pe, pi := z.pi, pp := z.pp }
def settle (l : Loan) : Loan := if !leftS l then { l with st := 2 } else l
def noTerms : Terms := ⟨0, 0, 0, 0, 0, 0, 0, 0, 0, 0, ByteArray.empty, ByteArray.empty⟩
def noLoan : Loan := ⟨0, 0, 0, 0, 0, 0, 0, 0, 0, 0, 0, noTerms, ⟨0, fun _ => ⟨0, 0, 0, 0⟩⟩, ⟨0, fun _ => ⟨0, 0, noTerms⟩⟩⟩
def noParts : Sl Part := ⟨0, fun _ => ⟨0, 0⟩⟩
def paidS (l : Loan) (n on : Int) : Paid := stepsS (owedS l on) ⟨l.fe, l.pe, l.pi, l.pp, n, noParts⟩
def payS (l : Loan) (n on : Int) : Loan × Sl Part × Int :=
  if (checkS l != 0) || decide (n < 1) || decide (n > 1000000000000) || !dayB on then (noLoan, noParts, 1)
  else if l.st != 1 then (noLoan, noParts, 17)
  else (settle (upd5 l (paidS l n on)), (rest5 (paidS l n on)).parts, 0)
/-- The reference's payment. -/
def payStep (owed : Sl Part) (i : Nat) (z : Loan × Int × Sl Part) : Loan × Int × Sl Part :=
  (applyR z.1 ⟨(owed.at' i).k, mn z.2.1 (owed.at' i).a⟩, w64 (z.2.1 - mn z.2.1 (owed.at' i).a), push z.2.2 ⟨(owed.at' i).k, mn z.2.1 (owed.at' i).a⟩)
def payTo (owed : Sl Part) (z : Loan × Int × Sl Part) : Nat → Loan × Int × Sl Part
  | 0 => z
  | k + 1 => if decide ((payTo owed z k).2.1 > 0) then payStep owed k (payTo owed z k) else payTo owed z k
theorem payTo_stop {owed : Sl Part} {z : Loan × Int × Sl Part} {k : Nat} (h : decide ((payTo owed z k).2.1 > 0) = false) : ∀ n, k ≤ n → payTo owed z n = payTo owed z k
  | 0, hn => by
    have : k = 0 := by omega
    subst this; rfl
  | n + 1, hn => by
    rcases Nat.lt_or_ge n k with h1 | h1
    · have : k = n + 1 := by omega
      subst this; rfl
    · have ih := payTo_stop h n h1
      show (if decide ((payTo owed z n).2.1 > 0) then _ else payTo owed z n) = _
      rw [ih, h]; rfl
theorem applyR_d (l : Loan) (p : Part) : (applyR l p).d = l.d := by
  unfold applyR
  split
  · rfl
  split
  · rfl
  split
  · rfl
  split <;> rfl
theorem payTo_d (owed : Sl Part) (z : Loan × Int × Sl Part) : ∀ k, (payTo owed z k).1.d = z.1.d
  | 0 => rfl
  | k + 1 => by
    show (if decide ((payTo owed z k).2.1 > 0) then payStep owed k (payTo owed z k) else payTo owed z k).1.d = _
    split
    · exact (applyR_d _ _).trans (payTo_d owed z k)
    · exact payTo_d owed z k
theorem payTo_n (owed : Sl Part) (z : Loan × Int × Sl Part) : ∀ k, (payTo owed z k).2.2.n ≤ z.2.2.n + k
  | 0 => Nat.le_refl _
  | k + 1 => by
    have := payTo_n owed z k
    show (if decide ((payTo owed z k).2.1 > 0) then payStep owed k (payTo owed z k) else payTo owed z k).2.2.n ≤ _
    split
    · show (payTo owed z k).2.2.n + 1 ≤ _
      omega
    · omega
def outR5 (z : Loan × Int × Sl Part) : Sl Part := if decide (z.2.1 > 0) then push z.2.2 ⟨5, z.2.1⟩ else z.2.2
theorem outR5_y {z : Loan × Int × Sl Part} (h : decide (z.2.1 > 0) = true) : outR5 z = push z.2.2 ⟨5, z.2.1⟩ := by simp [outR5, h]
theorem outR5_n {z : Loan × Int × Sl Part} (h : decide (z.2.1 > 0) = false) : outR5 z = z.2.2 := by simp [outR5, h]
def settleR (l : Loan) : Loan := if !leftR l then { l with st := 2 } else l
def payZ (l : Loan) (n on : Int) : Loan × Int × Sl Part := payTo (owedR l on) (l, n, noParts) (owedR l on).n
def payR (l : Loan) (n on : Int) : Loan × Sl Part × Int :=
  if (checkR l != 0) || decide (n < 1) || decide (n > 1000000000000) || !dayB on then (noLoan, noParts, 1)
  else if l.st != 1 then (noLoan, noParts, 17)
  else (settleR (payZ l n on).1, outR5 (payZ l n on), 0)
def zeroCs : List C := [ci 0, ci 0, ci 0, ci 0, ci 0, ci 0, ci 0, ci 0, ci 0, ci 0, ci 0, ci 0, ci 0, ci 0, ci 0, ci 0, ci 0, ci 0, ci 0, ci 0, ci 0, .v (.string ⟨#[]⟩), .v (.string ⟨#[]⟩), .v (.slice none 0 0), .v (.slice none 0 0)]
theorem idx_in (p : Nat → Bool) (n : Nat) (h : ¬ idx p n 0 < 0) : 0 ≤ idx p n 0 ∧ idx p n 0 < n := by
  rcases idx_spec p n 0 with ⟨h1, _⟩ | ⟨i, _, h2, h3, _, _⟩ <;> omega
theorem err_le (e : Int) : Le (.tup [.agg zeroCs, .c (.v (.slice none 0 0)), di e]) (.tup [.agg [.v (.int .i64 (noLoan.id)), .v (.int .i64 (noLoan.ac)), .v (.int .i64 (noLoan.st)), .v (.int .i64 (noLoan.pp)), .v (.int .i64 (noLoan.pi)), .v (.int .i64 (noLoan.fe)), .v (.int .i64 (noLoan.pe)), .v (.int .i64 (noLoan.ch)), .v (.int .i64 (noLoan.pv)), .v (.int .i64 (noLoan.lo)), .v (.int .i64 (noLoan.re)), .v (.int .i64 (noLoan.t.me)), .v (.int .i64 (noLoan.t.p)), .v (.int .i64 (noLoan.t.ppm)), .v (.int .i64 (noLoan.t.st)), .v (.int .i64 (noLoan.t.ev)), .v (.int .i64 (noLoan.t.co)), .v (.int .i64 (noLoan.t.ba)), .v (.int .i64 (noLoan.t.mo)), .v (.int .i64 (noLoan.t.pp)), .v (.int .i64 (noLoan.t.fp)), .v (.string (noLoan.t.cal)), .v (.string (noLoan.t.cur)), .sl 4 noLoan.d.n (fun j => [.int .i64 ((noLoan.d.at' j).no), .int .i64 ((noLoan.d.at' j).day), .int .i64 ((noLoan.d.at' j).pr), .int .i64 ((noLoan.d.at' j).it)]), .sl 14 noLoan.c.n (fun j => [.int .i64 ((noLoan.c.at' j).day), .int .i64 ((noLoan.c.at' j).am), .int .i64 ((noLoan.c.at' j).old.me), .int .i64 ((noLoan.c.at' j).old.p), .int .i64 ((noLoan.c.at' j).old.ppm), .int .i64 ((noLoan.c.at' j).old.st), .int .i64 ((noLoan.c.at' j).old.ev), .int .i64 ((noLoan.c.at' j).old.co), .int .i64 ((noLoan.c.at' j).old.ba), .int .i64 ((noLoan.c.at' j).old.mo), .int .i64 ((noLoan.c.at' j).old.pp), .int .i64 ((noLoan.c.at' j).old.fp), .string ((noLoan.c.at' j).old.cal), .string ((noLoan.c.at' j).old.cur)])], .c (.sl 2 noParts.n fun j => [.int .i64 ((noParts.at' j).k), .int .i64 ((noParts.at' j).a)]), di e]) :=
  Le.tup (.cons (.agg (by repeat' (first | exact CLes.nil | exact CLe.refl _ | exact CLe.nil rfl | apply CLes.cons))) (.cons (.c (CLe.nil rfl)) (.cons (.refl _) .nil)))
theorem push_row (p : Sl Part) (k a : Int) : (Rx.cat (.of p.n fun j => [.int .i64 ((p.at' j).k), .int .i64 ((p.at' j).a)]) (.lit [[vi k, vi a]])).list = (Rx.of (push p ⟨k, a⟩).n fun j => [vi ((push p ⟨k, a⟩).at' j).k, vi ((push p ⟨k, a⟩).at' j).a]).list := by
  simp only [Rx.list, push, List.range_succ, List.map_append, List.map_cons, List.map_nil]
  congr 1
  · apply List.map_congr_left
    intro j hj
    simp [List.mem_range.1 hj]
  · simp
theorem CLes.rfl_ : ∀ cs : List C, CLes cs cs
  | [] => .nil
  | c :: r => .cons (.refl c) (CLes.rfl_ r)
end Go.Proofs.Ytoocihhnlhehlaa
