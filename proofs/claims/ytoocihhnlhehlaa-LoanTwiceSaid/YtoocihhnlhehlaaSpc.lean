/- Loans: what the reference's functions compute, plain. -/
import Derived.Test.YtoocihhnlhehlaaSpb
namespace Go.Proofs.Ytoocihhnlhehlaa
open Go Go.Proofs.Ytoocihhnlhehlaa.Den
def prinR (x : Sl Due) (day : Int) : Int := sumIf (fun j => decide ((x.at' j).day ≤ day)) (fun j => (x.at' j).pr) x.n
def intR (x : Sl Due) (day : Int) : Int := sumIf (fun j => decide ((x.at' j).day ≤ day)) (fun j => (x.at' j).it) x.n
abbrev lastD : Int := 9223372036854775807
def leftR (l : Loan) : Bool := (prinR l.d lastD != l.pp) || (intR l.d lastD != l.pi) || (l.fe != 0) || (l.pe != 0)
def withinB (n m : Int) : Bool := decide (0 ≤ n) && decide (n ≤ m)
def rangedAt (d : Due) : Bool := !(!dayB d.day || !withinB d.pr 1000000000000 || !withinB d.it 1000000000000)
def rangedR (l : Loan) : Bool :=
  !(decide (l.id < 1) || decide (l.ac < 1000) || decide (l.st < 1) || decide (l.st > 3) || decide (l.pp < 0) || decide (l.pi < 0) || decide (l.re < 0)) &&
  !(!withinB l.fe 1000000000000 || !withinB l.pe 1000000000000 || !withinB l.pv 1000000000000 || !withinB l.lo 1000000000000 || !dayB l.ch || !withinB l.t.pp 1000000 || !withinB l.t.fp 1000000) &&
  !(decide ((l.d.n : Int) < 1) || decide ((l.d.n : Int) > 240) || decide ((l.c.n : Int) > 64)) && allTo (fun j => rangedAt (l.d.at' j)) l.d.n
def checkR (l : Loan) : Int :=
  if !rangedR l then 1 else if !orderedS l.d then 10
  else if decide (l.pp > prinR l.d lastD) || decide (l.pi > intR l.d lastD) || decide (l.re > l.lo) then 25
  else if (((l.c.n : Int) == 0) && (prinR l.d lastD != l.t.p)) || ((l.st != 3) && (leftR l != (l.st == 1))) then 25
  else if (l.st != 3) && ((l.lo != 0) || (l.re != 0)) then 25 else 0
def outR (l : Loan) : Int := w64 (prinR l.d lastD - l.pp)
def owedLR (l : Loan) (on : Int) : List Part :=
  [⟨1, l.fe⟩, ⟨2, l.pe⟩, ⟨3, w64 (intR l.d on - l.pi)⟩, ⟨4, w64 (prinR l.d on - l.pp)⟩]
def owedR (l : Loan) (on : Int) : Sl Part := Sl.of ⟨0, 0⟩ ((owedLR l on).filter fun p => decide (p.a > 0))
def partEq (a b : Part) : Bool := (a.k == b.k) && (a.a == b.a)
def dueEq (a b : Due) : Bool := (a.no == b.no) && (a.day == b.day) && (a.pr == b.pr) && (a.it == b.it)
def samePartsR (a b : Sl Part) : Bool := (!(((a.n : Int)) != (b.n : Int))) && allTo (fun j => partEq (a.at' j) (b.at' j)) a.n
def sameDuesR (a b : Sl Due) : Bool := (!(((a.n : Int)) != (b.n : Int))) && allTo (fun j => dueEq (a.at' j) (b.at' j)) a.n
def termsEq (a b : Terms) : Bool := (a.me == b.me) && (a.p == b.p) && (a.ppm == b.ppm) && (a.st == b.st) && (a.ev == b.ev) && (a.co == b.co) && (a.ba == b.ba) && (a.mo == b.mo) && (a.pp == b.pp) && (a.fp == b.fp) && ((a.cal).toList == (b.cal).toList) && ((a.cur).toList == (b.cur).toList)
def changeEq (a b : Change) : Bool := (a.day == b.day) && (a.am == b.am) && (a.old.me == b.old.me) && (a.old.p == b.old.p) && (a.old.ppm == b.old.ppm) && (a.old.st == b.old.st) && (a.old.ev == b.old.ev) && (a.old.co == b.old.co) && (a.old.ba == b.old.ba) && (a.old.mo == b.old.mo) && (a.old.pp == b.old.pp) && (a.old.fp == b.old.fp) && ((a.old.cal).toList == (b.old.cal).toList) && ((a.old.cur).toList == (b.old.cur).toList)
def sameChangesR (a b : Sl Change) : Bool := (!(((a.n : Int)) != (b.n : Int))) && allTo (fun j => changeEq (a.at' j) (b.at' j)) a.n
def sameR (a b : Loan) : Bool := (a.id == b.id) && (a.ac == b.ac) && (a.st == b.st) && (a.pp == b.pp) && (a.pi == b.pi) && (a.fe == b.fe) && (a.pe == b.pe) && (a.ch == b.ch) && (a.pv == b.pv) && (a.lo == b.lo) && (a.re == b.re) && termsEq a.t b.t && sameDuesR a.d b.d && sameChangesR a.c b.c
def greatR (l : Loan) : Bool := decide ((l.d.n : Int) > 300) || decide ((l.c.n : Int) > 100)
def applyR (l : Loan) (p : Part) : Loan :=
  if p.k == 1 then { l with fe := w64 (l.fe - p.a) } else if p.k == 2 then { l with pe := w64 (l.pe - p.a) }
  else if p.k == 3 then { l with pi := w64 (l.pi + p.a) } else if p.k == 4 then { l with pp := w64 (l.pp + p.a) } else l
end Go.Proofs.Ytoocihhnlhehlaa
