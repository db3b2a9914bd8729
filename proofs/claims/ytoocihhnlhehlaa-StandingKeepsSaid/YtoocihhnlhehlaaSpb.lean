/- Loans: what the program's functions compute, plain. -/
import Derived.Test.YtoocihhnlhehlaaSpa
namespace Go.Proofs.Ytoocihhnlhehlaa
open Go Go.Proofs.Ytoocihhnlhehlaa.Den
def allTo (p : Nat → Bool) : Nat → Bool
  | 0 => true
  | k + 1 => allTo p k && p k
theorem allTo_iff (p : Nat → Bool) : ∀ n, allTo p n = true ↔ ∀ j, j < n → p j = true
  | 0 => by simp [allTo]
  | n + 1 => by
    simp only [allTo, Bool.and_eq_true, allTo_iff p n]
    constructor
    · rintro ⟨h1, h2⟩ j hj
      rcases Nat.lt_or_ge j n with h | h
      · exact h1 j h
      · have : j = n := by omega
        subst this; exact h2
    · exact fun h => ⟨fun j hj => h j (by omega), h n (by omega)⟩
theorem allTo_not {p : Nat → Bool} {n k : Nat} (hk : k < n) (h : p k = false) : allTo p n = false := by
  cases e : allTo p n with
  | false => rfl
  | true => have := (allTo_iff p n).1 e k hk; rw [h] at this; cases this
theorem allTo_yes {p : Nat → Bool} {n : Nat} (h : ∀ j, j < n → p j = true) : allTo p n = true := (allTo_iff p n).2 h
def badDue (d : Due) : Bool := !dayB d.day || !amB d.pr || !amB d.it
def numbersS (l : Loan) : Bool :=
  !(decide (l.id < 1) || decide (l.ac < 1000) || decide (l.st < 1) || decide (l.st > 3)) && !(decide (l.pp < 0) || decide (l.pi < 0) || decide (l.re < 0) || !dayB l.ch) &&
  !(!rateB l.t.pp || !rateB l.t.fp) && !(decide ((l.d.n : Int) < 1) || decide ((l.d.n : Int) > 240) || decide ((l.c.n : Int) > 64)) &&
  (amB l.fe && amB l.pe && amB l.pv && amB l.lo) && !decide (0 ≤ idx (fun j => badDue (l.d.at' j)) l.d.n 0)
def ordAt (x : Sl Due) (k : Nat) : Bool := ((x.at' k).no == (k : Int) + 1) && !(decide (0 < (k : Int)) && decide ((x.at' k).day < (x.at' (k - 1)).day))
def orderedS (x : Sl Due) : Bool := allTo (ordAt x) x.n
def sumP (x : Sl Due) : Int := sumTo (fun j => (x.at' j).pr) x.n
def sumI (x : Sl Due) : Int := sumTo (fun j => (x.at' j).it) x.n
def leftS (l : Loan) : Bool := (l.pp != sumP l.d) || (l.pi != sumI l.d) || (l.fe != 0) || (l.pe != 0)
def checkS (l : Loan) : Int :=
  if !numbersS l then 1 else if !orderedS l.d then 10
  else if decide (l.pp > sumP l.d) || decide (l.pi > sumI l.d) || decide (l.re > l.lo) then 25
  else if ((l.c.n : Int) == 0) && (sumP l.d != l.t.p) then 25
  else if ((l.st == 2) && leftS l) || ((l.st == 1) && !leftS l) then 25
  else if (l.st != 3) && ((l.lo != 0) || (l.re != 0)) then 25 else 0
def outS (l : Loan) : Int := w64 (sumP l.d - l.pp)
def dueS (x : Sl Due) (on : Int) : Sl Due := Sl.of ⟨0, 0, 0, 0⟩ (x.list.filter fun d => decide (d.day ≤ on))
def owedL (l : Loan) (on : Int) : List Part :=
  [⟨1, l.fe⟩, ⟨2, l.pe⟩, ⟨3, w64 (sumI (dueS l.d on) - l.pi)⟩, ⟨4, w64 (sumP (dueS l.d on) - l.pp)⟩]
def owedS (l : Loan) (on : Int) : Sl Part := Sl.of ⟨0, 0⟩ ((owedL l on).filter fun p => !decide (p.a ≤ 0))
end Go.Proofs.Ytoocihhnlhehlaa
