/- Loans: what a valid loan is, plain. -/
import Derived.Test.YtoocihhnlhehlaaPld
namespace Go.Proofs.Ytoocihhnlhehlaa
open Go Go.Proofs.Ytoocihhnlhehlaa.Den
/-- A loan that Check accepts. -/
structure Chk (l : Loan) : Prop where
  num : numbersS l = true
  ord : orderedS l.d = true
  pp : l.pp ≤ sumP l.d
  pi : l.pi ≤ sumI l.d
  re : l.re ≤ l.lo
  fst : (l.c.n : Int) = 0 → sumP l.d = l.t.p
  st2 : l.st = 2 → leftS l = false
  st1 : l.st = 1 → leftS l = true
  st3 : l.st ≠ 3 → l.lo = 0 ∧ l.re = 0
theorem chk_of {l : Loan} (h : checkS l = 0) : Chk l := by
  unfold checkS at h
  split at h
  · cases h
  rename_i h1
  split at h
  · cases h
  rename_i h2
  split at h
  · cases h
  rename_i h3
  split at h
  · cases h
  rename_i h4
  split at h
  · cases h
  rename_i h5
  split at h
  · cases h
  rename_i h6
  simp only [Bool.not_eq_true', Bool.not_eq_false', Bool.not_eq_true, Bool.or_eq_false_iff, Bool.and_eq_false_iff, decide_eq_false_iff_not, bne_eq_false_iff_eq, beq_eq_false_iff_ne, ne_eq] at h1 h2 h3 h4 h5 h6
  refine ⟨by simpa using h1, by simpa using h2, by omega, by omega, by omega, fun e => ?_, fun e => ?_, fun e => ?_, fun e => ?_⟩
  · rcases h4 with h | h
    · exact absurd e h
    · exact h
  · rcases h5.1 with h | h
    · exact absurd e h
    · exact h
  · rcases h5.2 with h | h
    · exact absurd e h
    · simpa using h
  · rcases h6 with h | h
    · exact absurd h e
    · exact h
theorem chk_to {l : Loan} (h : Chk l) : checkS l = 0 := by
  unfold checkS
  rw [if_neg (by simp [h.num]), if_neg (by simp [h.ord]), if_neg (by have := h.pp; have := h.pi; have := h.re; simp; omega), if_neg, if_neg, if_neg]
  · intro hh
    simp only [Bool.and_eq_true, Bool.or_eq_true, bne_iff_ne, ne_eq] at hh
    have := h.st3 hh.1
    rcases hh.2 with h1 | h1
    · exact h1 this.1
    · exact h1 this.2
  · intro hh
    simp only [Bool.and_eq_true, Bool.or_eq_true, beq_iff_eq, Bool.not_eq_true'] at hh
    rcases hh with ⟨h1, h2⟩ | ⟨h1, h2⟩
    · rw [h.st2 h1] at h2; cases h2
    · rw [h.st1 h1] at h2; cases h2
  · intro hh
    simp only [Bool.and_eq_true, beq_iff_eq, bne_iff_ne, ne_eq] at hh
    exact hh.2 (h.fst hh.1)
theorem sumIf_le {p : Nat → Bool} {f : Nat → Int} {m : Int} (hm : 0 ≤ m) : ∀ n : Nat, (∀ j, j < n → 0 ≤ f j ∧ f j ≤ m) → n * m ≤ 9223372036854775807 → 0 ≤ sumIf p f n ∧ sumIf p f n ≤ sumTo f n ∧ sumTo f n ≤ n * m
  | 0, _, _ => by simp [sumTo, sumIf]
  | n + 1, hf, h => by
    have e : ((n + 1 : Nat) : Int) * m = (n : Int) * m + m := by rw [Int.natCast_add, Int.add_mul]; simp
    rw [e] at h ⊢
    obtain ⟨h1, h2, h3⟩ := sumIf_le (p := p) hm n (fun j hj => hf j (by omega)) (by omega)
    have h4 := hf n (by omega)
    simp only [sumTo, sumIf]
    have e1 : IntKind.i64.wrap (sumTo f n + f n) = sumTo f n + f n := wrap_id (by omega) (by omega)
    split
    · have e2 : IntKind.i64.wrap (sumIf p f n + f n) = sumIf p f n + f n := wrap_id (by omega) (by omega)
      omega
    · omega
/-- The numbers of a valid loan. -/
structure Num (l : Loan) : Prop where
  st : 1 ≤ l.st ∧ l.st ≤ 3
  pp : 0 ≤ l.pp
  pi : 0 ≤ l.pi
  fe : 0 ≤ l.fe ∧ l.fe ≤ 1000000000000
  pe : 0 ≤ l.pe ∧ l.pe ≤ 1000000000000
  dn : l.d.n ≤ 240
  d : ∀ j, j < l.d.n → (0 ≤ (l.d.at' j).pr ∧ (l.d.at' j).pr ≤ 1000000000000) ∧ (0 ≤ (l.d.at' j).it ∧ (l.d.at' j).it ≤ 1000000000000)
theorem num_of {l : Loan} (h : numbersS l = true) : Num l := by
  have hst := ranged_st h
  simp only [numbersS, Bool.and_eq_true, Bool.not_eq_true', Bool.or_eq_false_iff, decide_eq_false_iff_not, amB, decide_eq_true_eq] at h
  obtain ⟨⟨⟨⟨⟨h1, h2⟩, h3⟩, h4⟩, h5⟩, h6⟩ := h
  refine ⟨hst, by omega, by omega, by omega, by omega, by omega, fun j hj => ?_⟩
  have hb : badDue (l.d.at' j) = false := by
    rcases idx_spec (fun j => badDue (l.d.at' j)) l.d.n 0 with ⟨_, h8⟩ | ⟨i, _, _, h8, _, _⟩
    · exact h8 j (by omega) (by omega)
    · rw [h8] at h6
      exact absurd (Int.natCast_nonneg i) h6
  simp only [badDue, Bool.or_eq_false_iff, Bool.not_eq_false', amB, Bool.and_eq_true, decide_eq_true_eq] at hb
  exact ⟨hb.1.2, hb.2⟩
end Go.Proofs.Ytoocihhnlhehlaa
