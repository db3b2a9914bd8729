/- Loans: what the program's checks compute is what the reference's compute, plain. -/
import Derived.Test.YtoocihhnlhehlaaSpd
namespace Go.Proofs.Ytoocihhnlhehlaa
open Go Go.Proofs.Ytoocihhnlhehlaa.Den
theorem sumTo_congr {f g : Nat → Int} : ∀ n, (∀ j, j < n → f j = g j) → sumTo f n = sumTo g n
  | 0, _ => rfl
  | n + 1, h => by
    simp only [sumTo]
    rw [sumTo_congr n (fun j hj => h j (by omega)), h n (by omega)]
theorem sumIf_all {p : Nat → Bool} {f : Nat → Int} : ∀ n, (∀ j, j < n → p j = true) → sumIf p f n = sumTo f n
  | 0, _ => rfl
  | n + 1, h => by
    simp only [sumIf, sumTo]
    rw [if_pos (h n (by omega)), sumIf_all n (fun j hj => h j (by omega))]
theorem sum_kept {α : Type} (p : α → Bool) (f : Nat → α) (g : α → Int) (d : α) : ∀ n, sumTo (fun j => g ((kept p f n).getD j d)) (kept p f n).length = sumIf (fun j => p (f j)) (fun j => g (f j)) n
  | 0 => rfl
  | n + 1 => by
    have ih := sum_kept p f g d n
    simp only [sumIf]
    rw [kept_succ]
    split
    · rw [List.length_append]
      show IntKind.i64.wrap (sumTo _ (kept p f n).length + _) = _
      rw [sumTo_congr (g := fun j => g ((kept p f n).getD j d)) _ (fun j hj => by simp [List.getD, List.getElem?_append_left hj]), ih]
      congr 2
      simp
    · exact ih
def Small (l : Loan) : Prop := ∀ j, j < l.d.n → (l.d.at' j).day ≤ 9223372036854775807
theorem prin_last {l : Loan} (h : Small l) : prinR l.d lastD = sumP l.d := sumIf_all _ fun j hj => by simpa using h j hj
theorem int_last {l : Loan} (h : Small l) : intR l.d lastD = sumI l.d := sumIf_all _ fun j hj => by simpa using h j hj
theorem out_eq {l : Loan} (h : Small l) : outR l = outS l := by simp only [outR, outS, prin_last h]
theorem nec (a b : Int) : (a != b) = (b != a) := by
  by_cases h : a = b
  · subst h; rfl
  · have h' : b ≠ a := fun e => h e.symm
    rw [bne, bne, beq_eq_false_iff_ne.2 h, beq_eq_false_iff_ne.2 h']
theorem left_eq {l : Loan} (h : Small l) : leftR l = leftS l := by simp only [leftR, leftS, prin_last h, int_last h, nec (sumP l.d), nec (sumI l.d)]
theorem allTo_idx (p : Nat → Bool) (n : Nat) : allTo (fun j => !p j) n = !decide (0 ≤ idx p n 0) := by
  rcases idx_spec p n 0 with ⟨h1, h2⟩ | ⟨i, _, h2, h3, h4, h5⟩
  · rw [h1, allTo_yes fun j hj => by simp [h2 j (by omega) (by omega)]]; rfl
  · rw [h3, allTo_not (k := i) (by omega) (by simp [h4])]
    simp
theorem ranged_eq (l : Loan) : rangedR l = numbersS l := by
  have h : allTo (fun j => rangedAt (l.d.at' j)) l.d.n = !decide (0 ≤ idx (fun j => badDue (l.d.at' j)) l.d.n 0) := allTo_idx _ _
  simp only [rangedR, numbersS, h]
  show (!(_ || _ || _ || _ || _ || _ || _) && !(!amB l.fe || !amB l.pe || !amB l.pv || !amB l.lo || !dayB l.ch || !rateB l.t.pp || !rateB l.t.fp) && _ && _) = _
  simp only [Bool.not_or, Bool.not_not]
  ac_rfl
theorem ranged_st {l : Loan} (h : numbersS l = true) : 1 ≤ l.st ∧ l.st ≤ 3 := by
  simp only [numbersS, Bool.and_eq_true, Bool.not_eq_true', Bool.or_eq_false_iff, decide_eq_false_iff_not] at h
  have := h.1.1.1.1.1
  omega
theorem check_eq {l : Loan} (h : Small l) : checkR l = checkS l := by
  unfold checkR checkS
  rw [ranged_eq, prin_last h, int_last h, left_eq h]
  cases hn : numbersS l with
  | false => rfl
  | true =>
    obtain ⟨h1, h2⟩ := ranged_st hn
    simp only [Bool.not_true, Bool.false_eq_true, if_false]
    have h3 : l.st = 1 ∨ l.st = 2 ∨ l.st = 3 := by omega
    split
    · rfl
    split
    · rfl
    cases ha : (((l.c.n : Int) == 0) && (sumP l.d != l.t.p)) with
    | true => simp
    | false =>
      rcases h3 with h3 | h3 | h3 <;> rw [h3] <;> cases leftS l <;> simp
theorem owedL_eq (l : Loan) (on : Int) : owedLR l on = owedL l on := by
  have hk : (dueS l.d on) = Sl.of ⟨0, 0, 0, 0⟩ (kept (fun d : Due => decide (d.day ≤ on)) l.d.at' l.d.n) := rfl
  have h1 : sumI (dueS l.d on) = intR l.d on := by
    rw [hk]
    exact sum_kept (fun d : Due => decide (d.day ≤ on)) l.d.at' (fun d => d.it) ⟨0, 0, 0, 0⟩ l.d.n
  have h2 : sumP (dueS l.d on) = prinR l.d on := by
    rw [hk]
    exact sum_kept (fun d : Due => decide (d.day ≤ on)) l.d.at' (fun d => d.pr) ⟨0, 0, 0, 0⟩ l.d.n
  simp only [owedLR, owedL, h1, h2]
theorem owed_eq (l : Loan) (on : Int) : owedR l on = owedS l on := by
  have hp : (fun p : Part => decide (p.a > 0)) = fun p => !decide (p.a ≤ 0) := by
    funext p
    by_cases h : p.a ≤ 0
    · simp [h]
    · simp [h]; omega
  simp only [owedR, owedS, owedL_eq, hp]
theorem partEq_refl (p : Part) : partEq p p = true := by simp [partEq]
theorem sameParts_refl (x : Sl Part) : samePartsR x x = true := by
  simp only [samePartsR, bne_self_eq_false, Bool.not_false, Bool.true_and]
  exact allTo_yes fun j _ => partEq_refl _
end Go.Proofs.Ytoocihhnlhehlaa
