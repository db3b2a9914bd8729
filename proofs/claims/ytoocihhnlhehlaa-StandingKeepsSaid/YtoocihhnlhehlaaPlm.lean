/- Standing orders: an order's next day, plain. -/
import Derived.Test.YtoocihhnlhehlaaSpg
namespace Go.Proofs.Ytoocihhnlhehlaa
open Go Go.Proofs.Ytoocihhnlhehlaa.Den
set_option linter.unusedVariables false
theorem civ_lt {a b y m d y' m' d' : Int} (h : IsCiv a y m d) (h' : IsCiv b y' m' d') (hm : 12 * y + m < 12 * y' + m') : a < b := by
  obtain ⟨a1, a2, a3, a4⟩ := h.box
  obtain ⟨b1, b2, b3, b4⟩ := h'.box
  have h1 := h.hy
  have h2 := h'.hy
  have h3 := h.hm
  have h4 := h'.hm
  rcases Int.lt_or_le y y' with hy | hy
  · have := yb_mono (y := y + 1) (y' := y') (by omega) (by omega) (by omega)
    omega
  · have e : y = y' := by omega
    subst e
    have := mb_mono' y (m := m + 1) (m' := m') (by omega) (by omega) (by omega)
    omega
theorem monthEnd_civ {a : Int} (h : dayB a = true) : IsCiv (monthEnd a) (civ a).1 (civ a).2.1 (mlen (civ a).1 (civ a).2.1) := by
  have hc := civ_is h
  have hl := mlen_pos (civ a).1 hc.hm
  refine ⟨hc.hy, hc.hm, ⟨by omega, by omega⟩, ?_⟩
  have := hc.he
  simp only [monthEnd, h, if_true]
  omega
theorem monthEnd_same {a b : Int} (ha : dayB a = true) (hb : dayB b = true) (h : monthEnd a = monthEnd b) : (civ a).1 = (civ b).1 ∧ (civ a).2.1 = (civ b).2.1 := by
  have h1 := monthEnd_civ ha
  rw [h] at h1
  obtain ⟨e1, e2, _⟩ := h1.uniq (monthEnd_civ hb)
  exact ⟨e1, e2⟩
theorem dayOf_ok {y m d : Int} (h : (dayOf y m d).2 = 0) : IsCiv (dayOf y m d).1 y m d := by
  unfold dayOf at h ⊢
  split at h
  · cases h
  rename_i h1
  rw [if_neg h1]
  exact ⟨by omega, by omega, by omega, rfl⟩
theorem addM_is {n k a : Int} (h : (addM n k a).2 = 0) : dayB n = true ∧ ∃ y m d, IsCiv (addM n k a).1 y m d ∧ 12 * y + m = 12 * (civ n).1 + (civ n).2.1 + k := by
  unfold addM at h ⊢
  split at h
  · cases h
  rename_i h1
  split at h
  · cases h
  rename_i h2
  rw [if_neg h1, if_neg h2]
  refine ⟨by cases hb : dayB n with | true => rfl | false => exact absurd (.inl hb) h1, _, _, _, dayOf_ok h, ?_⟩
  omega
theorem moved_same {we ho : Sl Int} {n : Int} (h : dayB n = true) : dayB (movedS we ho n) = true ∧ (civ (movedS we ho n)).1 = (civ n).1 ∧ (civ (movedS we ho n)).2.1 = (civ n).2.1 := by
  unfold movedS
  split
  · exact ⟨h, rfl, rfl⟩
  · rename_i h1
    simp only [Bool.or_eq_true, bne_iff_ne, ne_eq, not_or, Decidable.not_not] at h1
    have h2 := (adjS_ok h1.1).2.1
    exact ⟨h2, monthEnd_same h2 h h1.2⟩
/-- The next day lies so many months later. -/
structure Later (o : Order) (x : Int) : Prop where
  ev : o.ev ≠ 0
  un : x ≤ o.un
  day : dayB x = true
  was : dayB o.day = true
  civ : 12 * (civ x).1 + (civ x).2.1 = 12 * (civ o.day).1 + (civ o.day).2.1 + o.ev
theorem nextO_later {we ho : Sl Int} {o : Order} (h : (nextO we ho o).2 = 0) : checkO o = 0 ∧ Later o (nextO we ho o).1 := by
  unfold nextO at h ⊢
  split at h
  · cases h
  rename_i h1
  split at h
  · cases h
  rename_i h2
  split at h
  · cases h
  rename_i h3
  split at h
  · cases h
  rename_i h4
  rw [if_neg h1, if_neg h2, if_neg h3, if_neg h4]
  simp only [bne_iff_ne, ne_eq, Decidable.not_not, beq_iff_eq, decide_eq_true_eq, gt_iff_lt, Int.not_lt] at h1 h2 h3 h4
  obtain ⟨a1, y, m, d, a2, a3⟩ := addM_is h3
  have hd := a2.dayB
  obtain ⟨b1, b2, b3⟩ := moved_same (we := we) (ho := ho) hd
  have hc := civ_eq a2 hd
  refine ⟨h1, ⟨h2, h4, b1, a1, ?_⟩⟩
  show 12 * (civ (movedS we ho (addM o.day o.ev o.an).1)).1 + (civ (movedS we ho (addM o.day o.ev o.an).1)).2.1 = _
  rw [b2, b3, hc]
  exact a3
theorem Later.lt {o : Order} {x : Int} (h : Later o x) (he : 0 < o.ev) : o.day < x := civ_lt (civ_is h.was) (civ_is h.day) (by have := h.civ; omega)
/-- What Check accepts. -/
structure OrdOk (o : Order) : Prop where
  day : dayB o.day = true
  un : dayB o.un = true
  le : o.day ≤ o.un
  ev : o.ev = 0 ∨ o.ev = 1 ∨ o.ev = 3 ∨ o.ev = 6 ∨ o.ev = 12
  tr : 0 ≤ o.tr ∧ o.tr ≤ 3
  id : 1 ≤ o.id
theorem ordOk_of {o : Order} (h : checkO o = 0) : OrdOk o := by
  unfold checkO at h
  split at h
  · rename_i h1
    simp only [ordOk, Bool.and_eq_true, Bool.not_eq_true', Bool.or_eq_false_iff, decide_eq_false_iff_not, Bool.not_eq_false', everyB, Bool.or_eq_true, beq_iff_eq] at h1
    obtain ⟨⟨⟨h1, h2⟩, h3⟩, h4⟩ := h1
    refine ⟨h2.1.1, h2.1.2, by omega, ?_, by omega, by omega⟩
    rcases h3.1.1 with (((h | h) | h) | h) | h <;> simp [h]
  · cases h
/-- Its days and its tries may turn. -/
theorem checkO_turn {o : Order} {day tr : Int} (h : checkO o = 0) (hd : dayB day = true) (hl : day ≤ o.un) (ht : 0 ≤ tr ∧ tr ≤ 3) : checkO { o with day := day, tr := tr } = 0 := by
  have hk := ordOk_of h
  unfold checkO at h ⊢
  split at h
  · rename_i h1
    rw [if_pos]
    simp only [ordOk, Bool.and_eq_true, Bool.not_eq_true', Bool.or_eq_false_iff, decide_eq_false_iff_not, Bool.not_eq_false'] at h1 ⊢
    obtain ⟨⟨⟨h1, h2⟩, h3⟩, h4⟩ := h1
    exact ⟨⟨⟨h1, ⟨hd, h2.1.2⟩, by omega⟩, h3⟩, ⟨by omega, by omega⟩, h4.2⟩
  · cases h
/-- One attempt that fails. -/
theorem fails {we ho : Sl Int} {o : Order} {l : Sl Order} {t : Int} (hc : checkO o = 0) (hn : l.n = 1) (h0 : l.at' 0 = { o with tr := t }) (ht : 0 ≤ t ∧ t ≤ 3) :
    (doneS we ho l o.id o.day false).2 = 0 ∧ (doneS we ho l o.id o.day false).1.n ≤ 1 ∧
    ((doneS we ho l o.id o.day false).1.n = 1 → (t < 2 ∧ (doneS we ho l o.id o.day false).1.at' 0 = { o with tr := t + 1 }) ∨ (o.day < ((doneS we ho l o.id o.day false).1.at' 0).day ∧ ((doneS we ho l o.id o.day false).1.at' 0).tx = o.tx)) := by
  have hk := ordOk_of hc
  have hix : ixO l o.id = 0 := by
    unfold ixO
    rw [hn]
    have : ((l.at' 0).id == o.id) = true := by rw [h0]; exact beq_self_eq_true _
    simp only [idx, this, if_true]; rfl
  unfold doneS
  simp only [hix]
  rw [if_neg (by omega), show (0 : Int).toNat = 0 from rfl, h0, if_neg (by simp)]
  by_cases h2 : t < 2
  · rw [if_pos (by simp [h2])]
    refine ⟨rfl, by show l.n ≤ 1; omega, fun _ => .inl ⟨h2, ?_⟩⟩
    have e : w64 (t + 1) = t + 1 := wrap_id (by omega) (by omega)
    simp only [setO, if_true, e]
  · rw [if_neg (by simp [h2])]
    by_cases h3 : (nextO we ho { o with tr := t }).2 = 0
    · rw [if_neg (by simp [h3])]
      refine ⟨rfl, by show l.n ≤ 1; omega, fun _ => .inr ?_⟩
      obtain ⟨_, hl⟩ := nextO_later h3
      have he : 0 < o.ev := by
        have h4 : o.ev ≠ 0 := hl.ev
        rcases hk.ev with h | h | h | h | h <;> omega
      exact ⟨hl.lt he, rfl⟩
    · rw [if_pos (by simp [h3])]
      refine ⟨rfl, by show l.n - 1 ≤ 1; omega, fun h => ?_⟩
      have h : l.n - 1 = 1 := h
      omega
end Go.Proofs.Ytoocihhnlhehlaa
