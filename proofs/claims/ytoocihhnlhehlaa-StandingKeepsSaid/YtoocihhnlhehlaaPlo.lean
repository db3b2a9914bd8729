/- Standing orders: lists remain in order, plain. -/
import Derived.Test.YtoocihhnlhehlaaPlm
namespace Go.Proofs.Ytoocihhnlhehlaa
open Go Go.Proofs.Ytoocihhnlhehlaa.Den
set_option linter.unusedVariables false
def okAt (l : Sl Order) (i : Nat) : Bool := (checkO (l.at' i) == 0) && !(decide (0 < (i : Int)) && decide ((l.at' i).id ≤ (l.at' (i - 1)).id))
def rightS (l : Sl Order) : Bool := allTo (okAt l) l.n && decide ((l.n : Int) ≤ 64)
def anyTo (p : Nat → Bool) : Nat → Bool
  | 0 => false
  | k + 1 => anyTo p k || p k
theorem anyTo_yes {p : Nat → Bool} {k : Nat} (h : p k = true) : ∀ n, k < n → anyTo p n = true
  | 0, hn => absurd hn (Nat.not_lt_zero _)
  | n + 1, hn => by
    by_cases e : k = n
    · subst e; simp [anyTo, h]
    · simp [anyTo, anyTo_yes h n (by omega)]
def ordEq (a b : Order) : Bool := (a.id == b.id) && ((a.fr == b.fr) && ((a.to == b.to) && ((a.am == b.am) && ((a.day == b.day) && ((a.ev == b.ev) && ((a.an == b.an) && ((a.un == b.un) && ((a.tr == b.tr) && ((a.tx.toList == b.tx.toList) && true)))))))))
theorem ordEq_refl (a : Order) : ordEq a a = true := by simp [ordEq]
def othersAt (l m : Sl Order) (id : Int) (i : Nat) : Bool := ((l.at' i).id == id) || anyTo (fun k => ordEq (m.at' k) (l.at' i)) m.n
def othersS (l m : Sl Order) (id : Int) : Bool := allTo (othersAt l m id) l.n
structure RightP (l : Sl Order) : Prop where
  ok : ∀ i, i < l.n → checkO (l.at' i) = 0
  asc : ∀ i, 0 < i → i < l.n → (l.at' (i - 1)).id < (l.at' i).id
  n : l.n ≤ 64
theorem right_to {l : Sl Order} (h : RightP l) : rightS l = true := by
  unfold rightS
  rw [allTo_yes fun i hi => ?_, decide_eq_true (by have := h.n; omega)]; rfl
  unfold okAt
  rw [h.ok i hi]
  rcases Nat.eq_zero_or_pos i with h0 | h0
  · subst h0; rfl
  · have := h.asc i h0 hi
    rw [decide_eq_false (show ¬ (l.at' i).id ≤ (l.at' (i - 1)).id by omega)]
    simp
theorem right_of {l : Sl Order} (h : rightS l = true) : RightP l := by
  unfold rightS at h
  simp only [Bool.and_eq_true, decide_eq_true_eq] at h
  have h1 := (allTo_iff _ _).1 h.1
  refine ⟨fun i hi => ?_, fun i h0 hi => ?_, by omega⟩
  · have := h1 i hi
    simp only [okAt, Bool.and_eq_true, beq_iff_eq] at this
    exact this.1
  · have := h1 i hi
    simp only [okAt, Bool.and_eq_true, Bool.not_eq_true', Bool.and_eq_false_iff, decide_eq_false_iff_not] at this
    rcases this.2 with h2 | h2
    · omega
    · omega
theorem others_to {l m : Sl Order} {id : Int} (h : ∀ i, i < l.n → (l.at' i).id = id ∨ ∃ k, k < m.n ∧ m.at' k = l.at' i) : othersS l m id = true := by
  refine allTo_yes fun i hi => ?_
  rcases h i hi with h | ⟨k, hk, h⟩
  · simp [othersAt, h]
  · unfold othersAt
    rw [anyTo_yes (k := k) (by rw [h]; exact ordEq_refl _) _ hk, Bool.or_true]
/-- What a call leaves. -/
structure Kept (l l' : Sl Order) (id : Int) : Prop where
  r : RightP l'
  a : othersS l l' id = true
  b : othersS l' l id = true
  tx : ∀ j, j < l'.n → checkO (l'.at' j) = 0
theorem kept_of {l l' : Sl Order} {id : Int} (r : RightP l') (a : ∀ i, i < l.n → (l.at' i).id = id ∨ ∃ k, k < l'.n ∧ l'.at' k = l.at' i) (b : ∀ i, i < l'.n → (l'.at' i).id = id ∨ ∃ k, k < l.n ∧ l.at' k = l'.at' i) : Kept l l' id :=
  ⟨r, others_to a, others_to b, r.ok⟩
theorem kept_self {l : Sl Order} (h : RightP l) (id : Int) : Kept l l id := kept_of h (fun i hi => .inr ⟨i, hi, rfl⟩) (fun i hi => .inr ⟨i, hi, rfl⟩)
theorem kept_add {l : Sl Order} {o : Order} (h : RightP l) (he : (addS l o).2 = 0) : Kept l (addS l o).1 o.id := by
  unfold addS at he ⊢
  split at he
  · cases he
  rename_i h1
  split at he
  · cases he
  rename_i h2
  split at he
  · rename_i h3
    simp only [bne_iff_ne, ne_eq] at h3
    exact absurd he h3
  rename_i h3
  rw [if_neg h1, if_neg h2, if_neg h3]
  simp only [bne_iff_ne, ne_eq, Decidable.not_not, Bool.and_eq_true, decide_eq_true_eq, not_and] at h1 h2 h3
  have lo : ∀ j, j < l.n → (pushO l o).at' j = l.at' j := fun j hj => by simp [pushO, hj]
  have hi' : (pushO l o).at' l.n = o := by simp [pushO]
  refine kept_of ⟨fun i hi => ?_, fun i h0 hi => ?_, ?_⟩ (fun i hi => .inr ⟨i, by show i < l.n + 1; omega, lo i hi⟩) (fun i hi => ?_)
  · have hi : i < l.n + 1 := hi
    rcases Nat.lt_or_ge i l.n with h4 | h4
    · show checkO ((pushO l o).at' i) = 0
      rw [lo i h4]; exact h.ok i h4
    · have : i = l.n := by omega
      subst this
      show checkO ((pushO l o).at' _) = 0
      rw [hi']; exact h3
  · have hi : i < l.n + 1 := hi
    show ((pushO l o).at' (i - 1)).id < ((pushO l o).at' i).id
    rcases Nat.lt_or_ge i l.n with h4 | h4
    · rw [lo i h4, lo (i - 1) (by omega)]; exact h.asc i h0 h4
    · have : i = l.n := by omega
      subst this
      rw [hi', lo (l.n - 1) (by omega)]
      have := h1 (by omega)
      omega
  · show l.n + 1 ≤ 64
    omega
  · have hi : i < l.n + 1 := hi
    rcases Nat.lt_or_ge i l.n with h4 | h4
    · exact .inr ⟨i, h4, (lo i h4).symm⟩
    · have : i = l.n := by omega
      subst this
      exact .inl (by show ((pushO l o).at' _).id = _; rw [hi'])
theorem asc_lt {l : Sl Order} (h : RightP l) {i : Nat} : ∀ k : Nat, i + k + 1 < l.n → (l.at' i).id < (l.at' (i + k + 1)).id
  | 0, hk => h.asc (i + 1) (by omega) hk
  | k + 1, hk => by
    have h1 := asc_lt h (i := i) k (by omega)
    have h2 := h.asc (i + (k + 1) + 1) (by omega) hk
    rw [show i + (k + 1) + 1 - 1 = i + k + 1 by omega] at h2
    omega
theorem kept_del {l : Sl Order} {i : Nat} (h : RightP l) (hi : i < l.n) : Kept l (delO l i) (l.at' i).id := by
  have e : ∀ j, (delO l i).at' j = if j < i then l.at' j else l.at' (j + 1) := fun j => rfl
  have n : (delO l i).n = l.n - 1 := rfl
  refine kept_of ⟨fun j hj => ?_, fun j h0 hj => ?_, ?_⟩ (fun j hj => ?_) (fun j hj => ?_)
  · rw [e]; split
    · exact h.ok _ (by omega)
    · exact h.ok _ (by omega)
  · rw [e, e]
    by_cases h1 : j < i
    · rw [if_pos h1, if_pos (by omega)]; exact h.asc j h0 (by omega)
    · rw [if_neg h1]
      by_cases h2 : j - 1 < i
      · rw [if_pos h2]
        have := asc_lt h (i := j - 1) 1 (by omega)
        rwa [show j - 1 + 1 + 1 = j + 1 by omega] at this
      · rw [if_neg h2]
        have := h.asc (j + 1) (by omega) (by omega)
        rwa [show j + 1 - 1 = j - 1 + 1 by omega] at this
  · have := h.n; omega
  · rcases Nat.lt_trichotomy j i with h1 | h1 | h1
    · exact .inr ⟨j, by omega, by rw [e, if_pos h1]⟩
    · subst h1; exact .inl rfl
    · exact .inr ⟨j - 1, by omega, by rw [e, if_neg (by omega), show j - 1 + 1 = j by omega]⟩
  · by_cases h1 : j < i
    · exact .inr ⟨j, by omega, by rw [e, if_pos h1]⟩
    · exact .inr ⟨j + 1, by omega, by rw [e, if_neg h1]⟩
theorem kept_set {l : Sl Order} {i : Nat} {o : Order} (h : RightP l) (hi : i < l.n) (ho : checkO o = 0) (hid : o.id = (l.at' i).id) : Kept l (setO l i o) (l.at' i).id := by
  have e : ∀ j, (setO l i o).at' j = if j = i then o else l.at' j := fun j => rfl
  have n : (setO l i o).n = l.n := rfl
  have eid : ∀ j, ((setO l i o).at' j).id = (l.at' j).id := fun j => by
    rw [e]; split
    · rename_i h1; rw [h1]; exact hid
    · rfl
  refine kept_of ⟨fun j hj => ?_, fun j h0 hj => ?_, h.n⟩ (fun j hj => ?_) (fun j hj => ?_)
  · rw [e]; split
    · exact ho
    · exact h.ok _ hj
  · rw [eid, eid]; exact h.asc j h0 hj
  · by_cases h1 : j = i
    · subst h1; exact .inl rfl
    · exact .inr ⟨j, hj, by rw [e, if_neg h1]⟩
  · by_cases h1 : j = i
    · subst h1; exact .inl (eid _)
    · exact .inr ⟨j, hj, by rw [e, if_neg h1]⟩
theorem ix_is {l : Sl Order} {id : Int} (h : ¬ ixO l id < 0) : (ixO l id).toNat < l.n ∧ (l.at' (ixO l id).toNat).id = id := by
  rcases idx_spec (fun j => (l.at' j).id == id) l.n 0 with ⟨h1, _⟩ | ⟨i, _, h1, h2, h3, _⟩
  · exact absurd (show ixO l id < 0 by show idx _ _ _ < 0; omega) h
  · have e : ixO l id = (i : Int) := h2
    rw [e, Int.toNat_natCast]
    exact ⟨by omega, by simpa using h3⟩
theorem kept_cancel {l : Sl Order} {id : Int} (h : RightP l) (he : (cancelS l id).2 = 0) : Kept l (cancelS l id).1 id := by
  unfold cancelS at he ⊢
  split at he
  · cases he
  rename_i h1
  rw [if_neg h1]
  obtain ⟨h2, h3⟩ := ix_is h1
  have := kept_del h h2
  rwa [h3] at this
theorem kept_done {we ho : Sl Int} {l : Sl Order} {id day : Int} {ok : Bool} (h : RightP l) (he : (doneS we ho l id day ok).2 = 0) : Kept l (doneS we ho l id day ok).1 id := by
  unfold doneS at he ⊢
  split at he
  · cases he
  rename_i h1
  split at he
  · cases he
  rename_i h2
  rw [if_neg h1, if_neg h2]
  obtain ⟨g1, g2⟩ := ix_is h1
  generalize (ixO l id).toNat = i at *
  have hc := h.ok i g1
  have hk := ordOk_of hc
  by_cases h3 : (!ok && decide ((l.at' i).tr < 2)) = true
  · rw [if_pos h3]
    have h3 : (l.at' i).tr < 2 := by simp at h3; exact h3.2
    have e1 : w64 ((l.at' i).tr + 1) = (l.at' i).tr + 1 := wrap_id (by have := hk.tr; omega) (by omega)
    have := kept_set (o := { l.at' i with tr := w64 ((l.at' i).tr + 1) }) h g1 (by
      rw [e1]
      exact checkO_turn (day := (l.at' i).day) hc hk.day hk.le ⟨by have := hk.tr; omega, by omega⟩) rfl
    rwa [g2] at this
  · rw [if_neg h3]
    by_cases h4 : ((nextO we ho (l.at' i)).2 != 0) = true
    · rw [if_pos h4]
      have := kept_del h g1
      rwa [g2] at this
    · rw [if_neg h4]
      have h4 : (nextO we ho (l.at' i)).2 = 0 := by simpa using h4
      obtain ⟨_, hl⟩ := nextO_later h4
      have := kept_set (o := { l.at' i with tr := 0, day := (nextO we ho (l.at' i)).1 }) h g1 (checkO_turn (tr := 0) hc hl.day hl.un ⟨by omega, by omega⟩) rfl
      rwa [g2] at this
end Go.Proofs.Ytoocihhnlhehlaa
