/- Loans, the reference's side (3): equal lists. -/
import Derived.Test.YtoocihhnlhehlaaLne
namespace Go.Proofs.Ytoocihhnlhehlaa
open Go Go.Proofs.Ytoocihhnlhehlaa.Den
set_option linter.unusedSimpArgs false
set_option linter.unusedVariables false
set_option maxRecDepth 100000
theorem len_eq {a b : Nat} (h : ((a : Int) != (b : Int)) = false) : a = b := by
  have : (a : Int) = b := by simpa using h
  omega
theorem sameParts_ok (a_n : Nat) (a_k a_a : Nat → Int) (b_n : Nat) (b_k b_a : Nat → Int) (h : a_n ≤ 9223372036854775807) : Con Try.prog 16 [.c (.sl 2 a_n (fun j => [.int .i64 (a_k j), .int .i64 (a_a j)])), .c (.sl 2 b_n (fun j => [.int .i64 (b_k j), .int .i64 (b_a j)]))] db (samePartsR ⟨a_n, fun j => ⟨a_k j, a_a j⟩⟩ ⟨b_n, fun j => ⟨b_k j, b_a j⟩⟩) := by
  refine Con_of mixed tabOk Try.func16 (by decide) rfl rfl rfl (by decide) ?_; intro A R v' hA hR hv
  cbv
  repeat' (first | (refine And.intro (fun _ => ?_) (fun _ => ?_) <;> cbv) | (refine And.intro ?_ ?_; rotate_left; cbv) | (intro (_ : Bool) _; cbv))
  · subst hA hR hv
    dsimp only [Ar.std] at *
    exact Le.vb (by simp_all [samePartsR])
  refine awp_fors (fun k : Nat => k ≤ a_n ∧ ∀ j, j < k → partEq (⟨a_k j, a_a j⟩ : Part) (⟨b_k j, b_a j⟩ : Part) = true) (fun k => a_n - k) (fun k => [(5, di (A.int k))]) 0 ⟨Nat.zero_le _, fun j h => absurd h (Nat.not_lt_zero j)⟩ (by cbv) ?_ ?_
  · subst hA; exact sim_eq rfl
  · rintro k ⟨hk, hk2⟩
    cbv
    repeat' (first | (refine And.intro (fun _ => ?_) (fun _ => ?_) <;> cbv) | (refine And.intro ?_ ?_; rotate_left; cbv) | (intro (_ : Bool) _; cbv))
    all_goals subst hA hR hv
    all_goals dsimp only [Ar.std] at *
    all_goals have hab : a_n = b_n := len_eq (by assumption)
    all_goals try simp only [Int.toNat_natCast, Bool.and_true, Bool.not_eq_eq_eq_not, Bool.not_true, Bool.not_false] at *
    all_goals rcases Nat.lt_or_ge k a_n with hlt | hge
    all_goals first
      | (exfalso; simp at *; omega)
      | exact ⟨by omega, by omega⟩
      | (have e : allTo (fun j => partEq (⟨a_k j, a_a j⟩ : Part) (⟨b_k j, b_a j⟩ : Part)) a_n = false := allTo_not hlt (by simp only [partEq, Bool.and_assoc]; assumption)
         exact Le.vb (by simp [samePartsR, e]))
      | (have e1 : IntKind.i64.wrap ((k : Int) + 1) = (k : Int) + 1 := wrap_id (by omega) (by omega)
         refine loop_nx (k + 1) ⟨by omega, fun j hj => ?_⟩ (by omega) ?_
         · rcases Nat.lt_or_ge j k with h | h
           · exact hk2 j h
           · have : j = k := by omega
             subst this; simp only [partEq, Bool.and_assoc]; assumption
         · simp [forget, keepFr, dropMem, updFr, e1])
      | (have e : allTo (fun j => partEq (⟨a_k j, a_a j⟩ : Part) (⟨b_k j, b_a j⟩ : Part)) a_n = true := allTo_yes fun j hj => hk2 j (Nat.lt_of_lt_of_le hj hge)
         exact Le.vb (by simp_all [samePartsR]))
theorem sameDues_ok (a_n : Nat) (a_no a_day a_pr a_it : Nat → Int) (b_n : Nat) (b_no b_day b_pr b_it : Nat → Int) (h : a_n ≤ 9223372036854775807) : Con Try.prog 24 [.c (.sl 4 a_n (fun j => [.int .i64 (a_no j), .int .i64 (a_day j), .int .i64 (a_pr j), .int .i64 (a_it j)])), .c (.sl 4 b_n (fun j => [.int .i64 (b_no j), .int .i64 (b_day j), .int .i64 (b_pr j), .int .i64 (b_it j)]))] db (sameDuesR ⟨a_n, fun j => ⟨a_no j, a_day j, a_pr j, a_it j⟩⟩ ⟨b_n, fun j => ⟨b_no j, b_day j, b_pr j, b_it j⟩⟩) := by
  refine Con_of mixed tabOk Try.func24 (by decide) rfl rfl rfl (by decide) ?_; intro A R v' hA hR hv
  cbv
  repeat' (first | (refine And.intro (fun _ => ?_) (fun _ => ?_) <;> cbv) | (refine And.intro ?_ ?_; rotate_left; cbv) | (intro (_ : Bool) _; cbv))
  · subst hA hR hv
    dsimp only [Ar.std] at *
    exact Le.vb (by simp_all [sameDuesR])
  refine awp_fors (fun k : Nat => k ≤ a_n ∧ ∀ j, j < k → dueEq (⟨a_no j, a_day j, a_pr j, a_it j⟩ : Due) (⟨b_no j, b_day j, b_pr j, b_it j⟩ : Due) = true) (fun k => a_n - k) (fun k => [(5, di (A.int k))]) 0 ⟨Nat.zero_le _, fun j h => absurd h (Nat.not_lt_zero j)⟩ (by cbv) ?_ ?_
  · subst hA; exact sim_eq rfl
  · rintro k ⟨hk, hk2⟩
    cbv
    repeat' (first | (refine And.intro (fun _ => ?_) (fun _ => ?_) <;> cbv) | (refine And.intro ?_ ?_; rotate_left; cbv) | (intro (_ : Bool) _; cbv))
    all_goals subst hA hR hv
    all_goals dsimp only [Ar.std] at *
    all_goals have hab : a_n = b_n := len_eq (by assumption)
    all_goals try simp only [Int.toNat_natCast, Bool.and_true, Bool.not_eq_eq_eq_not, Bool.not_true, Bool.not_false] at *
    all_goals rcases Nat.lt_or_ge k a_n with hlt | hge
    all_goals first
      | (exfalso; simp at *; omega)
      | exact ⟨by omega, by omega⟩
      | (have e : allTo (fun j => dueEq (⟨a_no j, a_day j, a_pr j, a_it j⟩ : Due) (⟨b_no j, b_day j, b_pr j, b_it j⟩ : Due)) a_n = false := allTo_not hlt (by simp only [dueEq, Bool.and_assoc]; assumption)
         exact Le.vb (by simp [sameDuesR, e]))
      | (have e1 : IntKind.i64.wrap ((k : Int) + 1) = (k : Int) + 1 := wrap_id (by omega) (by omega)
         refine loop_nx (k + 1) ⟨by omega, fun j hj => ?_⟩ (by omega) ?_
         · rcases Nat.lt_or_ge j k with h | h
           · exact hk2 j h
           · have : j = k := by omega
             subst this; simp only [dueEq, Bool.and_assoc]; assumption
         · simp [forget, keepFr, dropMem, updFr, e1])
      | (have e : allTo (fun j => dueEq (⟨a_no j, a_day j, a_pr j, a_it j⟩ : Due) (⟨b_no j, b_day j, b_pr j, b_it j⟩ : Due)) a_n = true := allTo_yes fun j hj => hk2 j (Nat.lt_of_lt_of_le hj hge)
         exact Le.vb (by simp_all [sameDuesR]))
theorem sameChanges_ok (a_n : Nat) (a_day a_am a_old_me a_old_p a_old_ppm a_old_st a_old_ev a_old_co a_old_ba a_old_mo a_old_pp a_old_fp : Nat → Int) (a_old_cal a_old_cur : Nat → ByteArray) (b_n : Nat) (b_day b_am b_old_me b_old_p b_old_ppm b_old_st b_old_ev b_old_co b_old_ba b_old_mo b_old_pp b_old_fp : Nat → Int) (b_old_cal b_old_cur : Nat → ByteArray) (h : a_n ≤ 9223372036854775807) : Con Try.prog 60 [.c (.sl 14 a_n (fun j => [.int .i64 (a_day j), .int .i64 (a_am j), .int .i64 (a_old_me j), .int .i64 (a_old_p j), .int .i64 (a_old_ppm j), .int .i64 (a_old_st j), .int .i64 (a_old_ev j), .int .i64 (a_old_co j), .int .i64 (a_old_ba j), .int .i64 (a_old_mo j), .int .i64 (a_old_pp j), .int .i64 (a_old_fp j), .string (a_old_cal j), .string (a_old_cur j)])), .c (.sl 14 b_n (fun j => [.int .i64 (b_day j), .int .i64 (b_am j), .int .i64 (b_old_me j), .int .i64 (b_old_p j), .int .i64 (b_old_ppm j), .int .i64 (b_old_st j), .int .i64 (b_old_ev j), .int .i64 (b_old_co j), .int .i64 (b_old_ba j), .int .i64 (b_old_mo j), .int .i64 (b_old_pp j), .int .i64 (b_old_fp j), .string (b_old_cal j), .string (b_old_cur j)]))] db (sameChangesR ⟨a_n, fun j => ⟨a_day j, a_am j, ⟨a_old_me j, a_old_p j, a_old_ppm j, a_old_st j, a_old_ev j, a_old_co j, a_old_ba j, a_old_mo j, a_old_pp j, a_old_fp j, a_old_cal j, a_old_cur j⟩⟩⟩ ⟨b_n, fun j => ⟨b_day j, b_am j, ⟨b_old_me j, b_old_p j, b_old_ppm j, b_old_st j, b_old_ev j, b_old_co j, b_old_ba j, b_old_mo j, b_old_pp j, b_old_fp j, b_old_cal j, b_old_cur j⟩⟩⟩) := by
  refine Con_of mixed tabOk Try.func60 (by decide) rfl rfl rfl (by decide) ?_; intro A R v' hA hR hv
  cbv
  repeat' (first | (refine And.intro (fun _ => ?_) (fun _ => ?_) <;> cbv) | (refine And.intro ?_ ?_; rotate_left; cbv) | (intro (_ : Bool) _; cbv))
  · subst hA hR hv
    dsimp only [Ar.std] at *
    exact Le.vb (by simp_all [sameChangesR])
  refine awp_fors (fun k : Nat => k ≤ a_n ∧ ∀ j, j < k → changeEq (⟨a_day j, a_am j, ⟨a_old_me j, a_old_p j, a_old_ppm j, a_old_st j, a_old_ev j, a_old_co j, a_old_ba j, a_old_mo j, a_old_pp j, a_old_fp j, a_old_cal j, a_old_cur j⟩⟩ : Change) (⟨b_day j, b_am j, ⟨b_old_me j, b_old_p j, b_old_ppm j, b_old_st j, b_old_ev j, b_old_co j, b_old_ba j, b_old_mo j, b_old_pp j, b_old_fp j, b_old_cal j, b_old_cur j⟩⟩ : Change) = true) (fun k => a_n - k) (fun k => [(5, di (A.int k))]) 0 ⟨Nat.zero_le _, fun j h => absurd h (Nat.not_lt_zero j)⟩ (by cbv) ?_ ?_
  · subst hA; exact sim_eq rfl
  · rintro k ⟨hk, hk2⟩
    cbv
    repeat' (first | (refine And.intro (fun _ => ?_) (fun _ => ?_) <;> cbv) | (refine And.intro ?_ ?_; rotate_left; cbv) | (intro (_ : Bool) _; cbv))
    all_goals subst hA hR hv
    all_goals dsimp only [Ar.std] at *
    all_goals have hab : a_n = b_n := len_eq (by assumption)
    all_goals try simp only [Int.toNat_natCast, Bool.and_true, Bool.not_eq_eq_eq_not, Bool.not_true, Bool.not_false] at *
    all_goals rcases Nat.lt_or_ge k a_n with hlt | hge
    all_goals first
      | (exfalso; simp at *; omega)
      | exact ⟨by omega, by omega⟩
      | (have e : allTo (fun j => changeEq (⟨a_day j, a_am j, ⟨a_old_me j, a_old_p j, a_old_ppm j, a_old_st j, a_old_ev j, a_old_co j, a_old_ba j, a_old_mo j, a_old_pp j, a_old_fp j, a_old_cal j, a_old_cur j⟩⟩ : Change) (⟨b_day j, b_am j, ⟨b_old_me j, b_old_p j, b_old_ppm j, b_old_st j, b_old_ev j, b_old_co j, b_old_ba j, b_old_mo j, b_old_pp j, b_old_fp j, b_old_cal j, b_old_cur j⟩⟩ : Change)) a_n = false := allTo_not hlt (by simp only [changeEq, Bool.and_assoc]; assumption)
         exact Le.vb (by simp [sameChangesR, e]))
      | (have e1 : IntKind.i64.wrap ((k : Int) + 1) = (k : Int) + 1 := wrap_id (by omega) (by omega)
         refine loop_nx (k + 1) ⟨by omega, fun j hj => ?_⟩ (by omega) ?_
         · rcases Nat.lt_or_ge j k with h | h
           · exact hk2 j h
           · have : j = k := by omega
             subst this; simp only [changeEq, Bool.and_assoc]; assumption
         · simp [forget, keepFr, dropMem, updFr, e1])
      | (have e : allTo (fun j => changeEq (⟨a_day j, a_am j, ⟨a_old_me j, a_old_p j, a_old_ppm j, a_old_st j, a_old_ev j, a_old_co j, a_old_ba j, a_old_mo j, a_old_pp j, a_old_fp j, a_old_cal j, a_old_cur j⟩⟩ : Change) (⟨b_day j, b_am j, ⟨b_old_me j, b_old_p j, b_old_ppm j, b_old_st j, b_old_ev j, b_old_co j, b_old_ba j, b_old_mo j, b_old_pp j, b_old_fp j, b_old_cal j, b_old_cur j⟩⟩ : Change)) a_n = true := allTo_yes fun j hj => hk2 j (Nat.lt_of_lt_of_le hj hge)
         exact Le.vb (by simp_all [sameChangesR]))
end Go.Proofs.Ytoocihhnlhehlaa
