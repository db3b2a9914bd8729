/- Loans, the program's side (1): small functions, searches, copies. -/
import Derived.Test.YtoocihhnlhehlaaSpa
import Derived.Test.YtoocihhnlhehlaaTab
import Derived.Test.YtoocihhnlhehlaaDenk
namespace Go.Proofs.Ytoocihhnlhehlaa
open Go Go.Proofs.Ytoocihhnlhehlaa.Den
set_option linter.unusedSimpArgs false
set_option linter.unusedVariables false
set_option maxRecDepth 100000
theorem day_ok (n : Int) : Con Try.prog 53 [di n] db (dayB n) := by
  refine Con_of mixed tabOk Try.func53 (by decide) rfl rfl rfl (by decide) ?_; intro A R v' hA hR hv
  cbv
  repeat' (first | (refine And.intro (fun _ => ?_) (fun _ => ?_) <;> cbv) | (refine And.intro ?_ ?_; rotate_left; cbv) | (intro (_ : Bool) _; cbv))
  all_goals subst hA hR hv
  all_goals dsimp only [Ar.std] at *
  all_goals first | exact Le.vb (by simp_all [dayB, amB, rateB] <;> omega) | exact Le.bb (by simp_all [dayB, amB, rateB] <;> omega)
theorem amount_ok (n : Int) : Con Try.prog 78 [di n] db (amB n) := by
  refine Con_of mixed tabOk Try.func78 (by decide) rfl rfl rfl (by decide) ?_; intro A R v' hA hR hv
  cbv
  repeat' (first | (refine And.intro (fun _ => ?_) (fun _ => ?_) <;> cbv) | (refine And.intro ?_ ?_; rotate_left; cbv) | (intro (_ : Bool) _; cbv))
  all_goals subst hA hR hv
  all_goals dsimp only [Ar.std] at *
  all_goals first | exact Le.vb (by simp_all [dayB, amB, rateB] <;> omega) | exact Le.bb (by simp_all [dayB, amB, rateB] <;> omega)
theorem rate_ok (n : Int) : Con Try.prog 77 [di n] db (rateB n) := by
  refine Con_of mixed tabOk Try.func77 (by decide) rfl rfl rfl (by decide) ?_; intro A R v' hA hR hv
  cbv
  repeat' (first | (refine And.intro (fun _ => ?_) (fun _ => ?_) <;> cbv) | (refine And.intro ?_ ?_; rotate_left; cbv) | (intro (_ : Bool) _; cbv))
  all_goals subst hA hR hv
  all_goals dsimp only [Ar.std] at *
  all_goals first | exact Le.vb (by simp_all [dayB, amB, rateB] <;> omega) | exact Le.bb (by simp_all [dayB, amB, rateB] <;> omega)
theorem sums_ok (l_n : Nat) (l_no l_day l_pr l_it : Nat → Int) (h : l_n ≤ 9223372036854775807) : Con Try.prog 42 [.c (.sl 4 l_n (fun j => [.int .i64 (l_no j), .int .i64 (l_day j), .int .i64 (l_pr j), .int .i64 (l_it j)]))] (fun x : Int × Int => .tup [di x.1, di x.2]) (sumTo l_pr l_n, sumTo l_it l_n) := by
  refine Con_of mixed tabOk Try.func42 (by decide) rfl rfl rfl (by decide) ?_; intro A R v' hA hR hv
  generalize hS : sumTo = S
  cbv
  refine awp_for (fun k : Nat => k ≤ l_n) (fun k => l_n - k) (fun k => [(4, di (S l_pr k)), (5, di (S l_it k)), (10, di (A.int k))]) (fun _ => []) 0 (Nat.zero_le _) (by cbv) ?_ ?_
  · subst hA hS; exact sim_eq rfl
  · intro k hk
    cbv
    repeat' (first | (refine And.intro (fun _ => ?_) (fun _ => ?_) <;> cbv) | (refine And.intro ?_ ?_; rotate_left; cbv) | (intro (_ : Bool) _; cbv))
    all_goals subst hA hS hR hv
    all_goals dsimp only [Ar.std] at *
    · have hlt : k < l_n := by simp at *; omega
      refine loop_nx (k + 1) (by omega) (by omega) ?_
      simp [forget, keepFr, dropMem, updFr, sumTo]
      exact wrap_id (by omega) (by omega)
    · simp at *; omega
    · have : k = l_n := by simp at *; omega
      subst this
      exact .of_eq rfl
theorem due1_ok (d_no d_day d_pr d_it : Int) (on : Int) : Con Try.prog 83 [.agg [.v (.int .i64 (d_no)), .v (.int .i64 (d_day)), .v (.int .i64 (d_pr)), .v (.int .i64 (d_it))], .c (.rp [ci on] 0)] db (decide (on < d_day)) := by
  refine Con_of mixed tabOk Try.func83 (by decide) rfl rfl rfl (by decide) ?_; intro A R v' hA hR hv
  cbv
  repeat' (first | (refine And.intro (fun _ => ?_) (fun _ => ?_) <;> cbv) | (refine And.intro ?_ ?_; rotate_left; cbv) | (intro (_ : Bool) _; cbv))
  all_goals subst hA hR hv
  all_goals dsimp only [Ar.std] at *
  all_goals first | exact Le.vb (by simp_all <;> omega) | exact Le.bb (by simp_all <;> omega)
theorem ixDue_ok (g : Nat) (caps : List C) (hc : caps = [] ∨ ∃ on, caps = [.rp [ci on] 0]) (p : Int → Int → Int → Int → Bool) (hp : ∀ (d_no d_day d_pr d_it : Int), Con Try.prog g (.agg [.v (.int .i64 (d_no)), .v (.int .i64 (d_day)), .v (.int .i64 (d_pr)), .v (.int .i64 (d_it))] :: caps.map D.c) db (p d_no d_day d_pr d_it)) (l_n : Nat) (l_no l_day l_pr l_it : Nat → Int) (h : l_n ≤ 9223372036854775807) :
    Con Try.prog 95 [.c (.sl 4 l_n (fun j => [.int .i64 (l_no j), .int .i64 (l_day j), .int .i64 (l_pr j), .int .i64 (l_it j)])), .c (.fn g caps)] di (idx (fun j => p (l_no j) (l_day j) (l_pr j) (l_it j)) l_n 0) := by
  have key : ∀ (q : Nat → Bool), q = (fun j => p (l_no j) (l_day j) (l_pr j) (l_it j)) → Con Try.prog 95 [.c (.sl 4 l_n (fun j => [.int .i64 (l_no j), .int .i64 (l_day j), .int .i64 (l_pr j), .int .i64 (l_it j)])), .c (.fn g caps)] di (idx q l_n 0) := by
    intro q hq
    rcases hc with rfl | ⟨on, rfl⟩
    all_goals
      refine Con_of mixed tabOk Try.func95 (by decide) rfl rfl rfl (by decide) ?_; intro A R v' hA hR hv
      cbv
      refine awp_for (fun k : Nat => k ≤ l_n ∧ ∀ j, j < k → q j = false) (fun k => l_n - k) (fun k => [(8, di (A.int k))]) (fun _ => []) 0 ⟨Nat.zero_le _, fun j h => absurd h (Nat.not_lt_zero j)⟩ (by cbv) ?_ ?_
      · subst hA; exact sim_eq rfl
      · rintro k ⟨hk, hk2⟩
        cbv
        repeat' (first | (refine And.intro (fun _ => ?_) (fun _ => ?_) <;> cbv) | (refine call_c hR (hp _ _ _ _) ?_; intro _ _; cbv) | (refine And.intro ?_ ?_; rotate_left; cbv) | (intro (_ : Bool) _; cbv))
        all_goals subst hA hR hv
        all_goals dsimp only [Ar.std] at *
        · exact Le.vi (idx_at q l_n k (by simp_all) (by simp_all) hk2)
        · have e : q k = false := by simp_all
          have hlt : k < l_n := by simp_all
          refine loop_nx (k + 1) ⟨by omega, fun j hj => ?_⟩ (by omega) ?_
          · rcases Nat.lt_or_ge j k with h | h
            · exact hk2 j h
            · have : j = k := by omega
              subst this; exact e
          · simp [forget, keepFr, dropMem, updFr]
            exact wrap_id (by omega) (by omega)
        · exact ⟨by omega, by simp_all⟩
        · have : k = l_n := by simp_all; omega
          subst this
          exact Le.vi (idx_no q k hk2)
  exact key _ rfl
theorem ixPart_ok (g : Nat) (caps : List C) (hc : caps = [] ∨ ∃ on, caps = [.rp [ci on] 0]) (p : Int → Int → Bool) (hp : ∀ (d_k d_a : Int), Con Try.prog g (.agg [.v (.int .i64 (d_k)), .v (.int .i64 (d_a))] :: caps.map D.c) db (p d_k d_a)) (l_n : Nat) (l_k l_a : Nat → Int) (h : l_n ≤ 9223372036854775807) :
    Con Try.prog 84 [.c (.sl 2 l_n (fun j => [.int .i64 (l_k j), .int .i64 (l_a j)])), .c (.fn g caps)] di (idx (fun j => p (l_k j) (l_a j)) l_n 0) := by
  have key : ∀ (q : Nat → Bool), q = (fun j => p (l_k j) (l_a j)) → Con Try.prog 84 [.c (.sl 2 l_n (fun j => [.int .i64 (l_k j), .int .i64 (l_a j)])), .c (.fn g caps)] di (idx q l_n 0) := by
    intro q hq
    rcases hc with rfl | ⟨on, rfl⟩
    all_goals
      refine Con_of mixed tabOk Try.func84 (by decide) rfl rfl rfl (by decide) ?_; intro A R v' hA hR hv
      cbv
      refine awp_for (fun k : Nat => k ≤ l_n ∧ ∀ j, j < k → q j = false) (fun k => l_n - k) (fun k => [(8, di (A.int k))]) (fun _ => []) 0 ⟨Nat.zero_le _, fun j h => absurd h (Nat.not_lt_zero j)⟩ (by cbv) ?_ ?_
      · subst hA; exact sim_eq rfl
      · rintro k ⟨hk, hk2⟩
        cbv
        repeat' (first | (refine And.intro (fun _ => ?_) (fun _ => ?_) <;> cbv) | (refine call_c hR (hp _ _) ?_; intro _ _; cbv) | (refine And.intro ?_ ?_; rotate_left; cbv) | (intro (_ : Bool) _; cbv))
        all_goals subst hA hR hv
        all_goals dsimp only [Ar.std] at *
        · exact Le.vi (idx_at q l_n k (by simp_all) (by simp_all) hk2)
        · have e : q k = false := by simp_all
          have hlt : k < l_n := by simp_all
          refine loop_nx (k + 1) ⟨by omega, fun j hj => ?_⟩ (by omega) ?_
          · rcases Nat.lt_or_ge j k with h | h
            · exact hk2 j h
            · have : j = k := by omega
              subst this; exact e
          · simp [forget, keepFr, dropMem, updFr]
            exact wrap_id (by omega) (by omega)
        · exact ⟨by omega, by simp_all⟩
        · have : k = l_n := by simp_all; omega
          subst this
          exact Le.vi (idx_no q k hk2)
  exact key _ rfl
theorem cloneDue_ok (l_n : Nat) (l_no l_day l_pr l_it : Nat → Int) (h : l_n * 32 ≤ 140737488355328) : Con Try.prog 56 [.c (.sl 4 l_n (fun j => [.int .i64 (l_no j), .int .i64 (l_day j), .int .i64 (l_pr j), .int .i64 (l_it j)]))] (fun _ : Unit => .rowv 76 4 (.of l_n fun j => [.int .i64 (l_no j), .int .i64 (l_day j), .int .i64 (l_pr j), .int .i64 (l_it j)])) () := by
  refine Con_of mixed tabOk Try.func56 (by decide) rfl rfl rfl (by decide) ?_; intro A R v' hA hR hv
  cbv
  repeat' (first | (refine And.intro (fun _ => ?_) (fun _ => ?_) <;> cbv) | (refine And.intro ?_ ?_; rotate_left; cbv) | (intro (_ : Bool) _; cbv))
  all_goals subst hA hR hv
  all_goals try dsimp only [Ar.std] at *
  · rename_i t ht h1
    exact Le.nil (by simp [Rx.list, ht h1])
  · exact Le.row (by simp [Rx.list])
  · exact ⟨by omega, by omega⟩
theorem cloneChange_ok (l_n : Nat) (l_day l_am l_old_me l_old_p l_old_ppm l_old_st l_old_ev l_old_co l_old_ba l_old_mo l_old_pp l_old_fp : Nat → Int) (l_old_cal l_old_cur : Nat → ByteArray) (h : l_n * 128 ≤ 140737488355328) : Con Try.prog 57 [.c (.sl 14 l_n (fun j => [.int .i64 (l_day j), .int .i64 (l_am j), .int .i64 (l_old_me j), .int .i64 (l_old_p j), .int .i64 (l_old_ppm j), .int .i64 (l_old_st j), .int .i64 (l_old_ev j), .int .i64 (l_old_co j), .int .i64 (l_old_ba j), .int .i64 (l_old_mo j), .int .i64 (l_old_pp j), .int .i64 (l_old_fp j), .string (l_old_cal j), .string (l_old_cur j)]))] (fun _ : Unit => .rowv 93 14 (.of l_n fun j => [.int .i64 (l_day j), .int .i64 (l_am j), .int .i64 (l_old_me j), .int .i64 (l_old_p j), .int .i64 (l_old_ppm j), .int .i64 (l_old_st j), .int .i64 (l_old_ev j), .int .i64 (l_old_co j), .int .i64 (l_old_ba j), .int .i64 (l_old_mo j), .int .i64 (l_old_pp j), .int .i64 (l_old_fp j), .string (l_old_cal j), .string (l_old_cur j)])) () := by
  refine Con_of mixed tabOk Try.func57 (by decide) rfl rfl rfl (by decide) ?_; intro A R v' hA hR hv
  cbv
  repeat' (first | (refine And.intro (fun _ => ?_) (fun _ => ?_) <;> cbv) | (refine And.intro ?_ ?_; rotate_left; cbv) | (intro (_ : Bool) _; cbv))
  all_goals subst hA hR hv
  all_goals try dsimp only [Ar.std] at *
  · rename_i t ht h1
    exact Le.nil (by simp [Rx.list, ht h1])
  · exact Le.row (by simp [Rx.list])
  · exact ⟨by omega, by omega⟩
end Go.Proofs.Ytoocihhnlhehlaa
