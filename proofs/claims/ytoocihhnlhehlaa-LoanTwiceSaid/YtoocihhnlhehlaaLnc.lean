/- Loans, the program's side (3): numbers, ordered, left, Check, Outstanding. -/
import Derived.Test.YtoocihhnlhehlaaLnb
import Derived.Test.YtoocihhnlhehlaaSpb
namespace Go.Proofs.Ytoocihhnlhehlaa
open Go Go.Proofs.Ytoocihhnlhehlaa.Den
set_option linter.unusedSimpArgs false
set_option linter.unusedVariables false
set_option maxRecDepth 100000
theorem num1_ok (d_no d_day d_pr d_it : Int) : Con Try.prog 80 [.agg [.v (.int .i64 (d_no)), .v (.int .i64 (d_day)), .v (.int .i64 (d_pr)), .v (.int .i64 (d_it))]] db (badDue ⟨d_no, d_day, d_pr, d_it⟩) := by
  refine Con_of mixed tabOk Try.func80 (by decide) rfl rfl rfl (by decide) ?_; intro A R v' hA hR hv
  cbv
  repeat' (first | (refine And.intro (fun _ => ?_) (fun _ => ?_) <;> cbv) | (refine call_c hR (day_ok _) ?_; intro _ _; cbv) | (refine call_c hR (amount_ok _) ?_; intro _ _; cbv) | (refine And.intro ?_ ?_; rotate_left; cbv) | (intro (_ : Bool) _; cbv))
  all_goals subst hA hR hv
  all_goals dsimp only [Ar.std] at *
  all_goals first | exact Le.vb (by simp_all [badDue]) | exact Le.bb (by simp_all [badDue])
theorem contDue_ok (g : Nat) (p : Int → Int → Int → Int → Bool) (hp : ∀ (d_no d_day d_pr d_it : Int), Con Try.prog g [.agg [.v (.int .i64 (d_no)), .v (.int .i64 (d_day)), .v (.int .i64 (d_pr)), .v (.int .i64 (d_it))]] db (p d_no d_day d_pr d_it)) (l_n : Nat) (l_no l_day l_pr l_it : Nat → Int) (h : l_n ≤ 9223372036854775807) :
    Con Try.prog 79 [.c (.sl 4 l_n (fun j => [.int .i64 (l_no j), .int .i64 (l_day j), .int .i64 (l_pr j), .int .i64 (l_it j)])), .c (.fn g [])] db (decide (0 ≤ idx (fun j => p (l_no j) (l_day j) (l_pr j) (l_it j)) l_n 0)) := by
  refine Con_of mixed tabOk Try.func79 (by decide) rfl rfl rfl (by decide) ?_; intro A R v' hA hR hv
  cbv
  repeat' (first | (refine And.intro (fun _ => ?_) (fun _ => ?_) <;> cbv) | (refine call_c hR (ixDue_ok g [] (.inl rfl) p hp _ _ _ _ _ (by assumption)) ?_; intro _ _; cbv) | (refine And.intro ?_ ?_; rotate_left; cbv) | (intro (_ : Bool) _; cbv))
  all_goals subst hA hR hv
  all_goals dsimp only [Ar.std] at *
  all_goals exact Le.bb (by simp_all)
theorem ordered_ok (l_n : Nat) (l_no l_day l_pr l_it : Nat → Int) (h : l_n ≤ 9223372036854775807) : Con Try.prog 41 [.c (.sl 4 l_n (fun j => [.int .i64 (l_no j), .int .i64 (l_day j), .int .i64 (l_pr j), .int .i64 (l_it j)]))] db (orderedS ⟨l_n, fun j => ⟨l_no j, l_day j, l_pr j, l_it j⟩⟩) := by
  refine Con_of mixed tabOk Try.func41 (by decide) rfl rfl rfl (by decide) ?_; intro A R v' hA hR hv
  cbv
  refine awp_fors (fun k : Nat => k ≤ l_n ∧ ∀ j, j < k → ordAt ⟨l_n, fun j => ⟨l_no j, l_day j, l_pr j, l_it j⟩⟩ j = true) (fun k => l_n - k) (fun k => [(7, di (A.int k))]) 0 ⟨Nat.zero_le _, fun j h => absurd h (Nat.not_lt_zero j)⟩ (by cbv) ?_ ?_
  · subst hA; exact sim_eq rfl
  · rintro k ⟨hk, hk2⟩
    cbv
    repeat' (first | (refine And.intro (fun _ => ?_) (fun _ => ?_) <;> cbv) | (refine And.intro ?_ ?_; rotate_left; cbv) | (intro (_ : Bool) _; cbv))
    all_goals subst hA hR hv
    all_goals dsimp only [Ar.std] at *
    all_goals rcases Nat.lt_or_ge k l_n with hlt | hge
    all_goals first
      | (exfalso; simp_all <;> omega)
      | (have e1 : IntKind.i64.wrap ((k : Int) + 1) = (k : Int) + 1 := wrap_id (by omega) (by omega)
         have e2 : 0 < k → IntKind.i64.wrap ((k : Int) - 1) = ((k - 1 : Nat) : Int) := fun h0 => by rw [wrap_id (by omega) (by omega)]; omega
         first
         | (refine ⟨?_, ?_⟩ <;> (simp_all <;> omega))
         | exact Le.vb (allTo_not hlt (by simp_all [ordAt]))
         | (refine loop_nx (k + 1) ⟨by omega, fun j hj => ?_⟩ (by omega) ?_
            · rcases Nat.lt_or_ge j k with h | h
              · exact hk2 j h
              · have : j = k := by omega
                subst this; simp_all [ordAt]
            · simp [forget, keepFr, dropMem, updFr, e1]))
      | exact Le.vb (allTo_yes fun j hj => hk2 j (Nat.lt_of_lt_of_le hj hge))
theorem left_ok (l_id l_ac l_st l_pp l_pi l_fe l_pe l_ch l_pv l_lo l_re l_t_me l_t_p l_t_ppm l_t_st l_t_ev l_t_co l_t_ba l_t_mo l_t_pp l_t_fp : Int) (l_t_cal l_t_cur : ByteArray) (l_d_n : Nat) (l_d_no l_d_day l_d_pr l_d_it : Nat → Int) (l_c_n : Nat) (l_c_day l_c_am l_c_old_me l_c_old_p l_c_old_ppm l_c_old_st l_c_old_ev l_c_old_co l_c_old_ba l_c_old_mo l_c_old_pp l_c_old_fp : Nat → Int) (l_c_old_cal l_c_old_cur : Nat → ByteArray) (h : l_d_n ≤ 9223372036854775807) : Con Try.prog 43 [.agg [.v (.int .i64 (l_id)), .v (.int .i64 (l_ac)), .v (.int .i64 (l_st)), .v (.int .i64 (l_pp)), .v (.int .i64 (l_pi)), .v (.int .i64 (l_fe)), .v (.int .i64 (l_pe)), .v (.int .i64 (l_ch)), .v (.int .i64 (l_pv)), .v (.int .i64 (l_lo)), .v (.int .i64 (l_re)), .v (.int .i64 (l_t_me)), .v (.int .i64 (l_t_p)), .v (.int .i64 (l_t_ppm)), .v (.int .i64 (l_t_st)), .v (.int .i64 (l_t_ev)), .v (.int .i64 (l_t_co)), .v (.int .i64 (l_t_ba)), .v (.int .i64 (l_t_mo)), .v (.int .i64 (l_t_pp)), .v (.int .i64 (l_t_fp)), .v (.string (l_t_cal)), .v (.string (l_t_cur)), .sl 4 l_d_n (fun j => [.int .i64 (l_d_no j), .int .i64 (l_d_day j), .int .i64 (l_d_pr j), .int .i64 (l_d_it j)]), .sl 14 l_c_n (fun j => [.int .i64 (l_c_day j), .int .i64 (l_c_am j), .int .i64 (l_c_old_me j), .int .i64 (l_c_old_p j), .int .i64 (l_c_old_ppm j), .int .i64 (l_c_old_st j), .int .i64 (l_c_old_ev j), .int .i64 (l_c_old_co j), .int .i64 (l_c_old_ba j), .int .i64 (l_c_old_mo j), .int .i64 (l_c_old_pp j), .int .i64 (l_c_old_fp j), .string (l_c_old_cal j), .string (l_c_old_cur j)])]] db (leftS ⟨l_id, l_ac, l_st, l_pp, l_pi, l_fe, l_pe, l_ch, l_pv, l_lo, l_re, ⟨l_t_me, l_t_p, l_t_ppm, l_t_st, l_t_ev, l_t_co, l_t_ba, l_t_mo, l_t_pp, l_t_fp, l_t_cal, l_t_cur⟩, ⟨l_d_n, fun j => ⟨l_d_no j, l_d_day j, l_d_pr j, l_d_it j⟩⟩, ⟨l_c_n, fun j => ⟨l_c_day j, l_c_am j, ⟨l_c_old_me j, l_c_old_p j, l_c_old_ppm j, l_c_old_st j, l_c_old_ev j, l_c_old_co j, l_c_old_ba j, l_c_old_mo j, l_c_old_pp j, l_c_old_fp j, l_c_old_cal j, l_c_old_cur j⟩⟩⟩⟩) := by
  refine Con_of mixed tabOk Try.func43 (by decide) rfl rfl rfl (by decide) ?_; intro A R v' hA hR hv
  cbv
  repeat' (first | (refine And.intro (fun _ => ?_) (fun _ => ?_) <;> cbv) | (refine call_c hR (sums_ok _ _ _ _ _ (by assumption)) ?_; intro _ _; cbv) | (refine And.intro ?_ ?_; rotate_left; cbv) | (intro (_ : Bool) _; cbv))
  all_goals subst hA hR hv
  all_goals dsimp only [Ar.std] at *
  all_goals first | exact Le.vb (by simp_all [leftS, sumP, sumI]) | exact Le.bb (by simp_all [leftS, sumP, sumI])
set_option maxHeartbeats 2000000 in
theorem numbers_ok (l_id l_ac l_st l_pp l_pi l_fe l_pe l_ch l_pv l_lo l_re l_t_me l_t_p l_t_ppm l_t_st l_t_ev l_t_co l_t_ba l_t_mo l_t_pp l_t_fp : Int) (l_t_cal l_t_cur : ByteArray) (l_d_n : Nat) (l_d_no l_d_day l_d_pr l_d_it : Nat → Int) (l_c_n : Nat) (l_c_day l_c_am l_c_old_me l_c_old_p l_c_old_ppm l_c_old_st l_c_old_ev l_c_old_co l_c_old_ba l_c_old_mo l_c_old_pp l_c_old_fp : Nat → Int) (l_c_old_cal l_c_old_cur : Nat → ByteArray) (h : l_d_n ≤ 9223372036854775807) : Con Try.prog 40 [.agg [.v (.int .i64 (l_id)), .v (.int .i64 (l_ac)), .v (.int .i64 (l_st)), .v (.int .i64 (l_pp)), .v (.int .i64 (l_pi)), .v (.int .i64 (l_fe)), .v (.int .i64 (l_pe)), .v (.int .i64 (l_ch)), .v (.int .i64 (l_pv)), .v (.int .i64 (l_lo)), .v (.int .i64 (l_re)), .v (.int .i64 (l_t_me)), .v (.int .i64 (l_t_p)), .v (.int .i64 (l_t_ppm)), .v (.int .i64 (l_t_st)), .v (.int .i64 (l_t_ev)), .v (.int .i64 (l_t_co)), .v (.int .i64 (l_t_ba)), .v (.int .i64 (l_t_mo)), .v (.int .i64 (l_t_pp)), .v (.int .i64 (l_t_fp)), .v (.string (l_t_cal)), .v (.string (l_t_cur)), .sl 4 l_d_n (fun j => [.int .i64 (l_d_no j), .int .i64 (l_d_day j), .int .i64 (l_d_pr j), .int .i64 (l_d_it j)]), .sl 14 l_c_n (fun j => [.int .i64 (l_c_day j), .int .i64 (l_c_am j), .int .i64 (l_c_old_me j), .int .i64 (l_c_old_p j), .int .i64 (l_c_old_ppm j), .int .i64 (l_c_old_st j), .int .i64 (l_c_old_ev j), .int .i64 (l_c_old_co j), .int .i64 (l_c_old_ba j), .int .i64 (l_c_old_mo j), .int .i64 (l_c_old_pp j), .int .i64 (l_c_old_fp j), .string (l_c_old_cal j), .string (l_c_old_cur j)])]] db (numbersS ⟨l_id, l_ac, l_st, l_pp, l_pi, l_fe, l_pe, l_ch, l_pv, l_lo, l_re, ⟨l_t_me, l_t_p, l_t_ppm, l_t_st, l_t_ev, l_t_co, l_t_ba, l_t_mo, l_t_pp, l_t_fp, l_t_cal, l_t_cur⟩, ⟨l_d_n, fun j => ⟨l_d_no j, l_d_day j, l_d_pr j, l_d_it j⟩⟩, ⟨l_c_n, fun j => ⟨l_c_day j, l_c_am j, ⟨l_c_old_me j, l_c_old_p j, l_c_old_ppm j, l_c_old_st j, l_c_old_ev j, l_c_old_co j, l_c_old_ba j, l_c_old_mo j, l_c_old_pp j, l_c_old_fp j, l_c_old_cal j, l_c_old_cur j⟩⟩⟩⟩) := by
  refine Con_of mixed tabOk Try.func40 (by decide) rfl rfl rfl (by decide) ?_; intro A R v' hA hR hv
  cbv
  repeat' (first | (refine And.intro (fun _ => ?_) (fun _ => ?_) <;> cbv) | (refine call_c hR (day_ok _) ?_; intro _ _; cbv) | (refine call_c hR (amount_ok _) ?_; intro _ _; cbv) | (refine call_c hR (rate_ok _) ?_; intro _ _; cbv) | (refine And.intro ?_ ?_; rotate_left; cbv) | (intro (_ : Bool) _; cbv))
  all_goals try (subst hA hR hv; dsimp only [Ar.std] at *; exact Le.vb (by simp_all [numbersS]))
  refine awp_fors (fun k : Nat => k ≤ 4 ∧ (0 < k → amB l_fe = true) ∧ (1 < k → amB l_pe = true) ∧ (2 < k → amB l_pv = true) ∧ (3 < k → amB l_lo = true)) (fun k => 4 - k) (fun k => [(83, di (k : Int))]) 0 (by simp) (by cbv) ?_ ?_
  · exact sim_eq rfl
  · rintro k ⟨hk, h0, h1, h2, h3⟩
    have hk5 : k = 0 ∨ k = 1 ∨ k = 2 ∨ k = 3 ∨ k = 4 := by omega
    rcases hk5 with rfl | rfl | rfl | rfl | rfl
    all_goals cbv
    all_goals repeat' (first | (refine And.intro (fun _ => ?_) (fun _ => ?_) <;> cbv) | (refine call_c hR (amount_ok _) ?_; intro _ _; cbv) | (refine call_c hR (contDue_ok _ (fun a b c d => badDue ⟨a, b, c, d⟩) (fun a b c d => num1_ok a b c d) _ _ _ _ _ (by assumption)) ?_; intro _ _; cbv) | (refine And.intro ?_ ?_; rotate_left; cbv) | (intro (_ : Bool) _; cbv))
    all_goals subst hA hR hv
    all_goals dsimp only [Ar.std] at *
    all_goals first
      | exact Le.vb (by simp_all [numbersS])
      | exact Le.bb (by simp_all [numbersS])
      | exact ⟨by decide, by decide⟩
      | (exfalso; simp_all; done)
      | (refine loop_nx 1 ⟨by decide, by simp_all, by simp_all, by simp_all, by simp_all⟩ (by decide) ?_
         simp [forget, keepFr, dropMem, updFr]
         exact wrap_id (by omega) (by omega))
      | (refine loop_nx 2 ⟨by decide, by simp_all, by simp_all, by simp_all, by simp_all⟩ (by decide) ?_
         simp [forget, keepFr, dropMem, updFr]
         exact wrap_id (by omega) (by omega))
      | (refine loop_nx 3 ⟨by decide, by simp_all, by simp_all, by simp_all, by simp_all⟩ (by decide) ?_
         simp [forget, keepFr, dropMem, updFr]
         exact wrap_id (by omega) (by omega))
      | (refine loop_nx 4 ⟨by decide, by simp_all, by simp_all, by simp_all, by simp_all⟩ (by decide) ?_
         simp [forget, keepFr, dropMem, updFr]
         exact wrap_id (by omega) (by omega))
end Go.Proofs.Ytoocihhnlhehlaa
