/- The law LoanPays, read: it answers true. -/
import Derived.Test.YtoocihhnlhehlaaLnl
import Derived.Test.YtoocihhnlhehlaaLnj
import Derived.Test.YtoocihhnlhehlaaLnk
import Derived.Test.YtoocihhnlhehlaaPlb
namespace Go.Proofs.Ytoocihhnlhehlaa
open Go Go.Proofs.Ytoocihhnlhehlaa.Den
set_option linter.unusedSimpArgs false
set_option linter.unusedVariables false
set_option maxRecDepth 100000
set_option maxHeartbeats 40000000 in
theorem pays_ok (l_id l_ac l_st l_pp l_pi l_fe l_pe l_ch l_pv l_lo l_re l_t_me l_t_p l_t_ppm l_t_st l_t_ev l_t_co l_t_ba l_t_mo l_t_pp l_t_fp : Int) (l_t_cal l_t_cur : ByteArray) (l_d_n : Nat) (l_d_no l_d_day l_d_pr l_d_it : Nat → Int) (l_c_n : Nat) (l_c_day l_c_am l_c_old_me l_c_old_p l_c_old_ppm l_c_old_st l_c_old_ev l_c_old_co l_c_old_ba l_c_old_mo l_c_old_pp l_c_old_fp : Nat → Int) (l_c_old_cal l_c_old_cur : Nat → ByteArray) (n day : Int) (hs : ∀ j, j < l_d_n → l_d_day j ≤ 9223372036854775807) (hf : Fee ⟨l_id, l_ac, l_st, l_pp, l_pi, l_fe, l_pe, l_ch, l_pv, l_lo, l_re, ⟨l_t_me, l_t_p, l_t_ppm, l_t_st, l_t_ev, l_t_co, l_t_ba, l_t_mo, l_t_pp, l_t_fp, l_t_cal, l_t_cur⟩, ⟨l_d_n, fun j => ⟨l_d_no j, l_d_day j, l_d_pr j, l_d_it j⟩⟩, ⟨l_c_n, fun j => ⟨l_c_day j, l_c_am j, ⟨l_c_old_me j, l_c_old_p j, l_c_old_ppm j, l_c_old_st j, l_c_old_ev j, l_c_old_co j, l_c_old_ba j, l_c_old_mo j, l_c_old_pp j, l_c_old_fp j, l_c_old_cal j, l_c_old_cur j⟩⟩⟩⟩) : Con Try.prog 4 [.agg [.v (.int .i64 (l_id)), .v (.int .i64 (l_ac)), .v (.int .i64 (l_st)), .v (.int .i64 (l_pp)), .v (.int .i64 (l_pi)), .v (.int .i64 (l_fe)), .v (.int .i64 (l_pe)), .v (.int .i64 (l_ch)), .v (.int .i64 (l_pv)), .v (.int .i64 (l_lo)), .v (.int .i64 (l_re)), .v (.int .i64 (l_t_me)), .v (.int .i64 (l_t_p)), .v (.int .i64 (l_t_ppm)), .v (.int .i64 (l_t_st)), .v (.int .i64 (l_t_ev)), .v (.int .i64 (l_t_co)), .v (.int .i64 (l_t_ba)), .v (.int .i64 (l_t_mo)), .v (.int .i64 (l_t_pp)), .v (.int .i64 (l_t_fp)), .v (.string (l_t_cal)), .v (.string (l_t_cur)), .sl 4 l_d_n (fun j => [.int .i64 (l_d_no j), .int .i64 (l_d_day j), .int .i64 (l_d_pr j), .int .i64 (l_d_it j)]), .sl 14 l_c_n (fun j => [.int .i64 (l_c_day j), .int .i64 (l_c_am j), .int .i64 (l_c_old_me j), .int .i64 (l_c_old_p j), .int .i64 (l_c_old_ppm j), .int .i64 (l_c_old_st j), .int .i64 (l_c_old_ev j), .int .i64 (l_c_old_co j), .int .i64 (l_c_old_ba j), .int .i64 (l_c_old_mo j), .int .i64 (l_c_old_pp j), .int .i64 (l_c_old_fp j), .string (l_c_old_cal j), .string (l_c_old_cur j)])], di n, di day] db true := by
  have small : Small ⟨l_id, l_ac, l_st, l_pp, l_pi, l_fe, l_pe, l_ch, l_pv, l_lo, l_re, ⟨l_t_me, l_t_p, l_t_ppm, l_t_st, l_t_ev, l_t_co, l_t_ba, l_t_mo, l_t_pp, l_t_fp, l_t_cal, l_t_cur⟩, ⟨l_d_n, fun j => ⟨l_d_no j, l_d_day j, l_d_pr j, l_d_it j⟩⟩, ⟨l_c_n, fun j => ⟨l_c_day j, l_c_am j, ⟨l_c_old_me j, l_c_old_p j, l_c_old_ppm j, l_c_old_st j, l_c_old_ev j, l_c_old_co j, l_c_old_ba j, l_c_old_mo j, l_c_old_pp j, l_c_old_fp j, l_c_old_cal j, l_c_old_cur j⟩⟩⟩⟩ := hs
  refine Con_of mixed tabOk Try.func4 (by decide) rfl rfl rfl (by decide) ?_; intro A R v' hA hR hv
  cbv
  refine call_c hR (great_ok ..) ?_
  intro g hg
  cbv
  refine And.intro (fun e => ?_) (fun e => ?_) <;> cbv
  · subst hv
    first | exact Le.vb rfl | exact Le.bb rfl
  have hn : l_d_n ≤ 300 := by
    rw [hg] at e
    simp only [greatR, Bool.or_eq_false_iff, decide_eq_false_iff_not] at e
    omega
  have hcn : l_c_n ≤ 100 := by
    rw [hg] at e
    simp only [greatR, Bool.or_eq_false_iff, decide_eq_false_iff_not] at e
    omega
  refine call_c hR (pay_ok (h := by omega) (h2 := by omega) ..) ?_
  intro x1 hx1
  cbv
  refine call_c hR (payR_ok (h := by omega) ..) ?_
  intro x2 hx2
  obtain rfl : x2 = x1 := by rw [hx1, hx2]; exact pay_eq _ _ _ small hf
  have hb := payS_n ⟨l_id, l_ac, l_st, l_pp, l_pi, l_fe, l_pe, l_ch, l_pv, l_lo, l_re, ⟨l_t_me, l_t_p, l_t_ppm, l_t_st, l_t_ev, l_t_co, l_t_ba, l_t_mo, l_t_pp, l_t_fp, l_t_cal, l_t_cur⟩, ⟨l_d_n, fun j => ⟨l_d_no j, l_d_day j, l_d_pr j, l_d_it j⟩⟩, ⟨l_c_n, fun j => ⟨l_c_day j, l_c_am j, ⟨l_c_old_me j, l_c_old_p j, l_c_old_ppm j, l_c_old_st j, l_c_old_ev j, l_c_old_co j, l_c_old_ba j, l_c_old_mo j, l_c_old_pp j, l_c_old_fp j, l_c_old_cal j, l_c_old_cur j⟩⟩⟩⟩ n day
  rw [← hx1] at hb
  obtain ⟨hb1, hb2, hb3⟩ := hb
  have hb1 : x2.1.d.n ≤ 9223372036854775807 := Nat.le_trans hb1 (by show l_d_n ≤ _; omega)
  have hb2 : x2.1.c.n ≤ 9223372036854775807 := Nat.le_trans hb2 (by show l_c_n ≤ _; omega)
  have hb3 : x2.2.1.n ≤ 9223372036854775807 := Nat.le_trans hb3 (by omega)
  clear hx1 hx2
  cbv
  refine And.intro (fun _ => ?_) (fun e => ?_)
  rotate_left
  · exfalso; subst hA; simp [Ar.std] at e
  cbv
  refine call_c hR (same_ok (h1 := hb1) (h2 := hb2) ..) ?_
  intro y hy
  obtain rfl : y = true := hy.trans (same_refl x2.1)
  clear hy
  cbv
  refine And.intro (fun _ => ?_) (fun e => absurd e (by decide))
  cbv
  refine call_c hR (sameParts_ok (h := hb3) ..) ?_
  intro y hy
  obtain rfl : y = true := hy.trans (sameParts_refl _)
  clear hy
  cbv
  refine And.intro (fun _ => ?_) (fun e => absurd e (by decide))
  cbv
  refine call_c hR live_ok ?_
  rintro _ rfl
  cbv
  subst hv
  first | exact Le.vb rfl | exact Le.bb rfl
end Go.Proofs.Ytoocihhnlhehlaa
