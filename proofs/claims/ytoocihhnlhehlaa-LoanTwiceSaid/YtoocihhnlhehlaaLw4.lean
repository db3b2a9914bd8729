/- The law LoanTwice, read: it answers true. -/
import Derived.Test.YtoocihhnlhehlaaLnl
import Derived.Test.YtoocihhnlhehlaaLnj
import Derived.Test.YtoocihhnlhehlaaLnk
import Derived.Test.YtoocihhnlhehlaaPlk
namespace Go.Proofs.Ytoocihhnlhehlaa
open Go Go.Proofs.Ytoocihhnlhehlaa.Den
set_option linter.unusedSimpArgs false
set_option linter.unusedVariables false
set_option maxRecDepth 100000
set_option maxHeartbeats 40000000 in
theorem twice_ok (l_id l_ac l_st l_pp l_pi l_fe l_pe l_ch l_pv l_lo l_re l_t_me l_t_p l_t_ppm l_t_st l_t_ev l_t_co l_t_ba l_t_mo l_t_pp l_t_fp : Int) (l_t_cal l_t_cur : ByteArray) (l_d_n : Nat) (l_d_no l_d_day l_d_pr l_d_it : Nat → Int) (l_c_n : Nat) (l_c_day l_c_am l_c_old_me l_c_old_p l_c_old_ppm l_c_old_st l_c_old_ev l_c_old_co l_c_old_ba l_c_old_mo l_c_old_pp l_c_old_fp : Nat → Int) (l_c_old_cal l_c_old_cur : Nat → ByteArray) (n m day : Int) (hm : In' m) : Con Try.prog 6 [.agg [.v (.int .i64 (l_id)), .v (.int .i64 (l_ac)), .v (.int .i64 (l_st)), .v (.int .i64 (l_pp)), .v (.int .i64 (l_pi)), .v (.int .i64 (l_fe)), .v (.int .i64 (l_pe)), .v (.int .i64 (l_ch)), .v (.int .i64 (l_pv)), .v (.int .i64 (l_lo)), .v (.int .i64 (l_re)), .v (.int .i64 (l_t_me)), .v (.int .i64 (l_t_p)), .v (.int .i64 (l_t_ppm)), .v (.int .i64 (l_t_st)), .v (.int .i64 (l_t_ev)), .v (.int .i64 (l_t_co)), .v (.int .i64 (l_t_ba)), .v (.int .i64 (l_t_mo)), .v (.int .i64 (l_t_pp)), .v (.int .i64 (l_t_fp)), .v (.string (l_t_cal)), .v (.string (l_t_cur)), .sl 4 l_d_n (fun j => [.int .i64 (l_d_no j), .int .i64 (l_d_day j), .int .i64 (l_d_pr j), .int .i64 (l_d_it j)]), .sl 14 l_c_n (fun j => [.int .i64 (l_c_day j), .int .i64 (l_c_am j), .int .i64 (l_c_old_me j), .int .i64 (l_c_old_p j), .int .i64 (l_c_old_ppm j), .int .i64 (l_c_old_st j), .int .i64 (l_c_old_ev j), .int .i64 (l_c_old_co j), .int .i64 (l_c_old_ba j), .int .i64 (l_c_old_mo j), .int .i64 (l_c_old_pp j), .int .i64 (l_c_old_fp j), .string (l_c_old_cal j), .string (l_c_old_cur j)])], .agg [ci n, ci m], di day] db true := by
  refine Con_of mixed tabOk Try.func6 (by decide) rfl rfl rfl (by decide) ?_; intro A R v' hA hR hv
  cbv
  refine call_c hR (great_ok ..) ?_
  intro g hg
  cbv
  repeat' (first | (refine And.intro (fun _ => ?_) (fun _ => ?_) <;> cbv) | (refine And.intro ?_ ?_; rotate_left; cbv) | (intro (_ : Bool) _; cbv))
  all_goals first
    | (subst hv; first | exact Le.vb rfl | exact Le.bb rfl)
    | (subst hA; exact ⟨by decide, by decide⟩)
    | (exact Int.NonNeg.mk _)
    | skip
  rename_i e0 e1 e2
  have hn : l_d_n ≤ 300 := by
    rw [hg] at e0
    simp only [greatR, Bool.or_eq_false_iff, decide_eq_false_iff_not] at e0
    omega
  have hcn : l_c_n ≤ 100 := by
    rw [hg] at e0
    simp only [greatR, Bool.or_eq_false_iff, decide_eq_false_iff_not] at e0
    omega
  have hm1 : m ≤ 1000000000000 := by subst hA; simpa [Ar.std] using e2
  clear hg
  refine call_c hR (pay_ok (h := by omega) (h2 := by omega) ..) ?_
  intro x hx
  have hb := payS_n ⟨l_id, l_ac, l_st, l_pp, l_pi, l_fe, l_pe, l_ch, l_pv, l_lo, l_re, ⟨l_t_me, l_t_p, l_t_ppm, l_t_st, l_t_ev, l_t_co, l_t_ba, l_t_mo, l_t_pp, l_t_fp, l_t_cal, l_t_cur⟩, ⟨l_d_n, fun j => ⟨l_d_no j, l_d_day j, l_d_pr j, l_d_it j⟩⟩, ⟨l_c_n, fun j => ⟨l_c_day j, l_c_am j, ⟨l_c_old_me j, l_c_old_p j, l_c_old_ppm j, l_c_old_st j, l_c_old_ev j, l_c_old_co j, l_c_old_ba j, l_c_old_mo j, l_c_old_pp j, l_c_old_fp j, l_c_old_cal j, l_c_old_cur j⟩⟩⟩⟩ n day
  rw [← hx] at hb
  obtain ⟨hb1, hb2, hb3⟩ := hb
  have hb1 : x.1.d.n ≤ 300 := Nat.le_trans hb1 hn
  have hb2 : x.1.c.n ≤ 100 := Nat.le_trans hb2 hcn
  have w1 : x.1.d.n * 32 ≤ 140737488355328 := by omega
  have w2 : x.1.c.n * 128 ≤ 140737488355328 := by omega
  have w3 : x.2.1.n ≤ 9223372036854775807 := by omega
  obtain ⟨l, hl⟩ : ∃ l : Loan, l = ⟨l_id, l_ac, l_st, l_pp, l_pi, l_fe, l_pe, l_ch, l_pv, l_lo, l_re, ⟨l_t_me, l_t_p, l_t_ppm, l_t_st, l_t_ev, l_t_co, l_t_ba, l_t_mo, l_t_pp, l_t_fp, l_t_cal, l_t_cur⟩, ⟨l_d_n, fun j => ⟨l_d_no j, l_d_day j, l_d_pr j, l_d_it j⟩⟩, ⟨l_c_n, fun j => ⟨l_c_day j, l_c_am j, ⟨l_c_old_me j, l_c_old_p j, l_c_old_ppm j, l_c_old_st j, l_c_old_ev j, l_c_old_co j, l_c_old_ba j, l_c_old_mo j, l_c_old_pp j, l_c_old_fp j, l_c_old_cal j, l_c_old_cur j⟩⟩⟩⟩ := ⟨_, rfl⟩
  rw [← hl] at hx
  cbv
  repeat' (first | (refine And.intro (fun _ => ?_) (fun _ => ?_) <;> cbv) | (refine call_c hR (live_ok) ?_; intro _ _; cbv) | (refine And.intro ?_ ?_; rotate_left; cbv) | (intro (_ : Bool) _; cbv))
  all_goals first
    | (rename_i hq; subst hv; first | exact Le.vb hq | exact Le.bb hq.symm | exact Le.bb hq | (rw [hq]; first | exact Le.vb rfl | exact Le.bb rfl))
    | (subst hA; exact ⟨by decide, by decide⟩)
    | (exact Int.NonNeg.mk _)
    | skip
  rename_i e3 e4
  have e3 : x.2.2 = 0 := by subst hA; simpa [Ar.std] using e3
  have e4 : x.1.st = 1 := by subst hA; simpa [Ar.std] using e4
  refine call_c hR (pay_ok (h := w1) (h2 := w2) ..) ?_
  intro y hy
  have hy : y = payS x.1 m day := hy
  have hc := payS_n x.1 m day
  rw [← hy] at hc
  obtain ⟨hc1, hc2, hc3⟩ := hc
  have v1 : y.1.d.n ≤ 9223372036854775807 := by omega
  have v2 : y.1.c.n ≤ 9223372036854775807 := by omega
  have v3 : y.2.1.n ≤ 9223372036854775807 := by omega
  cbv
  refine And.intro (Int.NonNeg.mk _) (And.intro (Int.NonNeg.mk _) ?_)
  refine call_c hR (pay_ok (h := by omega) (h2 := by omega) ..) ?_
  intro z hz
  have hz : z = payS ⟨l_id, l_ac, l_st, l_pp, l_pi, l_fe, l_pe, l_ch, l_pv, l_lo, l_re, ⟨l_t_me, l_t_p, l_t_ppm, l_t_st, l_t_ev, l_t_co, l_t_ba, l_t_mo, l_t_pp, l_t_fp, l_t_cal, l_t_cur⟩, ⟨l_d_n, fun j => ⟨l_d_no j, l_d_day j, l_d_pr j, l_d_it j⟩⟩, ⟨l_c_n, fun j => ⟨l_c_day j, l_c_am j, ⟨l_c_old_me j, l_c_old_p j, l_c_old_ppm j, l_c_old_st j, l_c_old_ev j, l_c_old_co j, l_c_old_ba j, l_c_old_mo j, l_c_old_pp j, l_c_old_fp j, l_c_old_cal j, l_c_old_cur j⟩⟩⟩⟩ (A.add .i64 n m) day := hz
  have hn1 : 1 ≤ n ∧ n ≤ 1000000000000 := by
    have e5 := e3
    rw [hx] at e5
    have := payS_ok e5
    exact ⟨this.2.1, this.2.2.1⟩
  have q0 : A.add .i64 n m = n + m := by
    subst hA
    have := hm.1
    exact wrap_id (by omega) (by omega)
  rw [q0, ← hl] at hz
  have tw : Twice l n m day x y z := by
    rw [hy, hz]
    subst hx
    exact twice e3 e4
  have hd := payS_n l (n + m) day
  rw [← hz] at hd
  obtain ⟨hd1, hd2, hd3⟩ := hd
  have u3 : z.2.1.n ≤ 9223372036854775807 := by omega
  obtain ⟨tf, tg, t1, t2, t3, t4, t5, ts⟩ := tw
  clear hx hz hl hc1 hc2 hb1 hb2
  cbv
  repeat' (first | (refine And.intro (fun _ => ?_) (fun _ => ?_) <;> cbv) | (refine call_c hR (live_ok) ?_; intro _ _; cbv) | (refine And.intro ?_ ?_; rotate_left; cbv) | (intro (_ : Bool) _; cbv))
  all_goals first
    | (rename_i hq; subst hv; first | exact Le.vb hq | exact Le.bb hq.symm | exact Le.bb hq | (rw [hq]; first | exact Le.vb rfl | exact Le.bb rfl))
    | (exfalso; subst hA; simp [Ar.std] at *; omega)
    | skip
  rename_i e5 e6
  have e5 : y.2.2 = 0 := by subst hA; simpa [Ar.std] using e5
  have e6 : z.2.2 = 0 := by subst hA; simpa [Ar.std] using e6
  have t1 := t1 e5 e6
  have t2 := t2 e5 e6
  have t3 := t3 e5 e6
  have t4 := t4 e5 e6
  have t5 := t5 e5 e6
  have ts := ts e5 e6
  refine awp_fors (fun z : Int => 1 ≤ z ∧ z ≤ 6) (fun z => (6 - z).toNat) (fun z => [(16, di z)]) 1 ⟨by omega, by omega⟩ (by cbv) (sim_eq rfl) ?_
  rintro k ⟨hk1, hk2⟩
  cbv
  refine And.intro (fun e => ?_) (fun e => ?_) <;> cbv
  · have hlt : k ≤ 5 := by subst hA; simpa [Ar.std] using e
    refine call_c hR (of_ok (h := w3) ..) ?_
    intro a ha
    cbv
    refine call_c hR (of_ok (h := v3) ..) ?_
    intro b hb
    cbv
    refine call_c hR (of_ok (h := u3) ..) ?_
    intro c hc
    cbv
    have hq : A.add .i64 a b = c := by
      subst hA
      have ha : a = ofS x.2.1 k := ha
      have hb : b = ofS y.2.1 k := hb
      have hc : c = ofS z.2.1 k := hc
      have h4 : k = 1 ∨ k = 2 ∨ k = 3 ∨ k = 4 ∨ k = 5 := by omega
      rw [ha, hb, hc]
      rcases h4 with rfl | rfl | rfl | rfl | rfl
      · exact t1
      · exact t2
      · exact t3
      · exact t4
      · exact t5
    refine And.intro (fun e2 => ?_) (fun _ => ?_) <;> cbv
    · exfalso
      have e2 : A.ne (A.add .i64 a b) c = true := e2
      rw [hq] at e2; subst hA; simp [Ar.std] at e2
    have q1 : A.add .i64 k 1 = k + 1 := by subst hA; exact wrap_id (by omega) (by omega)
    exact loop_nx (A.add .i64 k 1) (by rw [q1]; omega) (by rw [q1]; omega) rfl
  refine call_c hR (same_ok (h1 := v1) (h2 := v2) ..) ?_
  intro u hu
  have hu : u = sameR y.1 z.1 := hu
  have hu : u = true := by rw [hu, ts]; exact same_refl _
  cbv
  repeat' (first | (refine And.intro (fun _ => ?_) (fun _ => ?_) <;> cbv) | (refine call_c hR (live_ok) ?_; intro _ _; cbv) | (refine And.intro ?_ ?_; rotate_left; cbv) | (intro (_ : Bool) _; cbv))
  all_goals first
    | (rename_i hq; subst hv; first | exact Le.vb hq | exact Le.bb hq.symm | exact Le.bb hq | (rw [hq]; first | exact Le.vb rfl | exact Le.bb rfl))
    | (exfalso; simp_all; done)
end Go.Proofs.Ytoocihhnlhehlaa
