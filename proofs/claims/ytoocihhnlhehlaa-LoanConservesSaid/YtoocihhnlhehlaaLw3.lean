/- The law LoanConserves, read: it answers true. -/
import Derived.Test.YtoocihhnlhehlaaLnl
import Derived.Test.YtoocihhnlhehlaaLnj
import Derived.Test.YtoocihhnlhehlaaLnk
import Derived.Test.YtoocihhnlhehlaaPlj
namespace Go.Proofs.Ytoocihhnlhehlaa
open Go Go.Proofs.Ytoocihhnlhehlaa.Den
set_option linter.unusedSimpArgs false
set_option linter.unusedVariables false
set_option maxRecDepth 100000
theorem owedS_n (l : Loan) (on : Int) : (owedS l on).n ≤ 4 := by
  have h : (owedS l on).n = ((owedL l on).filter fun p => !decide (p.a ≤ 0)).length := rfl
  rw [h]
  exact Nat.le_trans (List.length_filter_le _ _) (by simp [owedL])
set_option maxHeartbeats 40000000 in
theorem conserves_ok (l_id l_ac l_st l_pp l_pi l_fe l_pe l_ch l_pv l_lo l_re l_t_me l_t_p l_t_ppm l_t_st l_t_ev l_t_co l_t_ba l_t_mo l_t_pp l_t_fp : Int) (l_t_cal l_t_cur : ByteArray) (l_d_n : Nat) (l_d_no l_d_day l_d_pr l_d_it : Nat → Int) (l_c_n : Nat) (l_c_day l_c_am l_c_old_me l_c_old_p l_c_old_ppm l_c_old_st l_c_old_ev l_c_old_co l_c_old_ba l_c_old_mo l_c_old_pp l_c_old_fp : Nat → Int) (l_c_old_cal l_c_old_cur : Nat → ByteArray) (n day : Int) : Con Try.prog 5 [.agg [.v (.int .i64 (l_id)), .v (.int .i64 (l_ac)), .v (.int .i64 (l_st)), .v (.int .i64 (l_pp)), .v (.int .i64 (l_pi)), .v (.int .i64 (l_fe)), .v (.int .i64 (l_pe)), .v (.int .i64 (l_ch)), .v (.int .i64 (l_pv)), .v (.int .i64 (l_lo)), .v (.int .i64 (l_re)), .v (.int .i64 (l_t_me)), .v (.int .i64 (l_t_p)), .v (.int .i64 (l_t_ppm)), .v (.int .i64 (l_t_st)), .v (.int .i64 (l_t_ev)), .v (.int .i64 (l_t_co)), .v (.int .i64 (l_t_ba)), .v (.int .i64 (l_t_mo)), .v (.int .i64 (l_t_pp)), .v (.int .i64 (l_t_fp)), .v (.string (l_t_cal)), .v (.string (l_t_cur)), .sl 4 l_d_n (fun j => [.int .i64 (l_d_no j), .int .i64 (l_d_day j), .int .i64 (l_d_pr j), .int .i64 (l_d_it j)]), .sl 14 l_c_n (fun j => [.int .i64 (l_c_day j), .int .i64 (l_c_am j), .int .i64 (l_c_old_me j), .int .i64 (l_c_old_p j), .int .i64 (l_c_old_ppm j), .int .i64 (l_c_old_st j), .int .i64 (l_c_old_ev j), .int .i64 (l_c_old_co j), .int .i64 (l_c_old_ba j), .int .i64 (l_c_old_mo j), .int .i64 (l_c_old_pp j), .int .i64 (l_c_old_fp j), .string (l_c_old_cal j), .string (l_c_old_cur j)])], di n, di day] db true := by
  refine Con_of mixed tabOk Try.func5 (by decide) rfl rfl rfl (by decide) ?_; intro A R v' hA hR hv
  cbv
  refine call_c hR (great_ok ..) ?_
  intro g hg
  cbv
  refine And.intro (fun e => ?_) (fun e => ?_) <;> cbv
  · subst hv
    first | exact Le.vb rfl | exact Le.bb rfl
  have hn : l_d_n ≤ 300 := by
    rw [hg] at e
    simp only [greatR, Bool.or_eq_false_iff, decide_eq_false_iff_not] at e
    omega
  have hcn : l_c_n ≤ 100 := by
    rw [hg] at e
    simp only [greatR, Bool.or_eq_false_iff, decide_eq_false_iff_not] at e
    omega
  refine call_c hR (pay_ok (h := by omega) (h2 := by omega) ..) ?_
  intro x hx
  have hb := payS_n ⟨l_id, l_ac, l_st, l_pp, l_pi, l_fe, l_pe, l_ch, l_pv, l_lo, l_re, ⟨l_t_me, l_t_p, l_t_ppm, l_t_st, l_t_ev, l_t_co, l_t_ba, l_t_mo, l_t_pp, l_t_fp, l_t_cal, l_t_cur⟩, ⟨l_d_n, fun j => ⟨l_d_no j, l_d_day j, l_d_pr j, l_d_it j⟩⟩, ⟨l_c_n, fun j => ⟨l_c_day j, l_c_am j, ⟨l_c_old_me j, l_c_old_p j, l_c_old_ppm j, l_c_old_st j, l_c_old_ev j, l_c_old_co j, l_c_old_ba j, l_c_old_mo j, l_c_old_pp j, l_c_old_fp j, l_c_old_cal j, l_c_old_cur j⟩⟩⟩⟩ n day
  rw [← hx] at hb
  obtain ⟨hb1, hb2, hb3⟩ := hb
  have hb3 : x.2.1.n ≤ 9223372036854775807 := Nat.le_trans hb3 (by omega)
  cbv
  refine And.intro (fun e => ?_) (fun e => ?_) <;> cbv
  · have e : x.2.2 ≠ 0 := by subst hA; simpa [Ar.std] using e
    have h0 : x.2.1.n = 0 := by rw [hx] at e ⊢; exact payS_err e
    refine And.intro (fun e => ?_) (fun e => ?_) <;> cbv
    · refine call_c hR live_ok ?_
      rintro _ rfl
      cbv
      subst hv
      first | exact Le.vb rfl | exact Le.bb rfl
    · exfalso; subst hA; simp [Ar.std, h0] at e
  have e : x.2.2 = 0 := by subst hA; simpa [Ar.std] using e
  have hcons : Conserved ⟨l_id, l_ac, l_st, l_pp, l_pi, l_fe, l_pe, l_ch, l_pv, l_lo, l_re, ⟨l_t_me, l_t_p, l_t_ppm, l_t_st, l_t_ev, l_t_co, l_t_ba, l_t_mo, l_t_pp, l_t_fp, l_t_cal, l_t_cur⟩, ⟨l_d_n, fun j => ⟨l_d_no j, l_d_day j, l_d_pr j, l_d_it j⟩⟩, ⟨l_c_n, fun j => ⟨l_c_day j, l_c_am j, ⟨l_c_old_me j, l_c_old_p j, l_c_old_ppm j, l_c_old_st j, l_c_old_ev j, l_c_old_co j, l_c_old_ba j, l_c_old_mo j, l_c_old_pp j, l_c_old_fp j, l_c_old_cal j, l_c_old_cur j⟩⟩⟩⟩ n day x := by rw [hx] at e ⊢; exact conserved e
  have hxd : x.1.d.n ≤ 300 := Nat.le_trans hb1 hn
  clear hb1 hb2 hx hg
  obtain ⟨l, hl⟩ : ∃ l : Loan, l = ⟨l_id, l_ac, l_st, l_pp, l_pi, l_fe, l_pe, l_ch, l_pv, l_lo, l_re, ⟨l_t_me, l_t_p, l_t_ppm, l_t_st, l_t_ev, l_t_co, l_t_ba, l_t_mo, l_t_pp, l_t_fp, l_t_cal, l_t_cur⟩, ⟨l_d_n, fun j => ⟨l_d_no j, l_d_day j, l_d_pr j, l_d_it j⟩⟩, ⟨l_c_n, fun j => ⟨l_c_day j, l_c_am j, ⟨l_c_old_me j, l_c_old_p j, l_c_old_ppm j, l_c_old_st j, l_c_old_ev j, l_c_old_co j, l_c_old_ba j, l_c_old_mo j, l_c_old_pp j, l_c_old_fp j, l_c_old_cal j, l_c_old_cur j⟩⟩⟩⟩ := ⟨_, rfl⟩
  rw [← hl] at hcons
  refine awp_fors (fun z : Int × Int => 0 ≤ z.2 ∧ z.2 ≤ x.2.1.n ∧ z.1 = sumTo (fun j => (x.2.1.at' j).a) z.2.toNat) (fun z => (x.2.1.n - z.2).toNat) (fun z => [(10, di z.1), (11, di z.2)]) (0, 0) ⟨by omega, by dsimp only; omega, rfl⟩ (by cbv) (sim_eq rfl) ?_
  rintro ⟨s, i⟩ ⟨hi0, hi, hs⟩
  dsimp only at hi0 hi hs
  cbv
  refine And.intro (fun e => ?_) (fun e => ?_) <;> cbv
  · have hlt : i < x.2.1.n := by subst hA; simpa [Ar.std] using e
    obtain ⟨g1, g2, g3, g4⟩ := hcons.parts i.toNat (by omega)
    have i1 : A.inb i x.2.1.n := by subst hA; exact ⟨hi0, hlt⟩
    have n1 : A.nat i = i.toNat := by subst hA; rfl
    have n2 : 0 < i → A.nat (A.sub .i64 i 1) = i.toNat - 1 := by
      intro h0; subst hA
      show (IntKind.i64.wrap (i - 1)).toNat = _
      rw [wrap_id (by omega) (by omega)]; omega
    have i2 : 0 < i → A.inb (A.sub .i64 i 1) x.2.1.n := by
      intro h0; subst hA
      show 0 ≤ IntKind.i64.wrap (i - 1) ∧ IntKind.i64.wrap (i - 1) < x.2.1.n
      rw [wrap_id (by omega) (by omega)]; omega
    have q1 : A.add .i64 i 1 = i + 1 := by subst hA; exact wrap_id (by omega) (by omega)
    have q2 : A.add .i64 s (x.2.1.at' (A.nat i)).a = sumTo (fun j => (x.2.1.at' j).a) (i + 1).toNat := by
      rw [n1, show (i + 1).toNat = i.toNat + 1 by omega, hs]; subst hA; rfl
    repeat' (first | (refine And.intro (fun _ => ?_) (fun _ => ?_) <;> cbv) | (refine And.intro ?_ ?_; rotate_left; cbv) | (intro (_ : Bool) _; cbv))
    all_goals clear hcons
    all_goals first
      | exact i1
      | (refine i2 ?_; subst hA; simp [Ar.std] at *; omega)
      | exact loop_nx (A.add .i64 s (x.2.1.at' (A.nat i)).a, A.add .i64 i 1) (by dsimp only; rw [q1, q2]; exact ⟨by omega, by omega, rfl⟩) (by dsimp only; rw [q1]; omega) rfl
      | (exfalso; have h0 : 0 < i := by subst hA; simp [Ar.std] at *; omega
         have := g4 (by omega); have := n2 h0; subst hA; simp_all [Ar.std]; omega)
      | (exfalso; subst hA; simp_all [Ar.std]; omega)
  have hi9 : (x.2.1.n : Int) ≤ i := by subst hA; simpa [Ar.std] using e
  have hi : i = x.2.1.n := Int.le_antisymm hi hi9
  have hs : s = n := by rw [hs, hi]; exact hcons.sum
  clear e
  refine call_c hR (owed_ok (h := by omega) ..) ?_
  intro o1 ho1
  have hn1 : o1.n ≤ 4 := by rw [ho1]; exact owedS_n _ _
  rw [← hl] at ho1
  have w1 : x.1.d.n * 32 ≤ 140737488355328 := by omega
  have w2 : o1.n ≤ 9223372036854775807 := by omega
  cbv
  refine call_c hR (owed_ok (h := w1) ..) ?_
  intro o2 ho2
  have hn2 : o2.n ≤ 4 := by rw [ho2]; exact owedS_n _ _
  have ho2 : o2 = owedS x.1 day := ho2
  have w3 : o2.n ≤ 9223372036854775807 := by omega
  have c1 := hcons.o1
  have c2 := hcons.o2
  have c3 := hcons.o3
  have c4 := hcons.o4
  have c5 := hcons.o5
  rw [← ho1, ← ho2] at c1 c2 c3 c4
  rw [← ho2] at c5
  have c6 := hcons.out
  have c7 := hcons.chk
  have c8 := hcons.id
  have c9 := hcons.ch
  have c10 := hcons.d
  clear hcons
  cbv
  refine awp_fors (fun z : Int => 1 ≤ z ∧ z ≤ 5) (fun z => (5 - z).toNat) (fun z => [(14, di z)]) 1 ⟨by omega, by omega⟩ (by cbv) (sim_eq rfl) ?_
  rintro k ⟨hk1, hk2⟩
  cbv
  refine And.intro (fun e => ?_) (fun e => ?_) <;> cbv
  · have hlt : k ≤ 4 := by subst hA; simpa [Ar.std] using e
    refine call_c hR (of_ok (h := w2) ..) ?_
    intro a ha
    cbv
    refine call_c hR (of_ok (h := hb3) ..) ?_
    intro b hb
    cbv
    refine call_c hR (of_ok (h := w3) ..) ?_
    intro c hc
    cbv
    have hq : A.sub .i64 a b = c := by
      subst hA
      have ha : a = ofS o1 k := ha
      have hb : b = ofS x.2.1 k := hb
      have hc : c = ofS o2 k := hc
      have h4 : k = 1 ∨ k = 2 ∨ k = 3 ∨ k = 4 := by omega
      rw [ha, hb, hc]
      rcases h4 with rfl | rfl | rfl | rfl
      · exact c1
      · exact c2
      · exact c3
      · exact c4
    refine And.intro (fun e2 => ?_) (fun _ => ?_) <;> cbv
    · exfalso
      have e2 : A.ne (A.sub .i64 a b) c = true := e2
      rw [hq] at e2; subst hA; simp [Ar.std] at e2
    have q1 : A.add .i64 k 1 = k + 1 := by subst hA; exact wrap_id (by omega) (by omega)
    exact loop_nx (A.add .i64 k 1) (by rw [q1]; omega) (by rw [q1]; omega) rfl
  clear e hk1 hk2 hi hi0 hi9
  refine call_c hR (of_ok (h := hb3) ..) ?_
  intro r5 hr5
  have hr5 : r5 = ofS x.2.1 5 := hr5
  cbv
  have w4 : l_d_n ≤ 9223372036854775807 := by omega
  have w5 : x.1.d.n ≤ 9223372036854775807 := by omega
  have w6 : x.2.1.n ≤ 9223372036854775807 := hb3
  repeat' (first | (refine And.intro (fun _ => ?_) (fun _ => ?_) <;> cbv) | (refine And.intro ?_ ?_; rotate_left; cbv) | (intro (_ : Bool) _; cbv))
  all_goals first
    | (exfalso; have := c5 (by rw [← hr5]; subst hA; simp [Ar.std] at *; omega); subst hA; simp [Ar.std] at *; omega)
    | (exfalso; subst hs hA; rename_i e6; have e6 : (s == s) = !true := e6; simp at e6; done)
    | skip
  all_goals
    refine call_c hR (out_ok (h := w4) ..) ?_
    intro u1 hu1
    rw [← hl] at hu1
    cbv
    refine call_c hR (out_ok (h := w5) ..) ?_
    intro u2 hu2
    have hu2 : u2 = outS x.1 := hu2
    cbv
    refine call_c hR (of_ok (h := w6) ..) ?_
    intro u3 hu3
    have hu3 : u3 = ofS x.2.1 4 := hu3
    cbv
    have hq1 : A.sub .i64 u1 u2 = u3 := by subst hA; rw [hu1, hu2, hu3]; exact c6
    refine And.intro (fun e6 => ?_) (fun e6 => ?_) <;> cbv
    all_goals first
      | (exfalso; have e7 : A.eq (A.sub .i64 u1 u2) u3 = !true := e6; rw [hq1] at e7; subst hA; simp [Ar.std] at e7; done)
      | skip
    refine call_c hR (check_ok (h := w5) ..) ?_
    intro u4 hu4
    have hu4 : u4 = 0 := hu4.trans c7
    cbv
    refine And.intro (fun e6 => ?_) (fun e6 => ?_) <;> cbv
    all_goals first
      | (exfalso; have e7 : A.eq u4 0 = !true := e6; rw [hu4] at e7; subst hA; simp [Ar.std] at e7; done)
      | skip
    refine And.intro (fun e6 => ?_) (fun e6 => ?_) <;> cbv
    all_goals first
      | (exfalso; have e7 : A.eq x.1.id l_id = !true := e6; rw [c8, hl] at e7; subst hA; simp [Ar.std] at e7; done)
      | skip
    refine And.intro (fun e6 => ?_) (fun e6 => ?_) <;> cbv
    all_goals first
      | (exfalso; have e7 : A.eq x.1.ch l_ch = !true := e6; rw [c9, hl] at e7; subst hA; simp [Ar.std] at e7; done)
      | skip
    refine call_c hR (sameDues_ok (h := w5) ..) ?_
    intro u5 hu5
    have hu5 : u5 = sameDuesR x.1.d l.d := by rw [hl]; exact hu5
    have hu5 : u5 = true := by rw [hu5, c10]; exact sameDues_refl _
    cbv
    refine And.intro (fun e6 => ?_) (fun e6 => ?_) <;> cbv
    all_goals first
      | (exfalso; rw [hu5] at e6; simp at e6; done)
      | skip
    refine call_c hR live_ok ?_
    rintro _ rfl
    cbv
    subst hv
    first | exact Le.vb rfl | exact Le.bb rfl
end Go.Proofs.Ytoocihhnlhehlaa
