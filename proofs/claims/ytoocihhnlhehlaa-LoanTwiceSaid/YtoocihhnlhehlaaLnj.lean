/- Loans, the reference's side (4): Apply, Owed, Same. -/
import Derived.Test.YtoocihhnlhehlaaLni
import Derived.Test.YtoocihhnlhehlaaSpd
namespace Go.Proofs.Ytoocihhnlhehlaa
open Go Go.Proofs.Ytoocihhnlhehlaa.Den
set_option linter.unusedSimpArgs false
set_option linter.unusedVariables false
set_option maxRecDepth 100000
theorem applyR_1 {l : Loan} {p : Part} (h : (p.k == 1) = true) : applyR l p = { l with fe := w64 (l.fe - p.a) } := by simp [applyR, h]
theorem applyR_2 {l : Loan} {p : Part} (h1 : (p.k == 1) = false) (h : (p.k == 2) = true) : applyR l p = { l with pe := w64 (l.pe - p.a) } := by simp [applyR, h1, h]
theorem applyR_3 {l : Loan} {p : Part} (h1 : (p.k == 1) = false) (h2 : (p.k == 2) = false) (h : (p.k == 3) = true) : applyR l p = { l with pi := w64 (l.pi + p.a) } := by simp [applyR, h1, h2, h]
theorem applyR_4 {l : Loan} {p : Part} (h1 : (p.k == 1) = false) (h2 : (p.k == 2) = false) (h3 : (p.k == 3) = false) (h : (p.k == 4) = true) : applyR l p = { l with pp := w64 (l.pp + p.a) } := by simp [applyR, h1, h2, h3, h]
theorem applyR_5 {l : Loan} {p : Part} (h1 : (p.k == 1) = false) (h2 : (p.k == 2) = false) (h3 : (p.k == 3) = false) (h : (p.k == 4) = false) : applyR l p = l := by simp [applyR, h1, h2, h3, h]
theorem apply_ok (l_id l_ac l_st l_pp l_pi l_fe l_pe l_ch l_pv l_lo l_re l_t_me l_t_p l_t_ppm l_t_st l_t_ev l_t_co l_t_ba l_t_mo l_t_pp l_t_fp : Int) (l_t_cal l_t_cur : ByteArray) (l_d_n : Nat) (l_d_no l_d_day l_d_pr l_d_it : Nat → Int) (l_c_n : Nat) (l_c_day l_c_am l_c_old_me l_c_old_p l_c_old_ppm l_c_old_st l_c_old_ev l_c_old_co l_c_old_ba l_c_old_mo l_c_old_pp l_c_old_fp : Nat → Int) (l_c_old_cal l_c_old_cur : Nat → ByteArray) (p_k p_a : Int) : Con Try.prog 59 [.agg [.v (.int .i64 (l_id)), .v (.int .i64 (l_ac)), .v (.int .i64 (l_st)), .v (.int .i64 (l_pp)), .v (.int .i64 (l_pi)), .v (.int .i64 (l_fe)), .v (.int .i64 (l_pe)), .v (.int .i64 (l_ch)), .v (.int .i64 (l_pv)), .v (.int .i64 (l_lo)), .v (.int .i64 (l_re)), .v (.int .i64 (l_t_me)), .v (.int .i64 (l_t_p)), .v (.int .i64 (l_t_ppm)), .v (.int .i64 (l_t_st)), .v (.int .i64 (l_t_ev)), .v (.int .i64 (l_t_co)), .v (.int .i64 (l_t_ba)), .v (.int .i64 (l_t_mo)), .v (.int .i64 (l_t_pp)), .v (.int .i64 (l_t_fp)), .v (.string (l_t_cal)), .v (.string (l_t_cur)), .sl 4 l_d_n (fun j => [.int .i64 (l_d_no j), .int .i64 (l_d_day j), .int .i64 (l_d_pr j), .int .i64 (l_d_it j)]), .sl 14 l_c_n (fun j => [.int .i64 (l_c_day j), .int .i64 (l_c_am j), .int .i64 (l_c_old_me j), .int .i64 (l_c_old_p j), .int .i64 (l_c_old_ppm j), .int .i64 (l_c_old_st j), .int .i64 (l_c_old_ev j), .int .i64 (l_c_old_co j), .int .i64 (l_c_old_ba j), .int .i64 (l_c_old_mo j), .int .i64 (l_c_old_pp j), .int .i64 (l_c_old_fp j), .string (l_c_old_cal j), .string (l_c_old_cur j)])], .agg [.v (.int .i64 (p_k)), .v (.int .i64 (p_a))]] (fun x : Loan => .agg [.v (.int .i64 (x.id)), .v (.int .i64 (x.ac)), .v (.int .i64 (x.st)), .v (.int .i64 (x.pp)), .v (.int .i64 (x.pi)), .v (.int .i64 (x.fe)), .v (.int .i64 (x.pe)), .v (.int .i64 (x.ch)), .v (.int .i64 (x.pv)), .v (.int .i64 (x.lo)), .v (.int .i64 (x.re)), .v (.int .i64 (x.t.me)), .v (.int .i64 (x.t.p)), .v (.int .i64 (x.t.ppm)), .v (.int .i64 (x.t.st)), .v (.int .i64 (x.t.ev)), .v (.int .i64 (x.t.co)), .v (.int .i64 (x.t.ba)), .v (.int .i64 (x.t.mo)), .v (.int .i64 (x.t.pp)), .v (.int .i64 (x.t.fp)), .v (.string (x.t.cal)), .v (.string (x.t.cur)), .sl 4 x.d.n (fun j => [.int .i64 ((x.d.at' j).no), .int .i64 ((x.d.at' j).day), .int .i64 ((x.d.at' j).pr), .int .i64 ((x.d.at' j).it)]), .sl 14 x.c.n (fun j => [.int .i64 ((x.c.at' j).day), .int .i64 ((x.c.at' j).am), .int .i64 ((x.c.at' j).old.me), .int .i64 ((x.c.at' j).old.p), .int .i64 ((x.c.at' j).old.ppm), .int .i64 ((x.c.at' j).old.st), .int .i64 ((x.c.at' j).old.ev), .int .i64 ((x.c.at' j).old.co), .int .i64 ((x.c.at' j).old.ba), .int .i64 ((x.c.at' j).old.mo), .int .i64 ((x.c.at' j).old.pp), .int .i64 ((x.c.at' j).old.fp), .string ((x.c.at' j).old.cal), .string ((x.c.at' j).old.cur)])]) (applyR ⟨l_id, l_ac, l_st, l_pp, l_pi, l_fe, l_pe, l_ch, l_pv, l_lo, l_re, ⟨l_t_me, l_t_p, l_t_ppm, l_t_st, l_t_ev, l_t_co, l_t_ba, l_t_mo, l_t_pp, l_t_fp, l_t_cal, l_t_cur⟩, ⟨l_d_n, fun j => ⟨l_d_no j, l_d_day j, l_d_pr j, l_d_it j⟩⟩, ⟨l_c_n, fun j => ⟨l_c_day j, l_c_am j, ⟨l_c_old_me j, l_c_old_p j, l_c_old_ppm j, l_c_old_st j, l_c_old_ev j, l_c_old_co j, l_c_old_ba j, l_c_old_mo j, l_c_old_pp j, l_c_old_fp j, l_c_old_cal j, l_c_old_cur j⟩⟩⟩⟩ ⟨p_k, p_a⟩) := by
  refine Con_of mixed tabOk Try.func59 (by decide) rfl rfl rfl (by decide) ?_; intro A R v' hA hR hv
  cbv
  refine And.intro (fun q1 => ?_) (fun q1 => ?_) <;> cbv
  · subst hA hv; rw [applyR_1 (p := ⟨p_k, p_a⟩) q1]; exact Le.agg (CLes.rfl_ _)
  refine And.intro (fun q2 => ?_) (fun q2 => ?_) <;> cbv
  · subst hA hv; rw [applyR_2 (p := ⟨p_k, p_a⟩) q1 q2]; exact Le.agg (CLes.rfl_ _)
  refine And.intro (fun q3 => ?_) (fun q3 => ?_) <;> cbv
  · subst hA hv; rw [applyR_3 (p := ⟨p_k, p_a⟩) q1 q2 q3]; exact Le.agg (CLes.rfl_ _)
  refine And.intro (fun q4 => ?_) (fun q4 => ?_) <;> cbv
  · subst hA hv; rw [applyR_4 (p := ⟨p_k, p_a⟩) q1 q2 q3 q4]; exact Le.agg (CLes.rfl_ _)
  · subst hA hv; rw [applyR_5 (p := ⟨p_k, p_a⟩) q1 q2 q3 q4]; exact Le.agg (CLes.rfl_ _)
theorem rows_of (l : List Part) : (List.range (Sl.of (⟨0, 0⟩ : Part) l).n).map (fun m => [vi ((Sl.of ⟨0, 0⟩ l).at' m).k, vi ((Sl.of ⟨0, 0⟩ l).at' m).a]) = l.map fun p => [vi p.k, vi p.a] := by
  apply List.ext_getElem?
  intro i
  by_cases h : i < l.length
  · simp [Sl.of, h]
  · simp [Sl.of, h]
set_option maxHeartbeats 4000000 in
theorem owedRef_ok (l_id l_ac l_st l_pp l_pi l_fe l_pe l_ch l_pv l_lo l_re l_t_me l_t_p l_t_ppm l_t_st l_t_ev l_t_co l_t_ba l_t_mo l_t_pp l_t_fp : Int) (l_t_cal l_t_cur : ByteArray) (l_d_n : Nat) (l_d_no l_d_day l_d_pr l_d_it : Nat → Int) (l_c_n : Nat) (l_c_day l_c_am l_c_old_me l_c_old_p l_c_old_ppm l_c_old_st l_c_old_ev l_c_old_co l_c_old_ba l_c_old_mo l_c_old_pp l_c_old_fp : Nat → Int) (l_c_old_cal l_c_old_cur : Nat → ByteArray) (on : Int) (h : l_d_n ≤ 9223372036854775807) : Con Try.prog 18 [.agg [.v (.int .i64 (l_id)), .v (.int .i64 (l_ac)), .v (.int .i64 (l_st)), .v (.int .i64 (l_pp)), .v (.int .i64 (l_pi)), .v (.int .i64 (l_fe)), .v (.int .i64 (l_pe)), .v (.int .i64 (l_ch)), .v (.int .i64 (l_pv)), .v (.int .i64 (l_lo)), .v (.int .i64 (l_re)), .v (.int .i64 (l_t_me)), .v (.int .i64 (l_t_p)), .v (.int .i64 (l_t_ppm)), .v (.int .i64 (l_t_st)), .v (.int .i64 (l_t_ev)), .v (.int .i64 (l_t_co)), .v (.int .i64 (l_t_ba)), .v (.int .i64 (l_t_mo)), .v (.int .i64 (l_t_pp)), .v (.int .i64 (l_t_fp)), .v (.string (l_t_cal)), .v (.string (l_t_cur)), .sl 4 l_d_n (fun j => [.int .i64 (l_d_no j), .int .i64 (l_d_day j), .int .i64 (l_d_pr j), .int .i64 (l_d_it j)]), .sl 14 l_c_n (fun j => [.int .i64 (l_c_day j), .int .i64 (l_c_am j), .int .i64 (l_c_old_me j), .int .i64 (l_c_old_p j), .int .i64 (l_c_old_ppm j), .int .i64 (l_c_old_st j), .int .i64 (l_c_old_ev j), .int .i64 (l_c_old_co j), .int .i64 (l_c_old_ba j), .int .i64 (l_c_old_mo j), .int .i64 (l_c_old_pp j), .int .i64 (l_c_old_fp j), .string (l_c_old_cal j), .string (l_c_old_cur j)])], di on] (fun x : Sl Part => .c (.sl 2 x.n fun j => [.int .i64 ((x.at' j).k), .int .i64 ((x.at' j).a)])) (owedR ⟨l_id, l_ac, l_st, l_pp, l_pi, l_fe, l_pe, l_ch, l_pv, l_lo, l_re, ⟨l_t_me, l_t_p, l_t_ppm, l_t_st, l_t_ev, l_t_co, l_t_ba, l_t_mo, l_t_pp, l_t_fp, l_t_cal, l_t_cur⟩, ⟨l_d_n, fun j => ⟨l_d_no j, l_d_day j, l_d_pr j, l_d_it j⟩⟩, ⟨l_c_n, fun j => ⟨l_c_day j, l_c_am j, ⟨l_c_old_me j, l_c_old_p j, l_c_old_ppm j, l_c_old_st j, l_c_old_ev j, l_c_old_co j, l_c_old_ba j, l_c_old_mo j, l_c_old_pp j, l_c_old_fp j, l_c_old_cal j, l_c_old_cur j⟩⟩⟩⟩ on) := by
  refine Con_hd [2] mixed tabOk (inl := fun _ _ _ => none) (fun f I h => by cases h) Try.func18 (by decide) rfl rfl rfl (by decide) ?_
  intro A R v' hA hR hv
  cbv
  refine call_c hR (int_ok (h := h) ..) ?_
  intro x1 hx1
  cbv
  refine call_c hR (prin_ok (h := h) ..) ?_
  intro x2 hx2
  cbv
  obtain ⟨f, hf⟩ : ∃ f : Nat → Part, f = fun j => ([⟨1, l_fe⟩, ⟨2, l_pe⟩, ⟨3, A.sub .i64 x1 l_pi⟩, ⟨4, A.sub .i64 x2 l_pp⟩] : List Part).getD j ⟨0, 0⟩ := ⟨_, rfl⟩
  have hfl : (List.range 4).map f = [⟨1, l_fe⟩, ⟨2, l_pe⟩, ⟨3, A.sub .i64 x1 l_pi⟩, ⟨4, A.sub .i64 x2 l_pp⟩] := by subst hf; rfl
  have hsp : v' = Sl.of ⟨0, 0⟩ (kept (fun p => decide (p.a > 0)) f 4) := by
    rw [hv]
    show Sl.of _ (List.filter _ _) = Sl.of _ (List.filter _ ((List.range 4).map f))
    rw [hfl]
    subst hA hx1 hx2
    rfl
  clear hv
  refine hard_z [5, 6] 2 (fun _ : Unit => True) (fun _ => ⟨updFr (List.replicate 49 (.c .any)) [(5, .c (.own 1)), (6, .c (.own 2))], [(2, .row 42 2 (.of 0 fun _ => [])), (1, .row 42 2 (.of 4 fun m => [vi (f m).k, vi (f m).a])), (0, .box 27 [.v (.int .i64 (l_id)), .v (.int .i64 (l_ac)), .v (.int .i64 (l_st)), .v (.int .i64 (l_pp)), .v (.int .i64 (l_pi)), .v (.int .i64 (l_fe)), .v (.int .i64 (l_pe)), .v (.int .i64 (l_ch)), .v (.int .i64 (l_pv)), .v (.int .i64 (l_lo)), .v (.int .i64 (l_re)), .v (.int .i64 (l_t_me)), .v (.int .i64 (l_t_p)), .v (.int .i64 (l_t_ppm)), .v (.int .i64 (l_t_st)), .v (.int .i64 (l_t_ev)), .v (.int .i64 (l_t_co)), .v (.int .i64 (l_t_ba)), .v (.int .i64 (l_t_mo)), .v (.int .i64 (l_t_pp)), .v (.int .i64 (l_t_fp)), .v (.string (l_t_cal)), .v (.string (l_t_cur)), .sl 4 l_d_n (fun j => [.int .i64 (l_d_no j), .int .i64 (l_d_day j), .int .i64 (l_d_pr j), .int .i64 (l_d_it j)]), .sl 14 l_c_n (fun j => [.int .i64 (l_c_day j), .int .i64 (l_c_am j), .int .i64 (l_c_old_me j), .int .i64 (l_c_old_p j), .int .i64 (l_c_old_ppm j), .int .i64 (l_c_old_st j), .int .i64 (l_c_old_ev j), .int .i64 (l_c_old_co j), .int .i64 (l_c_old_ba j), .int .i64 (l_c_old_mo j), .int .i64 (l_c_old_pp j), .int .i64 (l_c_old_fp j), .string (l_c_old_cal j), .string (l_c_old_cur j)])])], 3, []⟩) ?_ ?_
  · cbv
    exact lf_w () trivial (Weak.nilF 6 42 2 rfl) ⟨rfl, ⟨rfl, ⟨rfl, rfl, rfl⟩, rfl, ⟨rfl, rfl, by subst hf; rfl⟩, rfl, rfl, trivial⟩, rfl, rfl⟩
  rintro _ _
  cbv
  refine awp_for (fun z : Nat × Sl Part => z.1 ≤ 4 ∧ z.2 = Sl.of ⟨0, 0⟩ (kept (fun p => decide (p.a > 0)) f z.1)) (fun z => 4 - z.1) (fun z => [(6, .c (.own 2)), (7, di (A.int z.1))])
    (fun z => [(2, .row 42 2 (.of z.2.n fun m => [vi (z.2.at' m).k, vi (z.2.at' m).a])), (1, .row 42 2 (.of 4 fun m => [vi (f m).k, vi (f m).a])), (0, .box 27 [.v (.int .i64 (l_id)), .v (.int .i64 (l_ac)), .v (.int .i64 (l_st)), .v (.int .i64 (l_pp)), .v (.int .i64 (l_pi)), .v (.int .i64 (l_fe)), .v (.int .i64 (l_pe)), .v (.int .i64 (l_ch)), .v (.int .i64 (l_pv)), .v (.int .i64 (l_lo)), .v (.int .i64 (l_re)), .v (.int .i64 (l_t_me)), .v (.int .i64 (l_t_p)), .v (.int .i64 (l_t_ppm)), .v (.int .i64 (l_t_st)), .v (.int .i64 (l_t_ev)), .v (.int .i64 (l_t_co)), .v (.int .i64 (l_t_ba)), .v (.int .i64 (l_t_mo)), .v (.int .i64 (l_t_pp)), .v (.int .i64 (l_t_fp)), .v (.string (l_t_cal)), .v (.string (l_t_cur)), .sl 4 l_d_n (fun j => [.int .i64 (l_d_no j), .int .i64 (l_d_day j), .int .i64 (l_d_pr j), .int .i64 (l_d_it j)]), .sl 14 l_c_n (fun j => [.int .i64 (l_c_day j), .int .i64 (l_c_am j), .int .i64 (l_c_old_me j), .int .i64 (l_c_old_p j), .int .i64 (l_c_old_ppm j), .int .i64 (l_c_old_st j), .int .i64 (l_c_old_ev j), .int .i64 (l_c_old_co j), .int .i64 (l_c_old_ba j), .int .i64 (l_c_old_mo j), .int .i64 (l_c_old_pp j), .int .i64 (l_c_old_fp j), .string (l_c_old_cal j), .string (l_c_old_cur j)])])]) (0, ⟨0, fun _ => ⟨0, 0⟩⟩) ⟨by omega, rfl⟩ (by cbv) ?_ ?_
  · subst hA
    exact ⟨rfl, ⟨rfl, ⟨rfl, rfl, rfl⟩, rfl, ⟨rfl, rfl, rfl⟩, rfl, rfl, trivial⟩, rfl, rfl⟩
  · rintro ⟨j, o⟩ ⟨hj, ho⟩
    have hj : j ≤ 4 := hj
    have ho : o = Sl.of ⟨0, 0⟩ (kept (fun p => decide (p.a > 0)) f j) := ho
    have hol : o.n ≤ 4 := by rw [ho]; exact Nat.le_trans (kept_len _ _ _) hj
    cbv
    repeat' (first | (refine And.intro (fun _ => ?_) (fun _ => ?_) <;> cbv) | (refine And.intro ?_ ?_; rotate_left; cbv) | (intro (_ : Bool) _; cbv))
    all_goals subst hA hR
    all_goals dsimp only [Ar.std] at *
    all_goals rcases Nat.lt_or_ge j 4 with hlt | hge
    all_goals try (exfalso; simp at *; omega)
    · have hk : kept (fun p => decide (p.a > 0)) f (j + 1) = kept (fun p => decide (p.a > 0)) f j ++ [f j] := by
        rw [kept_succ, if_pos (by simp_all)]
      refine loop_nxS (j + 1, Sl.of ⟨0, 0⟩ (kept (fun p => decide (p.a > 0)) f (j + 1))) ⟨by omega, rfl⟩ (by show 4 - (j + 1) < 4 - j; omega) ⟨?_, ⟨rfl, ⟨rfl, rfl, ?_⟩, rfl, ⟨rfl, rfl, rfl⟩, rfl, rfl, trivial⟩, rfl, rfl⟩
      · simp [forget, keepFr, updFr]
        exact (wrap_id (by omega) (by omega)).symm
      · rw [hk]
        simp only [ho, Rx.list, rows_of, Int.toNat_natCast, List.map_append, List.map_cons, List.map_nil]
    · exact ⟨by show o.n + 1 ≤ _; omega, by show (o.n + 1) * 16 ≤ _; omega⟩
    · exact ⟨by omega, by omega⟩
    · have hk : kept (fun p => decide (p.a > 0)) f (j + 1) = kept (fun p => decide (p.a > 0)) f j := by
        rw [kept_succ, if_neg (by simp_all)]
      refine loop_nxS (j + 1, o) ⟨by omega, by rw [hk]; exact ho⟩ (by show 4 - (j + 1) < 4 - j; omega) ⟨?_, ⟨rfl, ⟨rfl, rfl, rfl⟩, rfl, ⟨rfl, rfl, rfl⟩, rfl, rfl, trivial⟩, rfl, rfl⟩
      simp [forget, keepFr, updFr]
      exact (wrap_id (by omega) (by omega)).symm
    · exact ⟨by omega, by omega⟩
    · have : j = 4 := by omega
      subst this
      rw [hsp, ← ho]
      exact Le.row_sl rfl (fun _ _ => rfl)
set_option maxHeartbeats 4000000 in
theorem same_ok (a_id a_ac a_st a_pp a_pi a_fe a_pe a_ch a_pv a_lo a_re a_t_me a_t_p a_t_ppm a_t_st a_t_ev a_t_co a_t_ba a_t_mo a_t_pp a_t_fp : Int) (a_t_cal a_t_cur : ByteArray) (a_d_n : Nat) (a_d_no a_d_day a_d_pr a_d_it : Nat → Int) (a_c_n : Nat) (a_c_day a_c_am a_c_old_me a_c_old_p a_c_old_ppm a_c_old_st a_c_old_ev a_c_old_co a_c_old_ba a_c_old_mo a_c_old_pp a_c_old_fp : Nat → Int) (a_c_old_cal a_c_old_cur : Nat → ByteArray) (b_id b_ac b_st b_pp b_pi b_fe b_pe b_ch b_pv b_lo b_re b_t_me b_t_p b_t_ppm b_t_st b_t_ev b_t_co b_t_ba b_t_mo b_t_pp b_t_fp : Int) (b_t_cal b_t_cur : ByteArray) (b_d_n : Nat) (b_d_no b_d_day b_d_pr b_d_it : Nat → Int) (b_c_n : Nat) (b_c_day b_c_am b_c_old_me b_c_old_p b_c_old_ppm b_c_old_st b_c_old_ev b_c_old_co b_c_old_ba b_c_old_mo b_c_old_pp b_c_old_fp : Nat → Int) (b_c_old_cal b_c_old_cur : Nat → ByteArray) (h1 : a_d_n ≤ 9223372036854775807) (h2 : a_c_n ≤ 9223372036854775807) : Con Try.prog 22 [.agg [.v (.int .i64 (a_id)), .v (.int .i64 (a_ac)), .v (.int .i64 (a_st)), .v (.int .i64 (a_pp)), .v (.int .i64 (a_pi)), .v (.int .i64 (a_fe)), .v (.int .i64 (a_pe)), .v (.int .i64 (a_ch)), .v (.int .i64 (a_pv)), .v (.int .i64 (a_lo)), .v (.int .i64 (a_re)), .v (.int .i64 (a_t_me)), .v (.int .i64 (a_t_p)), .v (.int .i64 (a_t_ppm)), .v (.int .i64 (a_t_st)), .v (.int .i64 (a_t_ev)), .v (.int .i64 (a_t_co)), .v (.int .i64 (a_t_ba)), .v (.int .i64 (a_t_mo)), .v (.int .i64 (a_t_pp)), .v (.int .i64 (a_t_fp)), .v (.string (a_t_cal)), .v (.string (a_t_cur)), .sl 4 a_d_n (fun j => [.int .i64 (a_d_no j), .int .i64 (a_d_day j), .int .i64 (a_d_pr j), .int .i64 (a_d_it j)]), .sl 14 a_c_n (fun j => [.int .i64 (a_c_day j), .int .i64 (a_c_am j), .int .i64 (a_c_old_me j), .int .i64 (a_c_old_p j), .int .i64 (a_c_old_ppm j), .int .i64 (a_c_old_st j), .int .i64 (a_c_old_ev j), .int .i64 (a_c_old_co j), .int .i64 (a_c_old_ba j), .int .i64 (a_c_old_mo j), .int .i64 (a_c_old_pp j), .int .i64 (a_c_old_fp j), .string (a_c_old_cal j), .string (a_c_old_cur j)])], .agg [.v (.int .i64 (b_id)), .v (.int .i64 (b_ac)), .v (.int .i64 (b_st)), .v (.int .i64 (b_pp)), .v (.int .i64 (b_pi)), .v (.int .i64 (b_fe)), .v (.int .i64 (b_pe)), .v (.int .i64 (b_ch)), .v (.int .i64 (b_pv)), .v (.int .i64 (b_lo)), .v (.int .i64 (b_re)), .v (.int .i64 (b_t_me)), .v (.int .i64 (b_t_p)), .v (.int .i64 (b_t_ppm)), .v (.int .i64 (b_t_st)), .v (.int .i64 (b_t_ev)), .v (.int .i64 (b_t_co)), .v (.int .i64 (b_t_ba)), .v (.int .i64 (b_t_mo)), .v (.int .i64 (b_t_pp)), .v (.int .i64 (b_t_fp)), .v (.string (b_t_cal)), .v (.string (b_t_cur)), .sl 4 b_d_n (fun j => [.int .i64 (b_d_no j), .int .i64 (b_d_day j), .int .i64 (b_d_pr j), .int .i64 (b_d_it j)]), .sl 14 b_c_n (fun j => [.int .i64 (b_c_day j), .int .i64 (b_c_am j), .int .i64 (b_c_old_me j), .int .i64 (b_c_old_p j), .int .i64 (b_c_old_ppm j), .int .i64 (b_c_old_st j), .int .i64 (b_c_old_ev j), .int .i64 (b_c_old_co j), .int .i64 (b_c_old_ba j), .int .i64 (b_c_old_mo j), .int .i64 (b_c_old_pp j), .int .i64 (b_c_old_fp j), .string (b_c_old_cal j), .string (b_c_old_cur j)])]] db (sameR ⟨a_id, a_ac, a_st, a_pp, a_pi, a_fe, a_pe, a_ch, a_pv, a_lo, a_re, ⟨a_t_me, a_t_p, a_t_ppm, a_t_st, a_t_ev, a_t_co, a_t_ba, a_t_mo, a_t_pp, a_t_fp, a_t_cal, a_t_cur⟩, ⟨a_d_n, fun j => ⟨a_d_no j, a_d_day j, a_d_pr j, a_d_it j⟩⟩, ⟨a_c_n, fun j => ⟨a_c_day j, a_c_am j, ⟨a_c_old_me j, a_c_old_p j, a_c_old_ppm j, a_c_old_st j, a_c_old_ev j, a_c_old_co j, a_c_old_ba j, a_c_old_mo j, a_c_old_pp j, a_c_old_fp j, a_c_old_cal j, a_c_old_cur j⟩⟩⟩⟩ ⟨b_id, b_ac, b_st, b_pp, b_pi, b_fe, b_pe, b_ch, b_pv, b_lo, b_re, ⟨b_t_me, b_t_p, b_t_ppm, b_t_st, b_t_ev, b_t_co, b_t_ba, b_t_mo, b_t_pp, b_t_fp, b_t_cal, b_t_cur⟩, ⟨b_d_n, fun j => ⟨b_d_no j, b_d_day j, b_d_pr j, b_d_it j⟩⟩, ⟨b_c_n, fun j => ⟨b_c_day j, b_c_am j, ⟨b_c_old_me j, b_c_old_p j, b_c_old_ppm j, b_c_old_st j, b_c_old_ev j, b_c_old_co j, b_c_old_ba j, b_c_old_mo j, b_c_old_pp j, b_c_old_fp j, b_c_old_cal j, b_c_old_cur j⟩⟩⟩⟩) := by
  refine Con_of mixed tabOk Try.func22 (by decide) rfl rfl rfl (by decide) ?_; intro A R v' hA hR hv
  cbv
  repeat' (first | (refine And.intro (fun _ => ?_) (fun _ => ?_) <;> cbv) | (refine call_c hR (sameDues_ok (h := h1) ..) ?_; intro _ _; cbv) | (refine call_c hR (sameChanges_ok (h := h2) ..) ?_; intro _ _; cbv) | (refine And.intro ?_ ?_; rotate_left; cbv) | (intro (_ : Bool) _; cbv))
  all_goals subst hA hR hv
  all_goals dsimp only [Ar.std] at *
  all_goals first | exact Le.vb (by simp_all [sameR, termsEq, Bool.and_assoc]) | exact Le.bb (by simp_all [sameR, termsEq, Bool.and_assoc])
end Go.Proofs.Ytoocihhnlhehlaa
