/- Loans: Owed, of the program. -/
import Derived.Test.YtoocihhnlhehlaaLnd
namespace Go.Proofs.Ytoocihhnlhehlaa
open Go Go.Proofs.Ytoocihhnlhehlaa.Den
set_option linter.unusedSimpArgs false
set_option linter.unusedVariables false
set_option maxRecDepth 100000
set_option maxHeartbeats 2000000 in
theorem owed_ok (l_id l_ac l_st l_pp l_pi l_fe l_pe l_ch l_pv l_lo l_re l_t_me l_t_p l_t_ppm l_t_st l_t_ev l_t_co l_t_ba l_t_mo l_t_pp l_t_fp : Int) (l_t_cal l_t_cur : ByteArray) (l_d_n : Nat) (l_d_no l_d_day l_d_pr l_d_it : Nat → Int) (l_c_n : Nat) (l_c_day l_c_am l_c_old_me l_c_old_p l_c_old_ppm l_c_old_st l_c_old_ev l_c_old_co l_c_old_ba l_c_old_mo l_c_old_pp l_c_old_fp : Nat → Int) (l_c_old_cal l_c_old_cur : Nat → ByteArray) (on : Int) (h : l_d_n * 32 ≤ 140737488355328) : Con Try.prog 17 [.agg [.v (.int .i64 (l_id)), .v (.int .i64 (l_ac)), .v (.int .i64 (l_st)), .v (.int .i64 (l_pp)), .v (.int .i64 (l_pi)), .v (.int .i64 (l_fe)), .v (.int .i64 (l_pe)), .v (.int .i64 (l_ch)), .v (.int .i64 (l_pv)), .v (.int .i64 (l_lo)), .v (.int .i64 (l_re)), .v (.int .i64 (l_t_me)), .v (.int .i64 (l_t_p)), .v (.int .i64 (l_t_ppm)), .v (.int .i64 (l_t_st)), .v (.int .i64 (l_t_ev)), .v (.int .i64 (l_t_co)), .v (.int .i64 (l_t_ba)), .v (.int .i64 (l_t_mo)), .v (.int .i64 (l_t_pp)), .v (.int .i64 (l_t_fp)), .v (.string (l_t_cal)), .v (.string (l_t_cur)), .sl 4 l_d_n (fun j => [.int .i64 (l_d_no j), .int .i64 (l_d_day j), .int .i64 (l_d_pr j), .int .i64 (l_d_it j)]), .sl 14 l_c_n (fun j => [.int .i64 (l_c_day j), .int .i64 (l_c_am j), .int .i64 (l_c_old_me j), .int .i64 (l_c_old_p j), .int .i64 (l_c_old_ppm j), .int .i64 (l_c_old_st j), .int .i64 (l_c_old_ev j), .int .i64 (l_c_old_co j), .int .i64 (l_c_old_ba j), .int .i64 (l_c_old_mo j), .int .i64 (l_c_old_pp j), .int .i64 (l_c_old_fp j), .string (l_c_old_cal j), .string (l_c_old_cur j)])], di on] (fun x : Sl Part => .c (.sl 2 x.n fun j => [.int .i64 ((x.at' j).k), .int .i64 ((x.at' j).a)])) (owedS ⟨l_id, l_ac, l_st, l_pp, l_pi, l_fe, l_pe, l_ch, l_pv, l_lo, l_re, ⟨l_t_me, l_t_p, l_t_ppm, l_t_st, l_t_ev, l_t_co, l_t_ba, l_t_mo, l_t_pp, l_t_fp, l_t_cal, l_t_cur⟩, ⟨l_d_n, fun j => ⟨l_d_no j, l_d_day j, l_d_pr j, l_d_it j⟩⟩, ⟨l_c_n, fun j => ⟨l_c_day j, l_c_am j, ⟨l_c_old_me j, l_c_old_p j, l_c_old_ppm j, l_c_old_st j, l_c_old_ev j, l_c_old_co j, l_c_old_ba j, l_c_old_mo j, l_c_old_pp j, l_c_old_fp j, l_c_old_cal j, l_c_old_cur j⟩⟩⟩⟩ on) := by
  refine Con_in mixed tabOk (inl := inlDel T 49 84 Try.f49)
    (inlDel_ok mixed tabOk Try.func49 (by decide) rfl (by decide) ⟨_, Try.func84, by decide, rfl⟩) Try.func17 (by decide) rfl rfl rfl (by decide) ?_
  intro A R v' hA hR hv
  cbv
  refine call_c hR (due_ok _ _ _ _ _ _ (by assumption)) ?_
  intro x hx
  cbv
  refine call_c hR (sums_ok _ _ _ _ _ (by
    rw [hx]
    have := kept_len (fun d : Due => decide (d.day ≤ on)) (fun j => (⟨l_d_no j, l_d_day j, l_d_pr j, l_d_it j⟩ : Due)) l_d_n
    exact Nat.le_trans this (by omega))) ?_
  rintro ⟨yp, yi⟩ hy
  cbv
  obtain ⟨f, hf⟩ : ∃ f : Nat → Part, f = fun j => ([⟨1, l_fe⟩, ⟨2, l_pe⟩, ⟨3, A.sub .i64 yi l_pi⟩, ⟨4, A.sub .i64 yp l_pp⟩] : List Part).getD j ⟨0, 0⟩ := ⟨_, rfl⟩
  have hfl : (List.range 4).map f = [⟨1, l_fe⟩, ⟨2, l_pe⟩, ⟨3, A.sub .i64 yi l_pi⟩, ⟨4, A.sub .i64 yp l_pp⟩] := by subst hf; rfl
  have hj4 : ∀ j, j < 4 → j = 0 ∨ j = 1 ∨ j = 2 ∨ j = 3 := fun j hj => by omega
  refine call_c hR (Con.sl (n := 4) (ixPart_ok _ [] (.inl rfl) (fun _ b => decide (b ≤ 0)) (fun a b => owed1_ok a b) 4 (fun j => (f j).k) (fun j => (f j).a) (by decide)) (fun j hj => by subst hA hf; rcases hj4 j hj with rfl | rfl | rfl | rfl <;> rfl)) ?_
  intro i hi
  cbv
  have hsp : v' = Sl.of ⟨0, 0⟩ (kept (fun p => !decide (p.a ≤ 0)) f 4) := by
    rw [hv]
    show Sl.of _ (List.filter _ _) = Sl.of _ (List.filter _ ((List.range 4).map f))
    rw [hfl]
    injection hy with h1 h2
    subst hA h1 h2 hx
    rfl
  clear hv
  rcases idx_spec (fun j => decide ((f j).a ≤ 0)) 4 0 with ⟨h1, h2⟩ | ⟨k, _, hk1, h1, h2, h3⟩
  · have hi1 : i = -1 := hi.trans h1
    have hall := kept_all (fun p : Part => !decide (p.a ≤ 0)) f 4 (fun m hm => by have := h2 m (by omega) (by omega); simpa using this)
    subst hi1
    refine And.intro (fun _ => ?_) (fun e => ?_) <;> cbv
    · subst hA hR hsp
      refine Le.row_sl ?_ ?_
      · rw [hall]; simp [Rx.len, Sl.of]
      · intro j hj
        have hj : j < 4 := hj
        rw [hall, hfl]
        rcases hj4 j hj with rfl | rfl | rfl | rfl <;> rfl
    · subst hA; simp [Ar.std] at e
  · have hik : i = (k : Int) := hi.trans h1
    subst hik
    refine And.intro (fun e => ?_) (fun _ => ?_) <;> cbv
    · subst hA; simp [Ar.std] at e
    · refine awp_for (fun z : Nat × Nat × (Nat → Part) => Thin (fun p => !decide (p.a ≤ 0)) f z.2.2 4 z.1 z.2.1) (fun z => 4 - z.2.1) (fun z => [(5, di (A.int z.1)), (6, di (A.int z.2.1))])
        (fun z => [(1, .row 79 2 (.of 4 fun m => [vi (z.2.2 m).k, vi (z.2.2 m).a])), (0, .box 27 [.v (.int .i64 (l_id)), .v (.int .i64 (l_ac)), .v (.int .i64 (l_st)), .v (.int .i64 (l_pp)), .v (.int .i64 (l_pi)), .v (.int .i64 (l_fe)), .v (.int .i64 (l_pe)), .v (.int .i64 (l_ch)), .v (.int .i64 (l_pv)), .v (.int .i64 (l_lo)), .v (.int .i64 (l_re)), .v (.int .i64 (l_t_me)), .v (.int .i64 (l_t_p)), .v (.int .i64 (l_t_ppm)), .v (.int .i64 (l_t_st)), .v (.int .i64 (l_t_ev)), .v (.int .i64 (l_t_co)), .v (.int .i64 (l_t_ba)), .v (.int .i64 (l_t_mo)), .v (.int .i64 (l_t_pp)), .v (.int .i64 (l_t_fp)), .v (.string (l_t_cal)), .v (.string (l_t_cur)), .sl 4 l_d_n (fun j => [.int .i64 (l_d_no j), .int .i64 (l_d_day j), .int .i64 (l_d_pr j), .int .i64 (l_d_it j)]), .sl 14 l_c_n (fun j => [.int .i64 (l_c_day j), .int .i64 (l_c_am j), .int .i64 (l_c_old_me j), .int .i64 (l_c_old_p j), .int .i64 (l_c_old_ppm j), .int .i64 (l_c_old_st j), .int .i64 (l_c_old_ev j), .int .i64 (l_c_old_co j), .int .i64 (l_c_old_ba j), .int .i64 (l_c_old_mo j), .int .i64 (l_c_old_pp j), .int .i64 (l_c_old_fp j), .string (l_c_old_cal j), .string (l_c_old_cur j)])])]) (k, k + 1, f) (Thin.start (by omega) (by simpa using h2) (fun m hm => by have := h3 m (by omega) hm; simpa using this)) (by cbv) ?_ ?_
      · subst hA hf
        refine ⟨?_, ⟨rfl, ⟨rfl, rfl, rfl⟩, rfl, rfl, trivial⟩, rfl, rfl⟩
        simp [forget, keepFr, updFr, Ar.std, keepOf]
        exact (wrap_id (by omega) (by omega)).symm
      · rintro ⟨a, b, c⟩ ht
        cbv
        repeat' (first | (refine And.intro (fun _ => ?_) (fun _ => ?_) <;> cbv) | (refine call_c hR (owed1_ok _ _) ?_; intro _ _; cbv) | (refine And.intro ?_ ?_; rotate_left; cbv) | (intro (_ : Bool) _; cbv))
        all_goals subst hA hR hsp
        all_goals dsimp only [Ar.std] at *
        all_goals have hbt : c b = f b := ht.tail b (Nat.le_refl _)
        all_goals have hab : a < b := ht.lt
        all_goals have hbn : b ≤ 4 := ht.le
        · have hj : b < 4 := by simp_all <;> omega
          have hp : (!decide ((f b).a ≤ 0)) = true := by simp_all
          refine loop_nxS (a + 1, b + 1, fun m => if m = a then f b else c m) (ht.keep hj hp) (by simp; omega) ⟨?_, ?_, rfl, rfl⟩
          · simp [forget, keepFr, updFr]
            exact ⟨(wrap_id (by omega) (by omega)).symm, (wrap_id (by omega) (by omega)).symm⟩
          · refine ⟨rfl, ⟨rfl, rfl, ?_⟩, rfl, rfl, trivial⟩
            simp only [Int.toNat_natCast]
            rw [set_of _ _ _ _ (by omega) (by simp)]
            simp only [Rx.list]
            apply List.map_congr_left
            intro m hm
            by_cases e : m = a <;> simp [e, hbt]
        · exact ⟨by omega, by omega⟩
        · have hj : b < 4 := by simp_all <;> omega
          have hp : (!decide ((f b).a ≤ 0)) = false := by simp_all
          refine loop_nx (a, b + 1, c) (ht.drop hj hp) (by simp; omega) ?_
          simp [forget, keepFr, dropMem, updFr]
          exact wrap_id (by omega) (by omega)
        · exact ⟨by omega, by simp_all <;> omega⟩
        · have : b = 4 := by simp_all; omega
          subst this
          refine Le.sl ?_ ?_
          · simp [Sl.of, ht.len]
          · intro m hm
            simp only [Int.toNat_natCast] at hm
            have := ht.head m (by simpa using hm)
            simp [Sl.of, hm, List.getD, this]
        · simp; omega
        · exact ⟨by omega, by omega⟩
end Go.Proofs.Ytoocihhnlhehlaa
