/- Dates, the reference's side. -/
import Derived.Test.YtoocihhnlhehlaaLda
namespace Go.Proofs.Ytoocihhnlhehlaa
open Go Go.Proofs.Ytoocihhnlhehlaa.Den
set_option linter.unusedSimpArgs false
set_option linter.unusedVariables false
set_option maxRecDepth 100000
theorem rvalid_ok (n : Int) : Con Try.prog 58 [di n] db (dayB n) := by
  refine Con_of mixed tabOk Try.func58 (by decide) rfl rfl rfl (by decide) ?_; intro A R v' hA hR hv
  cbv
  repeat' (first | (refine And.intro (fun _ => ?_) (fun _ => ?_) <;> cbv) | (refine And.intro ?_ ?_; rotate_left; cbv) | (intro (_ : Bool) _; cbv))
  all_goals subst hA hR hv
  all_goals dsimp only [Ar.std] at *
  all_goals first | exact Le.vb (by simp_all [dayB] <;> omega) | exact Le.bb (by simp_all [dayB] <;> omega)
theorem rleap_ok (n : Int) : Con Try.prog 94 [di n] db (leapB n) := by
  refine Con_of mixed tabOk Try.func94 (by decide) rfl rfl rfl (by decide) ?_; intro A R v' hA hR hv
  cbv
  repeat' (first | (refine And.intro (fun _ => ?_) (fun _ => ?_) <;> cbv) | (refine And.intro ?_ ?_; rotate_left; cbv) | (intro (_ : Bool) _; cbv))
  all_goals subst hA hR hv
  all_goals dsimp only [Ar.std] at *
  all_goals first | exact Le.vb (by simp_all [leapB]) | exact Le.bb (by simp_all [leapB]) | omega
theorem rylen_ok (n : Int) : Con Try.prog 73 [di n] di (ylen n) := by
  refine Con_of mixed tabOk Try.func73 (by decide) rfl rfl rfl (by decide) ?_; intro A R v' hA hR hv
  cbv
  repeat' (first | (refine And.intro (fun _ => ?_) (fun _ => ?_) <;> cbv) | (refine call_c hR (rleap_ok _) ?_; intro _ _; cbv) | (refine And.intro ?_ ?_; rotate_left; cbv) | (intro (_ : Bool) _; cbv))
  all_goals subst hA hR hv
  all_goals exact Le.vi (by simp_all [ylen])
theorem mlen_cases (y m : Int) : mlen y m = if m = 2 then (if leapB y = true then 29 else 28) else if m = 4 ∨ m = 6 ∨ m = 9 ∨ m = 11 then 30 else if m = 1 ∨ m = 3 ∨ m = 5 ∨ m = 7 ∨ m = 8 ∨ m = 10 ∨ m = 12 then 31 else 0 := by
  unfold mlen mlen0
  cases h : leapB y
  all_goals simp
  all_goals repeat' split
  all_goals first | rfl | omega
theorem rlen_ok (y m : Int) : Con Try.prog 74 [di y, di m] di (mlen y m) := by
  rw [mlen_cases]
  refine Con_of mixed tabOk Try.func74 (by decide) rfl rfl rfl (by decide) ?_; intro A R v' hA hR hv
  cbv
  repeat' (first | (refine And.intro (fun _ => ?_) (fun _ => ?_) <;> cbv) | (refine call_c hR (rleap_ok _) ?_; intro _ _; cbv) | (refine And.intro ?_ ?_; rotate_left; cbv) | (intro (_ : Bool) _; cbv))
  all_goals subst hA hR hv
  all_goals dsimp only [Ar.std] at *
  all_goals exact Le.vi (by simp_all)
theorem rciv_ok (day : Int) : Con Try.prog 38 [di day] (fun x : Int × Int × Int => .tup [di x.1, di x.2.1, di x.2.2]) (civ day) := by
  refine Con_of mixed tabOk Try.func38 (by decide) rfl rfl rfl (by decide) ?_; intro A R v' hA hR hv
  cbv
  refine call_c hR (rvalid_ok _) ?_
  intro b hb
  cbv
  refine And.intro (fun e => ?_) (fun e => ?_) <;> cbv
  · have hd : dayB day = false := by
      subst hA; dsimp only [Ar.std] at e; rw [hb] at e; simpa using e
    rw [hv, civ_no hd]
    exact .of_eq rfl
  · have hd : dayB day = true := by
      subst hA; dsimp only [Ar.std] at e; rw [hb] at e; simpa using e
    have hd' : 0 ≤ day ∧ day ≤ 73048 := by simpa [dayB] using hd
    refine awp_for (fun z : Int × Int => 2000 ≤ z.2 ∧ z.2 ≤ 2199 ∧ z.1 = day - yb z.2 ∧ 0 ≤ z.1) (fun z => (2200 - z.2).toNat) (fun z => [(0, di z.1), (5, di z.2)]) (fun _ => []) (day, 2000) (by dsimp only; rw [yb_2000]; omega) (by cbv) (sim_eq rfl) ?_
    rintro ⟨r, y⟩ ⟨hy1, hy2, hy3, hy4⟩
    dsimp only at hy1 hy2 hy3 hy4
    have hyl := yb_succ hy1 hy2
    have hyi := ylen_in y
    have hyb : 0 ≤ yb y ∧ yb y ≤ 73048 := by unfold yb; split <;> omega
    cbv
    refine call_c hR (rylen_ok _) ?_
    intro x hx
    cbv
    refine And.intro (fun e => ?_) (fun e => ?_) <;> cbv
    · have e : x ≤ r := by subst hA; simpa [Ar.std] using e
      refine call_c hR (rylen_ok _) ?_
      intro x' hx'
      cbv
      have hy4 : y + 1 ≤ 2199 := by
        rcases Int.lt_or_le (y + 1) 2200 with h | h
        · omega
        · have := yb_mono (y := 2200) (y' := y + 1) (by omega) h (by omega)
          rw [yb_2200] at this; omega
      have q2 : A.sub .i64 r x' = r - ylen y := by subst hA; rw [hx']; exact wrap_id (by omega) (by omega)
      have q3 : A.add .i64 y 1 = y + 1 := by subst hA; exact wrap_id (by omega) (by omega)
      exact loop_nx (A.sub .i64 r x', A.add .i64 y 1) (by dsimp only; rw [q2, q3]; exact ⟨by omega, by omega, by omega, by omega⟩) (by dsimp only; rw [q3]; omega) rfl
    · have e : r < x := by subst hA; simpa [Ar.std] using e
      rw [hx] at e
      refine awp_for (fun z : Int × Int => 1 ≤ z.2 ∧ z.2 ≤ 12 ∧ z.1 = day - yb y - mb y z.2 ∧ 0 ≤ z.1) (fun z => (13 - z.2).toNat) (fun z => [(0, di z.1), (6, di z.2)]) (fun _ => []) (r, 1) (by dsimp only; rw [mb_1]; omega) (by cbv) (sim_eq rfl) ?_
      rintro ⟨r', m⟩ ⟨hm1, hm2, hm3, hm0⟩
      dsimp only at hm1 hm2 hm3 hm0
      have hm4 := mb_succ y ⟨hm1, hm2⟩
      have hm5 := mlen_pos y ⟨hm1, hm2⟩
      have hm6 := mb_le y m
      cbv
      refine call_c hR (rlen_ok _ _) ?_
      intro v hv2
      cbv
      refine And.intro (fun e => ?_) (fun e => ?_) <;> cbv
      · have e : v ≤ r' := by subst hA; simpa [Ar.std] using e
        rw [hv2] at e
        refine call_c hR (rlen_ok _ _) ?_
        intro v' hv'
        cbv
        have hm7 : m + 1 ≤ 12 := by
          rcases Int.lt_or_le m 12 with h | h
          · omega
          · have : m = 12 := by omega
            subst this
            have := mb_13 y
            rw [show (12 : Int) + 1 = 13 from rfl] at hm4
            omega
        have q2 : A.sub .i64 r' v' = r' - mlen y m := by subst hA; rw [hv']; exact wrap_id (by omega) (by omega)
        have q3 : A.add .i64 m 1 = m + 1 := by subst hA; exact wrap_id (by omega) (by omega)
        exact loop_nx (A.sub .i64 r' v', A.add .i64 m 1) (by dsimp only; rw [q2, q3]; exact ⟨by omega, by omega, by omega, by omega⟩) (by dsimp only; rw [q3]; omega) rfl
      · have e : r' < v := by subst hA; simpa [Ar.std] using e
        rw [hv2] at e
        have hc := civ_eq (day := day) (y := y) (m := m) (d := r' + 1) ⟨⟨hy1, hy2⟩, ⟨hm1, hm2⟩, ⟨by omega, by omega⟩, by omega⟩ hd
        rw [hv, hc]
        have q4 : A.add .i64 r' 1 = r' + 1 := by subst hA; exact wrap_id (by omega) (by omega)
        exact .of_eq (by show D.tup [di y, di m, di (A.add .i64 r' 1)] = _; rw [q4])
theorem rday_ok (y m d : Int) : Con Try.prog 88 [di y, di m, di d] (fun x : Int × Int => .tup [di x.1, di x.2]) (dayOf y m d) := by
  refine Con_of mixed tabOk Try.func88 (by decide) rfl rfl rfl (by decide) ?_; intro A R v' hA hR hv
  cbv
  repeat' (first | (refine And.intro (fun _ => ?_) (fun _ => ?_) <;> cbv) | (refine call_c hR (rlen_ok _ _) ?_; intro _ _; cbv) | (refine And.intro ?_ ?_; rotate_left; cbv) | (intro (_ : Bool) _; cbv))
  all_goals first
    | (rw [hv, dayOf, if_pos (by subst hA; simp [Ar.std] at *; omega)]; exact .of_eq rfl)
    | skip
  have hy : 2000 ≤ y ∧ y ≤ 2199 := by subst hA; simp [Ar.std] at *; omega
  have hd : 1 ≤ d ∧ d ≤ mlen y m := by subst hA; simp [Ar.std] at *; omega
  have hm : 1 ≤ m ∧ m ≤ 12 := by
    rcases Int.lt_or_le m 1 with h | h
    · have := mlen_no y (m := m) (.inl h); omega
    · rcases Int.lt_or_le 12 m with h' | h'
      · have := mlen_no y (m := m) (.inr h'); omega
      · exact ⟨h, h'⟩
  have hl := mlen_pos y hm
  have hyb : 0 ≤ yb y ∧ yb y ≤ 73048 := by unfold yb; split <;> omega
  have q1 : A.sub .i64 d 1 = d - 1 := by subst hA; exact wrap_id (by omega) (by omega)
  refine awp_for (fun z : Int × Int => 2000 ≤ z.2 ∧ z.2 ≤ y ∧ z.1 = yb z.2 + d - 1) (fun z => (y - z.2).toNat) (fun z => [(8, di z.1), (9, di z.2)]) (fun _ => []) (A.sub .i64 d 1, 2000) (by dsimp only; rw [q1, yb_2000]; omega) (by cbv) (sim_eq rfl) ?_
  rintro ⟨r, k⟩ ⟨hk1, hk2, hk3⟩
  dsimp only at hk1 hk2 hk3
  cbv
  refine And.intro (fun e => ?_) (fun e => ?_) <;> cbv
  · have e : k < y := by subst hA; simpa [Ar.std] using e
    have hyl := yb_succ hk1 (by omega)
    have hyi := ylen_in k
    have hyb2 : 0 ≤ yb k ∧ yb k ≤ 73048 := by unfold yb; split <;> omega
    refine call_c hR (rylen_ok _) ?_
    intro v hv2
    cbv
    have q2 : A.add .i64 r v = r + ylen k := by subst hA; rw [hv2]; exact wrap_id (by omega) (by omega)
    have q3 : A.add .i64 k 1 = k + 1 := by subst hA; exact wrap_id (by omega) (by omega)
    exact loop_nx (A.add .i64 r v, A.add .i64 k 1) (by dsimp only; rw [q2, q3]; exact ⟨by omega, by omega, by omega⟩) (by dsimp only; rw [q3]; omega) rfl
  · have e : y ≤ k := by subst hA; simpa [Ar.std] using e
    have : k = y := by omega
    subst this
    refine awp_for (fun z : Int × Int => 1 ≤ z.2 ∧ z.2 ≤ m ∧ z.1 = yb k + d - 1 + mb k z.2) (fun z => (m - z.2).toNat) (fun z => [(8, di z.1), (10, di z.2)]) (fun _ => []) (r, 1) (by dsimp only; rw [mb_1]; omega) (by cbv) (sim_eq rfl) ?_
    rintro ⟨r', j⟩ ⟨hj1, hj2, hj3⟩
    dsimp only at hj1 hj2 hj3
    cbv
    refine And.intro (fun e => ?_) (fun e => ?_) <;> cbv
    · have e : j < m := by subst hA; simpa [Ar.std] using e
      refine call_c hR (rlen_ok _ _) ?_
      intro v hv2
      cbv
      have h1 := mb_succ k (m := j) ⟨hj1, by omega⟩
      have h2 := mlen_pos k (m := j) ⟨hj1, by omega⟩
      have h3 := mb_le k j
      have q2 : A.add .i64 r' v = r' + mlen k j := by subst hA; rw [hv2]; exact wrap_id (by omega) (by omega)
      have q3 : A.add .i64 j 1 = j + 1 := by subst hA; exact wrap_id (by omega) (by omega)
      exact loop_nx (A.add .i64 r' v, A.add .i64 j 1) (by dsimp only; rw [q2, q3]; exact ⟨by omega, by omega, by omega⟩) (by dsimp only; rw [q3]; omega) rfl
    · have e : m ≤ j := by subst hA; simpa [Ar.std] using e
      have : j = m := by omega
      subst this
      rw [hv, dayOf, if_neg (by omega)]
      exact .of_eq (by rw [hj3]; show D.tup [di (yb k + d - 1 + mb k j), di 0] = _; rw [show yb k + d - 1 + mb k j = yb k + mb k j + d - 1 by omega])
theorem rweek_ok (n : Int) : Con Try.prog 113 [di n] di (weekday n) := by
  refine Con_of mixed tabOk Try.func113 (by decide) rfl rfl rfl (by decide) ?_; intro A R v' hA hR hv
  cbv
  repeat' (first | (refine And.intro (fun _ => ?_) (fun _ => ?_) <;> cbv) | (refine call_c hR (rvalid_ok _) ?_; intro _ _; cbv) | (refine And.intro ?_ ?_; rotate_left; cbv) | (intro (_ : Bool) _; cbv))
  all_goals subst hA hR hv
  all_goals dsimp only [Ar.std] at *
  · exact Le.vi (by simp_all [weekday])
  · rename_i b hb e
    have hd : dayB n = true := by simpa [hb] using e
    have hd' : 0 ≤ n ∧ n ≤ 73048 := by simpa [dayB] using hd
    refine Le.vi ?_
    simp only [weekday, hd, if_true]
    rw [wrap_id (n := n + 5) (by omega) (by omega), Int.tmod_eq_emod_of_nonneg (by omega)]
  · omega
theorem rend_ok (n : Int) : Con Try.prog 90 [di n] di (monthEnd n) := by
  refine Con_of mixed tabOk Try.func90 (by decide) rfl rfl rfl (by decide) ?_; intro A R v' hA hR hv
  cbv
  refine call_c hR (rvalid_ok _) ?_
  intro b hb
  cbv
  refine And.intro (fun e => ?_) (fun e => ?_) <;> cbv
  · subst hA hv
    exact Le.vi (by simp_all [monthEnd, Ar.std])
  · have hd : dayB n = true := by
      subst hA; dsimp only [Ar.std] at e; rw [hb] at e; simpa using e
    have hd' : 0 ≤ n ∧ n ≤ 73048 := by simpa [dayB] using hd
    have hc := civ_is hd
    refine call_c hR (rciv_ok _) ?_
    rintro ⟨y, m, d⟩ hx
    rw [← hx] at hc
    cbv
    have hl := mlen_pos y hc.hm
    have hh := hc.hd
    refine call_c hR (rlen_ok _ _) ?_
    intro v hv2
    cbv
    refine Le.vi ?_
    rw [hv, monthEnd, hd, ← hx]
    subst hA
    symm
    show IntKind.i64.wrap (IntKind.i64.wrap (n + v) - d) = n - d + mlen y m
    dsimp only at hh hl
    rw [hv2, wrap_id (n := n + mlen y m) (by omega) (by omega)]
    exact (wrap_id (by omega) (by omega)).trans (by omega)
theorem dayOf_late {y m d : Int} (h : 2199 < y) : dayOf y m d = (0, 1) := by rw [dayOf, if_pos (by omega)]
theorem raddM_ok (n k a : Int) : Con Try.prog 62 [di n, di k, di a] (fun x : Int × Int => .tup [di x.1, di x.2]) (addM n k a) := by
  refine Con_of mixed tabOk Try.func62 (by decide) rfl rfl rfl (by decide) ?_; intro A R v' hA hR hv
  cbv
  repeat' (first | (refine And.intro (fun _ => ?_) (fun _ => ?_) <;> cbv) | (refine call_c hR (rvalid_ok _) ?_; intro _ _; cbv) | (refine And.intro ?_ ?_; rotate_left; cbv) | (intro (_ : Bool) _; cbv))
  all_goals first
    | (rw [hv, addM_err (by subst hA; simp_all [Ar.std])]; exact .of_eq rfl)
    | skip
  rename_i b hb e1 e2 e3 e4 e5
  have hd : dayB n = true := by subst hA; simp_all [Ar.std]
  have hk : -2400 ≤ k ∧ k ≤ 2400 := by subst hA; simp [Ar.std] at *; omega
  have ha : 1 ≤ a ∧ a ≤ 31 := by subst hA; simp [Ar.std] at *; omega
  clear hb e1 e2 e3 e4 e5
  have hc := civ_is hd
  refine call_c hR (rciv_ok _) ?_
  rintro ⟨y, m, d⟩ hx
  rw [← hx] at hc
  have hy : (civ n).1 = y := by rw [← hx]
  have hm : (civ n).2.1 = m := by rw [← hx]
  have gy := hc.hy
  have gm := hc.hm
  dsimp only at gy gm
  cbv
  have q1 : A.add .i64 (A.sub .i64 (A.add .i64 (A.mul .i64 y 12) m) 1) k = 12 * y + m - 1 + k := by
    subst hA
    show IntKind.i64.wrap (IntKind.i64.wrap (IntKind.i64.wrap (IntKind.i64.wrap (y * 12) + m) - 1) + k) = _
    rw [wrap_id (n := y * 12) (by omega) (by omega), wrap_id (n := y * 12 + m) (by omega) (by omega), wrap_id (n := y * 12 + m - 1) (by omega) (by omega)]
    exact (wrap_id (by omega) (by omega)).trans (by omega)
  repeat' (first | (refine And.intro (fun _ => ?_) (fun _ => ?_) <;> cbv) | (refine And.intro ?_ ?_; rotate_left; cbv) | (intro (_ : Bool) _; cbv))
  all_goals first
    | (rw [hv, addM_out (by rw [hy, hm]; subst hA; simp [Ar.std] at *; omega)]; exact .of_eq rfl)
    | (subst hA; simp [Ar.std]; done)
    | skip
  have hK : 24000 ≤ 12 * y + m - 1 + k := by subst hA; simp [Ar.std] at *; omega
  have q2 : A.quo .i64 (A.add .i64 (A.sub .i64 (A.add .i64 (A.mul .i64 y 12) m) 1) k) 12 = (12 * y + m - 1 + k) / 12 := by
    rw [q1]; subst hA
    show IntKind.i64.wrap ((12 * y + m - 1 + k).tdiv 12) = _
    rw [Int.tdiv_eq_ediv_of_nonneg (by omega)]
    exact wrap_id (by omega) (by omega)
  have q3 : A.add .i64 (A.rem (A.add .i64 (A.sub .i64 (A.add .i64 (A.mul .i64 y 12) m) 1) k) 12) 1 = (12 * y + m - 1 + k) % 12 + 1 := by
    rw [q1]; subst hA
    show IntKind.i64.wrap ((12 * y + m - 1 + k).tmod 12 + 1) = _
    rw [Int.tmod_eq_emod_of_nonneg (by omega)]
    exact wrap_id (by omega) (by omega)
  refine call_c hR (rlen_ok _ _) ?_
  intro v hv2
  cbv
  refine call_c hR (rday_ok _ _ _) ?_
  intro x hx2
  cbv
  have hv2 : v = mlen ((12 * y + m - 1 + k) / 12) ((12 * y + m - 1 + k) % 12 + 1) := hv2.trans (by rw [← q2, ← q3])
  have hx2 : x = addM n k a := by
    rcases Int.lt_or_le (12 * y + m - 1 + k) 26400 with h | h
    · rw [addM_ok hd hk ha (by rw [hy, hm]; exact ⟨hK, h⟩) rfl rfl, hy, hm, ← hv2, hx2, ← q2, ← q3]
      subst hA; rfl
    · rw [addM_out (.inr (by rw [hy, hm]; exact h)), hx2]
      exact dayOf_late (by have h2 : 2199 < A.quo .i64 (A.add .i64 (A.sub .i64 (A.add .i64 (A.mul .i64 y 12) m) 1) k) 12 := by rw [q2]; omega
                           exact h2)
  rw [hv, ← hx2]
  exact .of_eq rfl
end Go.Proofs.Ytoocihhnlhehlaa
