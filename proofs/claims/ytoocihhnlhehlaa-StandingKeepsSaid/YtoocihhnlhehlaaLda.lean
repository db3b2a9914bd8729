/- Dates, the program's side. -/
import Derived.Test.YtoocihhnlhehlaaSpe
import Derived.Test.YtoocihhnlhehlaaTab
import Derived.Test.YtoocihhnlhehlaaDenl
namespace Go.Proofs.Ytoocihhnlhehlaa
open Go Go.Proofs.Ytoocihhnlhehlaa.Den
set_option linter.unusedSimpArgs false
set_option linter.unusedVariables false
set_option maxRecDepth 100000
theorem dvalid_ok (n : Int) : Con Try.prog 64 [di n] db (dayB n) := by
  refine Con_of mixed tabOk Try.func64 (by decide) rfl rfl rfl (by decide) ?_; intro A R v' hA hR hv
  cbv
  repeat' (first | (refine And.intro (fun _ => ?_) (fun _ => ?_) <;> cbv) | (refine And.intro ?_ ?_; rotate_left; cbv) | (intro (_ : Bool) _; cbv))
  all_goals subst hA hR hv
  all_goals dsimp only [Ar.std] at *
  all_goals first | exact Le.vb (by simp_all [dayB] <;> omega) | exact Le.bb (by simp_all [dayB] <;> omega)
theorem dleap_ok (n : Int) : Con Try.prog 104 [di n] db (leapB n) := by
  refine Con_of mixed tabOk Try.func104 (by decide) rfl rfl rfl (by decide) ?_; intro A R v' hA hR hv
  cbv
  repeat' (first | (refine And.intro (fun _ => ?_) (fun _ => ?_) <;> cbv) | (refine And.intro ?_ ?_; rotate_left; cbv) | (intro (_ : Bool) _; cbv))
  all_goals subst hA hR hv
  all_goals dsimp only [Ar.std] at *
  all_goals first | exact Le.vb (by simp_all [leapB]) | exact Le.bb (by simp_all [leapB]) | omega
theorem dlen_ok (y m : Int) (h : 1 ≤ m ∧ m ≤ 12) : Con Try.prog 98 [di y, di m] di (mlen y m) := by
  rcases m12 h with rfl | rfl | rfl | rfl | rfl | rfl | rfl | rfl | rfl | rfl | rfl | rfl
  all_goals
    refine Con_of mixed tabOk Try.func98 (by decide) rfl rfl rfl (by decide) ?_; intro A R v' hA hR hv
    cbv
    repeat' (first | (refine And.intro (fun _ => ?_) (fun _ => ?_) <;> cbv) | (refine call_c hR (dleap_ok _) ?_; intro _ _; cbv) | (refine And.intro ?_ ?_; rotate_left; cbv) | (intro (_ : Bool) _; cbv))
    all_goals subst hA hR hv
    all_goals dsimp only [Ar.std] at *
    all_goals first | exact Int.NonNeg.mk _ | exact Le.vi (by simp_all [mlen, mlen0]) | (exfalso; simp_all; done)
theorem dbegin_ok (y : Int) (h : 2000 ≤ y ∧ y ≤ 2200) : Con Try.prog 103 [di y] di (yb y) := by
  refine Con_of mixed tabOk Try.func103 (by decide) rfl rfl rfl (by decide) ?_; intro A R v' hA hR hv
  cbv
  repeat' (first | (refine And.intro (fun _ => ?_) (fun _ => ?_) <;> cbv) | (refine And.intro ?_ ?_; rotate_left; cbv) | (intro (_ : Bool) _; cbv))
  all_goals subst hA hR hv
  all_goals dsimp only [Ar.std] at *
  all_goals first
    | omega
    | (refine Le.vi ?_
       rename_i h1
       simp only [decide_eq_true_eq, decide_eq_false_iff_not, gt_iff_lt] at h1
       have e1 : IntKind.i64.wrap (y - 2000) = y - 2000 := wrap_id (by omega) (by omega)
       have e2 : IntKind.i64.wrap (y - 2000 + 3) = y - 2000 + 3 := wrap_id (by omega) (by omega)
       have e3 : (y - 2000 + 3).tdiv 4 = (y - 1997) / 4 := by rw [Int.tdiv_eq_ediv_of_nonneg (by omega)]; congr 1; omega
       simp only [e1, e2, e3]
       unfold yb
       rw [wrap_id (n := (y - 1997) / 4) (by omega) (by omega), wrap_id (n := 365 * (y - 2000)) (by omega) (by omega)]
       first
         | (rw [if_pos h1, wrap_id (n := (y - 1997) / 4 - 1) (by omega) (by omega), wrap_id (by omega) (by omega)]; omega)
         | (rw [if_neg h1, wrap_id (by omega) (by omega)]; omega))
theorem civ_no {day : Int} (h : dayB day = false) : civ day = (0, 0, 0) := by simp [civ, h]
theorem dciv_ok (day : Int) : Con Try.prog 96 [di day] (fun x : Int × Int × Int => .tup [di x.1, di x.2.1, di x.2.2]) (civ day) := by
  refine Con_of mixed tabOk Try.func96 (by decide) rfl rfl rfl (by decide) ?_; intro A R v' hA hR hv
  cbv
  refine call_c hR (dvalid_ok _) ?_
  intro b hb
  cbv
  refine And.intro (fun e => ?_) (fun e => ?_) <;> cbv
  · have hd : dayB day = false := by
      subst hA; dsimp only [Ar.std] at e; rw [hb] at e; simpa using e
    rw [hv, civ_no hd]
    exact .of_eq rfl
  · have hd : dayB day = true := by
      subst hA; dsimp only [Ar.std] at e; rw [hb] at e; simpa using e
    have hd' : 0 ≤ day ∧ day ≤ 73048 := by simpa [dayB] using hd
    refine And.intro (by subst hA; show (366 : Int) ≠ 0; omega) ?_
    have q0 : A.add .i64 2000 (A.quo .i64 day 366) = 2000 + day / 366 := by
      subst hA
      show IntKind.i64.wrap (2000 + IntKind.i64.wrap (day.tdiv 366)) = _
      rw [Int.tdiv_eq_ediv_of_nonneg (by omega), wrap_id (n := day / 366) (by omega) (by omega)]
      exact wrap_id (by omega) (by omega)
    refine awp_for (fun y : Int => 2000 ≤ y ∧ y ≤ 2199 ∧ yb y ≤ day) (fun y => (2200 - y).toNat) (fun y => [(5, di y)]) (fun _ => []) (A.add .i64 2000 (A.quo .i64 day 366)) (by rw [q0]; exact ⟨by omega, by omega, by unfold yb; split <;> omega⟩) (by cbv) (sim_eq rfl) ?_
    rintro y ⟨hy1, hy2, hy3⟩
    have p1 : A.add .i64 y 1 = y + 1 := by subst hA; exact wrap_id (by omega) (by omega)
    cbv
    refine call_c hR (dbegin_ok _ (by have h2 : 2000 ≤ A.add .i64 y 1 ∧ A.add .i64 y 1 ≤ 2200 := by rw [p1]; omega
                                      exact h2)) ?_
    intro x hx
    have hx : x = yb (y + 1) := hx.trans (congrArg yb p1)
    cbv
    refine And.intro (fun e => ?_) (fun e => ?_) <;> cbv
    · have e : x ≤ day := by subst hA; simpa [Ar.std] using e
      rw [hx] at e
      have hy4 : y + 1 ≤ 2199 := by
        rcases Int.lt_or_le (y + 1) 2200 with h | h
        · omega
        · have := yb_mono (y := 2200) (y' := y + 1) (by omega) h (by omega)
          rw [yb_2200] at this; omega
      exact loop_nx (A.add .i64 y 1) (by rw [p1]; exact ⟨by omega, hy4, e⟩) (by rw [p1]; omega) rfl
    · have e : day < x := by subst hA; simpa [Ar.std] using e
      rw [hx] at e
      have hyl := yb_succ hy1 hy2
      have hyi := ylen_in y
      refine call_c hR (dbegin_ok _ ⟨by omega, by omega⟩) ?_
      intro u hu
      cbv
      have q1 : A.sub .i64 day u = day - yb y := by subst hA; rw [hu]; exact wrap_id (by omega) (by omega)
      refine awp_for (fun z : Int × Int => 1 ≤ z.2 ∧ z.2 ≤ 12 ∧ z.1 = day - yb y - mb y z.2 ∧ 0 ≤ z.1) (fun z => (13 - z.2).toNat) (fun z => [(0, di z.1), (6, di z.2)]) (fun _ => []) (A.sub .i64 day u, 1) (by show 1 ≤ (1 : Int) ∧ (1 : Int) ≤ 12 ∧ A.sub .i64 day u = _ ∧ 0 ≤ A.sub .i64 day u; rw [q1, mb_1]; omega) (by cbv) (sim_eq rfl) ?_
      rintro ⟨r, m⟩ ⟨hm1, hm2, hm3, hm0⟩
      dsimp only at hm1 hm2 hm3 hm0
      have hm4 := mb_succ y ⟨hm1, hm2⟩
      have hm5 := mlen_pos y ⟨hm1, hm2⟩
      have hm6 := mb_le y m
      cbv
      refine call_c hR (dlen_ok _ _ ⟨hm1, hm2⟩) ?_
      intro v hv2
      cbv
      refine And.intro (fun e => ?_) (fun e => ?_) <;> cbv
      · have e : v ≤ r := by subst hA; simpa [Ar.std] using e
        rw [hv2] at e
        refine call_c hR (dlen_ok _ _ ⟨hm1, hm2⟩) ?_
        intro v' hv'
        cbv
        have hm7 : m + 1 ≤ 12 := by
          rcases Int.lt_or_le m 12 with h | h
          · omega
          · have : m = 12 := by omega
            subst this
            have := mb_13 y
            rw [show (12 : Int) + 1 = 13 from rfl] at hm4
            omega
        have q2 : A.sub .i64 r v' = r - mlen y m := by subst hA; rw [hv']; exact wrap_id (by omega) (by omega)
        have q3 : A.add .i64 m 1 = m + 1 := by subst hA; exact wrap_id (by omega) (by omega)
        exact loop_nx (A.sub .i64 r v', A.add .i64 m 1) (by dsimp only; rw [q2, q3]; exact ⟨by omega, by omega, by omega, by omega⟩) (by dsimp only; rw [q3]; omega) rfl
      · have e : r < v := by subst hA; simpa [Ar.std] using e
        rw [hv2] at e
        have hc := civ_eq (day := day) (y := y) (m := m) (d := r + 1) ⟨⟨hy1, hy2⟩, ⟨hm1, hm2⟩, ⟨by omega, by omega⟩, by omega⟩ hd
        rw [hv, hc]
        have q4 : A.add .i64 r 1 = r + 1 := by subst hA; exact wrap_id (by omega) (by omega)
        exact .of_eq (by show D.tup [di y, di m, di (A.add .i64 r 1)] = _; rw [q4])
theorem dday_ok (y m d : Int) : Con Try.prog 97 [di y, di m, di d] (fun x : Int × Int => .tup [di x.1, di x.2]) (dayOf y m d) := by
  refine Con_of mixed tabOk Try.func97 (by decide) rfl rfl rfl (by decide) ?_; intro A R v' hA hR hv
  cbv
  repeat' (first | (refine And.intro (fun _ => ?_) (fun _ => ?_) <;> cbv) | (refine call_c hR (dlen_ok _ _ (by subst hA; simp [Ar.std] at *; omega)) ?_; intro _ _; cbv) | (refine call_c hR (dbegin_ok _ (by subst hA; simp [Ar.std] at *; omega)) ?_; intro _ _; cbv) | (refine And.intro ?_ ?_; rotate_left; cbv) | (intro (_ : Bool) _; cbv))
  all_goals first
    | (rw [hv, dayOf, if_pos (by subst hA; simp [Ar.std] at *; omega)]; exact .of_eq rfl)
    | skip
  rename_i x1 hx1 h6 u hu
  have hy : 2000 ≤ y ∧ y ≤ 2199 := by subst hA; simp [Ar.std] at *; omega
  have hm : 1 ≤ m ∧ m ≤ 12 := by subst hA; simp [Ar.std] at *; omega
  have hd : 1 ≤ d ∧ d ≤ mlen y m := by subst hA; simp [Ar.std] at *; omega
  have hl := mlen_pos y hm
  have hyb : 0 ≤ yb y ∧ yb y ≤ 73048 := by unfold yb; split <;> omega
  have q1 : A.sub .i64 (A.add .i64 u d) 1 = yb y + d - 1 := by
    subst hA
    show IntKind.i64.wrap (IntKind.i64.wrap (u + d) - 1) = _
    rw [hu, wrap_id (n := yb y + d) (by omega) (by omega)]
    exact wrap_id (by omega) (by omega)
  refine awp_for (fun z : Int × Int => 1 ≤ z.2 ∧ z.2 ≤ m ∧ z.1 = yb y + d - 1 + mb y z.2) (fun z => (m - z.2).toNat) (fun z => [(8, di z.1), (9, di z.2)]) (fun _ => []) (A.sub .i64 (A.add .i64 u d) 1, 1) (by dsimp only; rw [q1, mb_1]; omega) (by cbv) (sim_eq rfl) ?_
  rintro ⟨r, k⟩ ⟨hk1, hk2, hk3⟩
  dsimp only at hk1 hk2 hk3
  cbv
  refine And.intro (fun e => ?_) (fun e => ?_) <;> cbv
  · have e : k < m := by subst hA; simpa [Ar.std] using e
    refine call_c hR (dlen_ok _ _ ⟨hk1, by omega⟩) ?_
    intro v hv2
    cbv
    have h1 := mb_succ y (m := k) ⟨hk1, by omega⟩
    have h2 := mlen_pos y (m := k) ⟨hk1, by omega⟩
    have h3 := mb_le y k
    have q2 : A.add .i64 r v = r + mlen y k := by subst hA; rw [hv2]; exact wrap_id (by omega) (by omega)
    have q3 : A.add .i64 k 1 = k + 1 := by subst hA; exact wrap_id (by omega) (by omega)
    exact loop_nx (A.add .i64 r v, A.add .i64 k 1) (by dsimp only; rw [q2, q3]; exact ⟨by omega, by omega, by omega⟩) (by dsimp only; rw [q3]; omega) rfl
  · have e : m ≤ k := by subst hA; simpa [Ar.std] using e
    have : k = m := by omega
    subst this
    rw [hv, dayOf, if_neg (by omega)]
    exact .of_eq (by rw [hk3]; show D.tup [di (yb y + d - 1 + mb y k), di 0] = _; rw [show yb y + d - 1 + mb y k = yb y + mb y k + d - 1 by omega])
theorem dweek_ok (n : Int) : Con Try.prog 114 [di n] di (weekday n) := by
  refine Con_of mixed tabOk Try.func114 (by decide) rfl rfl rfl (by decide) ?_; intro A R v' hA hR hv
  cbv
  repeat' (first | (refine And.intro (fun _ => ?_) (fun _ => ?_) <;> cbv) | (refine call_c hR (dvalid_ok _) ?_; intro _ _; cbv) | (refine And.intro ?_ ?_; rotate_left; cbv) | (intro (_ : Bool) _; cbv))
  all_goals subst hA hR hv
  all_goals dsimp only [Ar.std] at *
  · exact Le.vi (by simp_all [weekday])
  · rename_i b hb e
    have hd : dayB n = true := by simpa [hb] using e
    have hd' : 0 ≤ n ∧ n ≤ 73048 := by simpa [dayB] using hd
    refine Le.vi ?_
    simp only [weekday, hd, if_true]
    rw [wrap_id (n := n + 5) (by omega) (by omega), Int.tmod_eq_emod_of_nonneg (by omega)]
  · omega
theorem dend_ok (n : Int) : Con Try.prog 100 [di n] di (monthEnd n) := by
  refine Con_of mixed tabOk Try.func100 (by decide) rfl rfl rfl (by decide) ?_; intro A R v' hA hR hv
  cbv
  refine call_c hR (dvalid_ok _) ?_
  intro b hb
  cbv
  refine And.intro (fun e => ?_) (fun e => ?_) <;> cbv
  · subst hA hv
    exact Le.vi (by simp_all [monthEnd, Ar.std])
  · have hd : dayB n = true := by
      subst hA; dsimp only [Ar.std] at e; rw [hb] at e; simpa using e
    have hd' : 0 ≤ n ∧ n ≤ 73048 := by simpa [dayB] using hd
    have hc := civ_is hd
    refine call_c hR (dciv_ok _) ?_
    rintro ⟨y, m, d⟩ hx
    rw [← hx] at hc
    cbv
    have hl := mlen_pos y hc.hm
    have hh := hc.hd
    refine call_c hR (dlen_ok _ _ hc.hm) ?_
    intro v hv2
    cbv
    refine Le.vi ?_
    rw [hv, monthEnd, hd, ← hx]
    subst hA
    symm
    show IntKind.i64.wrap (IntKind.i64.wrap (n - d) + v) = n - d + mlen y m
    dsimp only at hh hl
    rw [hv2, wrap_id (n := n - d) (by omega) (by omega)]
    exact wrap_id (by omega) (by omega)
theorem addM_err {n k a : Int} (h : dayB n = false ∨ k < -2400 ∨ 2400 < k ∨ a < 1 ∨ 31 < a) : addM n k a = (0, 1) := by rw [addM, if_pos h]
theorem addM_out {n k a : Int} (h : 12 * (civ n).1 + (civ n).2.1 - 1 + k < 24000 ∨ 26400 ≤ 12 * (civ n).1 + (civ n).2.1 - 1 + k) : addM n k a = (0, 1) := by
  unfold addM
  rw [if_pos h]
  split <;> rfl
theorem addM_ok {n k a q r : Int} (h1 : dayB n = true) (h2 : -2400 ≤ k ∧ k ≤ 2400) (h3 : 1 ≤ a ∧ a ≤ 31) (h4 : 24000 ≤ 12 * (civ n).1 + (civ n).2.1 - 1 + k ∧ 12 * (civ n).1 + (civ n).2.1 - 1 + k < 26400)
    (hq : q = (12 * (civ n).1 + (civ n).2.1 - 1 + k) / 12) (hr : r = (12 * (civ n).1 + (civ n).2.1 - 1 + k) % 12 + 1) : addM n k a = dayOf q r (if mlen q r < a then mlen q r else a) := by
  subst hq hr
  rw [addM, if_neg (by rw [h1]; simp; omega), if_neg (by omega)]
theorem daddM_ok (n k a : Int) : Con Try.prog 86 [di n, di k, di a] (fun x : Int × Int => .tup [di x.1, di x.2]) (addM n k a) := by
  refine Con_of mixed tabOk Try.func86 (by decide) rfl rfl rfl (by decide) ?_; intro A R v' hA hR hv
  cbv
  repeat' (first | (refine And.intro (fun _ => ?_) (fun _ => ?_) <;> cbv) | (refine call_c hR (dvalid_ok _) ?_; intro _ _; cbv) | (refine And.intro ?_ ?_; rotate_left; cbv) | (intro (_ : Bool) _; cbv))
  all_goals first
    | (rw [hv, addM_err (by subst hA; simp_all [Ar.std])]; exact .of_eq rfl)
    | skip
  rename_i b hb e1 e2 e3 e4 e5
  have hd : dayB n = true := by subst hA; simp_all [Ar.std]
  have hk : -2400 ≤ k ∧ k ≤ 2400 := by subst hA; simp [Ar.std] at *; omega
  have ha : 1 ≤ a ∧ a ≤ 31 := by subst hA; simp [Ar.std] at *; omega
  clear hb e1 e2 e3 e4 e5
  have hc := civ_is hd
  refine call_c hR (dciv_ok _) ?_
  rintro ⟨y, m, d⟩ hx
  rw [← hx] at hc
  have hy : (civ n).1 = y := by rw [← hx]
  have hm : (civ n).2.1 = m := by rw [← hx]
  have gy := hc.hy
  have gm := hc.hm
  dsimp only at gy gm
  cbv
  have q1 : A.add .i64 (A.sub .i64 (A.add .i64 (A.mul .i64 12 y) m) 1) k = 12 * y + m - 1 + k := by
    subst hA
    show IntKind.i64.wrap (IntKind.i64.wrap (IntKind.i64.wrap (IntKind.i64.wrap (12 * y) + m) - 1) + k) = _
    rw [wrap_id (n := 12 * y) (by omega) (by omega), wrap_id (n := 12 * y + m) (by omega) (by omega), wrap_id (n := 12 * y + m - 1) (by omega) (by omega)]
    exact wrap_id (by omega) (by omega)
  repeat' (first | (refine And.intro (fun _ => ?_) (fun _ => ?_) <;> cbv) | (refine And.intro ?_ ?_; rotate_left; cbv) | (intro (_ : Bool) _; cbv))
  all_goals first
    | (rw [hv, addM_out (by rw [hy, hm]; subst hA; simp [Ar.std] at *; omega)]; exact .of_eq rfl)
    | (subst hA; simp [Ar.std]; done)
    | skip
  have hK : 24000 ≤ 12 * y + m - 1 + k ∧ 12 * y + m - 1 + k < 26400 := by subst hA; simp [Ar.std] at *; omega
  have q2 : A.quo .i64 (A.add .i64 (A.sub .i64 (A.add .i64 (A.mul .i64 12 y) m) 1) k) 12 = (12 * y + m - 1 + k) / 12 := by
    rw [q1]; subst hA
    show IntKind.i64.wrap ((12 * y + m - 1 + k).tdiv 12) = _
    rw [Int.tdiv_eq_ediv_of_nonneg (by omega)]
    exact wrap_id (by omega) (by omega)
  have q3 : A.add .i64 (A.rem (A.add .i64 (A.sub .i64 (A.add .i64 (A.mul .i64 12 y) m) 1) k) 12) 1 = (12 * y + m - 1 + k) % 12 + 1 := by
    rw [q1]; subst hA
    show IntKind.i64.wrap ((12 * y + m - 1 + k).tmod 12 + 1) = _
    rw [Int.tmod_eq_emod_of_nonneg (by omega)]
    exact wrap_id (by omega) (by omega)
  have p3 : 1 ≤ A.add .i64 (A.rem (A.add .i64 (A.sub .i64 (A.add .i64 (A.mul .i64 12 y) m) 1) k) 12) 1 ∧ A.add .i64 (A.rem (A.add .i64 (A.sub .i64 (A.add .i64 (A.mul .i64 12 y) m) 1) k) 12) 1 ≤ 12 := by rw [q3]; omega
  refine call_c hR (dlen_ok _ _ p3) ?_
  intro v hv2
  cbv
  refine call_c hR (dday_ok _ _ _) ?_
  intro x hx2
  cbv
  have hv2 : v = mlen ((12 * y + m - 1 + k) / 12) ((12 * y + m - 1 + k) % 12 + 1) := hv2.trans (by rw [← q2, ← q3])
  have hx2 : x = addM n k a := by
    rw [addM_ok hd hk ha (by rw [hy, hm]; exact hK) rfl rfl, hy, hm, ← hv2, hx2, ← q2, ← q3]
    subst hA; rfl
  rw [hv, ← hx2]
  exact .of_eq rfl
end Go.Proofs.Ytoocihhnlhehlaa
