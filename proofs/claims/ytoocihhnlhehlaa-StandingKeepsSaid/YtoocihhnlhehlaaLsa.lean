/- Standing orders: texts, Check, Next; both sides. -/
import Derived.Test.YtoocihhnlhehlaaLcb
import Derived.Test.YtoocihhnlhehlaaSpg
namespace Go.Proofs.Ytoocihhnlhehlaa
open Go Go.Proofs.Ytoocihhnlhehlaa.Den
set_option linter.unusedSimpArgs false
set_option linter.unusedVariables false
set_option maxRecDepth 100000
theorem textB_y {s : ByteArray} (h : ∀ j, j < s.size → charB s j = true) : textB s = decide ((s.size : Int) ≤ 64) := by
  rw [textB, allTo_yes h]; rfl
theorem textB_n {s : ByteArray} {j : Nat} (hj : j < s.size) (h : charB s j = false) : textB s = false := by
  rw [textB, allTo_not hj h]; rfl
theorem text_ok (s : ByteArray) (h : s.size ≤ 9223372036854775807) : Con Try.prog 66 [ds s] db (textB s) := by
  refine Con_of mixed tabOk Try.func66 (by decide) rfl rfl rfl (by decide) ?_; intro A R v' hA hR hv
  cbv
  refine awp_for (fun i : Int => 0 ≤ i ∧ i ≤ s.size ∧ ∀ j, j < i.toNat → charB s j = true) (fun i => (s.size - i).toNat) (fun i => [(6, di i)]) (fun _ => []) 0 ⟨by omega, by omega, fun j h => absurd h (Nat.not_lt_zero j)⟩ (by cbv) (sim_eq rfl) ?_
  rintro i ⟨h0, h1, h2⟩
  replace h1 : i ≤ (s.size : Int) := h1
  cbv
  refine And.intro (fun e => ?_) (fun e => ?_) <;> cbv
  · have hlt : i < s.size := by subst hA; simpa [Ar.std] using e
    have i1 : A.inb i (A.snat s) := by subst hA; exact ⟨h0, hlt⟩
    have q1 : A.add .i64 i 1 = i + 1 := by have hlt : i < (s.size : Int) := hlt; subst hA; exact wrap_id (by omega) (by omega)
    repeat' (first | (refine And.intro (fun _ => ?_) (fun _ => ?_) <;> cbv) | (refine And.intro ?_ ?_; rotate_left; cbv) | (intro (_ : Bool) _; cbv))
    all_goals replace hlt : i < (s.size : Int) := hlt
    all_goals first
      | exact i1
      | (refine loop_nx (A.add .i64 i 1) ?_ (by rw [q1]; show ((s.size : Int) - (i + 1)).toNat < ((s.size : Int) - i).toNat; omega) rfl
         show 0 ≤ A.add .i64 i 1 ∧ A.add .i64 i 1 ≤ (s.size : Int) ∧ ∀ j, j < (A.add .i64 i 1).toNat → charB s j = true
         rw [q1]
         refine ⟨by omega, by omega, fun j hj => ?_⟩
         rcases Nat.lt_or_ge j i.toNat with h | h
         · exact h2 j h
         · have : j = i.toNat := by omega
           subst this
           subst hA
           simp only [Ar.std, decide_eq_false_iff_not] at *
           rw [charB, show ((i.toNat : Nat) : Int) = i by omega, byteAt]
           simp only [Bool.not_eq_true', Bool.or_eq_false_iff, decide_eq_false_iff_not]
           exact ⟨by assumption, by assumption⟩)
      | (rw [hv, textB_n (j := i.toNat) (by omega)
          (by subst hA; simp only [Ar.std, Bool.not_false, decide_eq_true_eq] at *
              rw [charB, show ((i.toNat : Nat) : Int) = i by omega, byteAt]
              simp only [Bool.not_eq_false', Bool.or_eq_true, decide_eq_true_eq]
              first | exact .inl (by assumption) | exact .inr (by assumption))]
         first | exact Le.vb rfl | exact Le.bb rfl)
  have hge : (s.size : Int) ≤ i := by subst hA; simpa [Ar.std] using e
  rw [hv, textB_y fun j hj => h2 j (by omega)]
  subst hA
  exact Le.bb rfl
theorem printed_ok (s : ByteArray) (h : s.size ≤ 9223372036854775807) : Con Try.prog 67 [ds s, di 64, .c (.v (.int .u8 32))] db (textB s) := by
  refine Con_of mixed tabOk Try.func67 (by decide) rfl rfl rfl (by decide) ?_; intro A R v' hA hR hv
  cbv
  refine And.intro (fun e => ?_) (fun e => ?_) <;> cbv
  · have e : (64 : Int) < s.size := by subst hA; simpa [Ar.std] using e
    rw [hv, textB, show decide ((s.size : Int) ≤ 64) = false from decide_eq_false (by omega), Bool.and_false]
    first | exact Le.vb rfl | exact Le.bb rfl
  have e : (s.size : Int) ≤ 64 := by subst hA; simpa [Ar.std] using e
  refine awp_for (fun i : Int => 0 ≤ i ∧ i ≤ s.size ∧ ∀ j, j < i.toNat → charB s j = true) (fun i => (s.size - i).toNat) (fun i => [(7, di i)]) (fun _ => []) 0 ⟨by omega, by omega, fun j h => absurd h (Nat.not_lt_zero j)⟩ (by cbv) (sim_eq rfl) ?_
  have he := e
  rintro i ⟨h0, h1, h2⟩
  replace h1 : i ≤ (s.size : Int) := h1
  cbv
  refine And.intro (fun e => ?_) (fun e => ?_) <;> cbv
  · have hlt : i < s.size := by subst hA; simpa [Ar.std] using e
    have i1 : A.inb i (A.snat s) := by subst hA; exact ⟨h0, hlt⟩
    have q1 : A.add .i64 i 1 = i + 1 := by have hlt : i < (s.size : Int) := hlt; subst hA; exact wrap_id (by omega) (by omega)
    repeat' (first | (refine And.intro (fun _ => ?_) (fun _ => ?_) <;> cbv) | (refine And.intro ?_ ?_; rotate_left; cbv) | (intro (_ : Bool) _; cbv))
    all_goals replace hlt : i < (s.size : Int) := hlt
    all_goals first
      | exact i1
      | (refine loop_nx (A.add .i64 i 1) ?_ (by rw [q1]; show ((s.size : Int) - (i + 1)).toNat < ((s.size : Int) - i).toNat; omega) rfl
         show 0 ≤ A.add .i64 i 1 ∧ A.add .i64 i 1 ≤ (s.size : Int) ∧ ∀ j, j < (A.add .i64 i 1).toNat → charB s j = true
         rw [q1]
         refine ⟨by omega, by omega, fun j hj => ?_⟩
         rcases Nat.lt_or_ge j i.toNat with h | h
         · exact h2 j h
         · have : j = i.toNat := by omega
           subst this
           subst hA
           simp only [Ar.std, decide_eq_false_iff_not] at *
           rw [charB, show ((i.toNat : Nat) : Int) = i by omega, byteAt]
           simp only [Bool.not_eq_true', Bool.or_eq_false_iff, decide_eq_false_iff_not]
           exact ⟨by assumption, by assumption⟩)
      | (rw [hv, textB_n (j := i.toNat) (by omega)
          (by subst hA; simp only [Ar.std, Bool.not_false, decide_eq_true_eq] at *
              rw [charB, show ((i.toNat : Nat) : Int) = i by omega, byteAt]
              simp only [Bool.not_eq_false', Bool.or_eq_true, decide_eq_true_eq]
              first | exact .inl (by assumption) | exact .inr (by assumption))]
         first | exact Le.vb rfl | exact Le.bb rfl)
  have hge : (s.size : Int) ≤ i := by subst hA; simpa [Ar.std] using e
  rw [hv, textB_y fun j hj => h2 j (by omega), decide_eq_true he]
  first | exact Le.vb rfl | exact Le.bb rfl
theorem light_ok (c_na : ByteArray) (c_we_n : Nat) (c_we : Nat → Int) (c_ho_n : Nat) (c_ho : Nat → Int) : Con Try.prog 25 [.agg [.v (.string (c_na)), .sl 1 c_we_n (fun j => [.int .i64 (c_we j)]), .sl 1 c_ho_n (fun j => [.int .i64 (c_ho j)])]] db (decide ((c_na.size : Int) ≤ 100) && decide ((c_we_n : Int) ≤ 20) && decide ((c_ho_n : Int) ≤ 60)) := by
  refine Con_of mixed tabOk Try.func25 (by decide) rfl rfl rfl (by decide) ?_; intro A R v' hA hR hv
  cbv
  repeat' (first | (refine And.intro (fun _ => ?_) (fun _ => ?_) <;> cbv) | (refine And.intro ?_ ?_; rotate_left; cbv) | (intro (_ : Bool) _; cbv))
  all_goals subst hA hv
  all_goals dsimp only [Ar.std] at *
  all_goals first
    | (refine Le.vb ?_; simp_all <;> omega)
    | (refine Le.bb ?_; simp_all <;> omega)
    | (refine Le.vb ?_; rename_i e1; rw [e1]; simp; done)
    | (refine Le.vb ?_; rename_i e1 e2; rw [e1, e2]; simp; done)
    | (refine Le.vb ?_; rename_i e1; rw [Bool.not_true] at e1; rw [e1]; simp; done)
def ev5 (j : Nat) : Int := ([0, 1, 3, 6, 12] : List Int).getD j 0
theorem lit5 {A : Ar} (hA : A = Ar.std) {j : Nat} (h : j < 5) : A.lit [[vi 0], [vi 1], [vi 3], [vi 6], [vi 12]] j = [vi (ev5 j)] := by
  subst hA
  have : j = 0 ∨ j = 1 ∨ j = 2 ∨ j = 3 ∨ j = 4 := by omega
  rcases this with rfl | rfl | rfl | rfl | rfl <;> rfl
theorem every_ok (n : Int) : hasB ⟨5, ev5⟩ n = everyB n := by
  unfold hasB everyB
  simp only [idx, ev5, List.getD]
  by_cases h0 : n = 0
  · subst h0; rfl
  by_cases h1 : n = 1
  · subst h1; rfl
  by_cases h3 : n = 3
  · subst h3; rfl
  by_cases h6 : n = 6
  · subst h6; rfl
  by_cases h12 : n = 12
  · subst h12; rfl
  have e0 : (0 == n) = false := by simp; omega
  have e1 : (1 == n) = false := by simp; omega
  have e3 : (3 == n) = false := by simp; omega
  have e6 : (6 == n) = false := by simp; omega
  have e12 : (12 == n) = false := by simp; omega
  simp [e0, e1, e3, e6, e12, h0, h1, h3, h6, h12]
theorem checkO_ok (o_id o_fr o_to o_am o_day o_ev o_an o_un o_tr : Int) (o_tx : ByteArray) (h : o_tx.size ≤ 9223372036854775807) : Con Try.prog 28 [.agg [.v (.int .i64 (o_id)), .v (.int .i64 (o_fr)), .v (.int .i64 (o_to)), .v (.int .i64 (o_am)), .v (.int .i64 (o_day)), .v (.int .i64 (o_ev)), .v (.int .i64 (o_an)), .v (.int .i64 (o_un)), .v (.int .i64 (o_tr)), .v (.string (o_tx))]] di (checkO ⟨o_id, o_fr, o_to, o_am, o_day, o_ev, o_an, o_un, o_tr, o_tx⟩) := by
  refine Con_of mixed tabOk Try.func28 (by decide) rfl rfl rfl (by decide) ?_; intro A R v' hA hR hv
  cbv
  repeat' (first | (refine And.intro (fun _ => ?_) (fun _ => ?_) <;> cbv) | (refine call_c hR (dvalid_ok _) ?_; intro _ _; cbv) | (refine call_c hR (text_ok _ h) ?_; intro _ _; cbv) | (refine call_c hR (Con.sl (contains_ok (l_n := 5) (l := ev5) _ (by decide)) (fun j hj => lit5 hA hj)) ?_; intro _ _; cbv) | (refine And.intro ?_ ?_; rotate_left; cbv) | (intro (_ : Bool) _; cbv))
  all_goals subst hA
  all_goals refine Le.vi ?_
  all_goals rw [hv]
  all_goals simp_all [checkO, ordOk, Ar.std, every_ok]
/-- A truth that is known is a truth. -/
theorem Weak.lit {s : AS} (t : Nat) (x : Bool) (h : s.fr.getD t (.c .any) = .c (.v (.bool x))) : Weak s { s with fr := s.fr.set t (.c (.b x)) } := by
  rintro w0 X b a w ⟨g, hI, hf, hsz, hd, hn, hks⟩
  refine ⟨g, hI, fun t' => ?_, by simpa using hsz, hd, hn, hks⟩
  by_cases ht : t' = t
  · subst ht
    have h0 := hf t'
    rw [h] at h0
    simp only [D.rep, D.rep0, C.rep] at h0
    by_cases hl : t' < s.fr.length
    · show D.rep _ _ _ ((s.fr.set t' (.c (.b x))).getD t' (.c .any)) _
      rw [show (s.fr.set t' (.c (.b x))).getD t' (.c .any) = .c (.b x) by simp [List.getD, List.getElem?_set_self hl]]
      simp only [D.rep, D.rep0, C.rep]
      exact h0.1
    · show D.rep _ _ _ ((s.fr.set t' (.c (.b x))).getD t' (.c .any)) _
      rw [show (s.fr.set t' (.c (.b x))).getD t' (.c .any) = .c .any by rw [List.getD, List.getElem?_eq_none (by simp; omega)]; rfl]
      simp only [D.rep, D.rep0, C.rep]
  · show D.rep _ _ _ ((s.fr.set t (.c (.b x))).getD t' (.c .any)) _
    rw [show (s.fr.set t (.c (.b x))).getD t' (.c .any) = s.fr.getD t' (.c .any) by simp [List.getD, List.getElem?_set_ne (Ne.symm ht)]]
    exact hf t'
set_option maxHeartbeats 4000000 in
theorem rcheckO_ok (o_id o_fr o_to o_am o_day o_ev o_an o_un o_tr : Int) (o_tx : ByteArray) (h : o_tx.size ≤ 9223372036854775807) : Con Try.prog 29 [.agg [.v (.int .i64 (o_id)), .v (.int .i64 (o_fr)), .v (.int .i64 (o_to)), .v (.int .i64 (o_am)), .v (.int .i64 (o_day)), .v (.int .i64 (o_ev)), .v (.int .i64 (o_an)), .v (.int .i64 (o_un)), .v (.int .i64 (o_tr)), .v (.string (o_tx))]] di (checkO ⟨o_id, o_fr, o_to, o_am, o_day, o_ev, o_an, o_un, o_tr, o_tx⟩) := by
  refine Con_hd [1, 2] mixed tabOk (inl := fun _ _ _ => none) (fun f I h => by cases h) Try.func29 (by decide) rfl rfl rfl (by decide) ?_
  intro A R v' hA hR hv
  cbv
  refine hard_z [1, 2, 3] 1 (fun m : Bool => m = everyB o_ev) (fun m => ⟨updFr (List.replicate 107 (.c .any)) [(1, .c (.ptr 0 0)), (2, di 0), (3, db m)], [(0, .box 48 [.v (.int .i64 (o_id)), .v (.int .i64 (o_fr)), .v (.int .i64 (o_to)), .v (.int .i64 (o_am)), .v (.int .i64 (o_day)), .v (.int .i64 (o_ev)), .v (.int .i64 (o_an)), .v (.int .i64 (o_un)), .v (.int .i64 (o_tr)), .v (.string (o_tx))])], 1, []⟩) ?_ ?_
  · cbv
    repeat' (first | (refine And.intro (fun _ => ?_) (fun _ => ?_) <;> cbv) | (refine And.intro ?_ ?_; rotate_left; cbv) | (intro (_ : Bool) _; cbv))
    all_goals first
      | exact lf_w true (by subst hA; simp_all [everyB, Ar.std]) (Weak.lit 3 true rfl) ⟨rfl, ⟨rfl, rfl, trivial⟩, rfl, rfl⟩
      | exact lf_z (A.eq o_ev 12) (by subst hA; simp_all [everyB, Ar.std]) ⟨rfl, ⟨rfl, rfl, trivial⟩, rfl, rfl⟩
  intro m hm
  cbv
  refine hard_z [1, 2, 3, 4] 1 (fun d : Bool => d = (dayB o_day && dayB o_un && decide (o_day ≤ o_un))) (fun d => ⟨updFr (List.replicate 107 (.c .any)) [(1, .c (.ptr 0 0)), (2, di 0), (3, db m), (4, db d)], [(0, .box 48 [.v (.int .i64 (o_id)), .v (.int .i64 (o_fr)), .v (.int .i64 (o_to)), .v (.int .i64 (o_am)), .v (.int .i64 (o_day)), .v (.int .i64 (o_ev)), .v (.int .i64 (o_an)), .v (.int .i64 (o_un)), .v (.int .i64 (o_tr)), .v (.string (o_tx))])], 1, []⟩) ?_ ?_
  · cbv
    repeat' (first | (refine And.intro (fun _ => ?_) (fun _ => ?_) <;> cbv) | (refine call_c hR (rvalid_ok _) ?_; intro _ _; cbv) | (refine And.intro ?_ ?_; rotate_left; cbv) | (intro (_ : Bool) _; cbv))
    all_goals first
      | exact lf_w false (by subst hA; simp_all [Ar.std]) (Weak.lit 4 false rfl) ⟨rfl, ⟨rfl, rfl, trivial⟩, rfl, rfl⟩
      | exact lf_z (A.le o_day o_un) (by subst hA; simp_all [Ar.std]) ⟨rfl, ⟨rfl, rfl, trivial⟩, rfl, rfl⟩
  intro d hd
  replace hd : d = !(!dayB o_day || !dayB o_un || decide (o_day > o_un)) := by
    rw [hd]
    by_cases hh : o_day ≤ o_un
    · rw [decide_eq_true hh, decide_eq_false (show ¬ o_day > o_un by omega)]; simp
    · rw [decide_eq_false hh, decide_eq_true (show o_day > o_un by omega)]; simp
  replace hv : v' = if (!(decide (o_id < 1) || decide (o_fr < 1000) || decide (o_to < 1000) || (o_fr == o_to) || decide (o_am < 1) || decide (o_am > 1000000000000)) && d && !(!m || decide (o_an < 1) || decide (o_an > 31)) && !(decide (o_tr < 0) || decide (o_tr > 3) || !textB o_tx)) = true then 0 else 1 := by
    rw [hv, hd, hm]; rfl
  clear hm hd
  cbv
  repeat' (first | (refine And.intro (fun _ => ?_) (fun _ => ?_) <;> cbv) | (refine call_c hR (printed_ok _ h) ?_; intro _ _; cbv) | (refine And.intro ?_ ?_; rotate_left; cbv) | (intro (_ : Bool) _; cbv))
  all_goals subst hA
  all_goals refine Le.vi ?_
  all_goals rw [hv]
  all_goals simp_all [Ar.std]
theorem moved_no {we ho : Sl Int} {n : Int} (h : (adjS we ho n).2 ≠ 0) : movedS we ho n = n := by simp [movedS, h]
theorem moved_far {we ho : Sl Int} {n : Int} (h : monthEnd (adjS we ho n).1 ≠ monthEnd n) : movedS we ho n = n := by simp [movedS, h]
theorem moved_y {we ho : Sl Int} {n : Int} (h : (adjS we ho n).2 = 0) (h1 : monthEnd (adjS we ho n).1 = monthEnd n) : movedS we ho n = (adjS we ho n).1 := by simp [movedS, h, h1]
theorem moved_late {we ho : Sl Int} {n : Int} (h : monthEnd n < (adjS we ho n).1) : movedS we ho n = n := by
  by_cases h2 : (adjS we ho n).2 = 0
  · exact moved_far fun e => by
      have := (monthEnd_le (adjS_ok h2).2.1).1
      omega
  · exact moved_no h2
theorem adjusted_ok (s_o_id s_o_fr s_o_to s_o_am s_o_day s_o_ev s_o_an s_o_un s_o_tr : Int) (s_o_tx s_c_na : ByteArray) (s_c_we_n : Nat) (s_c_we : Nat → Int) (s_c_ho_n : Nat) (s_c_ho : Nat → Int) (n : Int) (h1 : s_c_we_n ≤ 9223372036854775807) (h2 : s_c_ho_n ≤ 9223372036854775807) : Con Try.prog 87 [.agg [.v (.int .i64 (s_o_id)), .v (.int .i64 (s_o_fr)), .v (.int .i64 (s_o_to)), .v (.int .i64 (s_o_am)), .v (.int .i64 (s_o_day)), .v (.int .i64 (s_o_ev)), .v (.int .i64 (s_o_an)), .v (.int .i64 (s_o_un)), .v (.int .i64 (s_o_tr)), .v (.string (s_o_tx)), .v (.string (s_c_na)), .sl 1 s_c_we_n (fun j => [.int .i64 (s_c_we j)]), .sl 1 s_c_ho_n (fun j => [.int .i64 (s_c_ho j)])], di n] di (movedS ⟨s_c_we_n, s_c_we⟩ ⟨s_c_ho_n, s_c_ho⟩ n) := by
  refine Con_of mixed tabOk Try.func87 (by decide) rfl rfl rfl (by decide) ?_; intro A R v' hA hR hv
  cbv
  repeat' (first | (refine And.intro (fun _ => ?_) (fun _ => ?_) <;> cbv) | (refine call_c hR (adj_ok (h1 := h1) (h2 := h2) ..) ?_; intro _ _; cbv) | (refine call_c hR (dend_ok _) ?_; intro _ _; cbv) | (refine And.intro ?_ ?_; rotate_left; cbv) | (intro (_ : Bool) _; cbv))
  all_goals subst hA
  all_goals dsimp only [Ar.std] at *
  all_goals refine Le.vi ?_
  all_goals rw [hv]
  all_goals first
    | (rw [moved_no] <;> simp_all <;> fail)
    | (rw [moved_late] <;> simp_all <;> fail)
    | (rw [moved_far] <;> simp_all <;> fail)
    | (rw [moved_y] <;> simp_all <;> fail)
theorem rmoved_ok (c_na : ByteArray) (c_we_n : Nat) (c_we : Nat → Int) (c_ho_n : Nat) (c_ho : Nat → Int) (n : Int) (h1 : c_we_n ≤ 9223372036854775807) (h2 : c_ho_n ≤ 9223372036854775807) : Con Try.prog 63 [di n, .agg [.v (.string (c_na)), .sl 1 c_we_n (fun j => [.int .i64 (c_we j)]), .sl 1 c_ho_n (fun j => [.int .i64 (c_ho j)])]] di (movedS ⟨c_we_n, c_we⟩ ⟨c_ho_n, c_ho⟩ n) := by
  refine Con_of mixed tabOk Try.func63 (by decide) rfl rfl rfl (by decide) ?_; intro A R v' hA hR hv
  cbv
  repeat' (first | (refine And.intro (fun _ => ?_) (fun _ => ?_) <;> cbv) | (refine call_c hR (radj_ok (h1 := h1) (h2 := h2) ..) ?_; intro _ _; cbv) | (refine call_c hR (rend_ok _) ?_; intro _ _; cbv) | (refine And.intro ?_ ?_; rotate_left; cbv) | (intro (_ : Bool) _; cbv))
  all_goals subst hA
  all_goals dsimp only [Ar.std] at *
  all_goals refine Le.vi ?_
  all_goals rw [hv]
  all_goals first
    | (rw [moved_no] <;> simp_all <;> fail)
    | (rw [moved_far] <;> simp_all <;> fail)
    | (rw [moved_y] <;> simp_all <;> fail)
theorem nextO_arg {we ho : Sl Int} {o : Order} (h : checkO o ≠ 0) : nextO we ho o = (0, 1) := by simp [nextO, h]
theorem nextO_once {we ho : Sl Int} {o : Order} (h : checkO o = 0) (h1 : o.ev = 0) : nextO we ho o = (0, 23) := by simp [nextO, h, h1]
theorem nextO_out {we ho : Sl Int} {o : Order} (h : checkO o = 0) (h2 : (addM o.day o.ev o.an).2 ≠ 0) : nextO we ho o = (0, 23) := by simp [nextO, h, h2]
theorem nextO_late {we ho : Sl Int} {o : Order} (h : checkO o = 0) (h2 : (addM o.day o.ev o.an).2 = 0) (h3 : o.un < movedS we ho (addM o.day o.ev o.an).1) : nextO we ho o = (0, 23) := by simp [nextO, h, h2, h3]
theorem nextO_y {we ho : Sl Int} {o : Order} (h : checkO o = 0) (h1 : o.ev ≠ 0) (h2 : (addM o.day o.ev o.an).2 = 0) (h3 : movedS we ho (addM o.day o.ev o.an).1 ≤ o.un) : nextO we ho o = (movedS we ho (addM o.day o.ev o.an).1, 0) := by
  have : ¬ o.un < movedS we ho (addM o.day o.ev o.an).1 := by omega
  simp [nextO, h, h1, h2, this]
theorem snext_ok (s_o_id s_o_fr s_o_to s_o_am s_o_day s_o_ev s_o_an s_o_un s_o_tr : Int) (s_o_tx s_c_na : ByteArray) (s_c_we_n : Nat) (s_c_we : Nat → Int) (s_c_ho_n : Nat) (s_c_ho : Nat → Int) (h1 : s_c_we_n ≤ 9223372036854775807) (h2 : s_c_ho_n ≤ 9223372036854775807) (hc : checkO ⟨s_o_id, s_o_fr, s_o_to, s_o_am, s_o_day, s_o_ev, s_o_an, s_o_un, s_o_tr, s_o_tx⟩ = 0) : Con Try.prog 61 [.agg [.v (.int .i64 (s_o_id)), .v (.int .i64 (s_o_fr)), .v (.int .i64 (s_o_to)), .v (.int .i64 (s_o_am)), .v (.int .i64 (s_o_day)), .v (.int .i64 (s_o_ev)), .v (.int .i64 (s_o_an)), .v (.int .i64 (s_o_un)), .v (.int .i64 (s_o_tr)), .v (.string (s_o_tx)), .v (.string (s_c_na)), .sl 1 s_c_we_n (fun j => [.int .i64 (s_c_we j)]), .sl 1 s_c_ho_n (fun j => [.int .i64 (s_c_ho j)])]] (fun x : Int × Int => .tup [di x.1, di x.2]) (nextO ⟨s_c_we_n, s_c_we⟩ ⟨s_c_ho_n, s_c_ho⟩ ⟨s_o_id, s_o_fr, s_o_to, s_o_am, s_o_day, s_o_ev, s_o_an, s_o_un, s_o_tr, s_o_tx⟩) := by
  refine Con_of mixed tabOk Try.func61 (by decide) rfl rfl rfl (by decide) ?_; intro A R v' hA hR hv
  cbv
  repeat' (first | (refine And.intro (fun _ => ?_) (fun _ => ?_) <;> cbv) | (refine call_c hR (daddM_ok _ _ _) ?_; intro _ _; cbv) | (refine call_c hR (adjusted_ok (h1 := h1) (h2 := h2) ..) ?_; intro _ _; cbv) | (refine And.intro ?_ ?_; rotate_left; cbv) | (intro (_ : Bool) _; cbv))
  all_goals subst hA
  all_goals dsimp only [Ar.std] at *
  all_goals rw [hv]
  all_goals refine .of_eq ?_
  all_goals first
    | (rw [nextO_once hc] <;> simp_all <;> fail)
    | (rw [nextO_out hc] <;> simp_all <;> fail)
    | (rw [nextO_late hc] <;> simp_all <;> fail)
    | (rw [nextO_y hc] <;> simp_all <;> fail)
theorem nextO_ok (o_id o_fr o_to o_am o_day o_ev o_an o_un o_tr : Int) (o_tx : ByteArray) (c_na : ByteArray) (c_we_n : Nat) (c_we : Nat → Int) (c_ho_n : Nat) (c_ho : Nat → Int) (h : o_tx.size ≤ 9223372036854775807) (h1 : c_we_n ≤ 9223372036854775807) (h2 : c_ho_n ≤ 9223372036854775807) : Con Try.prog 26 [.agg [.v (.int .i64 (o_id)), .v (.int .i64 (o_fr)), .v (.int .i64 (o_to)), .v (.int .i64 (o_am)), .v (.int .i64 (o_day)), .v (.int .i64 (o_ev)), .v (.int .i64 (o_an)), .v (.int .i64 (o_un)), .v (.int .i64 (o_tr)), .v (.string (o_tx))], .agg [.v (.string (c_na)), .sl 1 c_we_n (fun j => [.int .i64 (c_we j)]), .sl 1 c_ho_n (fun j => [.int .i64 (c_ho j)])]] (fun x : Int × Int => .tup [di x.1, di x.2]) (nextO ⟨c_we_n, c_we⟩ ⟨c_ho_n, c_ho⟩ ⟨o_id, o_fr, o_to, o_am, o_day, o_ev, o_an, o_un, o_tr, o_tx⟩) := by
  refine Con_of mixed tabOk Try.func26 (by decide) rfl rfl rfl (by decide) ?_; intro A R v' hA hR hv
  cbv
  refine call_c hR (checkO_ok (h := h) ..) ?_
  intro x hx
  cbv
  refine And.intro (fun e => ?_) (fun e => ?_) <;> cbv
  · have e : x ≠ 0 := by subst hA; simpa [Ar.std] using e
    rw [hv, nextO_arg (by rw [← hx]; exact e)]
    exact .of_eq rfl
  · have e : x = 0 := by subst hA; simpa [Ar.std] using e
    refine call_c hR (snext_ok (h1 := h1) (h2 := h2) (hc := by rw [← hx]; exact e) ..) ?_
    intro y hy
    cbv
    exact .of_eq (by rw [hv, ← hy])
theorem rnextO_ok (o_id o_fr o_to o_am o_day o_ev o_an o_un o_tr : Int) (o_tx : ByteArray) (c_na : ByteArray) (c_we_n : Nat) (c_we : Nat → Int) (c_ho_n : Nat) (c_ho : Nat → Int) (h : o_tx.size ≤ 9223372036854775807) (h1 : c_we_n ≤ 9223372036854775807) (h2 : c_ho_n ≤ 9223372036854775807) : Con Try.prog 27 [.agg [.v (.int .i64 (o_id)), .v (.int .i64 (o_fr)), .v (.int .i64 (o_to)), .v (.int .i64 (o_am)), .v (.int .i64 (o_day)), .v (.int .i64 (o_ev)), .v (.int .i64 (o_an)), .v (.int .i64 (o_un)), .v (.int .i64 (o_tr)), .v (.string (o_tx))], .agg [.v (.string (c_na)), .sl 1 c_we_n (fun j => [.int .i64 (c_we j)]), .sl 1 c_ho_n (fun j => [.int .i64 (c_ho j)])]] (fun x : Int × Int => .tup [di x.1, di x.2]) (nextO ⟨c_we_n, c_we⟩ ⟨c_ho_n, c_ho⟩ ⟨o_id, o_fr, o_to, o_am, o_day, o_ev, o_an, o_un, o_tr, o_tx⟩) := by
  refine Con_of mixed tabOk Try.func27 (by decide) rfl rfl rfl (by decide) ?_; intro A R v' hA hR hv
  cbv
  refine call_c hR (rcheckO_ok (h := h) ..) ?_
  intro x hx
  cbv
  refine And.intro (fun e => ?_) (fun e => ?_) <;> cbv
  · have e : x ≠ 0 := by subst hA; simpa [Ar.std] using e
    rw [hv, nextO_arg (by rw [← hx]; exact e)]
    exact .of_eq rfl
  · have e : x = 0 := by subst hA; simpa [Ar.std] using e
    have hc : checkO ⟨o_id, o_fr, o_to, o_am, o_day, o_ev, o_an, o_un, o_tr, o_tx⟩ = 0 := by rw [← hx]; exact e
    clear hx e
    repeat' (first | (refine And.intro (fun _ => ?_) (fun _ => ?_) <;> cbv) | (refine call_c hR (raddM_ok _ _ _) ?_; intro _ _; cbv) | (refine call_c hR (rmoved_ok (h1 := h1) (h2 := h2) ..) ?_; intro _ _; cbv) | (refine And.intro ?_ ?_; rotate_left; cbv) | (intro (_ : Bool) _; cbv))
    all_goals subst hA
    all_goals dsimp only [Ar.std] at *
    all_goals rw [hv]
    all_goals refine .of_eq ?_
    all_goals first
      | (rw [nextO_once hc] <;> simp_all <;> fail)
      | (rw [nextO_out hc] <;> simp_all <;> fail)
      | (rw [nextO_late hc] <;> simp_all <;> fail)
      | (rw [nextO_y hc] <;> simp_all <;> fail)
end Go.Proofs.Ytoocihhnlhehlaa
