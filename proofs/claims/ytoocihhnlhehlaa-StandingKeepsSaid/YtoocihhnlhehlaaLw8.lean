/- The law StandingKeeps, read: it answers true. -/
import Derived.Test.YtoocihhnlhehlaaLsd
import Derived.Test.YtoocihhnlhehlaaLsf
import Derived.Test.YtoocihhnlhehlaaLsg
namespace Go.Proofs.Ytoocihhnlhehlaa
open Go Go.Proofs.Ytoocihhnlhehlaa.Den
set_option linter.unusedSimpArgs false
set_option linter.unusedVariables false
set_option maxRecDepth 100000
theorem check_tx {o : Order} (h : checkO o = 0) : o.tx.size ≤ 64 := by
  unfold checkO at h
  split at h
  · rename_i h1
    simp only [ordOk, Bool.and_eq_true, Bool.not_eq_true', Bool.or_eq_false_iff, Bool.not_eq_false', textB, decide_eq_true_eq] at h1
    have := h1.2.2.2
    omega
  · cases h
set_option maxHeartbeats 8000000 in
theorem keeps_ok (l_n : Nat) (l_id l_fr l_to l_am l_day l_ev l_an l_un l_tr : Nat → Int) (l_tx : Nat → ByteArray) (a_n : Nat) (a_kd a_id a_day : Nat → Int) (a_ok : Nat → Bool) (a_o_id a_o_fr a_o_to a_o_am a_o_day a_o_ev a_o_an a_o_un a_o_tr : Nat → Int) (a_o_tx : Nat → ByteArray) (c_na : ByteArray) (c_we_n : Nat) (c_we : Nat → Int) (c_ho_n : Nat) (c_ho : Nat → Int) (hl : l_n ≤ 9223372036854775807) (ha : a_n ≤ 9223372036854775807) : Con Try.prog 8 [.c (.sl 10 l_n (fun j => [.int .i64 (l_id j), .int .i64 (l_fr j), .int .i64 (l_to j), .int .i64 (l_am j), .int .i64 (l_day j), .int .i64 (l_ev j), .int .i64 (l_an j), .int .i64 (l_un j), .int .i64 (l_tr j), .string (l_tx j)])), .c (.sl 14 a_n (fun j => [.int .i64 (a_kd j), .int .i64 (a_id j), .int .i64 (a_day j), .bool (a_ok j), .int .i64 (a_o_id j), .int .i64 (a_o_fr j), .int .i64 (a_o_to j), .int .i64 (a_o_am j), .int .i64 (a_o_day j), .int .i64 (a_o_ev j), .int .i64 (a_o_an j), .int .i64 (a_o_un j), .int .i64 (a_o_tr j), .string (a_o_tx j)])), .agg [.v (.string (c_na)), .sl 1 c_we_n (fun j => [.int .i64 (c_we j)]), .sl 1 c_ho_n (fun j => [.int .i64 (c_ho j)])]] db true := by
  refine Con_of mixed tabOk Try.func8 (by decide) rfl rfl rfl (by decide) ?_; intro A R v' hA hR hv
  cbv
  refine call_c hR (ogreat_ok (h := hl) ..) ?_
  intro g hg
  cbv
  repeat' (first | (refine And.intro (fun _ => ?_) (fun _ => ?_) <;> cbv) | (refine call_c hR (short_ok (h := ha) ..) ?_; intro _ _; cbv) | (refine call_c hR (light_ok ..) ?_; intro _ _; cbv) | (refine And.intro ?_ ?_; rotate_left; cbv) | (intro (_ : Bool) _; cbv))
  all_goals first
    | (rw [hv]; first | exact Le.vb rfl | exact Le.bb rfl)
    | skip
  rename_i e0 s hs e1 w hw e2
  have hgr := greatO_of (l := ⟨l_n, fun j => ⟨l_id j, l_fr j, l_to j, l_am j, l_day j, l_ev j, l_an j, l_un j, l_tr j, l_tx j⟩⟩) (by rw [← hg]; exact e0)
  have hsh := shortS_of (a := ⟨a_n, fun j => ⟨a_kd j, a_id j, a_day j, a_ok j, ⟨a_o_id j, a_o_fr j, a_o_to j, a_o_am j, a_o_day j, a_o_ev j, a_o_an j, a_o_un j, a_o_tr j, a_o_tx j⟩⟩⟩) (by rw [← hs]; subst hA; simpa [Ar.std] using e1)
  have hw : c_we_n ≤ 9223372036854775807 ∧ c_ho_n ≤ 9223372036854775807 := by
    have e2 : w = true := by subst hA; simpa [Ar.std] using e2
    rw [hw] at e2
    simp only [Bool.and_eq_true, decide_eq_true_eq] at e2
    obtain ⟨⟨_, a1⟩, a2⟩ := e2
    replace a1 : (c_we_n : Int) ≤ 20 := a1
    replace a2 : (c_ho_n : Int) ≤ 60 := a2
    exact ⟨by omega, by omega⟩
  have hatx : ∀ j, j < a_n → (a_o_tx j).size ≤ 9223372036854775807 := fun j hj => Nat.le_trans (hsh.2 j hj) (by omega)
  have han : a_n ≤ 60 := hsh.1
  have hltx : ∀ j, j < l_n → (l_tx j).size ≤ 9223372036854775807 := fun j hj => Nat.le_trans (hgr.tx j hj) (by omega)
  clear e0 e1 e2 hs hg hgr hsh
  refine call_c hR (right_ok (h := hl) (ht := hltx) ..) ?_
  intro r hr
  cbv
  refine And.intro (fun e => ?_) (fun e => ?_) <;> cbv
  · rw [hv]; first | exact Le.vb rfl | exact Le.bb rfl
  have hr0 : RightP ⟨l_n, fun j => ⟨l_id j, l_fr j, l_to j, l_am j, l_day j, l_ev j, l_an j, l_un j, l_tr j, l_tx j⟩⟩ := right_of (by rw [← hr]; subst hA; simpa [Ar.std] using e)
  clear e hr
  refine awp_fors (fun z : Sl Order × Int => RightP z.1 ∧ 0 ≤ z.2 ∧ z.2 ≤ a_n) (fun z => (a_n - z.2).toNat) (fun z => [(0, .c (.sl 10 z.1.n fun j => [.int .i64 ((z.1.at' j).id), .int .i64 ((z.1.at' j).fr), .int .i64 ((z.1.at' j).to), .int .i64 ((z.1.at' j).am), .int .i64 ((z.1.at' j).day), .int .i64 ((z.1.at' j).ev), .int .i64 ((z.1.at' j).an), .int .i64 ((z.1.at' j).un), .int .i64 ((z.1.at' j).tr), .string ((z.1.at' j).tx)])), (7, di z.2)]) (⟨l_n, fun j => ⟨l_id j, l_fr j, l_to j, l_am j, l_day j, l_ev j, l_an j, l_un j, l_tr j, l_tx j⟩⟩, 0) ⟨hr0, by dsimp only; omega, by dsimp only; omega⟩ (by cbv) (sim_eq rfl) ?_
  clear hr0 hltx hl
  rintro ⟨l, i⟩ ⟨hrp, hi0, hi1⟩
  replace hrp : RightP l := hrp
  replace hi0 : 0 ≤ i := hi0
  replace hi1 : i ≤ (a_n : Int) := hi1
  have hl8 : l.n * 88 ≤ 140737488355000 := by have := hrp.n; omega
  have hl82 : l.n * 88 ≤ 140737488355328 := by omega
  have hln : l.n ≤ 9223372036854775807 := by omega
  have hltx : ∀ j, j < l.n → (l.at' j).tx.size ≤ 9223372036854775807 := fun j hj => by have := check_tx (hrp.ok j hj); omega
  cbv
  refine And.intro (fun e => ?_) (fun e => ?_) <;> cbv
  rotate_left
  · refine call_c hR olive_ok ?_
    intro x hx
    cbv
    rw [hv]; exact Le.bb hx.symm
  have hlt : i < (a_n : Int) := by subst hA; simpa [Ar.std] using e
  have hb : A.inb i a_n := by subst hA; exact ⟨hi0, hlt⟩
  have ni : A.nat i = i.toNat := by subst hA; rfl
  have q1 : A.add .i64 i 1 = i + 1 := by subst hA; exact wrap_id (by omega) (by omega)
  have hmeas : ((a_n : Int) - (i + 1)).toNat < ((a_n : Int) - i).toNat := by omega
  have hmax : i + 1 ≤ (a_n : Int) := by omega
  have hnx : RightP l ∧ 0 ≤ A.add .i64 i 1 ∧ A.add .i64 i 1 ≤ (a_n : Int) := by rw [q1]; exact ⟨hrp, by omega, hmax⟩
  have hax : (a_o_tx (A.nat i)).size ≤ 9223372036854775807 := hatx _ (by rw [ni]; omega)
  clear e
  refine And.intro hb ?_
  refine And.intro (fun e => ?_) (fun e => ?_) <;> cbv
  · clear e
    refine call_c hR (add_ok (h := hl8) (ht := hax) ..) ?_
    intro x hx
    have hx : x = addS l ⟨a_o_id (A.nat i), a_o_fr (A.nat i), a_o_to (A.nat i), a_o_am (A.nat i), a_o_day (A.nat i), a_o_ev (A.nat i), a_o_an (A.nat i), a_o_un (A.nat i), a_o_tr (A.nat i), a_o_tx (A.nat i)⟩ := hx
    have hkk := (show x.2 = 0 → Kept l x.1 (a_o_id (A.nat i)) from fun he => by rw [hx] at he ⊢; exact kept_add hrp he)
    cbv
    refine And.intro (fun e => ?_) (fun e => ?_) <;> cbv
    · exact loop_nx (l, A.add .i64 i 1) hnx (by dsimp only; rw [q1]; exact hmeas) rfl
    have e : x.2 = 0 := by subst hA; simpa [Ar.std] using e
    have hkk := hkk e
    have hr' := hkk.r
    have hn' : x.1.n ≤ 9223372036854775807 := by have := hr'.n; omega
    have ht' : ∀ j, j < x.1.n → (x.1.at' j).tx.size ≤ 9223372036854775807 := fun j hj => by have := check_tx (hr'.ok j hj); omega
    refine call_c hR (right_ok (h := hn') (ht := ht') ..) ?_
    intro r1 hr1
    have hr1 : r1 = true := (show r1 = rightS x.1 from hr1).trans (right_to hr')
    cbv
    refine And.intro (fun e1 => ?_) (fun e1 => ?_) <;> cbv
    all_goals first
      | (exfalso; rw [hr1] at e1; subst hA; exact absurd e1 (by decide))
      | skip
    refine call_c hR (others_ok (h := hln) (h2 := hn') ..) ?_
    intro r2 hr2
    have hr2 : r2 = true := (show r2 = othersS l x.1 (a_o_id (A.nat i)) from hr2).trans hkk.a
    cbv
    refine And.intro (fun e2 => ?_) (fun e2 => ?_) <;> cbv
    all_goals first
      | (exfalso; rw [hr2] at e2; subst hA; exact absurd e2 (by decide))
      | skip
    refine call_c hR (others_ok (h := hn') (h2 := hln) ..) ?_
    intro r3 hr3
    have hr3 : r3 = true := (show r3 = othersS x.1 l (a_o_id (A.nat i)) from hr3).trans hkk.b
    cbv
    refine And.intro (fun e3 => ?_) (fun e3 => ?_) <;> cbv
    all_goals first
      | (exfalso; rw [hr3] at e3; subst hA; exact absurd e3 (by decide))
      | skip
    exact loop_nx (x.1, A.add .i64 i 1) (by dsimp only; rw [q1]; exact ⟨hr', by omega, hmax⟩) (by dsimp only; rw [q1]; exact hmeas) rfl
  clear e
  refine And.intro (fun e => ?_) (fun e => ?_) <;> cbv
  · clear e
    refine call_c hR (cancel_ok (h := hl82) ..) ?_
    intro x hx
    have hx : x = cancelS l (a_id (A.nat i)) := hx
    have hkk := (show x.2 = 0 → Kept l x.1 (a_id (A.nat i)) from fun he => by rw [hx] at he ⊢; exact kept_cancel hrp he)
    cbv
    refine And.intro (fun e => ?_) (fun e => ?_) <;> cbv
    · exact loop_nx (l, A.add .i64 i 1) hnx (by dsimp only; rw [q1]; exact hmeas) rfl
    have e : x.2 = 0 := by subst hA; simpa [Ar.std] using e
    have hkk := hkk e
    have hr' := hkk.r
    have hn' : x.1.n ≤ 9223372036854775807 := by have := hr'.n; omega
    have ht' : ∀ j, j < x.1.n → (x.1.at' j).tx.size ≤ 9223372036854775807 := fun j hj => by have := check_tx (hr'.ok j hj); omega
    refine call_c hR (right_ok (h := hn') (ht := ht') ..) ?_
    intro r1 hr1
    have hr1 : r1 = true := (show r1 = rightS x.1 from hr1).trans (right_to hr')
    cbv
    refine And.intro (fun e1 => ?_) (fun e1 => ?_) <;> cbv
    all_goals first
      | (exfalso; rw [hr1] at e1; subst hA; exact absurd e1 (by decide))
      | skip
    refine call_c hR (others_ok (h := hln) (h2 := hn') ..) ?_
    intro r2 hr2
    have hr2 : r2 = true := (show r2 = othersS l x.1 (a_id (A.nat i)) from hr2).trans hkk.a
    cbv
    refine And.intro (fun e2 => ?_) (fun e2 => ?_) <;> cbv
    all_goals first
      | (exfalso; rw [hr2] at e2; subst hA; exact absurd e2 (by decide))
      | skip
    refine call_c hR (others_ok (h := hn') (h2 := hln) ..) ?_
    intro r3 hr3
    have hr3 : r3 = true := (show r3 = othersS x.1 l (a_id (A.nat i)) from hr3).trans hkk.b
    cbv
    refine And.intro (fun e3 => ?_) (fun e3 => ?_) <;> cbv
    all_goals first
      | (exfalso; rw [hr3] at e3; subst hA; exact absurd e3 (by decide))
      | skip
    exact loop_nx (x.1, A.add .i64 i 1) (by dsimp only; rw [q1]; exact ⟨hr', by omega, hmax⟩) (by dsimp only; rw [q1]; exact hmeas) rfl
  clear e
  refine And.intro (fun e => ?_) (fun e => ?_) <;> cbv
  · clear e
    refine call_c hR (Con.bool4 (done_ok (h := hl82) (ht := hltx) (h1 := hw.1) (h2 := hw.2) ..)) ?_
    intro x hx
    have hx : x = doneS ⟨c_we_n, c_we⟩ ⟨c_ho_n, c_ho⟩ l (a_id (A.nat i)) (a_day (A.nat i)) (a_ok (A.nat i)) := hx
    have hkk := (show x.2 = 0 → Kept l x.1 (a_id (A.nat i)) from fun he => by rw [hx] at he ⊢; exact kept_done hrp he)
    cbv
    refine And.intro (fun e => ?_) (fun e => ?_) <;> cbv
    · exact loop_nx (l, A.add .i64 i 1) hnx (by dsimp only; rw [q1]; exact hmeas) rfl
    have e : x.2 = 0 := by subst hA; simpa [Ar.std] using e
    have hkk := hkk e
    have hr' := hkk.r
    have hn' : x.1.n ≤ 9223372036854775807 := by have := hr'.n; omega
    have ht' : ∀ j, j < x.1.n → (x.1.at' j).tx.size ≤ 9223372036854775807 := fun j hj => by have := check_tx (hr'.ok j hj); omega
    refine call_c hR (right_ok (h := hn') (ht := ht') ..) ?_
    intro r1 hr1
    have hr1 : r1 = true := (show r1 = rightS x.1 from hr1).trans (right_to hr')
    cbv
    refine And.intro (fun e1 => ?_) (fun e1 => ?_) <;> cbv
    all_goals first
      | (exfalso; rw [hr1] at e1; subst hA; exact absurd e1 (by decide))
      | skip
    refine call_c hR (others_ok (h := hln) (h2 := hn') ..) ?_
    intro r2 hr2
    have hr2 : r2 = true := (show r2 = othersS l x.1 (a_id (A.nat i)) from hr2).trans hkk.a
    cbv
    refine And.intro (fun e2 => ?_) (fun e2 => ?_) <;> cbv
    all_goals first
      | (exfalso; rw [hr2] at e2; subst hA; exact absurd e2 (by decide))
      | skip
    refine call_c hR (others_ok (h := hn') (h2 := hln) ..) ?_
    intro r3 hr3
    have hr3 : r3 = true := (show r3 = othersS x.1 l (a_id (A.nat i)) from hr3).trans hkk.b
    cbv
    refine And.intro (fun e3 => ?_) (fun e3 => ?_) <;> cbv
    all_goals first
      | (exfalso; rw [hr3] at e3; subst hA; exact absurd e3 (by decide))
      | skip
    exact loop_nx (x.1, A.add .i64 i 1) (by dsimp only; rw [q1]; exact ⟨hr', by omega, hmax⟩) (by dsimp only; rw [q1]; exact hmeas) rfl
  clear e
  have hkk := kept_self hrp (a_id (A.nat i))
  refine And.intro (fun e => ?_) (fun e => ?_) <;> cbv
  · exact loop_nx (l, A.add .i64 i 1) hnx (by dsimp only; rw [q1]; exact hmeas) rfl
  clear e
  refine call_c hR (right_ok (h := hln) (ht := hltx) ..) ?_
  intro r1 hr1
  have hr1 : r1 = true := (show r1 = rightS l from hr1).trans (right_to hrp)
  cbv
  refine And.intro (fun e1 => ?_) (fun e1 => ?_) <;> cbv
  all_goals first
    | (exfalso; rw [hr1] at e1; subst hA; exact absurd e1 (by decide))
    | skip
  refine call_c hR (others_ok (h := hln) (h2 := hln) ..) ?_
  intro r2 hr2
  have hr2 : r2 = true := (show r2 = othersS l l (a_id (A.nat i)) from hr2).trans hkk.a
  cbv
  refine And.intro (fun e2 => ?_) (fun e2 => ?_) <;> cbv
  all_goals first
    | (exfalso; rw [hr2] at e2; subst hA; exact absurd e2 (by decide))
    | skip
  refine call_c hR (others_ok (h := hln) (h2 := hln) ..) ?_
  intro r3 hr3
  have hr3 : r3 = true := (show r3 = othersS l l (a_id (A.nat i)) from hr3).trans hkk.b
  cbv
  refine And.intro (fun e3 => ?_) (fun e3 => ?_) <;> cbv
  all_goals first
    | (exfalso; rw [hr3] at e3; subst hA; exact absurd e3 (by decide))
    | skip
  exact loop_nx (l, A.add .i64 i 1) hnx (by dsimp only; rw [q1]; exact hmeas) rfl
end Go.Proofs.Ytoocihhnlhehlaa
