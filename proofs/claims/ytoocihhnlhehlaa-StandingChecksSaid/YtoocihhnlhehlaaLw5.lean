/- The law StandingChecks, read: it answers true. -/
import Derived.Test.YtoocihhnlhehlaaLsd
namespace Go.Proofs.Ytoocihhnlhehlaa
open Go Go.Proofs.Ytoocihhnlhehlaa.Den
set_option linter.unusedSimpArgs false
set_option linter.unusedVariables false
set_option maxRecDepth 100000
theorem schecks_ok (o_id o_fr o_to o_am o_day o_ev o_an o_un o_tr : Int) (o_tx : ByteArray) (c_na : ByteArray) (c_we_n : Nat) (c_we : Nat → Int) (c_ho_n : Nat) (c_ho : Nat → Int) : Con Try.prog 7 [.agg [.v (.int .i64 (o_id)), .v (.int .i64 (o_fr)), .v (.int .i64 (o_to)), .v (.int .i64 (o_am)), .v (.int .i64 (o_day)), .v (.int .i64 (o_ev)), .v (.int .i64 (o_an)), .v (.int .i64 (o_un)), .v (.int .i64 (o_tr)), .v (.string (o_tx))], .agg [.v (.string (c_na)), .sl 1 c_we_n (fun j => [.int .i64 (c_we j)]), .sl 1 c_ho_n (fun j => [.int .i64 (c_ho j)])]] db true := by
  refine Con_of mixed tabOk Try.func7 (by decide) rfl rfl rfl (by decide) ?_; intro A R v' hA hR hv
  cbv
  refine call_c hR (light_ok ..) ?_
  intro g hg
  cbv
  repeat' (first | (refine And.intro (fun _ => ?_) (fun _ => ?_) <;> cbv) | (refine And.intro ?_ ?_; rotate_left; cbv) | (intro (_ : Bool) _; cbv))
  all_goals first
    | (rw [hv]; first | exact Le.vb rfl | exact Le.bb rfl)
    | skip
  rename_i e1 e2
  have hw : c_we_n ≤ 9223372036854775807 ∧ c_ho_n ≤ 9223372036854775807 := by
    have e1 : g = true := by subst hA; simpa [Ar.std] using e1
    rw [hg] at e1
    simp only [Bool.and_eq_true, decide_eq_true_eq] at e1
    obtain ⟨⟨_, a1⟩, a2⟩ := e1
    replace a1 : (c_we_n : Int) ≤ 20 := a1
    replace a2 : (c_ho_n : Int) ≤ 60 := a2
    exact ⟨by omega, by omega⟩
  have ht : o_tx.size ≤ 9223372036854775807 := by
    have e2 : (o_tx.size : Int) ≤ 200 := by subst hA; simpa [Ar.std] using e2
    omega
  refine call_c hR (nextO_ok (h := ht) (h1 := hw.1) (h2 := hw.2) ..) ?_
  intro x hx
  cbv
  refine call_c hR (rnextO_ok (h := ht) (h1 := hw.1) (h2 := hw.2) ..) ?_
  intro y hy
  have hxy : y = x := hy.trans hx.symm
  subst hxy
  clear hx hy
  cbv
  refine call_c hR (checkO_ok (h := ht) ..) ?_
  intro u hu
  cbv
  refine call_c hR (rcheckO_ok (h := ht) ..) ?_
  intro w hw2
  have huw : w = u := hw2.trans hu.symm
  subst huw
  clear hu hw2
  have ev0 : ∀ x : Int, A.eq x x = true := fun x => by subst hA; exact beq_self_eq_true x
  have N1 : ¬ (true = !true) := by decide
  cbv
  repeat' (first | (refine And.intro (fun _ => ?_) (fun _ => ?_) <;> cbv) | (refine call_c hR (olive_ok) ?_; intro _ _; cbv) | (refine And.intro ?_ ?_; rotate_left; cbv) | (intro (_ : Bool) _; cbv))
  all_goals first
    | (rename_i x hx; rw [hv, hx]; first | exact Le.bb rfl | exact Le.vb rfl)
    | (rename_i e
       exfalso
       first | exact N1 ((ev0 _).symm.trans e))
end Go.Proofs.Ytoocihhnlhehlaa
