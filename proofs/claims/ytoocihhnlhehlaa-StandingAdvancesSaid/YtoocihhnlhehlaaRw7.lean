/- The statement StandingAdvances. -/
import Derived.Test.YtoocihhnlhehlaaRows
import Derived.Test.YtoocihhnlhehlaaLw7
import Derived.Test.YtoocihhnlhehlaaOpo
import Derived.WalkKit
import Derived.ProofKit
import Derived.OpenShut
import Derived.ShutString
import Derived.ChangeOld
import Derived.Below
import Derived.SizedLaws
namespace Go.Proofs.Ytoocihhnlhehlaa.rowAdv
open Go Go.Proofs.Ytoocihhnlhehlaa.Den
open Go.ChangeShapes Go.WideShapes Go.ChangeAt Go.RowKit
open Go.ChangeMaps (open_string shut_string)
set_option linter.unusedVariables false
theorem own : ownKnob Try.prog.godebug = none := by kernel_rfl
theorem laidOut : laidOutB Try.prog = true := by kernel_rfl
theorem ordShape : Den.shape Try.prog 8 48 = some ordSh := by kernel_rfl
theorem calShape : Den.shape Try.prog 8 51 = some calSh := by kernel_rfl
set_option maxRecDepth 100000 in
theorem lifted (os : Os) (started : os.Started) (H : Type) (enc : TypeId × Value → H) :
    ReturnsInHanded {} Try.checked os 9 .any (Rows.standingAdvancesSpec.pre6 enc Try.prog Try.f9 Rows.standingAdvancesRow.domain false) (Rows.standingAdvancesSpec.post enc Try.prog Try.f9 false true false false) := by
  refine returnsInHanded_of_change_sized (C := Try.checked) own started (by kernel_rfl) Try.func9
    (ChangeSpec.witness6 (enc := enc) (C := Try.checked) false ⟨#[], #[.agg #[.int .i64 0, .int .i64 0, .int .i64 0, .int .i64 0, .int .i64 0, .int .i64 0, .int .i64 0, .int .i64 0, .int .i64 0, .string ByteArray.empty], .agg #[.string ByteArray.empty, .slice none 0 0, .slice none 0 0]], []⟩ 8 (by kernel_rfl) (by kernel_rfl) (by kernel_rfl) (by kernel_rfl)) ?_
  intro W base args ds gs before hval0 hW hcnd hsz0 _
  have hval : ∀ (j : Nat) t v, Try.f9.params[j]? = some t → args[j]? = some v → Value.okWide Try.prog W .any base t v := hval0
  have hW' := hW
  obtain ⟨p, q, hA0, hV, rfl, hfz, hnd⟩ := hW
  have hA : DataW.TrodAll enc Try.prog W 0 (fun _ => true) true Try.f9.params.toList args.toList ds p := hA0
  rw [Try.params9] at hA hval
  obtain ⟨v0, vs0, d0, ds0, p0, q0, hargs, rfl, rfl, h0, r0⟩ := trodAll_cons hA
  obtain ⟨v1, vs1, d1, ds1, p1, q1, rfl, rfl, rfl, h1, r1⟩ := trodAll_cons r0
  obtain ⟨rfl, rfl, rfl⟩ := trodAll_nil r1
  obtain rfl : args = #[v0, v1] := by cases args; simp_all
  obtain ⟨rfl, rfl⟩ := trodVars_none hV
  have k0 := h0
  have lt0 : ∀ x ∈ p0, x.block < W.heap.size := by obtain ⟨m, hm⟩ := k0; exact DataW.trod_lt m _ _ _ hm
  have k1 := h1
  have lt1 : ∀ x ∈ p1, x.block < W.heap.size := by obtain ⟨m, hm⟩ := k1; exact DataW.trod_lt m _ _ _ hm
  obtain ⟨xs, hx1, hx2⟩ := open_struct ordShape Try.underlying48 (hval 0 48 v0 rfl rfl) h0
  obtain ⟨o, ho, hoe⟩ := order_open hx1
  have hx3 := agg_open hoe hx2
  obtain ⟨ys, hy1, hy2⟩ := open_struct calShape Try.underlying51 (hval 1 51 v1 rfl rfl) h1
  obtain ⟨c, hce⟩ := cal_open hy1
  have hy3 := agg_open hce hy2
  clear hA0 hval0 hsz0
  have con := adv_ok o.id o.fr o.to o.am o.day o.ev o.an o.un o.tr o.tx c.na c.we.n c.we.at' c.ho.n c.ho.at'
  refine (con.2 W (fun _ => False) [v0, v1] (fun _ h => h.elim) ⟨v0, _, rfl, hx3, v1, _, rfl, hy3, rfl⟩).mono fun e W' ⟨u, he, bel, hu⟩ => ?_
  obtain rfl : u = .bool true := hu
  subst he
  exact ⟨_, rfl, _, _, _, [], _, [], hW', trodAll_mk1 (shut_bool Try.underlying4 _), (trodAll_cons_mk (Below.trod laidOut (by kernel_rfl) (of_decide_eq_true (by kernel_rfl)) k0 bel lt0) (trodAll_cons_mk (Below.trod laidOut (by kernel_rfl) (of_decide_eq_true (by kernel_rfl)) k1 bel lt1) trodAll_mk0)), rfl, bel.frame _, fun h => by cases h⟩
theorem over : Rows.standingAdvancesRow.holds Try.pinned (OpenSpec.ofChange Rows.standingAdvancesSpec) :=
  OpenClaim.holds_of_wide 9 Try.f9 rfl rfl rfl rfl rfl rfl rfl ⟨rfl, rfl, rfl, rfl, rfl⟩ rfl rfl rfl rfl rfl (by kernel_rfl) Try.func9 (by kernel_rfl)
    (of_decide_eq_true (by kernel_rfl)) (by unfold Func.isWrapper; first | (rw [if_pos (by decide +kernel)]; kernel_rfl) | (rw [if_neg (by decide +kernel)]; exact ⟨rfl, rfl⟩))
    (fun os started H enc _ => lifted os started H enc)
theorem proved : Rows.StandingAdvancesSaid := over
#print axioms proved
end Go.Proofs.Ytoocihhnlhehlaa.rowAdv
