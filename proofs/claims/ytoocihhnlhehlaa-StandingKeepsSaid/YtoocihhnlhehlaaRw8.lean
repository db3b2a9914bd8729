/- The statement StandingKeeps. -/
import Derived.Test.YtoocihhnlhehlaaRows
import Derived.Test.YtoocihhnlhehlaaLw8
import Derived.Test.YtoocihhnlhehlaaOpp
import Derived.WalkKit
import Derived.ProofKit
import Derived.OpenShut
import Derived.ShutString
import Derived.ChangeOld
import Derived.Below
import Derived.SizedLaws
namespace Go.Proofs.Ytoocihhnlhehlaa.rowKeeps
open Go Go.Proofs.Ytoocihhnlhehlaa.Den
open Go.ChangeShapes Go.WideShapes Go.ChangeAt Go.RowKit
open Go.ChangeMaps (open_string shut_string)
set_option linter.unusedVariables false
theorem own : ownKnob Try.prog.godebug = none := by kernel_rfl
theorem laidOut : laidOutB Try.prog = true := by kernel_rfl
theorem ordsShape : Den.shape Try.prog 8 57 = some [.sl 48 ordK] := by kernel_rfl
theorem actsShape : Den.shape Try.prog 8 58 = some [.sl 62 actK] := by kernel_rfl
theorem calShape : Den.shape Try.prog 8 51 = some calSh := by kernel_rfl
set_option maxRecDepth 100000 in
theorem lifted (os : Os) (started : os.Started) (H : Type) (enc : TypeId × Value → H) :
    ReturnsInHanded {} Try.checked os 8 .any (Rows.standingKeepsSpec.pre6 enc Try.prog Try.f8 Rows.standingKeepsRow.domain false) (Rows.standingKeepsSpec.post enc Try.prog Try.f8 false true false false) := by
  refine returnsInHanded_of_change_sized (C := Try.checked) own started (by kernel_rfl) Try.func8
    (ChangeSpec.witness6 (enc := enc) (C := Try.checked) false ⟨#[], #[.slice none 0 0, .slice none 0 0, .agg #[.string ByteArray.empty, .slice none 0 0, .slice none 0 0]], []⟩ 8 (by kernel_rfl) (by kernel_rfl) (by kernel_rfl) (by kernel_rfl)) ?_
  intro W base args ds gs before hval0 hW hcnd hsz0 _
  have hval : ∀ (j : Nat) t v, Try.f8.params[j]? = some t → args[j]? = some v → Value.okWide Try.prog W .any base t v := hval0
  have hW' := hW
  obtain ⟨p, q, hA0, hV, rfl, hfz, hnd⟩ := hW
  have hA : DataW.TrodAll enc Try.prog W 0 (fun _ => true) true Try.f8.params.toList args.toList ds p := hA0
  rw [Try.params8] at hA hval
  obtain ⟨v0, vs0, d0, ds0, p0, q0, hargs, rfl, rfl, h0, r0⟩ := trodAll_cons hA
  obtain ⟨v1, vs1, d1, ds1, p1, q1, rfl, rfl, rfl, h1, r1⟩ := trodAll_cons r0
  obtain ⟨v2, vs2, d2, ds2, p2, q2, rfl, rfl, rfl, h2, r2⟩ := trodAll_cons r1
  obtain ⟨rfl, rfl, rfl⟩ := trodAll_nil r2
  obtain rfl : args = #[v0, v1, v2] := by cases args; simp_all
  obtain ⟨rfl, rfl⟩ := trodVars_none hV
  have k0 := h0
  have lt0 : ∀ x ∈ p0, x.block < W.heap.size := by obtain ⟨m, hm⟩ := k0; exact DataW.trod_lt m _ _ _ hm
  have k1 := h1
  have lt1 : ∀ x ∈ p1, x.block < W.heap.size := by obtain ⟨m, hm⟩ := k1; exact DataW.trod_lt m _ _ _ hm
  have k2 := h2
  have lt2 : ∀ x ∈ p2, x.block < W.heap.size := by obtain ⟨m, hm⟩ := k2; exact DataW.trod_lt m _ _ _ hm
  obtain ⟨x0, hx1, hx2⟩ := open_cell ordsShape (one_slice Try.underlying57 (hval 0 57 v0 rfl rfl)) h0
  simp only [CTy] at hx1
  obtain ⟨ln, lg, rfl, hln, hlg⟩ := hx1
  obtain ⟨lf, hlf⟩ := orders_open hlg
  have hx3 : D.rep0 W (fun _ => False) Gh.none (.c (.sl 10 ln fun j => [.int .i64 ((lf j).id), .int .i64 ((lf j).fr), .int .i64 ((lf j).to), .int .i64 ((lf j).am), .int .i64 ((lf j).day), .int .i64 ((lf j).ev), .int .i64 ((lf j).an), .int .i64 ((lf j).un), .int .i64 ((lf j).tr), .string ((lf j).tx)])) v0 := by
    simp only [D.rep0] at hx2 ⊢
    exact sl_congr rfl (fun j hj => (hlf j hj).1) hx2
  obtain ⟨y0, hy1, hy2⟩ := open_cell actsShape (one_slice Try.underlying58 (hval 1 58 v1 rfl rfl)) h1
  simp only [CTy] at hy1
  obtain ⟨an, ag, rfl, han, hag⟩ := hy1
  obtain ⟨af, haf⟩ := acts_open hag
  have hy3 : D.rep0 W (fun _ => False) Gh.none (.c (.sl 14 an fun j => [.int .i64 ((af j).kd), .int .i64 ((af j).id), .int .i64 ((af j).day), .bool ((af j).ok), .int .i64 ((af j).o.id), .int .i64 ((af j).o.fr), .int .i64 ((af j).o.to), .int .i64 ((af j).o.am), .int .i64 ((af j).o.day), .int .i64 ((af j).o.ev), .int .i64 ((af j).o.an), .int .i64 ((af j).o.un), .int .i64 ((af j).o.tr), .string ((af j).o.tx)])) v1 := by
    simp only [D.rep0] at hy2 ⊢
    exact sl_congr rfl (fun j hj => haf j hj) hy2
  obtain ⟨zs, hz1, hz2⟩ := open_struct calShape Try.underlying51 (hval 2 51 v2 rfl rfl) h2
  obtain ⟨c, hce⟩ := cal_open hz1
  have hz3 := agg_open hce hz2
  clear hA0 hval0 hsz0
  have con := keeps_ok (l_n := ln) (l_id := fun j => (lf j).id) (l_fr := fun j => (lf j).fr) (l_to := fun j => (lf j).to) (l_am := fun j => (lf j).am) (l_day := fun j => (lf j).day) (l_ev := fun j => (lf j).ev) (l_an := fun j => (lf j).an) (l_un := fun j => (lf j).un) (l_tr := fun j => (lf j).tr) (l_tx := fun j => (lf j).tx)
    (a_n := an) (a_kd := fun j => (af j).kd) (a_id := fun j => (af j).id) (a_day := fun j => (af j).day) (a_ok := fun j => (af j).ok) (a_o_id := fun j => (af j).o.id) (a_o_fr := fun j => (af j).o.fr) (a_o_to := fun j => (af j).o.to) (a_o_am := fun j => (af j).o.am) (a_o_day := fun j => (af j).o.day) (a_o_ev := fun j => (af j).o.ev) (a_o_an := fun j => (af j).o.an) (a_o_un := fun j => (af j).o.un) (a_o_tr := fun j => (af j).o.tr) (a_o_tx := fun j => (af j).o.tx)
    (c_na := c.na) (c_we_n := c.we.n) (c_we := c.we.at') (c_ho_n := c.ho.n) (c_ho := c.ho.at') (hl := hln) (ha := han)
  refine (con.2 W (fun _ => False) [v0, v1, v2] (fun _ h => h.elim) ⟨v0, _, rfl, hx3, v1, _, rfl, hy3, v2, _, rfl, hz3, rfl⟩).mono fun e W' ⟨u, he, bel, hu⟩ => ?_
  obtain rfl : u = .bool true := hu
  subst he
  exact ⟨_, rfl, _, _, _, [], _, [], hW', trodAll_mk1 (shut_bool Try.underlying4 _), (trodAll_cons_mk (Below.trod laidOut (by kernel_rfl) (of_decide_eq_true (by kernel_rfl)) k0 bel lt0) (trodAll_cons_mk (Below.trod laidOut (by kernel_rfl) (of_decide_eq_true (by kernel_rfl)) k1 bel lt1) (trodAll_cons_mk (Below.trod laidOut (by kernel_rfl) (of_decide_eq_true (by kernel_rfl)) k2 bel lt2) trodAll_mk0))), rfl, bel.frame _, fun h => by cases h⟩
theorem over : Rows.standingKeepsRow.holds Try.pinned (OpenSpec.ofChange Rows.standingKeepsSpec) :=
  OpenClaim.holds_of_wide 8 Try.f8 rfl rfl rfl rfl rfl rfl rfl ⟨rfl, rfl, rfl, rfl, rfl⟩ rfl rfl rfl rfl rfl (by kernel_rfl) Try.func8 (by kernel_rfl)
    (of_decide_eq_true (by kernel_rfl)) (by unfold Func.isWrapper; first | (rw [if_pos (by decide +kernel)]; kernel_rfl) | (rw [if_neg (by decide +kernel)]; exact ⟨rfl, rfl⟩))
    (fun os started H enc _ => lifted os started H enc)
theorem proved : Rows.StandingKeepsSaid := over
#print axioms proved
end Go.Proofs.Ytoocihhnlhehlaa.rowKeeps
