/- The statement LoanTwice. -/
import Derived.Test.YtoocihhnlhehlaaRows
import Derived.Test.YtoocihhnlhehlaaLw4
import Derived.Test.YtoocihhnlhehlaaOpa
import Derived.WalkKit
import Derived.ProofKit
import Derived.OpenShut
import Derived.ShutString
import Derived.ChangeOld
import Derived.Below
import Derived.SizedLaws
namespace Go.Proofs.Ytoocihhnlhehlaa.rowTwice
open Go Go.Proofs.Ytoocihhnlhehlaa.Den
open Go.ChangeShapes Go.WideShapes Go.ChangeAt Go.RowKit
open Go.ChangeMaps (open_string shut_string)
set_option linter.unusedVariables false
theorem own : ownKnob Try.prog.godebug = none := by kernel_rfl
theorem laidOut : laidOutB Try.prog = true := by kernel_rfl
theorem loanShape : Den.shape Try.prog 8 27 = some loanSh := by kernel_rfl
set_option maxRecDepth 100000 in
theorem lifted (os : Os) (started : os.Started) (H : Type) (enc : TypeId × Value → H) :
    ReturnsInHanded {} Try.checked os 6 .any (Rows.loanTwiceSpec.pre6 enc Try.prog Try.f6 Rows.loanTwiceRow.domain false) (Rows.loanTwiceSpec.post enc Try.prog Try.f6 false true false false) := by
  refine returnsInHanded_of_change_sized (C := Try.checked) own started (by kernel_rfl) Try.func6
    (ChangeSpec.witness6 (enc := enc) (C := Try.checked) false ⟨#[], #[.agg #[.int .i64 0, .int .i64 0, .int .i64 0, .int .i64 0, .int .i64 0, .int .i64 0, .int .i64 0, .int .i64 0, .int .i64 0, .int .i64 0, .int .i64 0, .int .i64 0, .int .i64 0, .int .i64 0, .int .i64 0, .int .i64 0, .int .i64 0, .int .i64 0, .int .i64 0, .int .i64 0, .int .i64 0, .string ByteArray.empty, .string ByteArray.empty, .slice none 0 0, .slice none 0 0], .agg #[.int .i64 0, .int .i64 0], .int .i64 0], []⟩ 8 (by kernel_rfl) (by kernel_rfl) (by kernel_rfl) (by kernel_rfl)) ?_
  intro W base args ds gs before hval0 hW hcnd hsz0 _
  have hval : ∀ (j : Nat) t v, Try.f6.params[j]? = some t → args[j]? = some v → Value.okWide Try.prog W .any base t v := hval0
  have hW' := hW
  obtain ⟨p, q, hA0, hV, rfl, hfz, hnd⟩ := hW
  have hA : DataW.TrodAll enc Try.prog W 0 (fun _ => true) true Try.f6.params.toList args.toList ds p := hA0
  rw [Try.params6] at hA hval
  obtain ⟨v0, vs0, d0, ds0, p0, q0, hargs, rfl, rfl, h0, r0⟩ := trodAll_cons hA
  obtain ⟨v1, vs1, d1, ds1, p1, q1, rfl, rfl, rfl, h1, r1⟩ := trodAll_cons r0
  obtain ⟨v2, vs2, d2, ds2, p2, q2, rfl, rfl, rfl, h2, r2⟩ := trodAll_cons r1
  obtain ⟨rfl, rfl, rfl⟩ := trodAll_nil r2
  obtain rfl : args = #[v0, v1, v2] := by cases args; simp_all
  obtain ⟨rfl, rfl⟩ := trodVars_none hV
  have k0 := h0
  have lt0 : ∀ x ∈ p0, x.block < W.heap.size := by obtain ⟨m, hm⟩ := k0; exact DataW.trod_lt m _ _ _ hm
  obtain ⟨xs, hx1, hx2⟩ := open_struct loanShape Try.underlying27 (hval 0 27 v0 rfl rfl) h0
  obtain ⟨l, hl, hle⟩ := loan_open hx1
  have hx3 := agg_open hle hx2
  have k1 := h1
  have lt1 : ∀ x ∈ p1, x.block < W.heap.size := by obtain ⟨m, hm⟩ := k1; exact DataW.trod_lt m _ _ _ hm
  obtain ⟨a1, b1, rfl, i1, j1⟩ := open_pair Try.underlying45 Try.underlying3 (by kernel_rfl) (by kernel_rfl) (hval 1 45 v1 rfl rfl) h1
  obtain ⟨a2, rfl, rfl, rfl, w2⟩ := open_int Try.underlying3 (hval 2 3 v2 rfl rfl) h2
  clear hA0 hval0 hsz0
  have con := twice_ok (l_d_n := l.d.n) (l_d_day := fun j => (l.d.at' j).day) (n := a1) (m := b1) (hm := j1) (day := a2) (l_id := l.id) (l_ac := l.ac) (l_st := l.st) (l_pp := l.pp) (l_pi := l.pi) (l_fe := l.fe) (l_pe := l.pe) (l_ch := l.ch) (l_pv := l.pv) (l_lo := l.lo) (l_re := l.re)
    (l_t_me := l.t.me) (l_t_p := l.t.p) (l_t_ppm := l.t.ppm) (l_t_st := l.t.st) (l_t_ev := l.t.ev) (l_t_co := l.t.co) (l_t_ba := l.t.ba) (l_t_mo := l.t.mo) (l_t_pp := l.t.pp) (l_t_fp := l.t.fp) (l_t_cal := l.t.cal) (l_t_cur := l.t.cur)
    (l_d_no := fun j => (l.d.at' j).no) (l_d_pr := fun j => (l.d.at' j).pr) (l_d_it := fun j => (l.d.at' j).it) (l_c_n := l.c.n) (l_c_day := fun j => (l.c.at' j).day) (l_c_am := fun j => (l.c.at' j).am)
    (l_c_old_me := fun j => (l.c.at' j).old.me) (l_c_old_p := fun j => (l.c.at' j).old.p) (l_c_old_ppm := fun j => (l.c.at' j).old.ppm) (l_c_old_st := fun j => (l.c.at' j).old.st) (l_c_old_ev := fun j => (l.c.at' j).old.ev) (l_c_old_co := fun j => (l.c.at' j).old.co) (l_c_old_ba := fun j => (l.c.at' j).old.ba) (l_c_old_mo := fun j => (l.c.at' j).old.mo) (l_c_old_pp := fun j => (l.c.at' j).old.pp) (l_c_old_fp := fun j => (l.c.at' j).old.fp) (l_c_old_cal := fun j => (l.c.at' j).old.cal) (l_c_old_cur := fun j => (l.c.at' j).old.cur)
  refine (con.2 W (fun _ => False) [v0, .agg #[.int .i64 a1, .int .i64 b1], .int .i64 a2] (fun _ h => h.elim) ⟨v0, _, rfl, hx3, .agg #[.int .i64 a1, .int .i64 b1], _, rfl, ⟨[.int .i64 a1, .int .i64 b1], rfl, ⟨_, _, rfl, ⟨rfl, rfl⟩, _, _, rfl, ⟨rfl, rfl⟩, rfl⟩, by simp [Value.oneCell']⟩, .int .i64 a2, _, rfl, ⟨rfl, rfl⟩, rfl⟩).mono fun e W' ⟨u, he, bel, hu⟩ => ?_
  obtain rfl : u = .bool true := hu
  subst he
  exact ⟨_, rfl, _, _, _, [], _, [], hW', trodAll_mk1 (shut_bool Try.underlying4 _), (trodAll_cons_mk (Below.trod laidOut (by kernel_rfl) (of_decide_eq_true (by kernel_rfl)) k0 bel lt0) (trodAll_cons_mk (Below.trod laidOut (by kernel_rfl) (of_decide_eq_true (by kernel_rfl)) k1 bel lt1) (trodAll_cons_mk (shut_int Try.underlying3 w2) trodAll_mk0))), rfl, bel.frame _, fun h => by cases h⟩
theorem over : Rows.loanTwiceRow.holds Try.pinned (OpenSpec.ofChange Rows.loanTwiceSpec) :=
  OpenClaim.holds_of_wide 6 Try.f6 rfl rfl rfl rfl rfl rfl rfl ⟨rfl, rfl, rfl, rfl, rfl⟩ rfl rfl rfl rfl rfl (by kernel_rfl) Try.func6 (by kernel_rfl)
    (of_decide_eq_true (by kernel_rfl)) (by unfold Func.isWrapper; first | (rw [if_pos (by decide +kernel)]; kernel_rfl) | (rw [if_neg (by decide +kernel)]; exact ⟨rfl, rfl⟩))
    (fun os started H enc _ => lifted os started H enc)
theorem proved : Rows.LoanTwiceSaid := over
#print axioms proved
end Go.Proofs.Ytoocihhnlhehlaa.rowTwice
