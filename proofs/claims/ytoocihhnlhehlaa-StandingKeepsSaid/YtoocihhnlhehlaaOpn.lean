/- Loans that come in: an abstract value of a loan, with its ranges. -/
import Derived.Test.YtoocihhnlhehlaaSpa
import Derived.Test.YtoocihhnlhehlaaDenh
import Derived.Test.YtoocihhnlhehlaaDenl
namespace Go.Proofs.Ytoocihhnlhehlaa
open Go Go.Proofs.Ytoocihhnlhehlaa.Den
set_option maxRecDepth 100000
def In (n : Int) : Prop := -9223372036854775808 ≤ n ∧ n ≤ 9223372036854775807
theorem in_wf {n : Int} (h : (Lit.int .i64 n).wf = true) : In n := by
  simp only [Lit.wf, Bool.and_eq_true, decide_eq_true_eq] at h
  exact h
def i64s : Nat → List CK
  | 0 => []
  | n + 1 => .int .i64 :: i64s n
def dueK : List CK := [.int .i64, .int .i64, .int .i64, .int .i64]
def changeK : List CK := [.int .i64, .int .i64, .int .i64, .int .i64, .int .i64, .int .i64, .int .i64, .int .i64, .int .i64, .int .i64, .int .i64, .int .i64, .str, .str]
def ik : CS := .k (.int .i64)
def loanSh : List CS := [ik, ik, ik, ik, ik, ik, ik, ik, ik, ik, ik, ik, ik, ik, ik, ik, ik, ik, ik, ik, ik, .k .str, .k .str, .sl 76 dueK, .sl 93 changeK]
theorem pick_fun {α : Type} {n : Nat} {P : Nat → α → Prop} (d : α) (h : ∀ j, j < n → ∃ a, P j a) : ∃ f : Nat → α, ∀ j, j < n → P j (f j) := by
  have h' : ∀ j, ∃ a, j < n → P j a := fun j => by
    by_cases hj : j < n
    · obtain ⟨a, ha⟩ := h j hj
      exact ⟨a, fun _ => ha⟩
    · exact ⟨d, fun hj' => absurd hj' hj⟩
  exact ⟨fun j => Classical.choose (h' j), fun j hj => Classical.choose_spec (h' j) hj⟩
def DueIn (d : Due) : Prop := In d.no ∧ In d.day ∧ In d.pr ∧ In d.it
theorem due_open {n : Nat} {get : Nat → List Value} (h : ∀ j, j < n → KsOk dueK (get j)) : ∃ f : Nat → Due, ∀ j, j < n → get j = [vi (f j).no, vi (f j).day, vi (f j).pr, vi (f j).it] ∧ DueIn (f j) := by
  refine pick_fun (P := fun j (d : Due) => get j = [vi d.no, vi d.day, vi d.pr, vi d.it] ∧ DueIn d) ⟨0, 0, 0, 0⟩ fun j hj => ?_
  have h1 := h j hj
  simp only [dueK, KsOk, VTy] at h1
  obtain ⟨_, _, e, ⟨a, rfl, ha⟩, _, _, rfl, ⟨b, rfl, hb⟩, _, _, rfl, ⟨c, rfl, hc⟩, _, _, rfl, ⟨d, rfl, hd⟩, rfl⟩ := h1
  exact ⟨⟨a, b, c, d⟩, e, in_wf ha, in_wf hb, in_wf hc, in_wf hd⟩
theorem change_open {n : Nat} {get : Nat → List Value} (h : ∀ j, j < n → KsOk changeK (get j)) : ∃ f : Nat → Change, ∀ j, j < n → get j = [.int .i64 ((f j).day), .int .i64 ((f j).am), .int .i64 ((f j).old.me), .int .i64 ((f j).old.p), .int .i64 ((f j).old.ppm), .int .i64 ((f j).old.st), .int .i64 ((f j).old.ev), .int .i64 ((f j).old.co), .int .i64 ((f j).old.ba), .int .i64 ((f j).old.mo), .int .i64 ((f j).old.pp), .int .i64 ((f j).old.fp), .string ((f j).old.cal), .string ((f j).old.cur)] := by
  refine pick_fun (P := fun j (c : Change) => get j = [.int .i64 (c.day), .int .i64 (c.am), .int .i64 (c.old.me), .int .i64 (c.old.p), .int .i64 (c.old.ppm), .int .i64 (c.old.st), .int .i64 (c.old.ev), .int .i64 (c.old.co), .int .i64 (c.old.ba), .int .i64 (c.old.mo), .int .i64 (c.old.pp), .int .i64 (c.old.fp), .string (c.old.cal), .string (c.old.cur)]) ⟨0, 0, ⟨0, 0, 0, 0, 0, 0, 0, 0, 0, 0, ByteArray.empty, ByteArray.empty⟩⟩ fun j hj => ?_
  have h1 := h j hj
  simp only [changeK, KsOk, VTy] at h1
  obtain ⟨_, _, e, ⟨x0, rfl, _⟩, _, _, rfl, ⟨x1, rfl, _⟩, _, _, rfl, ⟨x2, rfl, _⟩, _, _, rfl, ⟨x3, rfl, _⟩, _, _, rfl, ⟨x4, rfl, _⟩, _, _, rfl, ⟨x5, rfl, _⟩, _, _, rfl, ⟨x6, rfl, _⟩, _, _, rfl, ⟨x7, rfl, _⟩, _, _, rfl, ⟨x8, rfl, _⟩, _, _, rfl, ⟨x9, rfl, _⟩, _, _, rfl, ⟨x10, rfl, _⟩, _, _, rfl, ⟨x11, rfl, _⟩, _, _, rfl, ⟨x12, rfl, _⟩, _, _, rfl, ⟨x13, rfl, _⟩, rfl⟩ := h1
  exact ⟨⟨x0, x1, ⟨x2, x3, x4, x5, x6, x7, x8, x9, x10, x11, x12, x13⟩⟩, e⟩
/-- A loan's numbers are in the ranges of their types. -/
structure LoanIn (l : Loan) : Prop where
  id : In l.id
  ac : In l.ac
  st : In l.st
  pp : In l.pp
  pi : In l.pi
  fe : In l.fe
  pe : In l.pe
  ch : In l.ch
  pv : In l.pv
  lo : In l.lo
  re : In l.re
  d : ∀ j, j < l.d.n → DueIn (l.d.at' j)
  dn : l.d.n ≤ maxLen
  cn : l.c.n ≤ maxLen
theorem loan_open {xs : List C} (h : Typed loanSh xs) : ∃ l : Loan, LoanIn l ∧ CLes xs [.v (.int .i64 (l.id)), .v (.int .i64 (l.ac)), .v (.int .i64 (l.st)), .v (.int .i64 (l.pp)), .v (.int .i64 (l.pi)), .v (.int .i64 (l.fe)), .v (.int .i64 (l.pe)), .v (.int .i64 (l.ch)), .v (.int .i64 (l.pv)), .v (.int .i64 (l.lo)), .v (.int .i64 (l.re)), .v (.int .i64 (l.t.me)), .v (.int .i64 (l.t.p)), .v (.int .i64 (l.t.ppm)), .v (.int .i64 (l.t.st)), .v (.int .i64 (l.t.ev)), .v (.int .i64 (l.t.co)), .v (.int .i64 (l.t.ba)), .v (.int .i64 (l.t.mo)), .v (.int .i64 (l.t.pp)), .v (.int .i64 (l.t.fp)), .v (.string (l.t.cal)), .v (.string (l.t.cur)), .sl 4 l.d.n (fun j => [.int .i64 ((l.d.at' j).no), .int .i64 ((l.d.at' j).day), .int .i64 ((l.d.at' j).pr), .int .i64 ((l.d.at' j).it)]), .sl 14 l.c.n (fun j => [.int .i64 ((l.c.at' j).day), .int .i64 ((l.c.at' j).am), .int .i64 ((l.c.at' j).old.me), .int .i64 ((l.c.at' j).old.p), .int .i64 ((l.c.at' j).old.ppm), .int .i64 ((l.c.at' j).old.st), .int .i64 ((l.c.at' j).old.ev), .int .i64 ((l.c.at' j).old.co), .int .i64 ((l.c.at' j).old.ba), .int .i64 ((l.c.at' j).old.mo), .int .i64 ((l.c.at' j).old.pp), .int .i64 ((l.c.at' j).old.fp), .string ((l.c.at' j).old.cal), .string ((l.c.at' j).old.cur)])] := by
  simp only [loanSh, ik, Typed, CTy] at h
  obtain ⟨_, _, rfl, ⟨l_id, rfl, hl_id⟩, _, _, rfl, ⟨l_ac, rfl, hl_ac⟩, _, _, rfl, ⟨l_st, rfl, hl_st⟩, _, _, rfl, ⟨l_pp, rfl, hl_pp⟩, _, _, rfl, ⟨l_pi, rfl, hl_pi⟩, _, _, rfl, ⟨l_fe, rfl, hl_fe⟩, _, _, rfl, ⟨l_pe, rfl, hl_pe⟩, _, _, rfl, ⟨l_ch, rfl, hl_ch⟩, _, _, rfl, ⟨l_pv, rfl, hl_pv⟩, _, _, rfl, ⟨l_lo, rfl, hl_lo⟩, _, _, rfl, ⟨l_re, rfl, hl_re⟩, _, _, rfl, ⟨l_t_me, rfl, hl_t_me⟩, _, _, rfl, ⟨l_t_p, rfl, hl_t_p⟩, _, _, rfl, ⟨l_t_ppm, rfl, hl_t_ppm⟩, _, _, rfl, ⟨l_t_st, rfl, hl_t_st⟩, _, _, rfl, ⟨l_t_ev, rfl, hl_t_ev⟩, _, _, rfl, ⟨l_t_co, rfl, hl_t_co⟩, _, _, rfl, ⟨l_t_ba, rfl, hl_t_ba⟩, _, _, rfl, ⟨l_t_mo, rfl, hl_t_mo⟩, _, _, rfl, ⟨l_t_pp, rfl, hl_t_pp⟩, _, _, rfl, ⟨l_t_fp, rfl, hl_t_fp⟩, _, _, rfl, ⟨l_t_cal, rfl, _⟩, _, _, rfl, ⟨l_t_cur, rfl, _⟩, _, _, rfl, ⟨dn, dg, rfl, hdn, hd⟩, _, _, rfl, ⟨cn, cg, rfl, hcn, hc⟩, rfl⟩ := h
  obtain ⟨df, hdf⟩ := due_open hd
  obtain ⟨cf, hcf⟩ := change_open hc
  refine ⟨⟨l_id, l_ac, l_st, l_pp, l_pi, l_fe, l_pe, l_ch, l_pv, l_lo, l_re, ⟨l_t_me, l_t_p, l_t_ppm, l_t_st, l_t_ev, l_t_co, l_t_ba, l_t_mo, l_t_pp, l_t_fp, l_t_cal, l_t_cur⟩, ⟨dn, df⟩, ⟨cn, cf⟩⟩, ⟨in_wf hl_id, in_wf hl_ac, in_wf hl_st, in_wf hl_pp, in_wf hl_pi, in_wf hl_fe, in_wf hl_pe, in_wf hl_ch, in_wf hl_pv, in_wf hl_lo, in_wf hl_re, fun j hj => (hdf j hj).2, hdn, hcn⟩, ?_⟩
  repeat' (first | exact CLes.nil | exact CLe.refl _ | apply CLes.cons)
  · exact CLe.sl rfl fun j hj => (hdf j hj).1
  · exact CLe.sl rfl fun j hj => hcf j hj
theorem agg_open {w : World} {xs ys : List C} {u : Value} (h : CLes xs ys) (hr : D.rep0 w (fun _ => False) Gh.none (.agg xs) u) : D.rep0 w (fun _ => False) Gh.none (.agg ys) u := by
  simp only [D.rep0] at hr ⊢
  obtain ⟨us, e, h1, h2⟩ := hr
  exact ⟨us, e, h.reps h1, h2⟩
end Go.Proofs.Ytoocihhnlhehlaa
