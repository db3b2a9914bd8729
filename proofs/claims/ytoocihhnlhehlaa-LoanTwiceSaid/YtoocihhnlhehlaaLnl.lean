/- Loans, the law's own functions: two, part, of, Live. -/
import Derived.Test.YtoocihhnlhehlaaLnh
import Derived.Test.YtoocihhnlhehlaaLni
import Derived.Test.YtoocihhnlhehlaaLnd
import Derived.Test.YtoocihhnlhehlaaPld
namespace Go.Proofs.Ytoocihhnlhehlaa
open Go Go.Proofs.Ytoocihhnlhehlaa.Den
set_option linter.unusedSimpArgs false
set_option linter.unusedVariables false
set_option maxRecDepth 100000
def twoT : Terms := ⟨0, 1000, 0, 0, 0, 0, 0, 0, 0, 0, ⟨#[]⟩, ⟨#[]⟩⟩
def twoS : Loan := ⟨1, 1000, 1, 0, 0, 0, 0, 0, 0, 0, 0, twoT, ⟨2, fun j => ([⟨1, 31, 500, 10⟩, ⟨2, 59, 500, 5⟩] : List Due).getD j ⟨0, 0, 0, 0⟩⟩, ⟨0, fun _ => ⟨0, 0, twoT⟩⟩⟩
theorem two_j {j : Nat} (h : j < 2) : j = 0 ∨ j = 1 := by omega
theorem two_ok : Con Try.prog 51 [] (fun x : Loan => .agg [.v (.int .i64 (x.id)), .v (.int .i64 (x.ac)), .v (.int .i64 (x.st)), .v (.int .i64 (x.pp)), .v (.int .i64 (x.pi)), .v (.int .i64 (x.fe)), .v (.int .i64 (x.pe)), .v (.int .i64 (x.ch)), .v (.int .i64 (x.pv)), .v (.int .i64 (x.lo)), .v (.int .i64 (x.re)), .v (.int .i64 (x.t.me)), .v (.int .i64 (x.t.p)), .v (.int .i64 (x.t.ppm)), .v (.int .i64 (x.t.st)), .v (.int .i64 (x.t.ev)), .v (.int .i64 (x.t.co)), .v (.int .i64 (x.t.ba)), .v (.int .i64 (x.t.mo)), .v (.int .i64 (x.t.pp)), .v (.int .i64 (x.t.fp)), .v (.string (x.t.cal)), .v (.string (x.t.cur)), .sl 4 x.d.n (fun j => [.int .i64 ((x.d.at' j).no), .int .i64 ((x.d.at' j).day), .int .i64 ((x.d.at' j).pr), .int .i64 ((x.d.at' j).it)]), .sl 14 x.c.n (fun j => [.int .i64 ((x.c.at' j).day), .int .i64 ((x.c.at' j).am), .int .i64 ((x.c.at' j).old.me), .int .i64 ((x.c.at' j).old.p), .int .i64 ((x.c.at' j).old.ppm), .int .i64 ((x.c.at' j).old.st), .int .i64 ((x.c.at' j).old.ev), .int .i64 ((x.c.at' j).old.co), .int .i64 ((x.c.at' j).old.ba), .int .i64 ((x.c.at' j).old.mo), .int .i64 ((x.c.at' j).old.pp), .int .i64 ((x.c.at' j).old.fp), .string ((x.c.at' j).old.cal), .string ((x.c.at' j).old.cur)])]) twoS := by
  refine Con_of mixed tabOk Try.func51 (by decide) rfl rfl rfl (by decide) ?_; intro A R v' hA hR hv
  cbv
  subst hA hv
  refine Le.agg ?_
  repeat' (first | exact CLes.nil | exact CLe.refl _ | exact CLe.nil rfl | apply CLes.cons)
  exact CLe.sl rfl fun j hj => by
    rcases two_j hj with rfl | rfl <;> rfl
theorem part_ok (k a : Int) : Con Try.prog 52 [di k, di a] (fun x : Part => .agg [.v (.int .i64 (x.k)), .v (.int .i64 (x.a))]) ⟨k, a⟩ := by
  refine Con_of mixed tabOk Try.func52 (by decide) rfl rfl rfl (by decide) ?_; intro A R v' hA hR hv
  cbv
  subst hA hv
  exact Le.agg (CLes.rfl_ _)
theorem of_ok (l_n : Nat) (l_k l_a : Nat → Int) (kind : Int) (h : l_n ≤ 9223372036854775807) : Con Try.prog 23 [.c (.sl 2 l_n (fun j => [.int .i64 (l_k j), .int .i64 (l_a j)])), di kind] di (ofS ⟨l_n, fun j => ⟨l_k j, l_a j⟩⟩ kind) := by
  show Con _ _ _ _ (sumIf (fun j => l_k j == kind) l_a l_n)
  refine Con_of mixed tabOk Try.func23 (by decide) rfl rfl rfl (by decide) ?_; intro A R v' hA hR hv
  generalize hS : sumIf = S
  cbv
  refine awp_fors (fun k : Nat => k ≤ l_n) (fun k => l_n - k) (fun k => [(5, di (S (fun j => l_k j == kind) l_a k)), (6, di (A.int k))]) 0 (Nat.zero_le _) (by cbv) ?_ ?_
  · subst hA hS; exact sim_eq rfl
  · intro k hk
    cbv
    repeat' (first | (refine And.intro (fun _ => ?_) (fun _ => ?_) <;> cbv) | (refine And.intro ?_ ?_; rotate_left; cbv) | (intro (_ : Bool) _; cbv))
    all_goals subst hA hS hR hv
    all_goals dsimp only [Ar.std] at *
    all_goals rcases Nat.lt_or_ge k l_n with hlt | hge
    all_goals first
      | (exfalso; simp_all <;> omega)
      | exact ⟨by omega, by omega⟩
      | (have e1 : IntKind.i64.wrap ((k : Int) + 1) = (k : Int) + 1 := wrap_id (by omega) (by omega)
         refine loop_nx (k + 1) (by omega) (by omega) ?_
         simp_all [forget, keepFr, dropMem, updFr, sumIf] <;> (intros; omega))
      | (have : k = l_n := by omega
         subst this
         exact Le.vi rfl)
theorem pay1 : payS twoS 300 31 = ({ twoS with pp := 290, pi := 10 }, push (push noParts ⟨3, 10⟩) ⟨4, 290⟩, 0) := by rfl
theorem pay2 : ∃ l, payS twoS 600 31 = (l, push (push (push noParts ⟨3, 10⟩) ⟨4, 500⟩) ⟨5, 90⟩, 0) := ⟨_, rfl⟩
theorem pay3 : payS twoS 7 30 = (twoS, push noParts ⟨5, 7⟩, 0) := by rfl
theorem pay4 : payS { twoS with pp := 290, pi := 10 } 725 59 = ({ twoS with pp := 1000, pi := 15, st := 2 }, push (push (push noParts ⟨3, 5⟩) ⟨4, 710⟩) ⟨5, 10⟩, 0) := by rfl
theorem pay5 : payS { twoS with pp := 1000, pi := 15, st := 2 } 1 59 = (noLoan, noParts, 17) := by rfl
/-- The second row that came in may be told in other words, too. -/
theorem Con.sl2 {P : Program} {f sz n : Nat} {get get' : Nat → List Value} {a : D} {rest : List D} {α : Type} {mk : α → D} {v : α} (h : Con P f (a :: .c (.sl sz n get') :: rest) mk v) (hg : ∀ j, j < n → get j = get' j) : Con P f (a :: .c (.sl sz n get) :: rest) mk v :=
  ⟨h.1, fun w X us hX hus => h.2 w X us hX (by
    simp only [D.reps] at hus ⊢
    obtain ⟨y, ys, hu, h1, x, xs, hu2, h3, h4⟩ := hus
    refine ⟨y, ys, hu, h1, x, xs, hu2, ?_, h4⟩
    simp only [D.rep0] at h3 ⊢
    exact sl_congr rfl hg h3)⟩
def lp (l : List Part) : Sl Part := Sl.of ⟨0, 0⟩ l
theorem lp_get (l : List Part) : ∀ j, j < l.length → Ar.std.lit (l.map fun p => [vi p.k, vi p.a]) j = [vi ((lp l).at' j).k, vi ((lp l).at' j).a] := by
  intro j hj
  show (l.map fun p => [vi p.k, vi p.a]).getD j [] = _
  simp [lp, Sl.of, hj]
set_option maxHeartbeats 40000000 in
theorem live_ok : Con Try.prog 19 [] db true := by
  refine Con_of mixed tabOk Try.func19 (by decide) rfl rfl rfl (by decide) ?_; intro A R v' hA hR hv
  cbv
  refine call_c hR two_ok ?_
  rintro _ rfl
  cbv
  refine call_c hR (pay_ok (h := by decide) (h2 := by decide) ..) ?_
  intro x hx
  obtain rfl : x = ({ twoS with pp := 290, pi := 10 }, push (push noParts ⟨3, 10⟩) ⟨4, 290⟩, 0) := hx.trans pay1
  clear hx
  cbv
  refine call_c hR two_ok ?_
  rintro _ rfl
  cbv
  refine call_c hR (pay_ok (h := by decide) (h2 := by decide) ..) ?_
  intro x hx
  obtain ⟨lq, hlq⟩ := pay2
  obtain rfl : x = (lq, push (push (push noParts ⟨3, 10⟩) ⟨4, 500⟩) ⟨5, 90⟩, 0) := hx.trans hlq
  clear hx hlq
  cbv
  refine call_c hR two_ok ?_
  rintro _ rfl
  cbv
  refine call_c hR (pay_ok (h := by decide) (h2 := by decide) ..) ?_
  intro x hx
  obtain rfl : x = (twoS, push noParts ⟨5, 7⟩, 0) := hx.trans pay3
  clear hx
  cbv
  refine call_c hR (pay_ok (h := by decide) (h2 := by decide) ..) ?_
  intro x hx
  obtain rfl : x = ({ twoS with pp := 1000, pi := 15, st := 2 }, push (push (push noParts ⟨3, 5⟩) ⟨4, 710⟩) ⟨5, 10⟩, 0) := hx.trans pay4
  clear hx
  cbv
  refine call_c hR (pay_ok (h := by decide) (h2 := by decide) ..) ?_
  intro x hx
  obtain rfl : x = (noLoan, noParts, 17) := hx.trans pay5
  clear hx
  cbv
  refine call_c hR two_ok ?_
  rintro _ rfl
  cbv
  refine call_c hR (check_ok (h := by decide) ..) ?_
  intro x hx
  obtain rfl : x = 0 := hx.trans rfl
  clear hx
  cbv
  refine And.intro (fun e => ?_) (fun e => ?_)
  rotate_left
  · subst hA; exact absurd e (by decide)
  cbv
  refine And.intro (fun e => ?_) (fun e => ?_)
  rotate_left
  · subst hA; exact absurd e (by decide)
  cbv
  refine And.intro (fun e => ?_) (fun e => ?_)
  rotate_left
  · subst hA; exact absurd e (by decide)
  cbv
  refine And.intro (fun e => ?_) (fun e => ?_)
  rotate_left
  · subst hA; exact absurd e (by decide)
  cbv
  refine And.intro (fun e => ?_) (fun e => ?_)
  rotate_left
  · subst hA; exact absurd e (by decide)
  cbv
  refine And.intro (fun e => ?_) (fun e => ?_)
  rotate_left
  · subst hA; exact absurd e (by decide)
  cbv
  refine call_c hR (out_ok (h := by decide) ..) ?_
  intro x hx
  obtain rfl : x = 710 := hx.trans rfl
  clear hx
  cbv
  refine And.intro (fun e => ?_) (fun e => ?_)
  rotate_left
  · subst hA; exact absurd e (by decide)
  cbv
  refine And.intro (fun e => ?_) (fun e => ?_)
  rotate_left
  · subst hA; exact absurd e (by decide)
  cbv
  refine call_c hR (out_ok (h := by decide) ..) ?_
  intro x hx
  obtain rfl : x = 0 := hx.trans rfl
  clear hx
  cbv
  refine And.intro (fun e => ?_) (fun _ => ?_)
  · subst hA; exact absurd e (by decide)
  cbv
  refine call_c hR two_ok ?_
  rintro _ rfl
  cbv
  refine call_c hR (owed_ok (h := by decide) ..) ?_
  rintro _ rfl
  cbv
  refine call_c hR (part_ok _ _) ?_
  rintro _ rfl
  cbv
  refine call_c hR (part_ok _ _) ?_
  rintro _ rfl
  cbv
  refine call_c hR (Con.sl2 (sameParts_ok _ _ _ _ (fun j => ((lp [⟨3, 10⟩, ⟨4, 500⟩]).at' j).k) (fun j => ((lp [⟨3, 10⟩, ⟨4, 500⟩]).at' j).a) (by decide)) (by subst hA; exact lp_get [⟨3, 10⟩, ⟨4, 500⟩])) ?_
  intro x hx
  obtain rfl : x = true := hx.trans rfl
  clear hx
  cbv
  refine And.intro (fun _ => ?_) (fun e => absurd e (by decide))
  cbv
  refine call_c hR (part_ok _ _) ?_
  rintro _ rfl
  cbv
  refine call_c hR (part_ok _ _) ?_
  rintro _ rfl
  cbv
  refine call_c hR (Con.sl2 (sameParts_ok _ _ _ _ (fun j => ((lp [⟨3, 10⟩, ⟨4, 290⟩]).at' j).k) (fun j => ((lp [⟨3, 10⟩, ⟨4, 290⟩]).at' j).a) (by decide)) (by subst hA; exact lp_get [⟨3, 10⟩, ⟨4, 290⟩])) ?_
  intro x hx
  obtain rfl : x = true := hx.trans rfl
  clear hx
  cbv
  refine And.intro (fun _ => ?_) (fun e => absurd e (by decide))
  cbv
  refine call_c hR (part_ok _ _) ?_
  rintro _ rfl
  cbv
  refine call_c hR (part_ok _ _) ?_
  rintro _ rfl
  cbv
  refine call_c hR (part_ok _ _) ?_
  rintro _ rfl
  cbv
  refine call_c hR (Con.sl2 (sameParts_ok _ _ _ _ (fun j => ((lp [⟨3, 10⟩, ⟨4, 500⟩, ⟨5, 90⟩]).at' j).k) (fun j => ((lp [⟨3, 10⟩, ⟨4, 500⟩, ⟨5, 90⟩]).at' j).a) (by decide)) (by subst hA; exact lp_get [⟨3, 10⟩, ⟨4, 500⟩, ⟨5, 90⟩])) ?_
  intro x hx
  obtain rfl : x = true := hx.trans rfl
  clear hx
  cbv
  refine And.intro (fun _ => ?_) (fun e => absurd e (by decide))
  cbv
  refine call_c hR (part_ok _ _) ?_
  rintro _ rfl
  cbv
  refine call_c hR (Con.sl2 (sameParts_ok _ _ _ _ (fun j => ((lp [⟨5, 7⟩]).at' j).k) (fun j => ((lp [⟨5, 7⟩]).at' j).a) (by decide)) (by subst hA; exact lp_get [⟨5, 7⟩])) ?_
  intro x hx
  obtain rfl : x = true := hx.trans rfl
  clear hx
  cbv
  refine And.intro (fun _ => ?_) (fun e => absurd e (by decide))
  cbv
  refine call_c hR (part_ok _ _) ?_
  rintro _ rfl
  cbv
  refine call_c hR (part_ok _ _) ?_
  rintro _ rfl
  cbv
  refine call_c hR (part_ok _ _) ?_
  rintro _ rfl
  cbv
  refine call_c hR (Con.sl2 (sameParts_ok _ _ _ _ (fun j => ((lp [⟨3, 5⟩, ⟨4, 710⟩, ⟨5, 10⟩]).at' j).k) (fun j => ((lp [⟨3, 5⟩, ⟨4, 710⟩, ⟨5, 10⟩]).at' j).a) (by decide)) (by subst hA; exact lp_get [⟨3, 5⟩, ⟨4, 710⟩, ⟨5, 10⟩])) ?_
  intro x hx
  obtain rfl : x = true := hx.trans rfl
  clear hx
  cbv
  subst hv
  first | exact Le.vb rfl | exact Le.bb rfl
end Go.Proofs.Ytoocihhnlhehlaa
