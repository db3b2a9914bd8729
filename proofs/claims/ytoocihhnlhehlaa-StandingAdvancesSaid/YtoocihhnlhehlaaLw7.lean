/- The law StandingAdvances, read: it answers true. -/
import Derived.Test.YtoocihhnlhehlaaLsd
import Derived.Test.YtoocihhnlhehlaaPln
import Derived.Test.YtoocihhnlhehlaaWks
namespace Go.Proofs.Ytoocihhnlhehlaa
open Go Go.Proofs.Ytoocihhnlhehlaa.Den
set_option linter.unusedSimpArgs false
set_option linter.unusedVariables false
set_option maxRecDepth 100000
def oneO_ (o : Order) : Sl Order := ⟨1, fun _ => o⟩
theorem civ_in (x : Int) : 0 ≤ (civ x).1 ∧ (civ x).1 ≤ 2199 ∧ 0 ≤ (civ x).2.1 ∧ (civ x).2.1 ≤ 12 := by
  cases h : dayB x with
  | true =>
    have hc := civ_is h
    have := hc.hy
    have := hc.hm
    omega
  | false => simp [civ, h]
set_option maxHeartbeats 4000000 in
theorem adv_ok (o_id o_fr o_to o_am o_day o_ev o_an o_un o_tr : Int) (o_tx : ByteArray) (c_na : ByteArray) (c_we_n : Nat) (c_we : Nat → Int) (c_ho_n : Nat) (c_ho : Nat → Int) : Con Try.prog 9 [.agg [.v (.int .i64 (o_id)), .v (.int .i64 (o_fr)), .v (.int .i64 (o_to)), .v (.int .i64 (o_am)), .v (.int .i64 (o_day)), .v (.int .i64 (o_ev)), .v (.int .i64 (o_an)), .v (.int .i64 (o_un)), .v (.int .i64 (o_tr)), .v (.string (o_tx))], .agg [.v (.string (c_na)), .sl 1 c_we_n (fun j => [.int .i64 (c_we j)]), .sl 1 c_ho_n (fun j => [.int .i64 (c_ho j)])]] db true := by
  refine Con_of mixed tabOk Try.func9 (by decide) rfl rfl rfl (by decide) ?_; intro A R v' hA hR hv
  cbv
  refine call_c hR (light_ok ..) ?_
  intro g hg
  cbv
  repeat' (first | (refine And.intro (fun _ => ?_) (fun _ => ?_) <;> cbv) | (refine And.intro ?_ ?_; rotate_left; cbv) | (intro (_ : Bool) _; cbv))
  all_goals first
    | (rw [hv]; first | exact Le.vb rfl | exact Le.bb rfl)
    | skip
  rename_i e1 e2
  have hw : c_we_n ≤ 9223372036854775807 ∧ c_ho_n ≤ 9223372036854775807 := by
    have e1 : g = true := by subst hA; simpa [Ar.std] using e1
    rw [hg] at e1
    simp only [Bool.and_eq_true, decide_eq_true_eq] at e1
    obtain ⟨⟨_, a1⟩, a2⟩ := e1
    replace a1 : (c_we_n : Int) ≤ 20 := a1
    replace a2 : (c_ho_n : Int) ≤ 60 := a2
    exact ⟨by omega, by omega⟩
  have ht : o_tx.size ≤ 9223372036854775807 := by
    have e2 : (o_tx.size : Int) ≤ 200 := by subst hA; simpa [Ar.std] using e2
    omega
  clear e1 e2 hg
  refine call_c hR (checkO_ok (h := ht) ..) ?_
  intro u hu
  cbv
  repeat' (first | (refine And.intro (fun _ => ?_) (fun _ => ?_) <;> cbv) | (refine And.intro ?_ ?_; rotate_left; cbv) | (intro (_ : Bool) _; cbv))
  all_goals first
    | (rw [hv]; first | exact Le.vb rfl | exact Le.bb rfl)
    | (subst hA; show (28 : Int) ≠ 0; omega)
    | skip
  all_goals
    have hc : checkO ⟨o_id, o_fr, o_to, o_am, o_day, o_ev, o_an, o_un, o_tr, o_tx⟩ = 0 := by
      rw [← hu]
      first
        | (rename_i e1 e2 e3; subst hA; simpa [Ar.std] using e1)
        | (rename_i e1 e2; subst hA; simpa [Ar.std] using e1)
    have hk := ordOk_of hc
    have hgd : 0 < o_ev → (o_un - o_day) / 28 ≤ 40 * o_ev := by
      have h1 : dayB o_day = true := hk.day
      have h2 : dayB o_un = true := hk.un
      have h3 : o_day ≤ o_un := hk.le
      have h4 : o_ev = 0 ∨ o_ev = 1 ∨ o_ev = 3 ∨ o_ev = 6 ∨ o_ev = 12 := hk.ev
      have h1' : 0 ≤ o_day ∧ o_day ≤ 73048 := by simpa [dayB] using h1
      have h2' : 0 ≤ o_un ∧ o_un ≤ 73048 := by simpa [dayB] using h2
      first
        | (rename_i e1 e2 e3
           intro _
           subst hA
           have e3 : ¬ IntKind.i64.wrap (40 * o_ev) < IntKind.i64.wrap ((IntKind.i64.wrap (o_un - o_day)).tdiv 28) := by simpa [Ar.std] using e3
           rw [wrap_id (n := o_un - o_day) (by omega) (by omega), Int.tdiv_eq_ediv_of_nonneg (by omega), wrap_id (n := (o_un - o_day) / 28) (by omega) (by omega), wrap_id (n := 40 * o_ev) (by omega) (by omega)] at e3
           omega)
        | (rename_i e1 e2
           intro h5
           subst hA
           have e2 : ¬ 0 < o_ev := by simpa [Ar.std] using e2
           omega)
    clear hu
    refine awp_forW (fun z : Sl Order × Int => Adv ⟨o_id, o_fr, o_to, o_am, o_day, o_ev, o_an, o_un, o_tr, o_tx⟩ z.1 z.2) (fun z => (51 - z.2).toNat) (fun z => [(5, .c (.sl 10 z.1.n fun j => [.int .i64 ((z.1.at' j).id), .int .i64 ((z.1.at' j).fr), .int .i64 ((z.1.at' j).to), .int .i64 ((z.1.at' j).am), .int .i64 ((z.1.at' j).day), .int .i64 ((z.1.at' j).ev), .int .i64 ((z.1.at' j).an), .int .i64 ((z.1.at' j).un), .int .i64 ((z.1.at' j).tr), .string ((z.1.at' j).tx)])), (6, di z.2)])
      (fun _ => [(2, .fsl 10 1 (Ar.std.lit [[.int .i64 (o_id), .int .i64 (o_fr), .int .i64 (o_to), .int .i64 (o_am), .int .i64 (o_day), .int .i64 (o_ev), .int .i64 (o_an), .int .i64 (o_un), .int .i64 (o_tr), .string (o_tx)]])), (1, .box 51 [.v (.string (c_na)), .sl 1 c_we_n (fun j => [.int .i64 (c_we j)]), .sl 1 c_ho_n (fun j => [.int .i64 (c_ho j)])]), (0, .box 48 [.v (.int .i64 (o_id)), .v (.int .i64 (o_fr)), .v (.int .i64 (o_to)), .v (.int .i64 (o_am)), .v (.int .i64 (o_day)), .v (.int .i64 (o_ev)), .v (.int .i64 (o_an)), .v (.int .i64 (o_un)), .v (.int .i64 (o_tr)), .v (.string (o_tx))])]) (oneO_ ⟨o_id, o_fr, o_to, o_am, o_day, o_ev, o_an, o_un, o_tr, o_tx⟩, 0)
      ⟨by dsimp only; omega, Nat.le_refl _, fun _ => ⟨o_day, o_tr, rfl, hc, by show mon o_day = mon o_day + 0 * o_ev; omega, .inl rfl, by dsimp only; omega⟩, fun h => by cases h⟩ (by cbv) ?_ ?_
    · exact Weak.sl 5 2 10 1 (Ar.std.lit [[.int .i64 (o_id), .int .i64 (o_fr), .int .i64 (o_to), .int .i64 (o_am), .int .i64 (o_day), .int .i64 (o_ev), .int .i64 (o_an), .int .i64 (o_un), .int .i64 (o_tr), .string (o_tx)]]) _ rfl rfl fun j hj => by
        have : j = 0 := by omega
        subst this; rfl
    rintro ⟨l, n⟩ hz
    have hz : Adv ⟨o_id, o_fr, o_to, o_am, o_day, o_ev, o_an, o_un, o_tr, o_tx⟩ l n := hz
    have hn0 : 0 ≤ n := hz.n0
    have hl1 : l.n ≤ 1 := hz.one
    have hn42 : n ≤ 42 := by
      rcases Nat.lt_or_ge l.n 1 with h | h
      · exact hz.gone (by omega)
      · obtain ⟨_, _, _, _, _, _, h⟩ := hz.at' (by omega)
        omega
    have hl8 : l.n * 88 ≤ 140737488355328 := by omega
    have htx : ∀ j, j < l.n → (l.at' j).tx.size ≤ 9223372036854775807 := fun j hj => by
      have : j = 0 := by omega
      subst this
      obtain ⟨_, _, h, _⟩ := hz.at' (by omega)
      rw [h]; exact ht
    have E1 : A.le n 50 = true := by subst hA; exact decide_eq_true (by omega)
    have at0 : A.nat 0 = 0 := by subst hA; rfl
    have N1 : ¬ (true = !true) := by decide
    have q2 : A.add .i64 n 1 = n + 1 := by subst hA; exact wrap_id (by omega) (by omega)
    have hev : o_ev = 0 ∨ o_ev = 1 ∨ o_ev = 3 ∨ o_ev = 6 ∨ o_ev = 12 := hk.ev
    clear hk
    cbv
    refine And.intro (fun e => ?_) (fun e => ?_) <;> cbv
    rotate_left
    · exact absurd (E1.symm.trans e) N1
    refine And.intro (fun e => ?_) (fun e => ?_) <;> cbv
    · refine call_c hR olive_ok ?_
      intro x hx
      cbv
      rw [hv]; exact Le.bb hx.symm
    have hn1 : l.n = 1 := by
      have e : ¬ (l.n : Int) = 0 := by subst hA; simpa [Ar.std] using e
      omega
    have hb0 : A.inb 0 l.n := by subst hA; exact ⟨Int.le_refl 0, by show (0 : Int) < (l.n : Int); omega⟩
    clear e
    refine And.intro hb0 ?_
    refine call_c hR (Con.bool4 (done_ok (h := hl8) (ht := htx) (h1 := hw.1) (h2 := hw.2) ..)) ?_
    intro y hy
    have hy : y = doneS ⟨c_we_n, c_we⟩ ⟨c_ho_n, c_ho⟩ l o_id (l.at' 0).day true := by
      refine Eq.trans (b := doneS ⟨c_we_n, c_we⟩ ⟨c_ho_n, c_ho⟩ l o_id (l.at' (A.nat 0)).day true) hy ?_
      rw [at0]
    have hstep := advances (we := ⟨c_we_n, c_we⟩) (ho := ⟨c_ho_n, c_ho⟩) hc hgd hz hn1
    have hstep : Step ⟨o_id, o_fr, o_to, o_am, o_day, o_ev, o_an, o_un, o_tr, o_tx⟩ (l.at' 0).day y ∧ Adv ⟨o_id, o_fr, o_to, o_am, o_day, o_ev, o_an, o_un, o_tr, o_tx⟩ y.1 (n + 1) := by rw [hy]; exact hstep
    obtain ⟨⟨s1, s2, s3, s4, s5, s6⟩, had⟩ := hstep
    have s3 : y.1.n = 1 → 12 * (civ (y.1.at' 0).day).1 + (civ (y.1.at' 0).day).2.1 = 12 * (civ (l.at' 0).day).1 + (civ (l.at' 0).day).2.1 + o_ev := s3
    have s4 : y.1.n = 1 → o_ev ≠ 0 := s4
    have s5 : y.1.n = 1 → (y.1.at' 0).day ≤ o_un := s5
    have s2 : y.1.n ≤ 1 := s2
    clear hy hz hc hgd
    have N3 : ¬ (false = true) := by decide
    have K1 : A.ne y.2 0 = false := by rw [s1]; subst hA; rfl
    have K2 : A.gt (A.int y.1.n) 1 = false := by subst hA; exact decide_eq_false (by show ¬ (1 : Int) < (y.1.n : Int); omega)
    have had' : Adv ⟨o_id, o_fr, o_to, o_am, o_day, o_ev, o_an, o_un, o_tr, o_tx⟩ y.1 (A.add .i64 n 1) := by rw [q2]; exact had
    cbv
    repeat' (first | (refine And.intro (fun _ => ?_) (fun _ => ?_) <;> cbv) | (refine And.intro ?_ ?_; rotate_left; cbv) | (intro (_ : Bool) _; cbv))
    all_goals first
      | (rename_i e; exfalso; first | exact N3 (K1.symm.trans e) | exact N3 (K2.symm.trans e))
      | exact loop_nx (y.1, A.add .i64 n 1) had' (by dsimp only; rw [q2]; omega) rfl
      | skip
    rename_i e0 e1 e2
    have hy1 : y.1.n = 1 := by
      have e2 : (y.1.n : Int) = 1 := by subst hA; simpa [Ar.std] using e2
      omega
    have hb1 : A.inb 0 y.1.n := by subst hA; exact ⟨Int.le_refl 0, by show (0 : Int) < (y.1.n : Int); omega⟩
    have s3 := s3 hy1
    have s4 := s4 hy1
    have s5 := s5 hy1
    have s6 := s6 hy1
    clear e0 e1 e2
    refine call_c hR (rciv_ok _) ?_
    intro x1 hx1
    have hx1 : x1 = civ (l.at' 0).day := by
      refine Eq.trans (b := civ (l.at' (A.nat 0)).day) hx1 ?_
      rw [at0]
    cbv
    refine And.intro hb1 ?_
    refine call_c hR (rciv_ok _) ?_
    intro x2 hx2
    have hx2 : x2 = civ (y.1.at' 0).day := by
      refine Eq.trans (b := civ (y.1.at' (A.nat 0)).day) hx2 ?_
      rw [at0]
    have c1 := civ_in (l.at' 0).day
    have c2 := civ_in (y.1.at' 0).day
    rw [← hx1] at s3 c1
    rw [← hx2] at s3 c2
    have K3 : A.ne (A.add .i64 (A.mul .i64 x2.1 12) x2.2.1) (A.add .i64 (A.add .i64 (A.mul .i64 x1.1 12) x1.2.1) o_ev) = false := by
      subst hA
      show (IntKind.i64.wrap (IntKind.i64.wrap (x2.1 * 12) + x2.2.1) != IntKind.i64.wrap (IntKind.i64.wrap (IntKind.i64.wrap (x1.1 * 12) + x1.2.1) + o_ev)) = false
      rw [wrap_id (n := x2.1 * 12) (by omega) (by omega), wrap_id (n := x1.1 * 12) (by omega) (by omega), wrap_id (n := x1.1 * 12 + x1.2.1) (by omega) (by omega), wrap_id (n := x2.1 * 12 + x2.2.1) (by omega) (by omega), wrap_id (n := x1.1 * 12 + x1.2.1 + o_ev) (by omega) (by omega)]
      rw [show x2.1 * 12 + x2.2.1 = x1.1 * 12 + x1.2.1 + o_ev by omega]
      exact bne_self_eq_false _
    have K4 : A.eq o_ev 0 = false := by subst hA; exact beq_eq_false_iff_ne.2 s4
    have K5 : A.gt (y.1.at' (A.nat 0)).day o_un = false := by rw [at0]; subst hA; exact decide_eq_false (by omega)
    have K6 : A.ne (y.1.at' (A.nat 0)).tr 0 = false := by rw [at0, s6]; subst hA; rfl
    clear hx1 hx2
    cbv
    repeat' (first | (refine And.intro (fun _ => ?_) (fun _ => ?_) <;> cbv) | (refine And.intro ?_ ?_; rotate_left; cbv) | (intro (_ : Bool) _; cbv))
    all_goals first
      | exact hb1
      | (rename_i e; exfalso; first | exact N3 (K3.symm.trans e) | exact N3 (K4.symm.trans e) | exact N3 (K5.symm.trans e) | exact N3 (K6.symm.trans e))
      | exact loop_nx (y.1, A.add .i64 n 1) had' (by dsimp only; rw [q2]; omega) rfl
end Go.Proofs.Ytoocihhnlhehlaa
