/- The law StandingGivesUp, read: it answers true. -/
import Derived.Test.YtoocihhnlhehlaaLsd
import Derived.Test.YtoocihhnlhehlaaPlm
import Derived.Test.YtoocihhnlhehlaaWks
namespace Go.Proofs.Ytoocihhnlhehlaa
open Go Go.Proofs.Ytoocihhnlhehlaa.Den
set_option linter.unusedSimpArgs false
set_option linter.unusedVariables false
set_option maxRecDepth 100000
def oneO (o : Order) : Sl Order := ⟨1, fun _ => o⟩
/-- Behind so many attempts. -/
structure Tried (o : Order) (l : Sl Order) (t n : Int) : Prop where
  cnt : 0 ≤ n ∧ n ≤ 3
  one : l.n ≤ 1
  at' : l.n = 1 → (l.at' 0 = { o with tr := t } ∧ t = o.tr + n ∧ (n = 0 ∨ t ≤ 2)) ∨ (o.day < (l.at' 0).day ∧ (l.at' 0).tx = o.tx)
theorem tried_due {o : Order} {l : Sl Order} (h : l.n ≤ 1) (h1 : l.n = 1 → o.day < (l.at' 0).day) : (Sl.of noOrder ((Sl.list l).filter fun d => decide (d.day ≤ o.day))).n = 0 := by
  show (List.filter _ (List.map l.at' (List.range l.n))).length = 0
  rcases Nat.lt_or_ge l.n 1 with h2 | h2
  · have : l.n = 0 := by omega
    rw [this]; rfl
  · have e : l.n = 1 := by omega
    have := h1 e
    rw [e]
    have hd : decide ((l.at' 0).day ≤ o.day) = false := decide_eq_false (by omega)
    simp [List.range_succ, hd]
set_option maxHeartbeats 4000000 in
theorem gives_ok (o_id o_fr o_to o_am o_day o_ev o_an o_un o_tr : Int) (o_tx : ByteArray) (c_na : ByteArray) (c_we_n : Nat) (c_we : Nat → Int) (c_ho_n : Nat) (c_ho : Nat → Int) : Con Try.prog 10 [.agg [.v (.int .i64 (o_id)), .v (.int .i64 (o_fr)), .v (.int .i64 (o_to)), .v (.int .i64 (o_am)), .v (.int .i64 (o_day)), .v (.int .i64 (o_ev)), .v (.int .i64 (o_an)), .v (.int .i64 (o_un)), .v (.int .i64 (o_tr)), .v (.string (o_tx))], .agg [.v (.string (c_na)), .sl 1 c_we_n (fun j => [.int .i64 (c_we j)]), .sl 1 c_ho_n (fun j => [.int .i64 (c_ho j)])]] db true := by
  refine Con_of mixed tabOk Try.func10 (by decide) rfl rfl rfl (by decide) ?_; intro A R v' hA hR hv
  cbv
  refine call_c hR (light_ok ..) ?_
  intro g hg
  cbv
  repeat' (first | (refine And.intro (fun _ => ?_) (fun _ => ?_) <;> cbv) | (refine And.intro ?_ ?_; rotate_left; cbv) | (intro (_ : Bool) _; cbv))
  all_goals first
    | (rw [hv]; first | exact Le.vb rfl | exact Le.bb rfl)
    | skip
  rename_i e1 e2
  have hw : c_we_n ≤ 9223372036854775807 ∧ c_ho_n ≤ 9223372036854775807 := by
    have e1 : g = true := by subst hA; simpa [Ar.std] using e1
    rw [hg] at e1
    simp only [Bool.and_eq_true, decide_eq_true_eq] at e1
    obtain ⟨⟨_, a1⟩, a2⟩ := e1
    replace a1 : (c_we_n : Int) ≤ 20 := a1
    replace a2 : (c_ho_n : Int) ≤ 60 := a2
    exact ⟨by omega, by omega⟩
  have ht : o_tx.size ≤ 9223372036854775807 := by
    have e2 : (o_tx.size : Int) ≤ 200 := by subst hA; simpa [Ar.std] using e2
    omega
  clear e1 e2 hg
  refine call_c hR (checkO_ok (h := ht) ..) ?_
  intro u hu
  cbv
  refine And.intro (fun e => ?_) (fun e => ?_) <;> cbv
  · rw [hv]; first | exact Le.vb rfl | exact Le.bb rfl
  have hc : checkO ⟨o_id, o_fr, o_to, o_am, o_day, o_ev, o_an, o_un, o_tr, o_tx⟩ = 0 := by
    rw [← hu]; subst hA; simpa [Ar.std] using e
  clear hu e
  have hk := ordOk_of hc
  refine awp_forW (fun z : Sl Order × Int × Int => Tried ⟨o_id, o_fr, o_to, o_am, o_day, o_ev, o_an, o_un, o_tr, o_tx⟩ z.1 z.2.1 z.2.2) (fun z => (3 - z.2.2).toNat) (fun z => [(5, .c (.sl 10 z.1.n fun j => [.int .i64 ((z.1.at' j).id), .int .i64 ((z.1.at' j).fr), .int .i64 ((z.1.at' j).to), .int .i64 ((z.1.at' j).am), .int .i64 ((z.1.at' j).day), .int .i64 ((z.1.at' j).ev), .int .i64 ((z.1.at' j).an), .int .i64 ((z.1.at' j).un), .int .i64 ((z.1.at' j).tr), .string ((z.1.at' j).tx)])), (6, di z.2.1), (7, di z.2.2)])
    (fun _ => [(2, .fsl 10 1 (Ar.std.lit [[.int .i64 (o_id), .int .i64 (o_fr), .int .i64 (o_to), .int .i64 (o_am), .int .i64 (o_day), .int .i64 (o_ev), .int .i64 (o_an), .int .i64 (o_un), .int .i64 (o_tr), .string (o_tx)]])), (1, .box 51 [.v (.string (c_na)), .sl 1 c_we_n (fun j => [.int .i64 (c_we j)]), .sl 1 c_ho_n (fun j => [.int .i64 (c_ho j)])]), (0, .box 48 [.v (.int .i64 (o_id)), .v (.int .i64 (o_fr)), .v (.int .i64 (o_to)), .v (.int .i64 (o_am)), .v (.int .i64 (o_day)), .v (.int .i64 (o_ev)), .v (.int .i64 (o_an)), .v (.int .i64 (o_un)), .v (.int .i64 (o_tr)), .v (.string (o_tx))])]) (oneO ⟨o_id, o_fr, o_to, o_am, o_day, o_ev, o_an, o_un, o_tr, o_tx⟩, o_tr, 0)
    ⟨⟨by dsimp only; omega, by dsimp only; omega⟩, Nat.le_refl _, fun _ => .inl ⟨rfl, by show o_tr = o_tr + 0; omega, .inl rfl⟩⟩ (by cbv) ?_ ?_
  · exact Weak.sl 5 2 10 1 (Ar.std.lit [[.int .i64 (o_id), .int .i64 (o_fr), .int .i64 (o_to), .int .i64 (o_am), .int .i64 (o_day), .int .i64 (o_ev), .int .i64 (o_an), .int .i64 (o_un), .int .i64 (o_tr), .string (o_tx)]]) _ rfl rfl fun j hj => by
      have : j = 0 := by omega
      subst this; rfl
  rintro ⟨l, t, n⟩ hz
  obtain ⟨⟨hn0, hn3⟩, hl1, hz⟩ := hz
  dsimp only at hn0 hn3 hl1 hz
  have hl8 : l.n * 88 ≤ 140737488355328 := by omega
  have htx : ∀ j, j < l.n → (l.at' j).tx.size ≤ 9223372036854775807 := fun j hj => by
    have : j = 0 := by omega
    subst this
    rcases hz (by omega) with h | h
    · rw [h.1]; exact ht
    · rw [h.2]; exact ht
  have hb0 : 0 < l.n → A.inb 0 l.n := by
    intro h0; subst hA; exact ⟨Int.le_refl 0, by show (0 : Int) < (l.n : Int); omega⟩
  have en0 : ∀ (x : Nat) (y : Int), (x : Int) = y → A.eq (A.int x) y = true := fun x y h => by subst hA; subst h; exact beq_self_eq_true _
  have at0 : A.nat 0 = 0 := by subst hA; rfl
  have N1 : ¬ (true = !true) := by decide
  have N2 : ¬ (true = false) := by decide
  cbv
  by_cases hact : l.n = 1 ∧ (l.at' 0).day ≤ o_day
  · obtain ⟨ha1, ha2⟩ := hact
    have hst : l.at' 0 = { (⟨o_id, o_fr, o_to, o_am, o_day, o_ev, o_an, o_un, o_tr, o_tx⟩ : Order) with tr := t } ∧ t = o_tr + n ∧ (n = 0 ∨ t ≤ 2) := by
      rcases hz ha1 with h | h
      · exact h
      · have h1 : o_day < (l.at' 0).day := h.1
        omega
    obtain ⟨hs1, hs2, hs3⟩ := hst
    have htr : 0 ≤ o_tr ∧ o_tr ≤ 3 := hk.tr
    have hn : n < 3 := by omega
    have ht3 : 0 ≤ t ∧ t ≤ 3 := by omega
    have F := fails (we := ⟨c_we_n, c_we⟩) (ho := ⟨c_ho_n, c_ho⟩) hc ha1 hs1 ht3
    have q1 : A.add .i64 t 1 = t + 1 := by subst hA; exact wrap_id (by omega) (by omega)
    have q2 : A.add .i64 n 1 = n + 1 := by subst hA; exact wrap_id (by omega) (by omega)
    have E1 : A.lt n 3 = true := by subst hA; exact decide_eq_true hn
    have E2 : A.gt (A.int l.n) 0 = true := by subst hA; exact decide_eq_true (by show (0 : Int) < (l.n : Int); omega)
    have E3 : A.le (l.at' (A.nat 0)).day o_day = true := by rw [at0]; subst hA; exact decide_eq_true ha2
    have G : ∀ y : Sl Order × Int, y = doneS ⟨c_we_n, c_we⟩ ⟨c_ho_n, c_ho⟩ l o_id o_day false → y.2 = 0 ∧ y.1.n ≤ 1 ∧ (y.1.n = 1 → (t < 2 ∧ y.1.at' 0 = { (⟨o_id, o_fr, o_to, o_am, o_day, o_ev, o_an, o_un, o_tr, o_tx⟩ : Order) with tr := t + 1 }) ∨ (o_day < (y.1.at' 0).day ∧ (y.1.at' 0).tx = o_tx)) := by
      rintro y rfl; exact F
    have GT : ∀ y : Sl Order × Int, y = doneS ⟨c_we_n, c_we⟩ ⟨c_ho_n, c_ho⟩ l o_id o_day false → Tried ⟨o_id, o_fr, o_to, o_am, o_day, o_ev, o_an, o_un, o_tr, o_tx⟩ y.1 (A.add .i64 t 1) (A.add .i64 n 1) := by
      intro y hy
      obtain ⟨g1, g2, g3⟩ := G y hy
      rw [q1, q2]
      refine ⟨⟨by omega, by omega⟩, g2, fun h => ?_⟩
      rcases g3 h with h | h
      · exact .inl ⟨h.2, by show t + 1 = o_tr + (n + 1); omega, .inr (by omega)⟩
      · exact .inr h
    have inby : ∀ y : Sl Order × Int, A.eq (A.int y.1.n) 1 = true → A.inb 0 y.1.n := fun y h => by
      subst hA
      have h : (y.1.n : Int) = 1 := by simpa [Ar.std] using h
      exact ⟨Int.le_refl 0, by show (0 : Int) < (y.1.n : Int); omega⟩
    have X1 : ∀ y : Sl Order × Int, y = doneS ⟨c_we_n, c_we⟩ ⟨c_ho_n, c_ho⟩ l o_id o_day false → A.ne y.2 0 = true → False := fun y hy e => by
      rw [(G y hy).1] at e; subst hA; simp [Ar.std] at e
    have X2 : ∀ y : Sl Order × Int, y = doneS ⟨c_we_n, c_we⟩ ⟨c_ho_n, c_ho⟩ l o_id o_day false → A.gt (A.int y.1.n) 1 = true → False := fun y hy e => by
      have h1 := (G y hy).2.1
      subst hA
      have e : (1 : Int) < (y.1.n : Int) := by simpa [Ar.std] using e
      omega
    have X3 : ∀ y : Sl Order × Int, y = doneS ⟨c_we_n, c_we⟩ ⟨c_ho_n, c_ho⟩ l o_id o_day false → A.eq (A.int y.1.n) 1 = true → A.eq (y.1.at' (A.nat 0)).day o_day = true → A.ne (y.1.at' (A.nat 0)).tr (A.add .i64 t 1) = true → False := fun y hy e1 e2 e3 => by
      rw [at0] at e2 e3
      rw [q1] at e3
      have h1 := (G y hy).2.2
      subst hA
      have e1 : (y.1.n : Int) = 1 := by simpa [Ar.std] using e1
      have e2 : (y.1.at' 0).day = o_day := by simpa [Ar.std] using e2
      have e3 : ¬ (y.1.at' 0).tr = t + 1 := by simpa [Ar.std] using e3
      rcases h1 (by omega) with h | h
      · rw [h.2] at e3; exact e3 rfl
      · omega
    clear F hz hc hk G
    repeat' (first | (refine And.intro (fun _ => ?_) (fun _ => ?_) <;> cbv) | (refine call_c hR (Con.bool4 (done_ok (h := hl8) (ht := htx) (h1 := hw.1) (h2 := hw.2) ..)) ?_; intro _ _; cbv) | (refine And.intro ?_ ?_; rotate_left; cbv) | (intro (_ : Bool) _; cbv))
    all_goals first
      | exact trivial
      | exact hb0 (by omega)
      | (rename_i e; exfalso; first | exact N1 (E1.symm.trans e) | exact N2 (E1.symm.trans e) | exact N1 (E2.symm.trans e) | exact N2 (E2.symm.trans e) | exact N1 (E3.symm.trans e) | exact N2 (E3.symm.trans e))
      | (rename_i y hy e; exact (X1 y hy e).elim)
      | (rename_i y hy e0 e; exact (X2 y hy e).elim)
      | (rename_i y hy e0 e1 e2; exact inby y e2)
      | (rename_i y hy e0 e1 e2 e3; exact inby y e2)
      | (rename_i y hy e0 e1 e2 e3 e4; exact (X3 y hy e2 e3 e4).elim)
      | (rename_i y hy e0 e1 e2; exact loop_nx (y.1, A.add .i64 t 1, A.add .i64 n 1) (GT y hy) (by dsimp only; rw [q2]; omega) rfl)
      | (rename_i y hy e0 e1 e2 e3; exact loop_nx (y.1, A.add .i64 t 1, A.add .i64 n 1) (GT y hy) (by dsimp only; rw [q2]; omega) rfl)
      | (rename_i y hy e0 e1 e2 e3 e4; exact loop_nx (y.1, A.add .i64 t 1, A.add .i64 n 1) (GT y hy) (by dsimp only; rw [q2]; omega) rfl)
  · have hdue : ∀ d : Sl Order, d = Sl.of noOrder ((Sl.list l).filter fun d => decide (d.day ≤ o_day)) → d.n = 0 := by
      rintro d rfl
      refine tried_due (o := ⟨o_id, o_fr, o_to, o_am, o_day, o_ev, o_an, o_un, o_tr, o_tx⟩) hl1 fun h => ?_
      have : ¬ (l.at' 0).day ≤ o_day := fun h2 => hact ⟨h, h2⟩
      show o_day < _
      omega
    have hact2 : A.gt (A.int l.n) 0 = true → A.le (l.at' (A.nat 0)).day o_day = true → False := by
      intro h1 h2
      rw [at0] at h2
      subst hA
      have h1 : (0 : Int) < (l.n : Int) := by simpa [Ar.std] using h1
      have h2 : (l.at' 0).day ≤ o_day := by simpa [Ar.std] using h2
      exact hact ⟨by omega, h2⟩
    have hb1 : A.gt (A.int l.n) 0 = true → A.inb 0 l.n := by
      intro h1
      refine hb0 ?_
      subst hA
      have h1 : (0 : Int) < (l.n : Int) := by simpa [Ar.std] using h1
      omega
    clear hz hc hk
    repeat' (first | (refine And.intro (fun _ => ?_) (fun _ => ?_) <;> cbv) | (refine call_c hR (odue_ok (h := hl8) ..) ?_; intro _ _; cbv) | (refine call_c hR (olive_ok) ?_; intro _ _; cbv) | (refine And.intro ?_ ?_; rotate_left; cbv) | (intro (_ : Bool) _; cbv))
    all_goals first
      | exact hb1 (by assumption)
      | (rename_i x hx; rw [hv]; exact Le.bb hx.symm)
      | (rename_i d hd e; exact absurd ((en0 d.n 0 (by rw [hdue d hd]; rfl)).symm.trans e) N1)
      | (rename_i e1 e2 e3; exact (hact2 e2 e3).elim)
      | exact trivial
end Go.Proofs.Ytoocihhnlhehlaa
