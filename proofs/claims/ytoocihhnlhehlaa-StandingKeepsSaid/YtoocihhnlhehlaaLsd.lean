/- Standing orders: the law's own functions: monthly, week, live. -/
import Derived.Test.YtoocihhnlhehlaaLsc
import Derived.KernelRfl
namespace Go.Proofs.Ytoocihhnlhehlaa
open Go Go.Proofs.Ytoocihhnlhehlaa.Den
set_option linter.unusedSimpArgs false
set_option linter.unusedVariables false
set_option maxRecDepth 100000
/-- No row is a row without elements. -/
theorem Con.nil1 {P : Program} {f sz : Nat} {get : Nat → List Value} {rest : List D} {α : Type} {mk : α → D} {v : α} (h : Con P f (.c (.sl sz 0 get) :: rest) mk v) : Con P f (.c (.v (.slice none 0 0)) :: rest) mk v :=
  ⟨h.1, fun w X us hX hus => h.2 w X us hX (by
    simp only [D.reps] at hus ⊢
    obtain ⟨x, xs, hu, h1, h2⟩ := hus
    refine ⟨x, xs, hu, ?_, h2⟩
    simp only [D.rep0, C.rep] at h1 ⊢
    exact ⟨none, 0, h1.1, Nat.le_refl _, fun h0 => absurd h0 (Nat.lt_irrefl _)⟩)⟩
/-- A truth that is written down. -/
theorem Con.bool4 {P : Program} {f : Nat} {a b c : D} {t : Bool} {rest : List D} {α : Type} {mk : α → D} {v : α} (h : Con P f (a :: b :: c :: .c (.b t) :: rest) mk v) : Con P f (a :: b :: c :: .c (.v (.bool t)) :: rest) mk v :=
  ⟨h.1, fun w X us hX hus => h.2 w X us hX (by
    simp only [D.reps] at hus ⊢
    obtain ⟨x1, y1, e1, h1, x2, y2, e2, h2, x3, y3, e3, h3, x4, y4, e4, h4, h5⟩ := hus
    refine ⟨x1, y1, e1, h1, x2, y2, e2, h2, x3, y3, e3, h3, x4, y4, e4, ?_, h5⟩
    simp only [D.rep0, C.rep] at h4 ⊢
    exact h4.1)⟩
theorem cles_same : ∀ cs : List C, CLes cs cs
  | [] => .nil
  | c :: r => .cons (.refl c) (cles_same r)
def monS (id : Int) : Order := ⟨id, 1000, 1001, 5, 30, 1, 31, 1000, 0, ⟨#[114, 101, 110, 116]⟩⟩
def weekC : Cal := ⟨⟨#[119, 101, 101, 107]⟩, ⟨2, fun j => ([5, 6] : List Int).getD j 0⟩, ⟨0, fun _ => 0⟩⟩
theorem mon_ok (id : Int) : Con Try.prog 68 [di id] (fun x : Order => .agg [.v (.int .i64 (x.id)), .v (.int .i64 (x.fr)), .v (.int .i64 (x.to)), .v (.int .i64 (x.am)), .v (.int .i64 (x.day)), .v (.int .i64 (x.ev)), .v (.int .i64 (x.an)), .v (.int .i64 (x.un)), .v (.int .i64 (x.tr)), .v (.string (x.tx))]) (monS id) := by
  refine Con_of mixed tabOk Try.func68 (by decide) rfl rfl rfl (by decide) ?_; intro A R v' hA hR hv
  cbv
  subst hA hv
  exact Le.agg (cles_same _)
theorem week_ok : Con Try.prog 69 [] (fun x : Cal => .agg [.v (.string (x.na)), .sl 1 x.we.n (fun j => [.int .i64 (x.we.at' j)]), .sl 1 x.ho.n (fun j => [.int .i64 (x.ho.at' j)])]) weekC := by
  refine Con_of mixed tabOk Try.func69 (by decide) rfl rfl rfl (by decide) ?_; intro A R v' hA hR hv
  cbv
  subst hA hv
  refine Le.agg ?_
  repeat' (first | exact CLes.nil | exact CLe.refl _ | exact CLe.nil rfl | apply CLes.cons)
  exact CLe.sl rfl fun j hj => by
    have : j = 0 ∨ j = 1 := by omega
    rcases this with rfl | rfl <;> rfl
def ol1 : Sl Order := pushO noOrders (monS 1)
def olm : Sl Order := setO ol1 0 { monS 1 with tr := 0, day := 59 }
def oln : Sl Order := pushO olm { monS 2 with ev := 0 }
def olp : Sl Order := setO ol1 0 { monS 1 with tr := 1 }
theorem lv1 : addS noOrders (monS 1) = (ol1, 0) := by kernel_rfl
theorem lv2 : doneS weekC.we weekC.ho ol1 1 30 true = (olm, 0) := by kernel_rfl
theorem lv3 : doneS weekC.we weekC.ho ol1 1 29 true = (noOrders, 17) := by kernel_rfl
theorem lv4 : addS olm { monS 2 with ev := 0 } = (oln, 0) := by kernel_rfl
theorem lv5 : doneS weekC.we weekC.ho oln 2 31 true = (delO oln 1, 0) := by kernel_rfl
theorem lv6 : doneS weekC.we weekC.ho ol1 1 30 false = (olp, 0) := by kernel_rfl
theorem lv7 : cancelS ol1 1 = (delO ol1 0, 0) := by kernel_rfl
theorem lv8 : ((oln.list).filter fun d => decide (d.day ≤ 30)).length = 1 := by kernel_rfl
theorem lv9 : checkO ⟨0, 0, 0, 0, 0, 0, 0, 0, 0, ⟨#[]⟩⟩ = 1 := by kernel_rfl
set_option maxHeartbeats 4000000 in
theorem olive_ok : Con Try.prog 30 [] db true := by
  refine Con_of mixed tabOk Try.func30 (by decide) rfl rfl rfl (by decide) ?_; intro A R v' hA hR hv
  cbv
  refine call_c hR (mon_ok _) ?_
  intro m1 hm1
  have tm1 : m1.tx.size ≤ 9223372036854775807 := by rw [hm1]; decide
  cbv
  refine call_c hR (Con.nil1 (add_ok (l_n := 0) (l_id := fun _ => 0) (l_fr := fun _ => 0) (l_to := fun _ => 0) (l_am := fun _ => 0) (l_day := fun _ => 0) (l_ev := fun _ => 0) (l_an := fun _ => 0) (l_un := fun _ => 0) (l_tr := fun _ => 0) (l_tx := fun _ => ByteArray.empty) (h := by omega) (ht := tm1) ..)) ?_
  intro a ha
  have ha : a = (ol1, 0) := by
    refine Eq.trans (b := addS noOrders m1) ha ?_
    rw [hm1]; exact lv1
  have an : a.1.n = 1 := by rw [ha]; rfl
  have an2 : a.1.n * 88 ≤ 140737488355328 := by omega
  have at' : ∀ j, j < a.1.n → (a.1.at' j).tx.size ≤ 9223372036854775807 := fun j hj => by
    have : j = 0 := by omega
    subst this; rw [ha]; decide
  have e1 : a.2 = 0 := by rw [ha]
  cbv
  refine call_c hR week_ok ?_
  rintro w1 hw1
  have ww1 : w1.we.n ≤ 9223372036854775807 ∧ w1.ho.n ≤ 9223372036854775807 := by rw [hw1]; exact ⟨by decide, by decide⟩
  cbv
  refine call_c hR (Con.bool4 (done_ok (h := an2) (ht := at') (h1 := ww1.1) (h2 := ww1.2) ..)) ?_
  intro b hb
  have hb : b = (olm, 0) := by
    refine Eq.trans (b := doneS w1.we w1.ho a.1 1 30 true) hb ?_
    rw [hw1, ha]; exact lv2
  cbv
  have bn : b.1.n = 1 := by rw [hb]; rfl
  have bn2 : b.1.n * 88 ≤ 140737488355000 := by omega
  refine call_c hR week_ok ?_
  rintro w2 hw2
  have ww2 : w2.we.n ≤ 9223372036854775807 ∧ w2.ho.n ≤ 9223372036854775807 := by rw [hw2]; exact ⟨by decide, by decide⟩
  cbv
  refine call_c hR (Con.bool4 (done_ok (h := an2) (ht := at') (h1 := ww2.1) (h2 := ww2.2) ..)) ?_
  intro g hg
  have hg : g = (noOrders, 17) := by
    refine Eq.trans (b := doneS w2.we w2.ho a.1 1 29 true) hg ?_
    rw [hw2, ha]; exact lv3
  cbv
  refine call_c hR (mon_ok _) ?_
  intro m2 hm2
  have tm2 : m2.tx.size ≤ 9223372036854775807 := by rw [hm2]; decide
  cbv
  refine call_c hR (add_ok (h := bn2) (ht := tm2) ..) ?_
  intro n hn
  have hn : n = (oln, 0) := by
    refine Eq.trans (b := addS b.1 { m2 with ev := 0 }) hn ?_
    rw [hb, hm2]; exact lv4
  have nn : n.1.n = 2 := by rw [hn]; rfl
  have nn2 : n.1.n * 88 ≤ 140737488355328 := by omega
  have nt' : ∀ j, j < n.1.n → (n.1.at' j).tx.size ≤ 9223372036854775807 := fun j hj => by
    have : j = 0 ∨ j = 1 := by omega
    rcases this with rfl | rfl <;> (rw [hn]; decide)
  cbv
  refine call_c hR week_ok ?_
  rintro w3 hw3
  have ww3 : w3.we.n ≤ 9223372036854775807 ∧ w3.ho.n ≤ 9223372036854775807 := by rw [hw3]; exact ⟨by decide, by decide⟩
  cbv
  refine call_c hR (Con.bool4 (done_ok (h := nn2) (ht := nt') (h1 := ww3.1) (h2 := ww3.2) ..)) ?_
  intro o ho
  have ho : o = (delO oln 1, 0) := by
    refine Eq.trans (b := doneS w3.we w3.ho n.1 2 31 true) ho ?_
    rw [hw3, hn]; exact lv5
  cbv
  refine call_c hR week_ok ?_
  rintro w4 hw4
  have ww4 : w4.we.n ≤ 9223372036854775807 ∧ w4.ho.n ≤ 9223372036854775807 := by rw [hw4]; exact ⟨by decide, by decide⟩
  cbv
  refine call_c hR (Con.bool4 (done_ok (h := an2) (ht := at') (h1 := ww4.1) (h2 := ww4.2) ..)) ?_
  intro p hp
  have hp : p = (olp, 0) := by
    refine Eq.trans (b := doneS w4.we w4.ho a.1 1 30 false) hp ?_
    rw [hw4, ha]; exact lv6
  cbv
  refine call_c hR (cancel_ok (h := an2) ..) ?_
  intro c hc
  have hc : c = (delO ol1 0, 0) := by
    refine Eq.trans (b := cancelS a.1 1) hc ?_
    rw [ha]; exact lv7
  have f1 : a.2 = 0 := by rw [ha]
  have f2 : b.2 = 0 := by rw [hb]
  have f3 : (b.1.at' 0).day = 59 := by rw [hb]; rfl
  have f4 : g.2 = 17 := by rw [hg]
  have f5 : n.2 = 0 := by rw [hn]
  have f6 : o.2 = 0 := by rw [ho]
  have f7 : o.1.n = 1 := by rw [ho]; rfl
  have f8 : p.2 = 0 := by rw [hp]
  have f9 : p.1.n = 1 := by rw [hp]; rfl
  have f10 : (p.1.at' 0).tr = 1 := by rw [hp]; rfl
  have f11 : (p.1.at' 0).day = 30 := by rw [hp]; rfl
  have f12 : c.1.n = 0 := by rw [hc]; rfl
  have f13 : c.2 = 0 := by rw [hc]
  have d1 : ∀ d : Sl Order, d = Sl.of noOrder ((Sl.list n.1).filter fun d => decide (d.day ≤ 30)) → d.n = 1 := by
    intro d hd; rw [hd, hn]; exact lv8
  have z1 : ∀ x : Int, x = checkO ⟨0, 0, 0, 0, 0, 0, 0, 0, 0, ⟨#[]⟩⟩ → x = 1 := fun x hx => hx.trans lv9
  clear ha hb hg hn ho hp hc
  have ev0 : ∀ x y : Int, x = y → A.eq x y = true := fun x y h => by subst hA h; exact beq_self_eq_true x
  have en0 : ∀ (x : Nat) (y : Int), (x : Int) = y → A.eq (A.int x) y = true := fun x y h => by subst hA; subst h; exact beq_self_eq_true _
  have at0 : A.nat 0 = 0 := by subst hA; rfl
  have E1 := ev0 _ _ f1
  have E2 := ev0 _ _ f2
  have E3 : A.eq (b.1.at' (A.nat 0)).day 59 = true := ev0 _ _ (by rw [at0]; exact f3)
  have E4 := ev0 _ _ f4
  have E5 := ev0 _ _ f5
  have E6 := ev0 _ _ f6
  have E7 := en0 o.1.n 1 (by rw [f7]; rfl)
  have E8 := ev0 _ _ f8
  have E10 : A.eq (p.1.at' (A.nat 0)).tr 1 = true := ev0 _ _ (by rw [at0]; exact f10)
  have E11 : A.eq (p.1.at' (A.nat 0)).day 30 = true := ev0 _ _ (by rw [at0]; exact f11)
  have E12 := en0 c.1.n 0 (by rw [f12]; rfl)
  have E13 := ev0 _ _ f13
  have E14 := en0 b.1.n 1 (by rw [bn]; rfl)
  have I1 : A.inb 0 b.1.n := by subst hA; exact ⟨Int.le_refl 0, by show (0 : Int) < (b.1.n : Int); omega⟩
  have I2 : A.inb 0 p.1.n := by subst hA; exact ⟨Int.le_refl 0, by show (0 : Int) < (p.1.n : Int); omega⟩
  have N1 : ¬ (true = !true) := by decide
  cbv
  repeat' (first | (refine And.intro (fun _ => ?_) (fun _ => ?_) <;> cbv) | (refine call_c hR (odue_ok (h := nn2) ..) ?_; intro _ _; cbv) | (refine call_c hR (checkO_ok (h := by decide) ..) ?_; intro _ _; cbv) | (refine And.intro ?_ ?_; rotate_left; cbv) | (intro (_ : Bool) _; cbv))
  all_goals first
    | exact I1
    | exact I2
    | (rename_i x hx
       rw [hv]
       exact Le.bb (ev0 x 1 (z1 x hx)).symm)
    | (rename_i e
       exfalso
       first
         | exact N1 (E1.symm.trans e) | exact N1 (E2.symm.trans e) | exact N1 (E3.symm.trans e) | exact N1 (E4.symm.trans e) | exact N1 (E5.symm.trans e) | exact N1 (E6.symm.trans e) | exact N1 (E7.symm.trans e)
         | exact N1 (E8.symm.trans e) | exact N1 (E10.symm.trans e) | exact N1 (E11.symm.trans e) | exact N1 (E12.symm.trans e) | exact N1 (E13.symm.trans e) | exact N1 (E14.symm.trans e))
    | (rename_i d hd e
       exfalso
       exact N1 ((en0 d.n 1 (by rw [d1 d hd]; rfl)).symm.trans e))
end Go.Proofs.Ytoocihhnlhehlaa
