/- Loans: what the program's payment computes is what the reference's computes, plain. -/
import Derived.Test.YtoocihhnlhehlaaPla
import Derived.OpenShut
namespace Go.Proofs.Ytoocihhnlhehlaa
open Go Go.Proofs.Ytoocihhnlhehlaa.Den
def payE (x : Part) (z : Loan × Int × Sl Part) : Loan × Int × Sl Part :=
  if decide (z.2.1 > 0) then (applyR z.1 ⟨x.k, mn z.2.1 x.a⟩, w64 (z.2.1 - mn z.2.1 x.a), push z.2.2 ⟨x.k, mn z.2.1 x.a⟩) else z
theorem payTo_list (L : List Part) (z : Loan × Int × Sl Part) : ∀ k, k ≤ L.length → payTo (Sl.of ⟨0, 0⟩ L) z k = (L.take k).foldl (fun y x => payE x y) z
  | 0, _ => by simp [payTo]
  | k + 1, h => by
    have ih := payTo_list L z k (by omega)
    have e : L.take (k + 1) = L.take k ++ [L[k]] := by rw [List.take_succ_eq_append_getElem]
    have hk : (Sl.of (⟨0, 0⟩ : Part) L).at' k = L[k] := by simp [Sl.of, List.getD, show k < L.length by omega]
    rw [e, List.foldl_append]
    show (if decide ((payTo _ z k).2.1 > 0) then payStep _ k _ else payTo _ z k) = payE L[k] _
    rw [ih]
    simp only [payStep, hk]
    rfl
theorem payTo_fold (L : List Part) (z : Loan × Int × Sl Part) : payTo (Sl.of ⟨0, 0⟩ L) z (Sl.of (⟨0, 0⟩ : Part) L).n = L.foldl (fun y x => payE x y) z := by
  have := payTo_list L z L.length (Nat.le_refl _)
  rwa [List.take_length] at this
def Psi (l : Loan) (z : Paid) : Loan × Int × Sl Part := (upd5 l z, z.lf, z.parts)
structure Good (z : Paid) : Prop where
  lf : 0 ≤ z.lf
  lf2 : z.lf ≤ 9223372036854775807
  fe : w64 z.fe = z.fe
  pe : w64 z.pe = z.pe
  pi : w64 z.pi = z.pi
  pp : w64 z.pp = z.pp
def In' (n : Int) : Prop := -9223372036854775808 ≤ n ∧ n ≤ 9223372036854775807
def Pos (ow : Sl Part) : Prop := ∀ j, 0 ≤ (ow.at' j).a
theorem w64_in (n : Int) : -9223372036854775808 ≤ w64 n ∧ w64 n ≤ 9223372036854775807 := by
  have h := wf_wrap .i64 n
  simp only [Lit.wf, Bool.and_eq_true, decide_eq_true_eq] at h
  exact h
theorem w64_idem (n : Int) : w64 (w64 n) = w64 n := wrap_id (w64_in n).1 (w64_in n).2
theorem lfS_in {ow : Sl Part} {z : Paid} (k : Int) (hp : Pos ow) (g : Good z) : 0 ≤ lfS ow k z.lf ∧ lfS ow k z.lf ≤ 9223372036854775807 := by
  have h1 := g.lf
  have h2 := g.lf2
  unfold lfS
  split
  · rename_i hf
    have h3 := hp (ixS ow k).toNat
    have h4 : 0 ≤ tk ow k z.lf ∧ tk ow k z.lf ≤ z.lf := by
      simp only [tk, hf, if_true, mn]
      split <;> omega
    have : w64 (z.lf - tk ow k z.lf) = z.lf - tk ow k z.lf := wrap_id (by omega) (by omega)
    omega
  · exact ⟨h1, h2⟩
theorem stepN1 {ow : Sl Part} {z : Paid} (h : ixS ow 1 < 0) (g : Good z) : step1 ow z = z := by
  have hf : foundS ow 1 z.lf = false := by simp [foundS, h]
  simp [step1, tk, lfS, partsS, hf, g.fe]
theorem stepE1 {ow : Sl Part} {z : Paid} {l : Loan} {i : Nat} {a : Int} (hi : ixS ow 1 = (i : Int)) (hx : ow.at' i = ⟨1, a⟩) (g : Good z) : Psi l (step1 ow z) = payE ⟨1, a⟩ (Psi l z) := by
  by_cases hz : z.lf = 0
  · have hf : foundS ow 1 z.lf = false := by simp [foundS, hz]
    have hs : step1 ow z = z := by simp [step1, tk, lfS, partsS, hf, g.fe]
    rw [hs]
    simp [payE, Psi, hz]
  · have hpos : z.lf > 0 := by have := g.lf; omega
    have hf : foundS ow 1 z.lf = true := by simp [foundS, hi, hz]
    simp [Psi, payE, step1, tk, lfS, partsS, hf, hi, hx, hpos, applyR, upd5]
theorem good1 {ow : Sl Part} {z : Paid} (hp : Pos ow) (g : Good z) : Good (step1 ow z) := by
  obtain ⟨h1, h2⟩ := lfS_in 1 hp g
  exact { g with lf := h1, lf2 := h2, fe := w64_idem _ }
theorem stepN2 {ow : Sl Part} {z : Paid} (h : ixS ow 2 < 0) (g : Good z) : step2 ow z = z := by
  have hf : foundS ow 2 z.lf = false := by simp [foundS, h]
  simp [step2, tk, lfS, partsS, hf, g.pe]
theorem stepE2 {ow : Sl Part} {z : Paid} {l : Loan} {i : Nat} {a : Int} (hi : ixS ow 2 = (i : Int)) (hx : ow.at' i = ⟨2, a⟩) (g : Good z) : Psi l (step2 ow z) = payE ⟨2, a⟩ (Psi l z) := by
  by_cases hz : z.lf = 0
  · have hf : foundS ow 2 z.lf = false := by simp [foundS, hz]
    have hs : step2 ow z = z := by simp [step2, tk, lfS, partsS, hf, g.pe]
    rw [hs]
    simp [payE, Psi, hz]
  · have hpos : z.lf > 0 := by have := g.lf; omega
    have hf : foundS ow 2 z.lf = true := by simp [foundS, hi, hz]
    simp [Psi, payE, step2, tk, lfS, partsS, hf, hi, hx, hpos, applyR, upd5]
theorem good2 {ow : Sl Part} {z : Paid} (hp : Pos ow) (g : Good z) : Good (step2 ow z) := by
  obtain ⟨h1, h2⟩ := lfS_in 2 hp g
  exact { g with lf := h1, lf2 := h2, pe := w64_idem _ }
theorem stepN3 {ow : Sl Part} {z : Paid} (h : ixS ow 3 < 0) (g : Good z) : step3 ow z = z := by
  have hf : foundS ow 3 z.lf = false := by simp [foundS, h]
  simp [step3, tk, lfS, partsS, hf, g.pi]
theorem stepE3 {ow : Sl Part} {z : Paid} {l : Loan} {i : Nat} {a : Int} (hi : ixS ow 3 = (i : Int)) (hx : ow.at' i = ⟨3, a⟩) (g : Good z) : Psi l (step3 ow z) = payE ⟨3, a⟩ (Psi l z) := by
  by_cases hz : z.lf = 0
  · have hf : foundS ow 3 z.lf = false := by simp [foundS, hz]
    have hs : step3 ow z = z := by simp [step3, tk, lfS, partsS, hf, g.pi]
    rw [hs]
    simp [payE, Psi, hz]
  · have hpos : z.lf > 0 := by have := g.lf; omega
    have hf : foundS ow 3 z.lf = true := by simp [foundS, hi, hz]
    simp [Psi, payE, step3, tk, lfS, partsS, hf, hi, hx, hpos, applyR, upd5]
theorem good3 {ow : Sl Part} {z : Paid} (hp : Pos ow) (g : Good z) : Good (step3 ow z) := by
  obtain ⟨h1, h2⟩ := lfS_in 3 hp g
  exact { g with lf := h1, lf2 := h2, pi := w64_idem _ }
theorem stepN4 {ow : Sl Part} {z : Paid} (h : ixS ow 4 < 0) (g : Good z) : step4 ow z = z := by
  have hf : foundS ow 4 z.lf = false := by simp [foundS, h]
  simp [step4, tk, lfS, partsS, hf, g.pp]
theorem stepE4 {ow : Sl Part} {z : Paid} {l : Loan} {i : Nat} {a : Int} (hi : ixS ow 4 = (i : Int)) (hx : ow.at' i = ⟨4, a⟩) (g : Good z) : Psi l (step4 ow z) = payE ⟨4, a⟩ (Psi l z) := by
  by_cases hz : z.lf = 0
  · have hf : foundS ow 4 z.lf = false := by simp [foundS, hz]
    have hs : step4 ow z = z := by simp [step4, tk, lfS, partsS, hf, g.pp]
    rw [hs]
    simp [payE, Psi, hz]
  · have hpos : z.lf > 0 := by have := g.lf; omega
    have hf : foundS ow 4 z.lf = true := by simp [foundS, hi, hz]
    simp [Psi, payE, step4, tk, lfS, partsS, hf, hi, hx, hpos, applyR, upd5]
theorem good4 {ow : Sl Part} {z : Paid} (hp : Pos ow) (g : Good z) : Good (step4 ow z) := by
  obtain ⟨h1, h2⟩ := lfS_in 4 hp g
  exact { g with lf := h1, lf2 := h2, pp := w64_idem _ }
def L4 (c1 c2 c3 c4 : Bool) (a1 a2 a3 a4 : Int) : List Part :=
  (if c1 then [⟨1, a1⟩] else []) ++ ((if c2 then [⟨2, a2⟩] else []) ++ ((if c3 then [⟨3, a3⟩] else []) ++ (if c4 then [⟨4, a4⟩] else [])))
def Has (c : Bool) (ow : Sl Part) (k a : Int) : Prop := (c = true ∧ ∃ i : Nat, ixS ow k = (i : Int) ∧ ow.at' i = ⟨k, a⟩) ∨ (c = false ∧ ixS ow k < 0)
theorem has4 (c1 c2 c3 c4 : Bool) (a1 a2 a3 a4 : Int) : Has c1 (Sl.of ⟨0, 0⟩ (L4 c1 c2 c3 c4 a1 a2 a3 a4)) 1 a1 ∧ Has c2 (Sl.of ⟨0, 0⟩ (L4 c1 c2 c3 c4 a1 a2 a3 a4)) 2 a2 ∧ Has c3 (Sl.of ⟨0, 0⟩ (L4 c1 c2 c3 c4 a1 a2 a3 a4)) 3 a3 ∧ Has c4 (Sl.of ⟨0, 0⟩ (L4 c1 c2 c3 c4 a1 a2 a3 a4)) 4 a4 := by
  cases c1 <;> cases c2 <;> cases c3 <;> cases c4 <;> refine ⟨?_, ?_, ?_, ?_⟩ <;>
    first
    | exact .inr ⟨rfl, (by decide : (-1 : Int) < 0)⟩
    | exact .inl ⟨rfl, 0, rfl, rfl⟩
    | exact .inl ⟨rfl, 1, rfl, rfl⟩
    | exact .inl ⟨rfl, 2, rfl, rfl⟩
    | exact .inl ⟨rfl, 3, rfl, rfl⟩
theorem fold4 (c1 c2 c3 c4 : Bool) (a1 a2 a3 a4 : Int) (z : Loan × Int × Sl Part) : (L4 c1 c2 c3 c4 a1 a2 a3 a4).foldl (fun y x => payE x y) z =
    (fun z => if c4 then payE ⟨4, a4⟩ z else z) ((fun z => if c3 then payE ⟨3, a3⟩ z else z) ((fun z => if c2 then payE ⟨2, a2⟩ z else z) ((fun z => if c1 then payE ⟨1, a1⟩ z else z) z))) := by
  cases c1 <;> cases c2 <;> cases c3 <;> cases c4 <;> rfl
theorem first4 (c1 c2 c3 c4 : Bool) (a1 a2 a3 a4 : Int) : firstS (Sl.of ⟨0, 0⟩ (L4 c1 c2 c3 c4 a1 a2 a3 a4)) = if c1 then 1 else if c2 then 2 else if c3 then 3 else if c4 then 4 else 5 := by
  cases c1 <;> cases c2 <;> cases c3 <;> cases c4 <;> rfl
theorem steps4 {ow : Sl Part} {z : Paid} {c1 c2 c3 c4 : Bool} {a1 a2 a3 a4 : Int} (hf : firstS ow = if c1 then 1 else if c2 then 2 else if c3 then 3 else if c4 then 4 else 5)
    (h1 : Has c1 ow 1 a1) (h2 : Has c2 ow 2 a2) (h3 : Has c3 ow 3 a3) (h4 : Has c4 ow 4 a4) (g : Good z) : stepsS ow z = step4 ow (step3 ow (step2 ow (step1 ow z))) := by
  have n1 : c1 = false → step1 ow z = z := fun h => by
    rcases h1 with ⟨e, _⟩ | ⟨_, e⟩
    · rw [h] at e; cases e
    · exact stepN1 e g
  have n2 : c2 = false → step2 ow z = z := fun h => by
    rcases h2 with ⟨e, _⟩ | ⟨_, e⟩
    · rw [h] at e; cases e
    · exact stepN2 e g
  have n3 : c3 = false → step3 ow z = z := fun h => by
    rcases h3 with ⟨e, _⟩ | ⟨_, e⟩
    · rw [h] at e; cases e
    · exact stepN3 e g
  have n4 : c4 = false → step4 ow z = z := fun h => by
    rcases h4 with ⟨e, _⟩ | ⟨_, e⟩
    · rw [h] at e; cases e
    · exact stepN4 e g
  cases c1 with
  | true => exact stepsS_1 (by rw [hf]; rfl)
  | false =>
    rw [n1 rfl]
    cases c2 with
    | true => exact stepsS_2 (by rw [hf]; rfl) (by rw [hf]; rfl)
    | false =>
      rw [n2 rfl]
      cases c3 with
      | true => exact stepsS_3 (by rw [hf]; rfl) (by rw [hf]; rfl) (by rw [hf]; rfl)
      | false =>
        rw [n3 rfl]
        cases c4 with
        | true => exact stepsS_4 (by rw [hf]; rfl) (by rw [hf]; rfl) (by rw [hf]; rfl) (by rw [hf]; rfl)
        | false =>
          rw [n4 rfl]
          exact stepsS_5 (by rw [hf]; rfl) (by rw [hf]; rfl) (by rw [hf]; rfl) (by rw [hf]; rfl)
theorem pay4_ (c1 c2 c3 c4 : Bool) (a1 a2 a3 a4 : Int) (hp : Pos (Sl.of ⟨0, 0⟩ (L4 c1 c2 c3 c4 a1 a2 a3 a4))) (l : Loan) (z : Paid) (g : Good z) :
    Psi l (stepsS (Sl.of ⟨0, 0⟩ (L4 c1 c2 c3 c4 a1 a2 a3 a4)) z) = payTo (Sl.of ⟨0, 0⟩ (L4 c1 c2 c3 c4 a1 a2 a3 a4)) (Psi l z) (Sl.of (⟨0, 0⟩ : Part) (L4 c1 c2 c3 c4 a1 a2 a3 a4)).n := by
  obtain ⟨h1, h2, h3, h4⟩ := has4 c1 c2 c3 c4 a1 a2 a3 a4
  rw [payTo_fold, fold4, steps4 (first4 c1 c2 c3 c4 a1 a2 a3 a4) h1 h2 h3 h4 g]
  generalize Sl.of (⟨0, 0⟩ : Part) (L4 c1 c2 c3 c4 a1 a2 a3 a4) = ow at *
  have e1 : ∀ z, Good z → Psi l (step1 ow z) = if c1 then payE ⟨1, a1⟩ (Psi l z) else Psi l z := fun z g => by
    rcases h1 with ⟨e, i, hi, hx⟩ | ⟨e, hi⟩
    · rw [e, stepE1 hi hx g]; rfl
    · rw [e, stepN1 hi g]; rfl
  have e2 : ∀ z, Good z → Psi l (step2 ow z) = if c2 then payE ⟨2, a2⟩ (Psi l z) else Psi l z := fun z g => by
    rcases h2 with ⟨e, i, hi, hx⟩ | ⟨e, hi⟩
    · rw [e, stepE2 hi hx g]; rfl
    · rw [e, stepN2 hi g]; rfl
  have e3 : ∀ z, Good z → Psi l (step3 ow z) = if c3 then payE ⟨3, a3⟩ (Psi l z) else Psi l z := fun z g => by
    rcases h3 with ⟨e, i, hi, hx⟩ | ⟨e, hi⟩
    · rw [e, stepE3 hi hx g]; rfl
    · rw [e, stepN3 hi g]; rfl
  have e4 : ∀ z, Good z → Psi l (step4 ow z) = if c4 then payE ⟨4, a4⟩ (Psi l z) else Psi l z := fun z g => by
    rcases h4 with ⟨e, i, hi, hx⟩ | ⟨e, hi⟩
    · rw [e, stepE4 hi hx g]; rfl
    · rw [e, stepN4 hi g]; rfl
  have g1 := good1 hp g
  have g2 := good2 hp g1
  have g3 := good3 hp g2
  rw [e4 _ g3, e3 _ g2, e2 _ g1, e1 _ g]
theorem filter4 (a1 a2 a3 a4 : Int) : ([⟨1, a1⟩, ⟨2, a2⟩, ⟨3, a3⟩, ⟨4, a4⟩] : List Part).filter (fun p => !decide (p.a ≤ 0)) = L4 (!decide (a1 ≤ 0)) (!decide (a2 ≤ 0)) (!decide (a3 ≤ 0)) (!decide (a4 ≤ 0)) a1 a2 a3 a4 := by
  simp only [List.filter, L4]
  cases decide (a1 ≤ 0) <;> cases decide (a2 ≤ 0) <;> cases decide (a3 ≤ 0) <;> cases decide (a4 ≤ 0) <;> rfl
theorem owed_pos (l : Loan) (on : Int) : Pos (owedS l on) := by
  intro j
  show 0 ≤ (((owedL l on).filter fun p => !decide (p.a ≤ 0)).getD j ⟨0, 0⟩).a
  generalize hL : ((owedL l on).filter fun p => !decide (p.a ≤ 0)) = L
  rw [List.getD]
  cases hj : L[j]? with
  | none => exact Int.le_refl _
  | some x =>
    have hx : x ∈ L := List.mem_of_getElem? hj
    rw [← hL, List.mem_filter] at hx
    have := hx.2
    simp at this
    show 0 ≤ x.a
    omega
structure Fee (l : Loan) : Prop where
  fe : In' l.fe
  pe : In' l.pe
  pi : In' l.pi
  pp : In' l.pp
theorem pay_law (l : Loan) (n on : Int) (h0 : 0 ≤ n) (h1 : n ≤ 9223372036854775807) (hf : Fee l) : Psi l (paidS l n on) = payZ l n on := by
  have hp := owed_pos l on
  have hz : ∃ c1 c2 c3 c4 a1 a2 a3 a4, owedS l on = Sl.of ⟨0, 0⟩ (L4 c1 c2 c3 c4 a1 a2 a3 a4) := ⟨_, _, _, _, _, _, _, _, by
    show Sl.of _ (List.filter _ (owedL l on)) = _
    unfold owedL
    rw [filter4]⟩
  obtain ⟨c1, c2, c3, c4, a1, a2, a3, a4, hz⟩ := hz
  unfold paidS payZ
  rw [owed_eq]
  rw [hz] at hp ⊢
  exact pay4_ c1 c2 c3 c4 a1 a2 a3 a4 hp l _ ⟨h0, h1, wrap_id hf.fe.1 hf.fe.2, wrap_id hf.pe.1 hf.pe.2, wrap_id hf.pi.1 hf.pi.2, wrap_id hf.pp.1 hf.pp.2⟩
theorem settle_eq {l : Loan} (h : Small l) : settleR l = settle l := by simp only [settleR, settle, left_eq h]
theorem rest_eq (l : Loan) (z : Paid) : outR5 (Psi l z) = (rest5 z).parts := by
  cases h : decide (z.lf > 0) with
  | true => rw [outR5_y h, rest5_y h]; rfl
  | false => rw [outR5_n h, rest5_n h]; rfl
theorem pay_eq (l : Loan) (n on : Int) (hs : Small l) (hf : Fee l) : payR l n on = payS l n on := by
  unfold payS payR
  rw [check_eq hs]
  cases hc : ((checkS l != 0) || decide (n < 1) || decide (n > 1000000000000) || !dayB on) with
  | true => rfl
  | false =>
    simp only [Bool.false_eq_true, if_false]
    simp only [Bool.or_eq_false_iff, decide_eq_false_iff_not] at hc
    have hz := pay_law l n on (by omega) (by omega) hf
    rw [← hz, rest_eq]
    show (if _ then _ else (settleR (upd5 l (paidS l n on)), _, _)) = _
    have hs' : Small (upd5 l (paidS l n on)) := hs
    rw [settle_eq hs']
theorem partsS_n (ow : Sl Part) (k : Int) (z : Paid) : (partsS ow k z).n ≤ z.parts.n + 1 := by
  unfold partsS
  split
  · exact Nat.le_refl _
  · omega
theorem stepsS_n (ow : Sl Part) (z : Paid) : (stepsS ow z).parts.n ≤ z.parts.n + 4 := by
  have p1 : ∀ z, (step1 ow z).parts.n ≤ z.parts.n + 1 := fun z => partsS_n ow 1 z
  have p2 : ∀ z, (step2 ow z).parts.n ≤ z.parts.n + 1 := fun z => partsS_n ow 2 z
  have p3 : ∀ z, (step3 ow z).parts.n ≤ z.parts.n + 1 := fun z => partsS_n ow 3 z
  have p4 : ∀ z, (step4 ow z).parts.n ≤ z.parts.n + 1 := fun z => partsS_n ow 4 z
  unfold stepsS
  split
  · exact Nat.le_trans (p4 _) (by have := p3 (step2 ow (step1 ow z)); have := p2 (step1 ow z); have := p1 z; omega)
  split
  · exact Nat.le_trans (p4 _) (by have := p3 (step2 ow z); have := p2 z; omega)
  split
  · exact Nat.le_trans (p4 _) (by have := p3 z; omega)
  split
  · exact Nat.le_trans (p4 _) (by omega)
  · omega
theorem settle_d (l : Loan) : (settle l).d = l.d ∧ (settle l).c = l.c := by
  unfold settle
  split <;> exact ⟨rfl, rfl⟩
theorem payS_n (l : Loan) (n on : Int) : (payS l n on).1.d.n ≤ l.d.n ∧ (payS l n on).1.c.n ≤ l.c.n ∧ (payS l n on).2.1.n ≤ 5 := by
  unfold payS
  split
  · exact ⟨Nat.zero_le _, Nat.zero_le _, Nat.zero_le _⟩
  split
  · exact ⟨Nat.zero_le _, Nat.zero_le _, Nat.zero_le _⟩
  · refine ⟨by rw [(settle_d _).1]; exact Nat.le_refl _, by rw [(settle_d _).2]; exact Nat.le_refl _, ?_⟩
    have h := stepsS_n (owedS l on) ⟨l.fe, l.pe, l.pi, l.pp, n, noParts⟩
    have h0 : (⟨l.fe, l.pe, l.pi, l.pp, n, noParts⟩ : Paid).parts.n = 0 := rfl
    show (rest5 (paidS l n on)).parts.n ≤ 5
    have h1 : (paidS l n on).parts.n ≤ 4 := by rw [h0] at h; exact h
    unfold rest5
    split
    · show (paidS l n on).parts.n + 1 ≤ 5
      omega
    · omega
theorem strEq_refl (s : ByteArray) : (s.toList == s.toList) = true := by simp
theorem termsEq_refl (t : Terms) : termsEq t t = true := by simp [termsEq]
theorem sameDues_refl (x : Sl Due) : sameDuesR x x = true := by
  simp only [sameDuesR, bne_self_eq_false, Bool.not_false, Bool.true_and]
  exact allTo_yes fun j _ => by simp [dueEq]
theorem sameChanges_refl (x : Sl Change) : sameChangesR x x = true := by
  simp only [sameChangesR, bne_self_eq_false, Bool.not_false, Bool.true_and]
  exact allTo_yes fun j _ => by simp [changeEq]
theorem same_refl (l : Loan) : sameR l l = true := by
  simp [sameR, termsEq_refl, sameDues_refl, sameChanges_refl]
end Go.Proofs.Ytoocihhnlhehlaa
