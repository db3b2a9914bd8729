/- Loans: a payment in closed form, plain. -/
import Derived.Test.YtoocihhnlhehlaaPlb
namespace Go.Proofs.Ytoocihhnlhehlaa
open Go Go.Proofs.Ytoocihhnlhehlaa.Den
/-- What of a rest r goes into a part that is owed with a. -/
def pk (r a : Int) : Int := if 0 < r ∧ 0 < a then (if a < r then a else r) else 0
theorem pk_le {r a : Int} (h : 0 ≤ r) : 0 ≤ pk r a ∧ pk r a ≤ r ∧ (0 ≤ a → pk r a ≤ a) ∧ (a ≤ 0 → pk r a = 0) ∧ (0 < a → r ≤ a → pk r a = r) ∧ (0 < a → a ≤ r → pk r a = a) := by
  unfold pk
  split
  · split <;> refine ⟨?_, ?_, ?_, ?_, ?_, ?_⟩ <;> intros <;> omega
  · refine ⟨?_, ?_, ?_, ?_, ?_, ?_⟩ <;> intros <;> omega
theorem push_list (p : Sl Part) (x : Part) : (push p x).list = p.list ++ [x] := by
  simp only [push, Sl.list, List.range_succ, List.map_append, List.map_cons, List.map_nil]
  congr 1
  · apply List.map_congr_left
    intro j hj
    simp [List.mem_range.1 hj]
  · simp
def opt (k a : Int) : List Part := if 0 < a then [⟨k, a⟩] else []
/-- One kind's step, in closed form. -/
theorem take_closed {ow : Sl Part} {k a : Int} {z : Paid} (hh : Has (!decide (a ≤ 0)) ow k a) (g : Good z) :
    tk ow k z.lf = pk z.lf a ∧ lfS ow k z.lf = z.lf - pk z.lf a ∧ (partsS ow k z).list = z.parts.list ++ opt k (pk z.lf a) := by
  have g1 := g.lf
  have g2 := g.lf2
  rcases hh with ⟨hc, i, hi, hx⟩ | ⟨hc, hi⟩
  · have ha : 0 < a := by simp at hc; omega
    by_cases hz : z.lf = 0
    · have hf : foundS ow k z.lf = false := by simp [foundS, hz]
      have hp : pk z.lf a = 0 := by unfold pk; rw [if_neg (by omega)]
      rw [hp]
      refine ⟨by simp [tk, hf], by simp [lfS, hf], by simp [partsS, hf, opt]⟩
    · have hf : foundS ow k z.lf = true := by simp [foundS, hi, hz]
      have hp : tk ow k z.lf = pk z.lf a := by
        unfold pk
        rw [if_pos ⟨by omega, ha⟩]
        simp [tk, hf, hi, hx, mn]
      have hle := pk_le (a := a) g1
      have hpos : 0 < pk z.lf a := by
        unfold pk
        rw [if_pos ⟨by omega, ha⟩]
        split <;> omega
      refine ⟨hp, ?_, ?_⟩
      · simp only [lfS, hf, if_true, hp]
        exact wrap_id (by omega) (by omega)
      · simp only [partsS, hf, if_true, hp, push_list, opt, hpos]
  · have ha : a ≤ 0 := by simpa using hc
    have hf : foundS ow k z.lf = false := by simp [foundS, hi]
    have hp : pk z.lf a = 0 := by unfold pk; rw [if_neg (by omega)]
    rw [hp]
    refine ⟨by simp [tk, hf], by simp [lfS, hf], by simp [partsS, hf, opt]⟩
/-- A payment of n, in closed form. -/
structure Split (n a1 a2 a3 a4 p1 p2 p3 p4 r : Int) : Prop where
  e1 : p1 = pk n a1
  e2 : p2 = pk (n - p1) a2
  e3 : p3 = pk (n - p1 - p2) a3
  e4 : p4 = pk (n - p1 - p2 - p3) a4
  er : r = n - p1 - p2 - p3 - p4
structure PaidAs (l : Loan) (n on : Int) (z : Paid) (p1 p2 p3 p4 r : Int) : Prop where
  sp : Split n l.fe l.pe (w64 (sumI (dueS l.d on) - l.pi)) (w64 (sumP (dueS l.d on) - l.pp)) p1 p2 p3 p4 r
  fe : z.fe = w64 (l.fe - p1)
  pe : z.pe = w64 (l.pe - p2)
  pi : z.pi = w64 (l.pi + p3)
  pp : z.pp = w64 (l.pp + p4)
  lf : z.lf = r
  parts : z.parts.list = opt 1 p1 ++ opt 2 p2 ++ opt 3 p3 ++ opt 4 p4
theorem pay_closed (l : Loan) (n on : Int) (h0 : 0 ≤ n) (h1 : n ≤ 9223372036854775807) (hf : Fee l) : ∃ p1 p2 p3 p4 r, PaidAs l n on (paidS l n on) p1 p2 p3 p4 r := by
  have hp := owed_pos l on
  have ho : owedS l on = Sl.of ⟨0, 0⟩ (L4 (!decide (l.fe ≤ 0)) (!decide (l.pe ≤ 0)) (!decide (w64 (sumI (dueS l.d on) - l.pi) ≤ 0)) (!decide (w64 (sumP (dueS l.d on) - l.pp) ≤ 0)) l.fe l.pe (w64 (sumI (dueS l.d on) - l.pi)) (w64 (sumP (dueS l.d on) - l.pp))) := by
    show Sl.of _ (List.filter _ (owedL l on)) = _
    unfold owedL
    rw [filter4]
  have g0 : Good ⟨l.fe, l.pe, l.pi, l.pp, n, noParts⟩ := ⟨h0, h1, wrap_id hf.fe.1 hf.fe.2, wrap_id hf.pe.1 hf.pe.2, wrap_id hf.pi.1 hf.pi.2, wrap_id hf.pp.1 hf.pp.2⟩
  unfold paidS
  rw [ho] at hp ⊢
  obtain ⟨k1, k2, k3, k4⟩ := has4 (!decide (l.fe ≤ 0)) (!decide (l.pe ≤ 0)) (!decide (w64 (sumI (dueS l.d on) - l.pi) ≤ 0)) (!decide (w64 (sumP (dueS l.d on) - l.pp) ≤ 0)) l.fe l.pe (w64 (sumI (dueS l.d on) - l.pi)) (w64 (sumP (dueS l.d on) - l.pp))
  rw [steps4 (first4 _ _ _ _ _ _ _ _) k1 k2 k3 k4 g0]
  generalize Sl.of (⟨0, 0⟩ : Part) (L4 (!decide (l.fe ≤ 0)) (!decide (l.pe ≤ 0)) (!decide (w64 (sumI (dueS l.d on) - l.pi) ≤ 0)) (!decide (w64 (sumP (dueS l.d on) - l.pp) ≤ 0)) l.fe l.pe (w64 (sumI (dueS l.d on) - l.pi)) (w64 (sumP (dueS l.d on) - l.pp))) = ow at *
  have g1 := good1 hp g0
  have g2 := good2 hp g1
  have g3 := good3 hp g2
  obtain ⟨t1, f1, q1⟩ := take_closed k1 g0
  obtain ⟨t2, f2, q2⟩ := take_closed k2 g1
  obtain ⟨t3, f3, q3⟩ := take_closed k3 g2
  obtain ⟨t4, f4, q4⟩ := take_closed k4 g3
  have r1 : (step1 ow ⟨l.fe, l.pe, l.pi, l.pp, n, noParts⟩).lf = n - pk n l.fe := f1
  generalize hz1 : step1 ow ⟨l.fe, l.pe, l.pi, l.pp, n, noParts⟩ = z1 at *
  have r2 : (step2 ow z1).lf = z1.lf - pk z1.lf l.pe := f2
  generalize hz2 : step2 ow z1 = z2 at *
  have r3 : (step3 ow z2).lf = z2.lf - pk z2.lf _ := f3
  generalize hz3 : step3 ow z2 = z3 at *
  have r4 : (step4 ow z3).lf = z3.lf - pk z3.lf _ := f4
  rw [r1] at r2 t2 q2
  rw [r2] at r3 t3 q3
  rw [r3] at r4 t4 q4
  refine ⟨_, _, _, _, _, ⟨rfl, rfl, rfl, rfl, rfl⟩, ?_, ?_, ?_, ?_, r4, ?_⟩
  · show z3.fe = _
    rw [← hz3]; show z2.fe = _
    rw [← hz2]; show z1.fe = _
    rw [← hz1]; show w64 (l.fe - tk ow 1 n) = _
    rw [t1]
  · show z3.pe = _
    rw [← hz3]; show z2.pe = _
    rw [← hz2]; show w64 (z1.pe - tk ow 2 z1.lf) = _
    rw [r1, t2, ← hz1]; rfl
  · show z3.pi = _
    rw [← hz3]; show w64 (z2.pi + tk ow 3 z2.lf) = _
    rw [r2, t3, ← hz2, ← hz1]; rfl
  · show w64 (z3.pp + tk ow 4 z3.lf) = _
    rw [r3, t4, ← hz3, ← hz2, ← hz1]; rfl
  · show (partsS ow 4 z3).list = _
    rw [q4, ← hz3]
    show (partsS ow 3 z2).list ++ _ = _
    rw [q3, ← hz2]
    show (partsS ow 2 z1).list ++ _ ++ _ = _
    rw [q2, ← hz1]
    show (partsS ow 1 ⟨l.fe, l.pe, l.pi, l.pp, n, noParts⟩).list ++ _ ++ _ ++ _ = _
    rw [q1]
    rfl
end Go.Proofs.Ytoocihhnlhehlaa
