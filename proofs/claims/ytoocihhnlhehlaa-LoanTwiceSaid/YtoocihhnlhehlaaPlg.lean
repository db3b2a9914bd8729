/- Loans: behind a payment a loan is valid, and owes less by the parts, plain. -/
import Derived.Test.YtoocihhnlhehlaaPlf
namespace Go.Proofs.Ytoocihhnlhehlaa
open Go Go.Proofs.Ytoocihhnlhehlaa.Den
theorem settle_cases (l : Loan) : (leftS l = false ∧ settle l = { l with st := 2 }) ∨ (leftS l = true ∧ settle l = l) := by
  unfold settle
  cases leftS l with
  | true => exact .inr ⟨rfl, rfl⟩
  | false => exact .inl ⟨rfl, rfl⟩
theorem numbers_upd {l : Loan} {st fe pe pi pp : Int} (h : numbersS l = true) (hst : 1 ≤ st ∧ st ≤ 3) (h1 : 0 ≤ fe ∧ fe ≤ 1000000000000) (h2 : 0 ≤ pe ∧ pe ≤ 1000000000000) (h3 : 0 ≤ pi) (h4 : 0 ≤ pp) :
    numbersS { l with st := st, fe := fe, pe := pe, pi := pi, pp := pp } = true := by
  simp only [numbersS, Bool.and_eq_true, Bool.not_eq_true', Bool.or_eq_false_iff, decide_eq_false_iff_not, amB, decide_eq_true_eq] at h ⊢
  obtain ⟨⟨⟨⟨⟨k1, k2⟩, k3⟩, k4⟩, k5⟩, k6⟩ := h
  refine ⟨⟨⟨⟨⟨?_, ?_⟩, k3⟩, k4⟩, ?_⟩, k6⟩
  · omega
  · exact ⟨⟨⟨by omega, by omega⟩, k2.1.2⟩, k2.2⟩
  · exact ⟨⟨⟨h1, h2⟩, k5.1.2⟩, k5.2⟩
theorem chk_after {l : Loan} {n on : Int} {z : Paid} {a3 a4 p1 p2 p3 p4 r : Int} (hc : Chk l) (hst : l.st = 1) (hp : Paying l n on z a3 a4 p1 p2 p3 p4 r) : Chk (settle (upd5 l z)) := by
  have hn := num_of hc.num
  have n1 := hn.pp
  have n2 := hn.pi
  have n3 := hn.fe
  have n4 := hn.pe
  obtain ⟨f1, f2, f3⟩ := hp.fe
  obtain ⟨g1, g2, g3⟩ := hp.pe
  obtain ⟨i1, i2, i3⟩ := hp.pi
  obtain ⟨j1, j2, j3⟩ := hp.pp
  have hnum : ∀ st, 1 ≤ st ∧ st ≤ 3 → numbersS { l with st := st, fe := z.fe, pe := z.pe, pi := z.pi, pp := z.pp } = true := fun st h =>
    numbers_upd hc.num h ⟨by omega, by omega⟩ ⟨by omega, by omega⟩ (by omega) (by omega)
  have h30 := hc.st3 (by omega)
  rcases settle_cases (upd5 l z) with ⟨hl, e⟩ | ⟨hl, e⟩
  · rw [e]
    refine ⟨hnum 2 (by omega), hc.ord, ?_, ?_, hc.re, hc.fst, fun _ => hl, fun h => ?_, fun _ => h30⟩
    · show z.pp ≤ sumP l.d
      omega
    · show z.pi ≤ sumI l.d
      omega
    · cases h
  · rw [e]
    refine ⟨?_, hc.ord, ?_, ?_, hc.re, hc.fst, fun h => ?_, fun _ => hl, fun _ => h30⟩
    · have := hnum l.st (by omega)
      exact this
    · show z.pp ≤ sumP l.d
      omega
    · show z.pi ≤ sumI l.d
      omega
    · have h : l.st = 2 := h
      omega
end Go.Proofs.Ytoocihhnlhehlaa
