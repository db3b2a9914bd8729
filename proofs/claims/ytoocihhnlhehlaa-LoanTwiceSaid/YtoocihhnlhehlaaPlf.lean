/- Loans: the numbers of a loan behind a payment, plain. -/
import Derived.Test.YtoocihhnlhehlaaPle
namespace Go.Proofs.Ytoocihhnlhehlaa
open Go Go.Proofs.Ytoocihhnlhehlaa.Den
theorem sumI_due (l : Loan) (on : Int) : sumI (dueS l.d on) = intR l.d on :=
  sum_kept (fun d : Due => decide (d.day ≤ on)) l.d.at' (fun d => d.it) ⟨0, 0, 0, 0⟩ l.d.n
theorem sumP_due (l : Loan) (on : Int) : sumP (dueS l.d on) = prinR l.d on :=
  sum_kept (fun d : Due => decide (d.day ≤ on)) l.d.at' (fun d => d.pr) ⟨0, 0, 0, 0⟩ l.d.n
theorem due_sums {l : Loan} (h : Num l) (on : Int) : (0 ≤ sumI (dueS l.d on) ∧ sumI (dueS l.d on) ≤ sumI l.d ∧ sumI l.d ≤ 240000000000000) ∧ (0 ≤ sumP (dueS l.d on) ∧ sumP (dueS l.d on) ≤ sumP l.d ∧ sumP l.d ≤ 240000000000000) := by
  have hn := h.dn
  have hb : (l.d.n : Int) * 1000000000000 ≤ 240000000000000 := by omega
  have h1 := sumIf_le (p := fun j => decide ((l.d.at' j).day ≤ on)) (f := fun j => (l.d.at' j).it) (m := 1000000000000) (by omega) l.d.n (fun j hj => (h.d j hj).2) (by omega)
  have h2 := sumIf_le (p := fun j => decide ((l.d.at' j).day ≤ on)) (f := fun j => (l.d.at' j).pr) (m := 1000000000000) (by omega) l.d.n (fun j hj => (h.d j hj).1) (by omega)
  rw [sumI_due, sumP_due]
  exact ⟨⟨h1.1, h1.2.1, Int.le_trans h1.2.2 hb⟩, ⟨h2.1, h2.2.1, Int.le_trans h2.2.2 hb⟩⟩
theorem w64_id {n : Int} (h1 : -9223372036854775808 ≤ n) (h2 : n ≤ 9223372036854775807) : w64 n = n := wrap_id h1 h2
/-- What a payment turns. -/
structure Paying (l : Loan) (n on : Int) (z : Paid) (a3 a4 p1 p2 p3 p4 r : Int) : Prop where
  d3 : a3 = sumI (dueS l.d on) - l.pi
  d4 : a4 = sumP (dueS l.d on) - l.pp
  sp : Split n l.fe l.pe a3 a4 p1 p2 p3 p4 r
  fe : z.fe = l.fe - p1 ∧ 0 ≤ p1 ∧ p1 ≤ l.fe
  pe : z.pe = l.pe - p2 ∧ 0 ≤ p2 ∧ p2 ≤ l.pe
  pi : z.pi = l.pi + p3 ∧ 0 ≤ p3 ∧ l.pi + p3 ≤ sumI l.d
  pp : z.pp = l.pp + p4 ∧ 0 ≤ p4 ∧ l.pp + p4 ≤ sumP l.d
  lf : z.lf = r ∧ 0 ≤ r ∧ r ≤ n
  sum : p1 + p2 + p3 + p4 + r = n
  parts : z.parts.list = opt 1 p1 ++ opt 2 p2 ++ opt 3 p3 ++ opt 4 p4
set_option maxHeartbeats 4000000 in
theorem paying {l : Loan} {n on : Int} (hc : Chk l) (h0 : 1 ≤ n) (h1 : n ≤ 2000000000000) : ∃ a3 a4 p1 p2 p3 p4 r, Paying l n on (paidS l n on) a3 a4 p1 p2 p3 p4 r := by
  have hn := num_of hc.num
  obtain ⟨⟨i1, i2, i3⟩, ⟨j1, j2, j3⟩⟩ := due_sums hn on
  have c1 := hc.pp
  have c2 := hc.pi
  have n1 := hn.pp
  have n2 := hn.pi
  have n3 := hn.fe
  have n4 := hn.pe
  obtain ⟨p1, p2, p3, p4, r, h⟩ := pay_closed l n on (by omega) (by omega) ⟨⟨by omega, by omega⟩, ⟨by omega, by omega⟩, ⟨by omega, by omega⟩, ⟨by omega, by omega⟩⟩
  have w3 : w64 (sumI (dueS l.d on) - l.pi) = sumI (dueS l.d on) - l.pi := w64_id (by omega) (by omega)
  have w4 : w64 (sumP (dueS l.d on) - l.pp) = sumP (dueS l.d on) - l.pp := w64_id (by omega) (by omega)
  obtain ⟨⟨e1, e2, e3, e4, er⟩, fe, pe, pi, pp, lf, parts⟩ := h
  rw [w3] at e3
  rw [w4] at e4
  have q1 := pk_le (r := n) (a := l.fe) (by omega)
  rw [← e1] at q1
  have q2 := pk_le (r := n - p1) (a := l.pe) (by omega)
  rw [← e2] at q2
  have q3 := pk_le (r := n - p1 - p2) (a := sumI (dueS l.d on) - l.pi) (by omega)
  rw [← e3] at q3
  have q4 := pk_le (r := n - p1 - p2 - p3) (a := sumP (dueS l.d on) - l.pp) (by omega)
  rw [← e4] at q4
  obtain ⟨q1a, q1b, q1c, q1d, _⟩ := q1
  obtain ⟨q2a, q2b, q2c, q2d, _⟩ := q2
  obtain ⟨q3a, q3b, q3c, q3d, _⟩ := q3
  obtain ⟨q4a, q4b, q4c, q4d, _⟩ := q4
  refine ⟨_, _, p1, p2, p3, p4, r, rfl, rfl, ⟨e1, e2, e3, e4, er⟩, ⟨?_, q1a, by omega⟩, ⟨?_, q2a, by omega⟩, ⟨?_, q3a, by omega⟩, ⟨?_, q4a, by omega⟩, ⟨lf, by omega, by omega⟩, by omega, parts⟩
  · rw [fe]; exact w64_id (by omega) (by omega)
  · rw [pe]; exact w64_id (by omega) (by omega)
  · rw [pi]; exact w64_id (by omega) (by omega)
  · rw [pp]; exact w64_id (by omega) (by omega)
end Go.Proofs.Ytoocihhnlhehlaa
