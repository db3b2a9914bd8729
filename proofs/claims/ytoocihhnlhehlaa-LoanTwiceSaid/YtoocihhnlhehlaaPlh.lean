/- Loans: what the law LoanConserves asks of a payment, plain. -/
import Derived.Test.YtoocihhnlhehlaaPlg
namespace Go.Proofs.Ytoocihhnlhehlaa
open Go Go.Proofs.Ytoocihhnlhehlaa.Den
theorem pk_max {r a : Int} (_ : 0 ≤ r) : (if 0 < a then a else 0) - pk r a = (if 0 < a - pk r a then a - pk r a else 0) ∧ (pk r a < r → a - pk r a ≤ 0) ∧ (if 0 < pk r a then pk r a else 0) = pk r a := by
  unfold pk
  split
  · split <;> refine ⟨?_, ?_, ?_⟩ <;> (try split) <;> (try split) <;> intros <;> omega
  · refine ⟨?_, ?_, ?_⟩ <;> (try split) <;> (try split) <;> intros <;> omega
/-- What of each kind is owed. -/
theorem of_owed (l : Loan) (on : Int) (h1 : l.fe ≤ 9223372036854775807) (h2 : l.pe ≤ 9223372036854775807) :
    ofS (owedS l on) 1 = (if 0 < l.fe then l.fe else 0) ∧ ofS (owedS l on) 2 = (if 0 < l.pe then l.pe else 0) ∧
    ofS (owedS l on) 3 = (if 0 < w64 (sumI (dueS l.d on) - l.pi) then w64 (sumI (dueS l.d on) - l.pi) else 0) ∧
    ofS (owedS l on) 4 = (if 0 < w64 (sumP (dueS l.d on) - l.pp) then w64 (sumP (dueS l.d on) - l.pp) else 0) := by
  have h3 := (w64_in (sumI (dueS l.d on) - l.pi)).2
  have h4 := (w64_in (sumP (dueS l.d on) - l.pp)).2
  obtain ⟨e1, e2, e3, e4, _⟩ := of5 l.fe l.pe (w64 (sumI (dueS l.d on) - l.pi)) (w64 (sumP (dueS l.d on) - l.pp)) 0 h1 h2 h3 h4 (by omega)
  have e0 : opt 5 0 = [] := rfl
  rw [e0, List.append_nil] at e1 e2 e3 e4
  simp only [ofS_list, owed_list]
  exact ⟨e1, e2, e3, e4⟩
theorem settle_f (l : Loan) : (settle l).fe = l.fe ∧ (settle l).pe = l.pe ∧ (settle l).pi = l.pi ∧ (settle l).pp = l.pp ∧ (settle l).id = l.id ∧ (settle l).ch = l.ch := by
  unfold settle
  split <;> exact ⟨rfl, rfl, rfl, rfl, rfl, rfl⟩
theorem of_parts {z : Paid} {p1 p2 p3 p4 r : Int} (hz : z.parts.list = opt 1 p1 ++ opt 2 p2 ++ opt 3 p3 ++ opt 4 p4) (hr : z.lf = r) (h1 : p1 ≤ 9223372036854775807) (h2 : p2 ≤ 9223372036854775807) (h3 : p3 ≤ 9223372036854775807) (h4 : p4 ≤ 9223372036854775807) (h5 : r ≤ 9223372036854775807) :
    ofS (rest5 z).parts 1 = (if 0 < p1 then p1 else 0) ∧ ofS (rest5 z).parts 2 = (if 0 < p2 then p2 else 0) ∧ ofS (rest5 z).parts 3 = (if 0 < p3 then p3 else 0) ∧ ofS (rest5 z).parts 4 = (if 0 < p4 then p4 else 0) ∧ ofS (rest5 z).parts 5 = (if 0 < r then r else 0) := by
  simp only [ofS_list, rest5_list, hz, hr]
  exact of5 p1 p2 p3 p4 r h1 h2 h3 h4 h5
/-- Behind a payment less is owed, by its parts. -/
theorem owed_after {l : Loan} {n on : Int} {z : Paid} {a3 a4 p1 p2 p3 p4 r : Int} (hc : Chk l) (hp : Paying l n on z a3 a4 p1 p2 p3 p4 r) (h0 : 0 ≤ n) :
    let l' := settle (upd5 l z)
    (ofS (owedS l on) 1 - p1 = ofS (owedS l' on) 1 ∧ ofS (owedS l on) 2 - p2 = ofS (owedS l' on) 2 ∧ ofS (owedS l on) 3 - p3 = ofS (owedS l' on) 3 ∧ ofS (owedS l on) 4 - p4 = ofS (owedS l' on) 4) ∧ (0 < r → (owedS l' on).list = []) := by
  have hn := num_of hc.num
  obtain ⟨⟨i1, i2, i3⟩, ⟨j1, j2, j3⟩⟩ := due_sums hn on
  have n1 := hn.pp
  have n2 := hn.pi
  have n3 := hn.fe
  have n4 := hn.pe
  have c1 := hc.pp
  have c2 := hc.pi
  obtain ⟨s1, s2, s3, s4, s5⟩ := hp.sp
  obtain ⟨f1, f2, f3⟩ := hp.fe
  obtain ⟨g1, g2, g3⟩ := hp.pe
  obtain ⟨k1, k2, k3⟩ := hp.pi
  obtain ⟨m1, m2, m3⟩ := hp.pp
  have hr := hp.lf
  have hs := hp.sum
  have d3 := hp.d3
  have d4 := hp.d4
  intro l'
  obtain ⟨u1, u2, u3, u4, _, _⟩ := settle_f (upd5 l z)
  have v1 : l'.fe = l.fe - p1 := u1.trans f1
  have v2 : l'.pe = l.pe - p2 := u2.trans g1
  have v3 : l'.pi = l.pi + p3 := u3.trans k1
  have v4 : l'.pp = l.pp + p4 := u4.trans m1
  have vd : l'.d = l.d := (settle_d _).1
  have w3 : w64 (sumI (dueS l.d on) - l.pi) = a3 := by rw [d3]; exact w64_id (by omega) (by omega)
  have w4 : w64 (sumP (dueS l.d on) - l.pp) = a4 := by rw [d4]; exact w64_id (by omega) (by omega)
  have w3' : w64 (sumI (dueS l'.d on) - l'.pi) = a3 - p3 := by rw [vd, v3, d3]; exact (w64_id (by omega) (by omega)).trans (by omega)
  have w4' : w64 (sumP (dueS l'.d on) - l'.pp) = a4 - p4 := by rw [vd, v4, d4]; exact (w64_id (by omega) (by omega)).trans (by omega)
  obtain ⟨o1, o2, o3, o4⟩ := of_owed l on (by omega) (by omega)
  obtain ⟨o1', o2', o3', o4'⟩ := of_owed l' on (by omega) (by omega)
  have x1 := pk_max (r := n) (a := l.fe) h0
  rw [← s1] at x1
  have x2 := pk_max (r := n - p1) (a := l.pe) (by omega)
  rw [← s2] at x2
  have x3 := pk_max (r := n - p1 - p2) (a := a3) (by omega)
  rw [← s3] at x3
  have x4 := pk_max (r := n - p1 - p2 - p3) (a := a4) (by omega)
  rw [← s4] at x4
  refine ⟨⟨?_, ?_, ?_, ?_⟩, fun hr0 => ?_⟩
  · rw [o1, o1', v1]; exact x1.1
  · rw [o2, o2', v2]; exact x2.1
  · rw [o3, o3', w3, w3']; exact x3.1
  · rw [o4, o4', w4, w4']; exact x4.1
  · have no : ∀ k a : Int, a ≤ 0 → opt k a = [] := fun k a h => by unfold opt; rw [if_neg (by omega)]
    rw [owed_list, w3', w4', v1, v2, no 1 _ (x1.2.1 (by omega)), no 2 _ (x2.2.1 (by omega)), no 3 _ (x3.2.1 (by omega)), no 4 _ (x4.2.1 (by omega))]
    rfl
end Go.Proofs.Ytoocihhnlhehlaa
