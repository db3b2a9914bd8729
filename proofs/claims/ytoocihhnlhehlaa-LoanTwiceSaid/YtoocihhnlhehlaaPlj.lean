/- Loans: what the law LoanConserves asks, in one statement, plain. -/
import Derived.Test.YtoocihhnlhehlaaPli
namespace Go.Proofs.Ytoocihhnlhehlaa
open Go Go.Proofs.Ytoocihhnlhehlaa.Den
/-- What a payment that is accepted leaves. -/
structure Conserved (l : Loan) (n on : Int) (x : Loan × Sl Part × Int) : Prop where
  parts : ∀ j, j < x.2.1.n → 1 ≤ (x.2.1.at' j).a ∧ 1 ≤ (x.2.1.at' j).k ∧ (x.2.1.at' j).k ≤ 5 ∧ (0 < j → (x.2.1.at' (j - 1)).k < (x.2.1.at' j).k)
  sum : sumTo (fun j => (x.2.1.at' j).a) x.2.1.n = n
  o1 : w64 (ofS (owedS l on) 1 - ofS x.2.1 1) = ofS (owedS x.1 on) 1
  o2 : w64 (ofS (owedS l on) 2 - ofS x.2.1 2) = ofS (owedS x.1 on) 2
  o3 : w64 (ofS (owedS l on) 3 - ofS x.2.1 3) = ofS (owedS x.1 on) 3
  o4 : w64 (ofS (owedS l on) 4 - ofS x.2.1 4) = ofS (owedS x.1 on) 4
  o5 : 0 < ofS x.2.1 5 → (owedS x.1 on).n = 0
  out : w64 (outS l - outS x.1) = ofS x.2.1 4
  chk : checkS x.1 = 0
  id : x.1.id = l.id
  ch : x.1.ch = l.ch
  d : x.1.d = l.d
theorem ofS_in (l : Sl Part) (k : Int) : -9223372036854775808 ≤ ofS l k ∧ ofS l k ≤ 9223372036854775807 := by
  unfold ofS
  generalize l.n = n
  induction n with
  | zero => simp [sumIf]
  | succ n ih =>
    simp only [sumIf]
    split
    · exact w64_in _
    · exact ih
theorem payS_err {l : Loan} {n on : Int} (h : (payS l n on).2.2 ≠ 0) : (payS l n on).2.1.n = 0 := by
  unfold payS at h ⊢
  split
  · rfl
  split
  · rfl
  · rename_i h1 h2
    rw [if_neg h1, if_neg h2] at h
    exact absurd rfl h
theorem payS_ok {l : Loan} {n on : Int} (h : (payS l n on).2.2 = 0) : Chk l ∧ 1 ≤ n ∧ n ≤ 1000000000000 ∧ l.st = 1 ∧ payS l n on = (settle (upd5 l (paidS l n on)), (rest5 (paidS l n on)).parts, 0) := by
  unfold payS at h ⊢
  split at h
  · cases h
  split at h
  · cases h
  rename_i h1 h2
  rw [if_neg h1, if_neg h2]
  simp only [Bool.or_eq_true, bne_iff_ne, ne_eq, decide_eq_true_eq, not_or, Decidable.not_not] at h1
  refine ⟨chk_of h1.1.1.1, by omega, by omega, by simpa using h2, rfl⟩
theorem conserved {l : Loan} {n on : Int} (h : (payS l n on).2.2 = 0) : Conserved l n on (payS l n on) := by
  obtain ⟨hc, h1, h2, hst, e⟩ := payS_ok h
  rw [e]
  obtain ⟨a3, a4, p1, p2, p3, p4, r, hp⟩ := paying hc h1 (on := on) (by omega)
  have hn := num_of hc.num
  have hca := chk_after hc hst hp
  obtain ⟨⟨q1, q2, q3, q4⟩, q5⟩ := owed_after hc hp (by omega)
  have hsum := hp.sum
  have hlf := hp.lf
  have f1 := hp.fe
  have f2 := hp.pe
  have f3 := hp.pi
  have f4 := hp.pp
  obtain ⟨m1, m2, m3, m4, m5⟩ := of_parts hp.parts hp.lf.1 (by omega) (by omega) (by omega) (by omega) (by omega)
  have pos : ∀ p : Int, 0 ≤ p → (if 0 < p then p else 0) = p := fun p h => by split <;> omega
  rw [pos _ (by omega)] at m1 m2 m3 m4 m5
  have hx : (rest5 (paidS l n on)).parts.list = opt 1 p1 ++ opt 2 p2 ++ opt 3 p3 ++ opt 4 p4 ++ opt 5 r := by rw [rest5_list, hp.parts, hp.lf.1]
  have ofr := fun k => ofS_in (owedS (settle (upd5 l (paidS l n on))) on) k
  have hd : (settle (upd5 l (paidS l n on))).d = l.d := (settle_d _).1
  obtain ⟨u1, u2, u3, u4, u5, u6⟩ := settle_f (upd5 l (paidS l n on))
  refine ⟨fun j hj => okP_at (by rw [hx]; exact okP_opts p1 p2 p3 p4 r) hj, ?_, ?_, ?_, ?_, ?_, ?_, ?_, chk_to hca, u5, u6, hd⟩
  · show sumTo _ _ = _
    rw [sum_parts hx (by omega) (by omega) (by omega) (by omega) (by omega) (by omega)]; exact hsum
  · show w64 (_ - ofS (rest5 (paidS l n on)).parts 1) = _
    rw [m1, q1]; have := ofr 1; exact w64_id this.1 this.2
  · show w64 (_ - ofS (rest5 (paidS l n on)).parts 2) = _
    rw [m2, q2]; have := ofr 2; exact w64_id this.1 this.2
  · show w64 (_ - ofS (rest5 (paidS l n on)).parts 3) = _
    rw [m3, q3]; have := ofr 3; exact w64_id this.1 this.2
  · show w64 (_ - ofS (rest5 (paidS l n on)).parts 4) = _
    rw [m4, q4]; have := ofr 4; exact w64_id this.1 this.2
  · intro h5
    have h5 : 0 < ofS (rest5 (paidS l n on)).parts 5 := h5
    rw [m5] at h5
    exact (list_at (q5 h5)).1
  · show w64 (outS l - outS (settle (upd5 l (paidS l n on)))) = ofS (rest5 (paidS l n on)).parts 4
    obtain ⟨_, ⟨j1, j2, j3⟩⟩ := due_sums hn on
    have n1 := hn.pp
    have n2 := hc.pp
    rw [m4]
    have eo : outS l = sumP l.d - l.pp := w64_id (by omega) (by omega)
    have u4' : (settle (upd5 l (paidS l n on))).pp = l.pp + p4 := u4.trans f4.1
    have eo' : outS (settle (upd5 l (paidS l n on))) = sumP l.d - (l.pp + p4) := by
      unfold outS
      rw [hd, u4']
      exact w64_id (by omega) (by omega)
    rw [eo, eo']
    exact (w64_id (by omega) (by omega)).trans (by omega)
end Go.Proofs.Ytoocihhnlhehlaa
