/- Loans: two payments on a day have the effect of one, plain. -/
import Derived.Test.YtoocihhnlhehlaaPlj
namespace Go.Proofs.Ytoocihhnlhehlaa
open Go Go.Proofs.Ytoocihhnlhehlaa.Den
theorem pk_cases (r a : Int) : (0 < r ∧ 0 < a ∧ a < r ∧ pk r a = a) ∨ (0 < r ∧ 0 < a ∧ r ≤ a ∧ pk r a = r) ∨ ((r ≤ 0 ∨ a ≤ 0) ∧ pk r a = 0) := by
  unfold pk
  by_cases h : 0 < r ∧ 0 < a
  · rw [if_pos h]
    by_cases h2 : a < r
    · rw [if_pos h2]; exact .inl ⟨h.1, h.2, h2, rfl⟩
    · rw [if_neg h2]; exact .inr (.inl ⟨h.1, h.2, by omega, rfl⟩)
  · rw [if_neg h]; exact .inr (.inr ⟨by omega, rfl⟩)
theorem pk_two {n m a : Int} (hn : 0 ≤ n) (hm : 0 ≤ m) : pk n a + pk m (a - pk n a) = pk (n + m) a := by
  rcases pk_cases n a with ⟨h1, h2, h3, e1⟩ | ⟨h1, h2, h3, e1⟩ | ⟨h1, e1⟩ <;> rw [e1]
  · rcases pk_cases m (a - a) with ⟨k1, k2, k3, e2⟩ | ⟨k1, k2, k3, e2⟩ | ⟨k1, e2⟩ <;> rw [e2] <;> rcases pk_cases (n + m) a with ⟨g1, g2, g3, e3⟩ | ⟨g1, g2, g3, e3⟩ | ⟨g1, e3⟩ <;> rw [e3] <;> omega
  · rcases pk_cases m (a - n) with ⟨k1, k2, k3, e2⟩ | ⟨k1, k2, k3, e2⟩ | ⟨k1, e2⟩ <;> rw [e2] <;> rcases pk_cases (n + m) a with ⟨g1, g2, g3, e3⟩ | ⟨g1, g2, g3, e3⟩ | ⟨g1, e3⟩ <;> rw [e3] <;> omega
  · rcases pk_cases m (a - 0) with ⟨k1, k2, k3, e2⟩ | ⟨k1, k2, k3, e2⟩ | ⟨k1, e2⟩ <;> rw [e2] <;> rcases pk_cases (n + m) a with ⟨g1, g2, g3, e3⟩ | ⟨g1, g2, g3, e3⟩ | ⟨g1, e3⟩ <;> rw [e3] <;> omega
theorem split_two {n m a1 a2 a3 a4 p1 p2 p3 p4 r q1 q2 q3 q4 s t1 t2 t3 t4 u : Int} (hn : 0 ≤ n) (hm : 0 ≤ m) (h1 : Split n a1 a2 a3 a4 p1 p2 p3 p4 r) (h2 : Split m (a1 - p1) (a2 - p2) (a3 - p3) (a4 - p4) q1 q2 q3 q4 s) (h3 : Split (n + m) a1 a2 a3 a4 t1 t2 t3 t4 u) :
    p1 + q1 = t1 ∧ p2 + q2 = t2 ∧ p3 + q3 = t3 ∧ p4 + q4 = t4 ∧ r + s = u := by
  have b1 := (pk_le (a := a1) hn).2.1
  rw [← h1.e1] at b1
  have c1 := (pk_le (a := a1 - p1) hm).2.1
  rw [← h2.e1] at c1
  have e1 : p1 + q1 = t1 := by rw [h2.e1, h3.e1, h1.e1]; exact pk_two hn hm
  have b2 := (pk_le (r := n - p1) (a := a2) (by omega)).2.1
  rw [← h1.e2] at b2
  have c2 := (pk_le (r := m - q1) (a := a2 - p2) (by omega)).2.1
  rw [← h2.e2] at c2
  have e2 : p2 + q2 = t2 := by
    rw [h2.e2, h3.e2, h1.e2, pk_two (by omega) (by omega)]
    congr 1; omega
  have b3 := (pk_le (r := n - p1 - p2) (a := a3) (by omega)).2.1
  rw [← h1.e3] at b3
  have c3 := (pk_le (r := m - q1 - q2) (a := a3 - p3) (by omega)).2.1
  rw [← h2.e3] at c3
  have e3 : p3 + q3 = t3 := by
    rw [h2.e3, h3.e3, h1.e3, pk_two (by omega) (by omega)]
    congr 1; omega
  have e4 : p4 + q4 = t4 := by
    rw [h2.e4, h3.e4, h1.e4, pk_two (by omega) (by omega)]
    congr 1; omega
  have er := h1.er
  have es := h2.er
  have eu := h3.er
  exact ⟨e1, e2, e3, e4, by omega⟩
/-- What a second payment answers, and one of the sum. -/
structure Twice (l : Loan) (n m on : Int) (a b c : Loan × Sl Part × Int) : Prop where
  f : b.2.2 = 0 ∨ b.2.2 = 1
  g : c.2.2 = 0 ∨ c.2.2 = 1
  k1 : b.2.2 = 0 → c.2.2 = 0 → w64 (ofS a.2.1 1 + ofS b.2.1 1) = ofS c.2.1 1
  k2 : b.2.2 = 0 → c.2.2 = 0 → w64 (ofS a.2.1 2 + ofS b.2.1 2) = ofS c.2.1 2
  k3 : b.2.2 = 0 → c.2.2 = 0 → w64 (ofS a.2.1 3 + ofS b.2.1 3) = ofS c.2.1 3
  k4 : b.2.2 = 0 → c.2.2 = 0 → w64 (ofS a.2.1 4 + ofS b.2.1 4) = ofS c.2.1 4
  k5 : b.2.2 = 0 → c.2.2 = 0 → w64 (ofS a.2.1 5 + ofS b.2.1 5) = ofS c.2.1 5
  same : b.2.2 = 0 → c.2.2 = 0 → b.1 = c.1
theorem payS_code {l : Loan} (n on : Int) (h : l.st = 1) : (payS l n on).2.2 = 0 ∨ (payS l n on).2.2 = 1 := by
  unfold payS
  split
  · exact .inr rfl
  split
  · rename_i h1
    rw [h] at h1; cases h1
  · exact .inl rfl
set_option maxHeartbeats 4000000 in
theorem twice {l : Loan} {n m on : Int} (h : (payS l n on).2.2 = 0) (hs : (payS l n on).1.st = 1) : Twice l n m on (payS l n on) (payS (payS l n on).1 m on) (payS l (n + m) on) := by
  have hst := (payS_ok h).2.2.2.1
  have main : (payS (payS l n on).1 m on).2.2 = 0 → (payS l (n + m) on).2.2 = 0 → (w64 (ofS (payS l n on).2.1 1 + ofS (payS (payS l n on).1 m on).2.1 1) = ofS (payS l (n + m) on).2.1 1 ∧ w64 (ofS (payS l n on).2.1 2 + ofS (payS (payS l n on).1 m on).2.1 2) = ofS (payS l (n + m) on).2.1 2 ∧ w64 (ofS (payS l n on).2.1 3 + ofS (payS (payS l n on).1 m on).2.1 3) = ofS (payS l (n + m) on).2.1 3 ∧ w64 (ofS (payS l n on).2.1 4 + ofS (payS (payS l n on).1 m on).2.1 4) = ofS (payS l (n + m) on).2.1 4 ∧ w64 (ofS (payS l n on).2.1 5 + ofS (payS (payS l n on).1 m on).2.1 5) = ofS (payS l (n + m) on).2.1 5) ∧ (payS (payS l n on).1 m on).1 = (payS l (n + m) on).1 := by
    intro hb hc
    obtain ⟨k1, g1, g2, _, e1⟩ := payS_ok h
    obtain ⟨k2, g3, g4, _, e2⟩ := payS_ok hb
    obtain ⟨_, g5, g6, _, e3⟩ := payS_ok hc
    rw [e2, e3]
    rw [e1] at hs k2 ⊢
    simp only at hs k2 ⊢
    obtain ⟨a3, a4, p1, p2, p3, p4, r, hp⟩ := paying k1 g1 (on := on) (by omega)
    have ea : settle (upd5 l (paidS l n on)) = upd5 l (paidS l n on) := by
      rcases settle_cases (upd5 l (paidS l n on)) with ⟨_, e⟩ | ⟨_, e⟩
      · rw [e] at hs; cases hs
      · exact e
    rw [ea] at k2 ⊢
    generalize hz1 : paidS l n on = z1 at *
    obtain ⟨b3, b4, q1, q2, q3, q4, s, hq⟩ := paying k2 g3 (on := on) (by omega)
    obtain ⟨c3, c4, t1, t2, t3, t4, u, ht⟩ := paying k1 g5 (on := on) (by omega)
    generalize hz2 : paidS (upd5 l z1) m on = z2 at *
    generalize hz3 : paidS l (n + m) on = z3 at *
    have f1 := hp.fe
    have f2 := hp.pe
    have f3 := hp.pi
    have f4 := hp.pp
    have f5 := hp.lf
    have f6 := hp.sum
    have i1 := hq.fe
    have i2 := hq.pe
    have i3 := hq.pi
    have i4 := hq.pp
    have i5 := hq.lf
    have i6 := hq.sum
    have j1 := ht.fe
    have j2 := ht.pe
    have j3 := ht.pi
    have j4 := ht.pp
    have j5 := ht.lf
    have j6 := ht.sum
    have d3 := hp.d3
    have d4 := hp.d4
    have d3' : b3 = sumI (dueS l.d on) - z1.pi := hq.d3
    have d4' : b4 = sumP (dueS l.d on) - z1.pp := hq.d4
    have d3'' := ht.d3
    have d4'' := ht.d4
    have sp2 := hq.sp
    have sp3 := ht.sp
    have x1 : (upd5 l z1).fe = l.fe - p1 := f1.1
    have x2 : (upd5 l z1).pe = l.pe - p2 := f2.1
    have x3 : b3 = a3 - p3 := by rw [d3', d3, f3.1]; omega
    have x4 : b4 = a4 - p4 := by rw [d4', d4, f4.1]; omega
    have x5 : c3 = a3 := by omega
    have x6 : c4 = a4 := by omega
    rw [x1, x2, x3, x4] at sp2
    rw [x5, x6] at sp3
    obtain ⟨v1, v2, v3, v4, v5⟩ := split_two (by omega) (by omega) hp.sp sp2 sp3
    have y1 : z2.fe = (l.fe - p1) - q1 := by rw [← x1]; exact i1.1
    have y2 : z2.pe = (l.pe - p2) - q2 := by rw [← x2]; exact i2.1
    have y3 : z2.pi = z1.pi + q3 := i3.1
    have y4 : z2.pp = z1.pp + q4 := i4.1
    obtain ⟨m1, m2, m3, m4, m5⟩ := of_parts hp.parts hp.lf.1 (by omega) (by omega) (by omega) (by omega) (by omega)
    obtain ⟨n1, n2, n3, n4, n5⟩ := of_parts hq.parts hq.lf.1 (by omega) (by omega) (by omega) (by omega) (by omega)
    obtain ⟨o1, o2, o3, o4, o5⟩ := of_parts ht.parts ht.lf.1 (by omega) (by omega) (by omega) (by omega) (by omega)
    have pos : ∀ p : Int, 0 ≤ p → (if 0 < p then p else 0) = p := fun p h => by split <;> omega
    rw [pos _ (by omega)] at m1 m2 m3 m4 m5 n1 n2 n3 n4 n5 o1 o2 o3 o4 o5
    rw [m1, m2, m3, m4, m5, n1, n2, n3, n4, n5, o1, o2, o3, o4, o5]
    refine ⟨⟨?_, ?_, ?_, ?_, ?_⟩, ?_⟩
    · rw [v1]; exact w64_id (by omega) (by omega)
    · rw [v2]; exact w64_id (by omega) (by omega)
    · rw [v3]; exact w64_id (by omega) (by omega)
    · rw [v4]; exact w64_id (by omega) (by omega)
    · rw [v5]; exact w64_id (by omega) (by omega)
    · have eu : upd5 (upd5 l z1) z2 = upd5 l z3 := by
        show ({ l with fe := z2.fe, pe := z2.pe, pi := z2.pi, pp := z2.pp } : Loan) = { l with fe := z3.fe, pe := z3.pe, pi := z3.pi, pp := z3.pp }
        rw [show z2.fe = z3.fe by omega, show z2.pe = z3.pe by omega, show z2.pi = z3.pi by omega, show z2.pp = z3.pp by omega]
      rw [eu]
  exact ⟨payS_code m on hs, payS_code (n + m) on hst, fun hb hc => (main hb hc).1.1, fun hb hc => (main hb hc).1.2.1, fun hb hc => (main hb hc).1.2.2.1, fun hb hc => (main hb hc).1.2.2.2.1, fun hb hc => (main hb hc).1.2.2.2.2, fun hb hc => (main hb hc).2⟩
end Go.Proofs.Ytoocihhnlhehlaa
