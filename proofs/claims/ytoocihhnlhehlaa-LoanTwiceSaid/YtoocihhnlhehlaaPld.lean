/- Loans: the parts of a payment and of what is owed, by kinds, plain. -/
import Derived.Test.YtoocihhnlhehlaaPlc
namespace Go.Proofs.Ytoocihhnlhehlaa
open Go Go.Proofs.Ytoocihhnlhehlaa.Den
def ofS (l : Sl Part) (kind : Int) : Int := sumIf (fun j => (l.at' j).k == kind) (fun j => (l.at' j).a) l.n
def ofL (s : Int) (L : List Part) (k : Int) : Int := L.foldl (fun s x => if x.k == k then w64 (s + x.a) else s) s
theorem ofS_list (x : Sl Part) (k : Int) : ofS x k = ofL 0 x.list k := by
  have h : ∀ n, sumIf (fun j => (x.at' j).k == k) (fun j => (x.at' j).a) n = ofL 0 ((List.range n).map x.at') k := by
    intro n
    induction n with
    | zero => rfl
    | succ n ih =>
      simp only [sumIf, ih, List.range_succ, List.map_append, List.map_cons, List.map_nil, ofL, List.foldl_append, List.foldl_cons, List.foldl_nil]
  exact h x.n
theorem ofL_app (s : Int) (L M : List Part) (k : Int) : ofL s (L ++ M) k = ofL (ofL s L k) M k := by simp only [ofL, List.foldl_append]
theorem ofL_no {s j p k : Int} (h : (j == k) = false) : ofL s (opt j p) k = s := by
  unfold opt
  split
  · simp only [ofL, List.foldl_cons, List.foldl_nil, h, Bool.false_eq_true, if_false]
  · rfl
theorem ofL_yes {p k : Int} (h : p ≤ 9223372036854775807) : ofL 0 (opt k p) k = if 0 < p then p else 0 := by
  unfold opt
  split
  · simp only [ofL, List.foldl_cons, List.foldl_nil, beq_self_eq_true, if_true, Int.zero_add]
    exact wrap_id (by omega) h
  · rfl
theorem rest5_list (z : Paid) : (rest5 z).parts.list = z.parts.list ++ opt 5 z.lf := by
  cases h : decide (z.lf > 0) with
  | true =>
    rw [rest5_y h, push_list]
    have : 0 < z.lf := by simpa using h
    simp [opt, this]
  | false =>
    rw [rest5_n h]
    have : ¬ 0 < z.lf := by simpa using h
    simp [opt, this]
theorem owed_list (l : Loan) (on : Int) : (owedS l on).list = opt 1 l.fe ++ opt 2 l.pe ++ opt 3 (w64 (sumI (dueS l.d on) - l.pi)) ++ opt 4 (w64 (sumP (dueS l.d on) - l.pp)) := by
  show (Sl.of _ (List.filter _ (owedL l on))).list = _
  rw [Sl.list_of]
  have ho : ∀ k a : Int, (if (!decide (a ≤ 0)) then [(⟨k, a⟩ : Part)] else []) = opt k a := by
    intro k a
    unfold opt
    by_cases h : a ≤ 0
    · have : ¬ 0 < a := by omega
      simp [h, this]
    · have : 0 < a := by omega
      simp [h, this]
  unfold owedL
  rw [filter4]
  unfold L4
  rw [ho, ho, ho, ho]
  simp only [List.append_assoc]
/-- What five parts hold of a kind. -/
theorem of5 (p1 p2 p3 p4 p5 : Int) (h1 : p1 ≤ 9223372036854775807) (h2 : p2 ≤ 9223372036854775807) (h3 : p3 ≤ 9223372036854775807) (h4 : p4 ≤ 9223372036854775807) (h5 : p5 ≤ 9223372036854775807) :
    ofL 0 (opt 1 p1 ++ opt 2 p2 ++ opt 3 p3 ++ opt 4 p4 ++ opt 5 p5) 1 = (if 0 < p1 then p1 else 0) ∧
    ofL 0 (opt 1 p1 ++ opt 2 p2 ++ opt 3 p3 ++ opt 4 p4 ++ opt 5 p5) 2 = (if 0 < p2 then p2 else 0) ∧
    ofL 0 (opt 1 p1 ++ opt 2 p2 ++ opt 3 p3 ++ opt 4 p4 ++ opt 5 p5) 3 = (if 0 < p3 then p3 else 0) ∧
    ofL 0 (opt 1 p1 ++ opt 2 p2 ++ opt 3 p3 ++ opt 4 p4 ++ opt 5 p5) 4 = (if 0 < p4 then p4 else 0) ∧
    ofL 0 (opt 1 p1 ++ opt 2 p2 ++ opt 3 p3 ++ opt 4 p4 ++ opt 5 p5) 5 = (if 0 < p5 then p5 else 0) := by
  simp only [ofL_app]
  refine ⟨?_, ?_, ?_, ?_, ?_⟩
  · rw [ofL_no (j := 5) (by decide), ofL_no (j := 4) (by decide), ofL_no (j := 3) (by decide), ofL_no (j := 2) (by decide), ofL_yes h1]
  · rw [ofL_no (j := 5) (by decide), ofL_no (j := 4) (by decide), ofL_no (j := 3) (by decide), ofL_no (j := 1) (by decide), ofL_yes h2]
  · rw [ofL_no (j := 5) (by decide), ofL_no (j := 4) (by decide), ofL_no (j := 2) (by decide), ofL_no (j := 1) (by decide), ofL_yes h3]
  · rw [ofL_no (j := 5) (by decide), ofL_no (j := 3) (by decide), ofL_no (j := 2) (by decide), ofL_no (j := 1) (by decide), ofL_yes h4]
  · rw [ofL_no (j := 4) (by decide), ofL_no (j := 3) (by decide), ofL_no (j := 2) (by decide), ofL_no (j := 1) (by decide), ofL_yes h5]
/-- A sum of amounts that are in their ranges does not wrap round. -/
theorem sumTo_in {f : Nat → Int} {m : Int} (hm : 0 ≤ m) (hf : ∀ j, 0 ≤ f j ∧ f j ≤ m) : ∀ n : Nat, n * m ≤ 9223372036854775807 → 0 ≤ sumTo f n ∧ sumTo f n ≤ n * m
  | 0, _ => by simp [sumTo]
  | n + 1, h => by
    have e : ((n + 1 : Nat) : Int) * m = (n : Int) * m + m := by rw [Int.natCast_add, Int.add_mul]; simp
    rw [e] at h ⊢
    obtain ⟨h1, h2⟩ := sumTo_in hm hf n (by omega)
    have h3 := hf n
    simp only [sumTo]
    have : IntKind.i64.wrap (sumTo f n + f n) = sumTo f n + f n := wrap_id (by omega) (by omega)
    omega
end Go.Proofs.Ytoocihhnlhehlaa
