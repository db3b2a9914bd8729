/- Loans: the parts of a payment are positive, in order, and add up, plain. -/
import Derived.Test.YtoocihhnlhehlaaPlh
namespace Go.Proofs.Ytoocihhnlhehlaa
open Go Go.Proofs.Ytoocihhnlhehlaa.Den
def sumL (s : Int) (L : List Part) : Int := L.foldl (fun s x => w64 (s + x.a)) s
theorem sumTo_list (x : Sl Part) : sumTo (fun j => (x.at' j).a) x.n = sumL 0 x.list := by
  have h : ∀ n, sumTo (fun j => (x.at' j).a) n = sumL 0 ((List.range n).map x.at') := by
    intro n
    induction n with
    | zero => rfl
    | succ n ih =>
      simp only [sumTo, ih, List.range_succ, List.map_append, List.map_cons, List.map_nil, sumL, List.foldl_append, List.foldl_cons, List.foldl_nil]
  exact h x.n
theorem sumL_app (s : Int) (L M : List Part) : sumL s (L ++ M) = sumL (sumL s L) M := by simp only [sumL, List.foldl_append]
theorem sumL_opt {s k p : Int} (h0 : 0 ≤ p) (h1 : 0 ≤ s) (h2 : s + p ≤ 9223372036854775807) : sumL s (opt k p) = s + p := by
  unfold opt
  split
  · show w64 (s + p) = s + p
    exact w64_id (by omega) h2
  · have : p = 0 := by omega
    subst this
    simp [sumL]
theorem sum_parts {x : Sl Part} {p1 p2 p3 p4 r : Int} (hx : x.list = opt 1 p1 ++ opt 2 p2 ++ opt 3 p3 ++ opt 4 p4 ++ opt 5 r) (h1 : 0 ≤ p1) (h2 : 0 ≤ p2) (h3 : 0 ≤ p3) (h4 : 0 ≤ p4) (h5 : 0 ≤ r) (h : p1 + p2 + p3 + p4 + r ≤ 9223372036854775807) :
    sumTo (fun j => (x.at' j).a) x.n = p1 + p2 + p3 + p4 + r := by
  rw [sumTo_list, hx]
  simp only [sumL_app]
  rw [sumL_opt h1 (by omega) (by omega), sumL_opt h2 (by omega) (by omega), sumL_opt h3 (by omega) (by omega), sumL_opt h4 (by omega) (by omega), sumL_opt h5 (by omega) (by omega)]
  omega
theorem list_at {x : Sl Part} {L : List Part} (h : x.list = L) : x.n = L.length ∧ ∀ j, j < x.n → L[j]? = some (x.at' j) := by
  subst h
  refine ⟨by simp [Sl.list], fun j hj => by simp [Sl.list, hj]⟩
/-- One part, behind the one before. -/
def okP (L : List Part) : Prop := (∀ x ∈ L, 1 ≤ x.a ∧ 1 ≤ x.k ∧ x.k ≤ 5) ∧ L.Pairwise (fun a b => a.k < b.k)
theorem opt_mem {k p : Int} {x : Part} (h : x ∈ opt k p) : x.k = k ∧ 1 ≤ x.a := by
  unfold opt at h
  split at h
  · simp at h
    subst h
    exact ⟨rfl, by show 1 ≤ p; omega⟩
  · simp at h
theorem opt_pw (k p : Int) : (opt k p).Pairwise (fun a b => a.k < b.k) := by
  unfold opt
  split <;> simp
theorem okP_opts (p1 p2 p3 p4 r : Int) : okP (opt 1 p1 ++ opt 2 p2 ++ opt 3 p3 ++ opt 4 p4 ++ opt 5 r) := by
  constructor
  · intro x hx
    simp only [List.mem_append] at hx
    rcases hx with (((hx | hx) | hx) | hx) | hx <;> (obtain ⟨h1, h2⟩ := opt_mem hx; exact ⟨h2, by omega, by omega⟩)
  · simp only [List.pairwise_append, List.mem_append]
    refine ⟨⟨⟨⟨opt_pw _ _, opt_pw _ _, ?_⟩, opt_pw _ _, ?_⟩, opt_pw _ _, ?_⟩, opt_pw _ _, ?_⟩
    · intro a ha b hb
      have := (opt_mem ha).1; have := (opt_mem hb).1; omega
    · intro a ha b hb
      have := (opt_mem hb).1
      rcases ha with ha | ha <;> (have := (opt_mem ha).1; omega)
    · intro a ha b hb
      have := (opt_mem hb).1
      rcases ha with (ha | ha) | ha <;> (have := (opt_mem ha).1; omega)
    · intro a ha b hb
      have := (opt_mem hb).1
      rcases ha with ((ha | ha) | ha) | ha <;> (have := (opt_mem ha).1; omega)
theorem okP_at {x : Sl Part} (h : okP x.list) {j : Nat} (hj : j < x.n) : 1 ≤ (x.at' j).a ∧ 1 ≤ (x.at' j).k ∧ (x.at' j).k ≤ 5 ∧ (0 < j → (x.at' (j - 1)).k < (x.at' j).k) := by
  obtain ⟨hn, ha⟩ := list_at (x := x) rfl
  have h1 := ha j hj
  have h2 := h.1 _ (List.mem_of_getElem? h1)
  refine ⟨h2.1, h2.2.1, h2.2.2, fun h0 => ?_⟩
  have h3 := ha (j - 1) (by omega)
  obtain ⟨k1, e1⟩ := List.getElem?_eq_some_iff.1 h1
  obtain ⟨k3, e3⟩ := List.getElem?_eq_some_iff.1 h3
  have := (List.pairwise_iff_getElem.1 h.2) (j - 1) j k3 k1 (by omega)
  rw [e1, e3] at this
  exact this
end Go.Proofs.Ytoocihhnlhehlaa
