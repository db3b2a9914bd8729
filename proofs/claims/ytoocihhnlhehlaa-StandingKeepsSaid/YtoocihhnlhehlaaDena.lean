/- An abstract reading of values and memory: slices as lists, own boxes and rows by numbers. (Part 1: values, representation, what is kept.) -/
import Derived.Below
import Derived.Deep.AppendLies
import Derived.Maps.AppendAt
import Derived.Laws.Cells
import Derived.Laws.CopyRow
import Derived.Laws.Rows
import Derived.Orders
import Derived.Deep.Onto
import Derived.Tactics
import Derived.KernelRfl
namespace Go.Proofs.Ytoocihhnlhehlaa.Den
open Go Go.RowKit

/-- A value of one cell, as far as it is known. -/
inductive C where
  | v (x : Value)
  | b (t : Bool)
  | sl (sz n : Nat) (get : Nat → List Value)
  | own (k : Nat)
  | ptr (i off : Nat)
  | rp (cells : List C) (off : Nat)
  | fn (f : Nat) (caps : List C)
  | rpt (k i sz off : Nat)
  | rsl (k lo sz : Nat)
  | any

/-- A row of the call's own, as far as it has been written down. -/
inductive Rx where
  | lit (l : List (List Value))
  | of (n : Nat) (get : Nat → List Value)
  | cat (a b : Rx)
  | set (a : Rx) (i off : Nat) (xs : List Value)
def setRow1 (l : List (List Value)) (i off : Nat) (xs : List Value) : List (List Value) := l.set i ((l.getD i []).take off ++ xs ++ (l.getD i []).drop (off + xs.length))
def Rx.list : Rx → List (List Value)
  | .lit l => l
  | .of n get => (List.range n).map get
  | .cat a b => a.list ++ b.list
  | .set a i off xs => setRow1 a.list i off xs
def Rx.len : Rx → Nat
  | .lit l => l.length
  | .of n _ => n
  | .cat a b => a.len + b.len
  | .set a _ _ _ => a.len
def Rx.get : Rx → Nat → List Value
  | .lit l => fun i => l.getD i []
  | .of _ get => get
  | .cat a b => fun i => if i < a.len then a.get i else b.get (i - a.len)
  | .set a i off xs => fun j => if j = i then (a.get i).take off ++ xs ++ (a.get i).drop (off + xs.length) else a.get j
theorem Rx.len_eq : ∀ x : Rx, x.len = x.list.length
  | .lit _ => rfl
  | .of n get => by simp [Rx.len, Rx.list]
  | .cat a b => by simp [Rx.len, Rx.list, a.len_eq, b.len_eq]
  | .set a i off xs => by simp [Rx.len, Rx.list, setRow1, a.len_eq]
theorem Rx.get_eq : ∀ (x : Rx) (i : Nat), i < x.len → x.get i = x.list.getD i []
  | .lit _, _, _ => rfl
  | .of n get, i, h => by
    have h' : i < n := h
    simp [Rx.get, Rx.list, h']
  | .cat a b, i, h => by
    simp only [Rx.get, Rx.list]
    have h1 := a.len_eq
    simp only [Rx.len] at h
    split
    · rename_i hi
      rw [a.get_eq i hi]
      simp only [List.getD, List.getElem?_append]
      rw [if_pos (by omega)]
    · rename_i hi
      rw [b.get_eq _ (by omega)]
      simp only [List.getD, List.getElem?_append]
      rw [if_neg (by omega), h1]
  | .set a i off xs, j, h => by
    have h1 := a.len_eq
    simp only [Rx.len] at h
    simp only [Rx.get, Rx.list, setRow1]
    by_cases hj : j = i
    · subst hj
      rw [if_pos rfl, a.get_eq j h]
      simp [List.getD, show j < a.list.length by omega]
    · rw [if_neg hj, a.get_eq j h]
      simp [List.getD, Ne.symm hj]

/-- A value. -/
inductive D where
  | c (x : C)
  | agg (xs : List C)
  | tup (xs : List D)
  | rowv (e sz : Nat) (xs : Rx)

/-- A block that the call has made: a variable; a row that may grow. -/
inductive Blk where
  | box (t : Nat) (cs : List C)
  | row (e sz : Nat) (xs : Rx)
  | fsl (sz n : Nat) (get : Nat → List Value)
  | fbx (cs : List C)

/-- Where the numbers lie. -/
structure Gh where
  dom : Nat → Prop
  β : Nat → Nat
  ρ : Nat → Value

def Gh.none : Gh := ⟨fun _ => False, fun _ => 0, fun _ => undef⟩

def Gh.le (g g' : Gh) : Prop := ∀ i, g.dom i → g'.dom i ∧ g'.β i = g.β i ∧ g'.ρ i = g.ρ i

theorem Gh.le_refl (g : Gh) : g.le g := fun _ h => ⟨h, rfl, rfl⟩
theorem Gh.le_trans {a b c : Gh} (h : a.le b) (k : b.le c) : a.le c := fun i hi =>
  let ⟨h1, h2, h3⟩ := h i hi
  let ⟨k1, k2, k3⟩ := k i h1
  ⟨k1, k2.trans h2, k3.trans h3⟩
theorem Gh.none_le (g : Gh) : Gh.none.le g := fun _ h => h.elim

mutual
/-- This value stands for that one. -/
def C.rep (w : World) (M : Nat → Prop) (g : Gh) : C → Value → Prop
  | .v x, u => u = x ∧ x.oneCell' = true
  | .b t, u => u = .bool t
  | .sl sz n get, u => ∃ A c, u = .slice A n c ∧ n ≤ c ∧ (0 < n → ∃ a : Addr, A = some a ∧ ¬ M a.block ∧ a.block < w.heap.size ∧
      ∀ j, j < n → (get j).length = sz ∧ ∀ o x, (get j)[o]? = some x → w.cell? (a.add (j * sz + o)) = some x ∧ x.oneCell' = true)
  | .own _, _ => False
  | .rpt _ _ _ _, _ => False
  | .rsl _ _ _, _ => False
  | .ptr i off, u => g.dom i ∧ u = .pointer (some ⟨g.β i, off, none⟩)
  | .rp cells off, u => ∃ a : Addr, u = .pointer (some (a.add off)) ∧ ¬ M a.block ∧ a.block < w.heap.size ∧ C.at_ w M g cells a 0
  | .fn f caps, u => ∃ us : List Value, u = .func (.func f) #[] us.toArray ∧ C.reps w M g caps us
  | .any, _ => True
def C.at_ (w : World) (M : Nat → Prop) (g : Gh) : List C → Addr → Nat → Prop
  | [], _, _ => True
  | c :: r, a, o => (∃ x, w.cell? (a.add o) = some x ∧ x.oneCell' = true ∧ C.rep w M g c x) ∧ C.at_ w M g r a (o + 1)
def C.reps (w : World) (M : Nat → Prop) (g : Gh) : List C → List Value → Prop
  | [], us => us = []
  | c :: r, us => ∃ x xs, us = x :: xs ∧ C.rep w M g c x ∧ C.reps w M g r xs
end

mutual
def D.rep0 (w : World) (M : Nat → Prop) (g : Gh) : D → Value → Prop
  | .c x, u => C.rep w M g x u
  | .agg xs, u => ∃ us : List Value, u = .agg us.toArray ∧ C.reps w M g xs us ∧ ∀ x ∈ us, x.oneCell' = true
  | .tup xs, u => ∃ us : List Value, u = .tuple us.toArray ∧ D.reps w M g xs us
  | .rowv _ _ _, _ => False
def D.reps (w : World) (M : Nat → Prop) (g : Gh) : List D → List Value → Prop
  | [], us => us = []
  | d :: r, us => ∃ x xs, us = x :: xs ∧ D.rep0 w M g d x ∧ D.reps w M g r xs
end
/-- .. a row of the call's own, too. -/
def D.rep (w : World) (M : Nat → Prop) (g : Gh) (d : D) (u : Value) : Prop :=
  match d with
  | .c (.own k) => g.dom k ∧ u = g.ρ k
  | .c (.rpt k i sz off) => g.dom k ∧ ∃ (a : Addr) (n c : Nat), g.ρ k = .slice (some a) n c ∧ i < n ∧ u = .pointer (some (a.add (i * sz + off)))
  | .c (.rsl k lo sz) => g.dom k ∧ ∃ (a : Addr) (n c : Nat), g.ρ k = .slice (some a) n c ∧ lo < n ∧ u = .slice (some (a.add (lo * sz))) (n - lo) (c - lo)
  | d => D.rep0 w M g d u
/-- The row that a value names. -/
def D.num : D → Option Nat
  | .c (.own k) => some k
  | .c (.rpt k _ _ _) => some k
  | .c (.rsl k _ _) => some k
  | _ => none
theorem D.of0 {w : World} {M : Nat → Prop} {g : Gh} {d : D} {u : Value} (h : D.rep0 w M g d u) : D.rep w M g d u := by
  cases d with
  | c x => cases x <;> first | exact h | (simp only [D.rep0, C.rep] at h)
  | _ => exact h

theorem Addr.block_add (a : Addr) (n : Nat) : (a.add n).block = a.block := by unfold Addr.add; split <;> rfl
theorem Addr.add_add (a : Addr) (i j : Nat) : (a.add i).add j = a.add (i + j) := by
  unfold Addr.add
  by_cases hi : i = 0 <;> by_cases hj : j = 0 <;> simp [hi, hj, Nat.add_assoc]

/-- What the new world keeps. -/
structure Keeps (w w' : World) (M M' : Nat → Prop) (g g' : Gh) : Prop where
  size : w.heap.size ≤ w'.heap.size
  block : ∀ b, b < w.heap.size → ¬ M b → w'.heap[b]? = w.heap[b]?
  muts : ∀ b, b < w.heap.size → M' b → M b
  gh : ∀ i, g.dom i → g'.dom i ∧ g'.β i = g.β i

section
variable {w w' : World} {M M' : Nat → Prop} {g g' : Gh}
theorem Keeps.cell (h : Keeps w w' M M' g g') {a : Addr} (hb : a.block < w.heap.size) (hM : ¬ M a.block) (n : Nat) : w'.cell? (a.add n) = w.cell? (a.add n) :=
  World.cell?_of_block (by rw [Addr.block_add]; exact h.block _ hb hM)

mutual
theorem C.rep_keep (h : Keeps w w' M M' g g') : ∀ (c : C) (u : Value), C.rep w M g c u → C.rep w' M' g' c u
  | .v _, _, hr => by simp only [C.rep] at hr ⊢; exact hr
  | .b _, _, hr => by simp only [C.rep] at hr ⊢; exact hr
  | .sl _ _ _, _, hr => by
    simp only [C.rep] at hr ⊢
    obtain ⟨A, c, hu, hc, hn⟩ := hr
    refine ⟨A, c, hu, hc, fun h0 => ?_⟩
    obtain ⟨a, hA, hM, hb, hcell⟩ := hn h0
    exact ⟨a, hA, fun hm => hM (h.muts _ hb hm), Nat.lt_of_lt_of_le hb h.size, fun j hj => ⟨(hcell j hj).1, fun o x hx => ⟨(h.cell hb hM _).trans ((hcell j hj).2 o x hx).1, ((hcell j hj).2 o x hx).2⟩⟩⟩
  | .own _, _, hr => by simp only [C.rep] at hr
  | .rpt _ _ _ _, _, hr => by simp only [C.rep] at hr
  | .rsl _ _ _, _, hr => by simp only [C.rep] at hr
  | .ptr i _, _, hr => by
    simp only [C.rep] at hr ⊢
    exact ⟨(h.gh i hr.1).1, by rw [(h.gh i hr.1).2]; exact hr.2⟩
  | .rp cells _, _, hr => by
    simp only [C.rep] at hr ⊢
    obtain ⟨a, hu, hM, hb, hc⟩ := hr
    exact ⟨a, hu, fun hm => hM (h.muts _ hb hm), Nat.lt_of_lt_of_le hb h.size, C.at_keep h cells a 0 hb hM hc⟩
  | .fn _ caps, _, hr => by
    simp only [C.rep] at hr ⊢
    obtain ⟨us, hu, hc⟩ := hr
    exact ⟨us, hu, C.reps_keep h caps us hc⟩
  | .any, _, _ => by simp only [C.rep]
theorem C.at_keep (h : Keeps w w' M M' g g') : ∀ (cs : List C) (a : Addr) (o : Nat), a.block < w.heap.size → ¬ M a.block → C.at_ w M g cs a o → C.at_ w' M' g' cs a o
  | [], _, _, _, _, _ => by simp only [C.at_]
  | c :: r, a, o, hb, hM, hr => by
    simp only [C.at_] at hr ⊢
    obtain ⟨⟨x, hx, h1, hc⟩, hr⟩ := hr
    exact ⟨⟨x, (h.cell hb hM o).trans hx, h1, C.rep_keep h c x hc⟩, C.at_keep h r a (o + 1) hb hM hr⟩
theorem C.reps_keep (h : Keeps w w' M M' g g') : ∀ (cs : List C) (us : List Value), C.reps w M g cs us → C.reps w' M' g' cs us
  | [], _, hr => by simp only [C.reps] at hr ⊢; exact hr
  | c :: r, _, hr => by
    simp only [C.reps] at hr ⊢
    obtain ⟨x, xs, hu, hc, hr⟩ := hr
    exact ⟨x, xs, hu, C.rep_keep h c x hc, C.reps_keep h r xs hr⟩
end
theorem D.of_C {c : C} {u : Value} (h : C.rep w M g c u) : D.rep w M g (.c c) u := D.of0 (by simpa only [D.rep0] using h)
mutual
theorem D.rep0_keep (h : Keeps w w' M M' g g') : ∀ (d : D) (u : Value), D.rep0 w M g d u → D.rep0 w' M' g' d u
  | .c x, u, hr => by simp only [D.rep0] at hr ⊢; exact C.rep_keep h x u hr
  | .agg xs, _, hr => by
    simp only [D.rep0] at hr ⊢
    obtain ⟨us, hu, hc, h1⟩ := hr
    exact ⟨us, hu, C.reps_keep h xs us hc, h1⟩
  | .tup xs, _, hr => by
    simp only [D.rep0] at hr ⊢
    obtain ⟨us, hu, hc⟩ := hr
    exact ⟨us, hu, D.reps_keep h xs us hc⟩
  | .rowv _ _ _, _, hr => by simp only [D.rep0] at hr
theorem D.reps_keep (h : Keeps w w' M M' g g') : ∀ (ds : List D) (us : List Value), D.reps w M g ds us → D.reps w' M' g' ds us
  | [], _, hr => by simp only [D.reps] at hr ⊢; exact hr
  | d :: r, _, hr => by
    simp only [D.reps] at hr ⊢
    obtain ⟨x, xs, hu, hc, hr⟩ := hr
    exact ⟨x, xs, hu, D.rep0_keep h d x hc, D.reps_keep h r xs hr⟩
end
theorem D.rep_keep (h : Keeps w w' M M' g g') (d : D) (u : Value) (hg : ∀ k, d.num = some k → g.dom k → g'.dom k ∧ g'.ρ k = g.ρ k) (hr : D.rep w M g d u) : D.rep w' M' g' d u := by
  cases d with
  | c x =>
    cases x with
    | own k => exact ⟨(hg k rfl hr.1).1, hr.2.trans (hg k rfl hr.1).2.symm⟩
    | rpt k i sz off =>
      obtain ⟨h1, q, n, c, h2, h3⟩ := hr
      exact ⟨(hg k rfl h1).1, q, n, c, (hg k rfl h1).2.trans h2, h3⟩
    | rsl k lo sz =>
      obtain ⟨h1, q, n, c, h2, h3⟩ := hr
      exact ⟨(hg k rfl h1).1, q, n, c, (hg k rfl h1).2.trans h2, h3⟩
    | _ => exact D.rep0_keep h _ u hr
  | _ => exact D.rep0_keep h _ u hr
end

theorem C.reps_length {w : World} {M : Nat → Prop} {g : Gh} : ∀ (cs : List C) (us : List Value), C.reps w M g cs us → us.length = cs.length
  | [], _, h => by simp only [C.reps] at h; simp [h]
  | c :: r, _, h => by
    simp only [C.reps] at h
    obtain ⟨x, xs, rfl, _, h⟩ := h
    simp [C.reps_length r xs h]
theorem C.reps_get {w : World} {M : Nat → Prop} {g : Gh} : ∀ (cs : List C) (us : List Value), C.reps w M g cs us → ∀ (i : Nat) (c : C), cs[i]? = some c → ∃ u, us[i]? = some u ∧ C.rep w M g c u
  | [], _, _, i, c, hi => by simp at hi
  | c :: r, _, h, i, c', hi => by
    simp only [C.reps] at h
    obtain ⟨x, xs, rfl, hc, h⟩ := h
    cases i with
    | zero => simp at hi; subst hi; exact ⟨x, by simp, hc⟩
    | succ i => simpa using C.reps_get r xs h i c' (by simpa using hi)
theorem C.reps_append {w : World} {M : Nat → Prop} {g : Gh} : ∀ (cs : List C) (us : List Value) (cs' : List C) (us' : List Value), C.reps w M g cs us → C.reps w M g cs' us' → C.reps w M g (cs ++ cs') (us ++ us')
  | [], _, cs', us', h, h' => by simp only [C.reps] at h; simpa [h] using h'
  | c :: r, _, cs', us', h, h' => by
    simp only [C.reps] at h
    obtain ⟨x, xs, rfl, hc, h⟩ := h
    simp only [List.cons_append, C.reps]
    exact ⟨x, xs ++ us', rfl, hc, C.reps_append r xs cs' us' h h'⟩
theorem C.reps_drop {w : World} {M : Nat → Prop} {g : Gh} : ∀ (n : Nat) (cs : List C) (us : List Value), C.reps w M g cs us → C.reps w M g (cs.drop n) (us.drop n)
  | 0, _, _, h => by simpa using h
  | n + 1, [], _, h => by simp only [C.reps] at h; simp [h, C.reps]
  | n + 1, c :: r, _, h => by
    simp only [C.reps] at h
    obtain ⟨x, xs, rfl, hc, h⟩ := h
    simpa using C.reps_drop n r xs h
theorem C.reps_take {w : World} {M : Nat → Prop} {g : Gh} : ∀ (n : Nat) (cs : List C) (us : List Value), C.reps w M g cs us → C.reps w M g (cs.take n) (us.take n)
  | 0, _, _, h => by simp [C.reps]
  | n + 1, [], _, h => by simp only [C.reps] at h; simp [h, C.reps]
  | n + 1, c :: r, _, h => by
    simp only [C.reps] at h
    obtain ⟨x, xs, rfl, hc, h⟩ := h
    simp only [List.take_succ_cons, C.reps]
    exact ⟨x, _, rfl, hc, C.reps_take n r xs h⟩
theorem C.reps_set {w : World} {M : Nat → Prop} {g : Gh} : ∀ (cs : List C) (us : List Value), C.reps w M g cs us → ∀ i c u, C.rep w M g c u → C.reps w M g (cs.set i c) (us.set i u)
  | [], _, h, i, c, u, hc => by simp only [C.reps] at h; simp [h, C.reps]
  | c :: r, _, h, i, c', u, hu => by
    simp only [C.reps] at h
    obtain ⟨x, xs, rfl, hc, h⟩ := h
    cases i with
    | zero => simp only [List.set_cons_zero, C.reps]; exact ⟨u, xs, rfl, hu, h⟩
    | succ i => simp only [List.set_cons_succ, C.reps]; exact ⟨x, _, rfl, hc, C.reps_set r xs h i c' u hu⟩

theorem D.reps_get {w : World} {M : Nat → Prop} {g : Gh} : ∀ (cs : List D) (us : List Value), D.reps w M g cs us → ∀ (i : Nat) (d : D), cs[i]? = some d → ∃ u, us[i]? = some u ∧ D.rep0 w M g d u
  | [], _, _, i, d', hi => by simp at hi
  | d :: r, _, h, i, d', hi => by
    simp only [D.reps] at h
    obtain ⟨x, xs, rfl, hc, h⟩ := h
    cases i with
    | zero => simp at hi; subst hi; exact ⟨x, by simp, hc⟩
    | succ i => simpa using D.reps_get r xs h i d' (by simpa using hi)
theorem D.reps_append {w : World} {M : Nat → Prop} {g : Gh} : ∀ (cs : List D) (us : List Value) (cs' : List D) (us' : List Value), D.reps w M g cs us → D.reps w M g cs' us' → D.reps w M g (cs ++ cs') (us ++ us')
  | [], _, cs', us', h, h' => by simp only [D.reps] at h; simpa [h] using h'
  | d :: r, _, cs', us', h, h' => by
    simp only [D.reps] at h
    obtain ⟨x, xs, rfl, hc, h⟩ := h
    simp only [List.cons_append, D.reps]
    exact ⟨x, xs ++ us', rfl, hc, D.reps_append r xs cs' us' h h'⟩
theorem C.reps_ofC {w : World} {M : Nat → Prop} {g : Gh} : ∀ (cs : List C) (us : List Value), C.reps w M g cs us → D.reps w M g (cs.map D.c) us
  | [], _, h => by simp only [C.reps] at h; simp [h, D.reps]
  | c :: r, _, h => by
    simp only [C.reps] at h
    obtain ⟨x, xs, rfl, hc, h⟩ := h
    simp only [List.map_cons, D.reps]
    exact ⟨x, xs, rfl, by simpa only [D.rep0] using hc, C.reps_ofC r xs h⟩

/-- In a variable of the call's own, a row of the call's own may lie, too. -/
def C.repB (w : World) (M : Nat → Prop) (g : Gh) (c : C) (u : Value) : Prop :=
  match c with
  | .own k => g.dom k ∧ u = g.ρ k
  | c => C.rep w M g c u
def C.repsB (w : World) (M : Nat → Prop) (g : Gh) : List C → List Value → Prop
  | [], us => us = []
  | c :: r, us => ∃ x xs, us = x :: xs ∧ C.repB w M g c x ∧ C.repsB w M g r xs
theorem C.repB_of {w : World} {M : Nat → Prop} {g : Gh} {c : C} {u : Value} (h : C.rep w M g c u) : C.repB w M g c u := by
  cases c <;> first | exact h | (simp only [C.rep] at h)
theorem C.repsB_of {w : World} {M : Nat → Prop} {g : Gh} : ∀ (cs : List C) (us : List Value), C.reps w M g cs us → C.repsB w M g cs us
  | [], _, h => by simp only [C.reps] at h; simp [h, C.repsB]
  | c :: r, _, h => by
    simp only [C.reps] at h
    obtain ⟨x, xs, rfl, hc, h⟩ := h
    simp only [C.repsB]
    exact ⟨x, xs, rfl, C.repB_of hc, C.repsB_of r xs h⟩
theorem C.repB_keep {w w' : World} {M M' : Nat → Prop} {g g' : Gh} (h : Keeps w w' M M' g g') (c : C) (u : Value) (hg : ∀ k, c = .own k → g.dom k → g'.dom k ∧ g'.ρ k = g.ρ k) (hr : C.repB w M g c u) : C.repB w' M' g' c u := by
  cases c with
  | own k => exact ⟨(hg k rfl hr.1).1, hr.2.trans (hg k rfl hr.1).2.symm⟩
  | _ => exact C.rep_keep h _ u hr
theorem C.repsB_keep {w w' : World} {M M' : Nat → Prop} {g g' : Gh} (h : Keeps w w' M M' g g') : ∀ (cs : List C) (us : List Value), (∀ k, .own k ∈ cs → g.dom k → g'.dom k ∧ g'.ρ k = g.ρ k) → C.repsB w M g cs us → C.repsB w' M' g' cs us
  | [], _, _, hr => by simp only [C.repsB] at hr ⊢; exact hr
  | c :: r, _, hg, hr => by
    simp only [C.repsB] at hr ⊢
    obtain ⟨x, xs, hu, hc, hr⟩ := hr
    exact ⟨x, xs, hu, C.repB_keep h c x (fun k hk => hg k (by simp [hk])) hc, C.repsB_keep h r xs (fun k hk => hg k (by simp [hk])) hr⟩
theorem C.repsB_length {w : World} {M : Nat → Prop} {g : Gh} : ∀ (cs : List C) (us : List Value), C.repsB w M g cs us → us.length = cs.length
  | [], _, h => by simp only [C.repsB] at h; simp [h]
  | c :: r, _, h => by
    simp only [C.repsB] at h
    obtain ⟨x, xs, rfl, _, h⟩ := h
    simp [C.repsB_length r xs h]
theorem C.repsB_get {w : World} {M : Nat → Prop} {g : Gh} : ∀ (cs : List C) (us : List Value), C.repsB w M g cs us → ∀ (i : Nat) (c : C), cs[i]? = some c → ∃ u, us[i]? = some u ∧ C.repB w M g c u
  | [], _, _, i, c, hi => by simp at hi
  | c :: r, _, h, i, c', hi => by
    simp only [C.repsB] at h
    obtain ⟨x, xs, rfl, hc, h⟩ := h
    cases i with
    | zero => simp at hi; subst hi; exact ⟨x, by simp, hc⟩
    | succ i => simpa using C.repsB_get r xs h i c' (by simpa using hi)
theorem C.repsB_drop {w : World} {M : Nat → Prop} {g : Gh} : ∀ (n : Nat) (cs : List C) (us : List Value), C.repsB w M g cs us → C.repsB w M g (cs.drop n) (us.drop n)
  | 0, _, _, h => by simpa using h
  | n + 1, [], _, h => by simp only [C.repsB] at h; simp [h, C.repsB]
  | n + 1, c :: r, _, h => by
    simp only [C.repsB] at h
    obtain ⟨x, xs, rfl, hc, h⟩ := h
    simpa using C.repsB_drop n r xs h
theorem C.repsB_take {w : World} {M : Nat → Prop} {g : Gh} : ∀ (n : Nat) (cs : List C) (us : List Value), C.repsB w M g cs us → C.repsB w M g (cs.take n) (us.take n)
  | 0, _, _, h => by simp [C.repsB]
  | n + 1, [], _, h => by simp only [C.repsB] at h; simp [h, C.repsB]
  | n + 1, c :: r, _, h => by
    simp only [C.repsB] at h
    obtain ⟨x, xs, rfl, hc, h⟩ := h
    simp only [List.take_succ_cons, C.repsB]
    exact ⟨x, _, rfl, hc, C.repsB_take n r xs h⟩
theorem C.repsB_append {w : World} {M : Nat → Prop} {g : Gh} : ∀ (cs : List C) (us : List Value) (cs' : List C) (us' : List Value), C.repsB w M g cs us → C.repsB w M g cs' us' → C.repsB w M g (cs ++ cs') (us ++ us')
  | [], _, cs', us', h, h' => by simp only [C.repsB] at h; simpa [h] using h'
  | c :: r, _, cs', us', h, h' => by
    simp only [C.repsB] at h
    obtain ⟨x, xs, rfl, hc, h⟩ := h
    simp only [List.cons_append, C.repsB]
    exact ⟨x, xs ++ us', rfl, hc, C.repsB_append r xs cs' us' h h'⟩
/-- Without such a row in it. -/
theorem C.reps_ofB {w : World} {M : Nat → Prop} {g : Gh} : ∀ (cs : List C) (us : List Value), (∀ k, .own k ∉ cs) → C.repsB w M g cs us → C.reps w M g cs us
  | [], _, _, h => by simp only [C.repsB] at h; simp [h, C.reps]
  | c :: r, _, hn, h => by
    simp only [C.repsB] at h
    obtain ⟨x, xs, rfl, hc, h⟩ := h
    simp only [C.reps]
    refine ⟨x, xs, rfl, ?_, C.reps_ofB r xs (fun k hk => hn k (by simp [hk])) h⟩
    cases c with
    | own k => exact absurd (by simp) (hn k)
    | _ => exact hc

/-- Which block a number stands for. -/
def blkOf (g : Gh) (i : Nat) : Option Blk → Option Nat
  | some (.box _ _) => some (g.β i)
  | some (.row _ _ _) => (g.ρ i).ownBlock
  | _ => none

/-- What may still be written. -/
def Mut (X : Nat → Prop) (g : Gh) (lk : Nat → Option Blk) : Nat → Prop := fun b => X b ∨ ∃ i, blkOf g i (lk i) = some b

def rowOk (sz : Nat) (xs : List (List Value)) : Prop := ∀ x ∈ xs, x.length = sz ∧ ∀ y ∈ x, y.oneCell' = true

/-- The call's memory: all as it was before w0, and what was made since. -/
structure Inv (w0 : World) (X : Nat → Prop) (g : Gh) (lk : Nat → Option Blk) (w : World) : Prop where
  below : Below w0.heap.size w0 w
  hX : ∀ b, X b → b < w0.heap.size
  box : ∀ i t cs, lk i = some (.box t cs) → g.dom i ∧ w0.heap.size ≤ g.β i ∧
    ∃ us : List Value, w.heap[g.β i]? = some (.cells us.toArray t (0, 0)) ∧ C.repsB w (Mut X g lk) g cs us ∧ ∀ x ∈ us, x.oneCell' = true
  row : ∀ i e sz xs, lk i = some (.row e sz xs) → g.dom i ∧ w.ownsRow w0.heap.size e sz (g.ρ i) xs.list.length xs.list.flatten ∧ rowOk sz xs.list
  fsl : ∀ i sz n get, lk i = some (.fsl sz n get) → g.dom i ∧ C.rep w (Mut X g lk) g (.sl sz n get) (g.ρ i)
  fbx : ∀ i cs, lk i = some (.fbx cs) → g.dom i ∧ ¬ Mut X g lk (g.β i) ∧ g.β i < w.heap.size ∧ C.at_ w (Mut X g lk) g cs ⟨g.β i, 0, none⟩ 0
  inj : ∀ i j b, i ≠ j → blkOf g i (lk i) = some b → blkOf g j (lk j) = some b → False

theorem heap_lt {w : World} {b : Nat} {o : Obj} (h : w.heap[b]? = some o) : b < w.heap.size := by
  rcases Nat.lt_or_ge b w.heap.size with hlt | hge
  · exact hlt
  · rw [Array.getElem?_eq_none hge] at h; cases h

section
variable {w0 w w' : World} {X : Nat → Prop} {g g' : Gh} {lk lk' : Nat → Option Blk}

theorem Inv.blk_lt (h : Inv w0 X g lk w) {i b : Nat} (hb : blkOf g i (lk i) = some b) : w0.heap.size ≤ b ∧ b < w.heap.size := by
  cases hl : lk i with
  | none => rw [hl] at hb; cases hb
  | some k =>
    cases k with
    | box t cs =>
      rw [hl] at hb
      obtain ⟨_, h1, us, h2, _⟩ := h.box i t cs hl
      have : g.β i = b := by simpa [blkOf] using hb
      subst this
      exact ⟨h1, heap_lt h2⟩
    | row e sz xs =>
      rw [hl] at hb
      obtain ⟨_, h1, _⟩ := h.row i e sz xs hl
      exact h1.lt b hb
    | fsl sz n get => rw [hl] at hb; cases hb
    | fbx cs => rw [hl] at hb; cases hb

theorem Inv.mut_lt (h : Inv w0 X g lk w) {b : Nat} (hb : Mut X g lk b) : b < w.heap.size := by
  rcases hb with hb | ⟨i, hi⟩
  · exact Nat.lt_of_lt_of_le (h.hX b hb) h.below.size
  · exact (h.blk_lt hi).2

theorem ownsRow_keep {base e sz n : Nat} {v : Value} {xs : List Value} (h : w.ownsRow base e sz v n xs) (hk : ∀ b, v.ownBlock = some b → w'.heap[b]? = w.heap[b]?) : w'.ownsRow base e sz v n xs := by
  obtain ⟨h1, h2⟩ := h
  refine ⟨h1, ?_⟩
  rcases h2 with h2 | ⟨g, cap, cur, hv, hg, hh, r⟩
  · exact Or.inl h2
  · exact Or.inr ⟨g, cap, cur, hv, hg, by rw [hk g (by rw [hv]; rfl)]; exact hh, r⟩

theorem sl_congr {M : Nat → Prop} {sz n n' : Nat} {get get' : Nat → List Value} {u : Value} (hn : n = n') (h : ∀ j, j < n → get j = get' j) (hr : C.rep w M g (.sl sz n get) u) : C.rep w M g (.sl sz n' get') u := by
  subst hn
  simp only [C.rep] at hr ⊢
  obtain ⟨A, c, hu, hc, hk⟩ := hr
  refine ⟨A, c, hu, hc, fun h0 => ?_⟩
  obtain ⟨a, h1, h2, h3, h4⟩ := hk h0
  exact ⟨a, h1, h2, h3, fun j hj => by rw [← h j hj]; exact h4 j hj⟩
/-- Nothing that was there has turned; the numbers are the same. -/
theorem Inv.grow (h : Inv w0 X g lk w) (hw : Below w.heap.size w w') : Inv w0 X g lk w' where
  below := h.below.trans (hw.mono h.below.size)
  hX := h.hX
  box i t cs hi := by
    obtain ⟨h0, h1, us, h2, h3, h4⟩ := h.box i t cs hi
    refine ⟨h0, h1, us, (hw.block _ (heap_lt h2)).trans h2, C.repsB_keep ⟨hw.size, fun b hb _ => hw.block b hb, fun _ _ hm => hm, fun _ h => ⟨h, rfl⟩⟩ _ _ (fun _ _ h => ⟨h, rfl⟩) h3, h4⟩
  row i e sz xs hi := by
    obtain ⟨h0, h1, h2⟩ := h.row i e sz xs hi
    exact ⟨h0, ownsRow_keep h1 fun b hb => hw.block b (h1.lt b hb).2, h2⟩
  fsl i sz n get hi := ⟨(h.fsl i sz n get hi).1, C.rep_keep ⟨hw.size, fun b hb _ => hw.block b hb, fun _ _ hm => hm, fun _ h => ⟨h, rfl⟩⟩ _ _ (h.fsl i sz n get hi).2⟩
  fbx i cs hi := by
    obtain ⟨h0, h1, h2, h3⟩ := h.fbx i cs hi
    exact ⟨h0, h1, Nat.lt_of_lt_of_le h2 hw.size, C.at_keep ⟨hw.size, fun b hb _ => hw.block b hb, fun _ _ hm => hm, fun _ h => ⟨h, rfl⟩⟩ _ _ _ h2 h1 h3⟩
  inj := h.inj

theorem keeps_grow (hw : Below w.heap.size w w') : Keeps w w' (Mut X g lk) (Mut X g lk) g g :=
  ⟨hw.size, fun b hb _ => hw.block b hb, fun _ _ hm => hm, fun _ h => ⟨h, rfl⟩⟩

/-- Lookups alone matter. -/
theorem Inv.congr (h : Inv w0 X g lk w) (he : ∀ i, lk' i = lk i) : Inv w0 X g lk' w := by
  have : lk' = lk := funext he
  rw [this]; exact h

def Gh.put (g : Gh) (i : Nat) (b : Nat) (v : Value) : Gh := ⟨fun j => j = i ∨ g.dom j, fun j => if j = i then b else g.β j, fun j => if j = i then v else g.ρ j⟩

theorem Gh.le_put (g : Gh) (i b : Nat) (v : Value) (h : ¬ g.dom i) : g.le (g.put i b v) := fun j hj => by
  have hne : j ≠ i := fun e => h (e ▸ hj)
  simp [Gh.put, hne, hj]

def updL (lk : Nat → Option Blk) (i : Nat) (b : Option Blk) : Nat → Option Blk := fun j => if j = i then b else lk j

theorem blkOf_put_ne (g : Gh) (i b : Nat) (v : Value) {j : Nat} (hj : j ≠ i) (x : Option Blk) : blkOf (g.put i b v) j x = blkOf g j x := by
  cases x with
  | none => rfl
  | some x => cases x <;> simp [blkOf, Gh.put, hj]

theorem Inv.lk_none (h : Inv w0 X g lk w) {i : Nat} (hi : ¬ g.dom i) : lk i = none := by
  cases hl : lk i with
  | none => rfl
  | some k =>
    cases k with
    | box t cs => exact absurd (h.box i t cs hl).1 hi
    | row e sz xs => exact absurd (h.row i e sz xs hl).1 hi
    | fsl sz n get => exact absurd (h.fsl i sz n get hl).1 hi
    | fbx cs => exact absurd (h.fbx i cs hl).1 hi

/-- What the new number may be written to: nothing that was there. -/
theorem mut_put {i : Nat} (_hi : ¬ g.dom i) {b0 : Nat} {v : Value} {k : Blk} (hk : ∀ b, blkOf (g.put i b0 v) i (some k) = some b → w.heap.size ≤ b) :
    ∀ b, b < w.heap.size → Mut X (g.put i b0 v) (updL lk i (some k)) b → Mut X g lk b := by
  intro b hb hm
  rcases hm with hm | ⟨j, hj⟩
  · exact .inl hm
  · by_cases hji : j = i
    · subst hji
      simp only [updL, if_true] at hj
      have := hk b hj
      omega
    · rw [blkOf_put_ne _ _ _ _ hji] at hj
      simp only [updL, hji, if_false] at hj
      exact .inr ⟨j, hj⟩

/-- A new number: what it stands for is all new. -/
theorem Inv.put (h : Inv w0 X g lk w) (hw : Below w.heap.size w w') {i : Nat} (hi : ¬ g.dom i) {b0 : Nat} {v : Value} {k : Blk}
    (hk : ∀ b, blkOf (g.put i b0 v) i (some k) = some b → w.heap.size ≤ b)
    (hnew : match k with
      | .box t cs => w.heap.size ≤ b0 ∧ ∃ us : List Value, w'.heap[b0]? = some (.cells us.toArray t (0, 0)) ∧ C.repsB w (Mut X g lk) g cs us ∧ ∀ x ∈ us, x.oneCell' = true
      | .row e sz xs => w'.ownsRow w.heap.size e sz v xs.list.length xs.list.flatten ∧ rowOk sz xs.list
      | _ => False) :
    Inv w0 X (g.put i b0 v) (updL lk i (some k)) w' := by
  have hkeep : Keeps w w' (Mut X g lk) (Mut X (g.put i b0 v) (updL lk i (some k))) g (g.put i b0 v) :=
    ⟨hw.size, fun b hb _ => hw.block b hb, mut_put hi hk, fun j hj => ⟨(Gh.le_put g i b0 v hi j hj).1, (Gh.le_put g i b0 v hi j hj).2.1⟩⟩
  have h' := h.grow hw
  refine ⟨h'.below, h.hX, ?_, ?_, ?_, ?_, ?_⟩
  · intro j t cs hj
    by_cases hji : j = i
    · subst hji
      simp only [updL, if_true, Option.some.injEq] at hj
      subst hj
      obtain ⟨h1, us, h2, h3, h4⟩ := hnew
      refine ⟨.inl rfl, ?_, us, ?_, C.repsB_keep hkeep _ _ (fun k _ hk => ⟨(Gh.le_put g _ b0 v hi k hk).1, (Gh.le_put g _ b0 v hi k hk).2.2⟩) h3, h4⟩
      · simp only [Gh.put, if_true]; exact Nat.le_trans h.below.size h1
      · simpa [Gh.put] using h2
    · simp only [updL, hji, if_false] at hj
      obtain ⟨h0, h1, us, h2, h3, h4⟩ := h.box j t cs hj
      refine ⟨.inr h0, by simpa [Gh.put, hji] using h1, us, ?_, C.repsB_keep hkeep _ _ (fun k _ hk => ⟨(Gh.le_put g _ b0 v hi k hk).1, (Gh.le_put g _ b0 v hi k hk).2.2⟩) h3, h4⟩
      simp only [Gh.put, hji, if_false]
      exact (hw.block _ (heap_lt h2)).trans h2
  · intro j e sz xs hj
    by_cases hji : j = i
    · subst hji
      simp only [updL, if_true, Option.some.injEq] at hj
      subst hj
      obtain ⟨h1, h2⟩ := hnew
      exact ⟨.inl rfl, by simpa [Gh.put] using World.ownsRow.mono h1 h.below.size, h2⟩
    · simp only [updL, hji, if_false] at hj
      obtain ⟨h0, h1, h2⟩ := h'.row j e sz xs hj
      exact ⟨.inr h0, by simpa [Gh.put, hji] using h1, h2⟩
  · intro j sz n get hj
    by_cases hji : j = i
    · subst hji
      simp only [updL, if_true, Option.some.injEq] at hj
      subst hj
      exact hnew.elim
    · simp only [updL, hji, if_false] at hj
      obtain ⟨h0, h1⟩ := h.fsl j sz n get hj
      exact ⟨.inr h0, by simpa [Gh.put, hji] using C.rep_keep hkeep _ _ h1⟩
  · intro j cs hj
    by_cases hji : j = i
    · subst hji
      simp only [updL, if_true, Option.some.injEq] at hj
      subst hj
      exact hnew.elim
    · simp only [updL, hji, if_false] at hj
      obtain ⟨h0, h1, h2, h3⟩ := h.fbx j cs hj
      refine ⟨.inr h0, ?_, ?_, ?_⟩
      · simp only [Gh.put, hji, if_false]; exact fun hm => h1 (hkeep.muts _ h2 hm)
      · simp only [Gh.put, hji, if_false]; exact Nat.lt_of_lt_of_le h2 hw.size
      · have := C.at_keep hkeep _ _ _ h2 h1 h3
        simpa [Gh.put, hji] using this
  · intro j1 j2 b hne h1 h2
    by_cases hj1 : j1 = i
    · subst hj1
      have hj2 : j2 ≠ j1 := Ne.symm hne
      simp only [updL, if_true] at h1
      rw [blkOf_put_ne _ _ _ _ hj2] at h2
      simp only [updL, hj2, if_false] at h2
      have := hk b h1
      have := (h.blk_lt h2).2
      omega
    · rw [blkOf_put_ne _ _ _ _ hj1] at h1
      simp only [updL, hj1, if_false] at h1
      by_cases hj2 : j2 = i
      · subst hj2
        simp only [updL, if_true] at h2
        have := hk b h2
        have := (h.blk_lt h1).2
        omega
      · rw [blkOf_put_ne _ _ _ _ hj2] at h2
        simp only [updL, hj2, if_false] at h2
        exact h.inj j1 j2 b hne h1 h2

theorem keeps_put (_h : Inv w0 X g lk w) (hw : Below w.heap.size w w') {i : Nat} (hi : ¬ g.dom i) {b0 : Nat} {v : Value} {k : Blk}
    (hk : ∀ b, blkOf (g.put i b0 v) i (some k) = some b → w.heap.size ≤ b) :
    Keeps w w' (Mut X g lk) (Mut X (g.put i b0 v) (updL lk i (some k))) g (g.put i b0 v) :=
  ⟨hw.size, fun b hb _ => hw.block b hb, mut_put hi hk, fun j hj => ⟨(Gh.le_put g i b0 v hi j hj).1, (Gh.le_put g i b0 v hi j hj).2.1⟩⟩
end

end Go.Proofs.Ytoocihhnlhehlaa.Den
