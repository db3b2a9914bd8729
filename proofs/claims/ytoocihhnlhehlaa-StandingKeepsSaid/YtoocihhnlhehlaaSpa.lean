/- The values that the functions speak of; loops, filters, searches: plain. -/
import Derived.Test.YtoocihhnlhehlaaDenj
namespace Go.Proofs.Ytoocihhnlhehlaa
open Go
/-- A row: so many elements, each by its place. -/
structure Sl (α : Type) where
  n : Nat
  at' : Nat → α
structure Due where
  no : Int
  day : Int
  pr : Int
  it : Int
structure Part where
  k : Int
  a : Int
structure Terms where
  me : Int
  p : Int
  ppm : Int
  st : Int
  ev : Int
  co : Int
  ba : Int
  mo : Int
  pp : Int
  fp : Int
  cal : ByteArray
  cur : ByteArray
structure Change where
  day : Int
  am : Int
  old : Terms
structure Loan where
  id : Int
  ac : Int
  st : Int
  pp : Int
  pi : Int
  fe : Int
  pe : Int
  ch : Int
  pv : Int
  lo : Int
  re : Int
  t : Terms
  d : Sl Due
  c : Sl Change
structure Order where
  id : Int
  fr : Int
  to : Int
  am : Int
  day : Int
  ev : Int
  an : Int
  un : Int
  tr : Int
  tx : ByteArray
structure Cal where
  na : ByteArray
  we : Sl Int
  ho : Sl Int
structure Act where
  kd : Int
  id : Int
  day : Int
  ok : Bool
  o : Order
def Sl.list {α : Type} (x : Sl α) : List α := (List.range x.n).map x.at'
def Sl.of {α : Type} (d : α) (l : List α) : Sl α := ⟨l.length, fun j => l.getD j d⟩
theorem Sl.list_of {α : Type} (d : α) (l : List α) : (Sl.of d l).list = l := by
  apply List.ext_getElem?
  intro i
  by_cases h : i < l.length
  · simp [Sl.list, Sl.of, h]
  · simp [Sl.list, Sl.of, h]
/-- The sum up to a place, as the machine adds. -/
def sumTo (f : Nat → Int) : Nat → Int
  | 0 => 0
  | k + 1 => IntKind.i64.wrap (sumTo f k + f k)
/-- .. of those that meet a condition. -/
def sumIf (p : Nat → Bool) (f : Nat → Int) : Nat → Int
  | 0 => 0
  | k + 1 => if p k then IntKind.i64.wrap (sumIf p f k + f k) else sumIf p f k
/-- The first place that meets a condition, or -1. -/
def idx (p : Nat → Bool) : Nat → Nat → Int
  | 0, _ => -1
  | m + 1, k => if p k then (k : Int) else idx p m (k + 1)
theorem idx_spec (p : Nat → Bool) : ∀ (m k : Nat), (idx p m k = -1 ∧ ∀ j, k ≤ j → j < k + m → p j = false) ∨ ∃ i, k ≤ i ∧ i < k + m ∧ idx p m k = (i : Int) ∧ p i = true ∧ ∀ j, k ≤ j → j < i → p j = false
  | 0, k => .inl ⟨rfl, fun j h1 h2 => by omega⟩
  | m + 1, k => by
    by_cases h : p k = true
    · exact .inr ⟨k, Nat.le_refl _, by omega, by simp [idx, h], h, fun j h1 h2 => by omega⟩
    · have h : p k = false := by simpa using h
      rcases idx_spec p m (k + 1) with ⟨h1, h2⟩ | ⟨i, h1, h2, h3, h4, h5⟩
      · refine .inl ⟨by simp [idx, h, h1], fun j h3 h4 => ?_⟩
        rcases Nat.lt_or_ge k j with hj | hj
        · exact h2 j hj (by omega)
        · have : j = k := by omega
          subst this; exact h
      · refine .inr ⟨i, by omega, by omega, by simp [idx, h, h3], h4, fun j h6 h7 => ?_⟩
        rcases Nat.lt_or_ge k j with hj | hj
        · exact h5 j hj h7
        · have : j = k := by omega
          subst this; exact h
theorem idx_at (p : Nat → Bool) (n i : Nat) (h : i < n) (hp : p i = true) (hn : ∀ j, j < i → p j = false) : idx p n 0 = (i : Int) := by
  rcases idx_spec p n 0 with ⟨_, h2⟩ | ⟨i', h1, h2, h3, h4, h5⟩
  · have := h2 i (by omega) (by omega); rw [hp] at this; cases this
  · rcases Nat.lt_trichotomy i i' with h6 | h6 | h6
    · have := h5 i (by omega) h6; rw [hp] at this; cases this
    · rw [h3, h6]
    · have := hn i' h6; rw [h4] at this; cases this
theorem idx_no (p : Nat → Bool) (n : Nat) (hn : ∀ j, j < n → p j = false) : idx p n 0 = -1 := by
  rcases idx_spec p n 0 with ⟨h, _⟩ | ⟨i', h1, h2, h3, h4, h5⟩
  · exact h
  · have := hn i' (by omega); rw [h4] at this; cases this
/-- Some place meets a condition. -/
def some' (p : Nat → Bool) : Nat → Nat → Bool
  | 0, _ => false
  | m + 1, k => p k || some' p m (k + 1)
/-- What is kept of the first j. -/
def kept {α : Type} (p : α → Bool) (f : Nat → α) (j : Nat) : List α := ((List.range j).map f).filter p
theorem kept_succ {α : Type} (p : α → Bool) (f : Nat → α) (j : Nat) : kept p f (j + 1) = if p (f j) then kept p f j ++ [f j] else kept p f j := by
  unfold kept
  rw [List.range_succ, List.map_append, List.filter_append]
  by_cases h : p (f j) = true <;> simp [h]
theorem kept_len {α : Type} (p : α → Bool) (f : Nat → α) (j : Nat) : (kept p f j).length ≤ j := by
  have := List.length_filter_le p ((List.range j).map f)
  simpa [kept] using this
theorem kept_all {α : Type} (p : α → Bool) (f : Nat → α) : ∀ j, (∀ m, m < j → p (f m) = true) → kept p f j = (List.range j).map f
  | 0, _ => by simp [kept]
  | j + 1, h => by
    rw [kept_succ, if_pos (h j (by omega)), kept_all p f j (fun m hm => h m (by omega)), List.range_succ]
    simp
/-- A row that is thinned out in place: its first i are what is kept of the first j, from j on it is as it was. -/
structure Thin {α : Type} (p : α → Bool) (f c : Nat → α) (n i j : Nat) : Prop where
  len : i = (kept p f j).length
  lt : i < j
  le : j ≤ n
  head : ∀ m, m < i → (kept p f j)[m]? = some (c m)
  tail : ∀ m, j ≤ m → c m = f m
theorem Thin.start {α : Type} {p : α → Bool} {f : Nat → α} {n k : Nat} (hk : k < n) (hd : p (f k) = false) (ha : ∀ m, m < k → p (f m) = true) : Thin p f f n k (k + 1) := by
  have h := kept_all p f k ha
  have h' : kept p f (k + 1) = (List.range k).map f := by rw [kept_succ, hd]; simpa using h
  exact ⟨by rw [h']; simp, by omega, by omega, fun m hm => by rw [h']; simp [hm], fun m _ => rfl⟩
theorem Thin.keep {α : Type} {p : α → Bool} {f c : Nat → α} {n i j : Nat} (h : Thin p f c n i j) (hj : j < n) (hp : p (f j) = true) : Thin p f (fun m => if m = i then f j else c m) n (i + 1) (j + 1) := by
  have h' : kept p f (j + 1) = kept p f j ++ [f j] := by rw [kept_succ, hp]; rfl
  have h1 := h.lt
  refine ⟨by rw [h', h.len]; simp, by omega, hj, fun m hm => ?_, fun m hm => ?_⟩
  · rw [h']
    by_cases e : m = i
    · subst e
      have := h.len
      simp [← this]
    · simp only [e, if_false]
      have := h.head m (by omega)
      rw [List.getElem?_append_left (by rw [← h.len]; omega)]
      exact this
  · rw [if_neg (by omega)]
    exact h.tail m (by omega)
theorem Thin.drop {α : Type} {p : α → Bool} {f c : Nat → α} {n i j : Nat} (h : Thin p f c n i j) (hj : j < n) (hp : p (f j) = false) : Thin p f c n i (j + 1) := by
  have h' : kept p f (j + 1) = kept p f j := by rw [kept_succ, hp]; rfl
  have h1 := h.lt
  exact ⟨by rw [h', h.len], by omega, hj, fun m hm => by rw [h']; exact h.head m hm, fun m hm => h.tail m (by omega)⟩
theorem set_of (n i : Nat) (get : Nat → List Value) (xs : List Value) (hi : i < n) (hl : (get i).length = xs.length) : (Den.Rx.set (.of n get) i 0 xs).list = (Den.Rx.of n (fun m => if m = i then xs else get m)).list := by
  simp only [Den.Rx.list, Den.setRow1]
  apply List.ext_getElem?
  intro m
  simp only [List.getElem?_set, List.length_map, List.length_range, List.getElem?_map]
  by_cases hm : i = m
  · subst hm
    simp [hi, ← hl]
  · by_cases hmn : m < n
    · simp [hm, Ne.symm hm, hmn]
    · simp [hm, hmn]
def dayB (n : Int) : Bool := decide (0 ≤ n) && decide (n ≤ 73048)
def amB (n : Int) : Bool := decide (0 ≤ n) && decide (n ≤ 1000000000000)
def rateB (n : Int) : Bool := decide (0 ≤ n) && decide (n ≤ 1000000)
end Go.Proofs.Ytoocihhnlhehlaa
