/- Standing orders: an order that is carried out, plain. -/
import Derived.Test.YtoocihhnlhehlaaPlm
namespace Go.Proofs.Ytoocihhnlhehlaa
open Go Go.Proofs.Ytoocihhnlhehlaa.Den
set_option linter.unusedVariables false
/-- The number of a day's month. -/
def mon (x : Int) : Int := 12 * (civ x).1 + (civ x).2.1
/-- The first day of a month, by its number. -/
def mst (u : Int) : Int := yb ((u - 1) / 12) + mb ((u - 1) / 12) ((u - 1) % 12 + 1)
theorem mst_of {y m : Int} (h : 1 ≤ m ∧ m ≤ 12) : mst (12 * y + m) = yb y + mb y m := by
  unfold mst
  rw [show (12 * y + m - 1) / 12 = y by omega, show (12 * y + m - 1) % 12 + 1 = m by omega]
theorem mst_succ {u : Int} (h : 24001 ≤ u ∧ u ≤ 26400) : mst u + 28 ≤ mst (u + 1) := by
  have e : u = 12 * ((u - 1) / 12) + ((u - 1) % 12 + 1) := by omega
  generalize hy : (u - 1) / 12 = y at e
  generalize hm : (u - 1) % 12 + 1 = m at e
  have h1 : 1 ≤ m ∧ m ≤ 12 := by omega
  have h2 : 2000 ≤ y ∧ y ≤ 2199 := by omega
  have h3 := mb_succ y h1
  have h4 := mlen_pos y h1
  subst e
  rw [mst_of h1]
  by_cases h5 : m = 12
  · subst h5
    have h6 := mb_13 y
    have h7 := yb_succ h2.1 h2.2
    rw [show 12 * y + 12 + 1 = 12 * (y + 1) + 1 by omega, mst_of (by omega), mb_1]
    rw [show (12 : Int) + 1 = 13 from rfl] at h3
    omega
  · rw [show 12 * y + m + 1 = 12 * y + (m + 1) by omega, mst_of (by omega)]
    omega
theorem mst_add {u : Int} (h : 24001 ≤ u) : ∀ k : Nat, u + k ≤ 26401 → mst u + 28 * k ≤ mst (u + k)
  | 0, _ => by simp
  | k + 1, hk => by
    have h1 := mst_add h k (by omega)
    have h2 := mst_succ (u := u + k) (by omega)
    rw [show u + ((k + 1 : Nat) : Int) = u + k + 1 by omega]
    omega
theorem mon_box {x : Int} (h : dayB x = true) : mst (mon x) ≤ x ∧ x < mst (mon x + 1) ∧ 24001 ≤ mon x ∧ mon x ≤ 26400 := by
  have hc := civ_is h
  have h1 := hc.hm
  have h2 := hc.hy
  have h3 := mb_succ (civ x).1 h1
  have h4 := hc.hd
  have h5 := hc.he
  have h6 : mon x = 12 * (civ x).1 + (civ x).2.1 := rfl
  refine ⟨by rw [h6, mst_of h1]; omega, ?_, by omega, by omega⟩
  by_cases h7 : (civ x).2.1 = 12
  · have h8 := mb_13 (civ x).1
    have h9 := yb_succ h2.1 h2.2
    rw [h6, h7, show 12 * (civ x).1 + 12 + 1 = 12 * ((civ x).1 + 1) + 1 by omega, mst_of (by omega), mb_1]
    rw [h7] at h3 h5 h4
    rw [show (12 : Int) + 1 = 13 from rfl] at h3
    omega
  · rw [h6, show 12 * (civ x).1 + (civ x).2.1 + 1 = 12 * (civ x).1 + ((civ x).2.1 + 1) by omega, mst_of (by omega)]
    omega
/-- So many days lie between days of months that far apart. -/
theorem mon_far {x x' : Int} (h : dayB x = true) (h' : dayB x' = true) (hm : mon x < mon x') : 28 * (mon x' - mon x - 1) + 1 ≤ x' - x := by
  obtain ⟨a1, a2, a3, a4⟩ := mon_box h
  obtain ⟨b1, b2, b3, b4⟩ := mon_box h'
  have := mst_add (u := mon x + 1) (by omega) (mon x' - mon x - 1).toNat (by omega)
  rw [show mon x + 1 + ((mon x' - mon x - 1).toNat : Int) = mon x' by omega] at this
  omega
/-- An order that has been carried out so many times. -/
structure Adv (o : Order) (l : Sl Order) (n : Int) : Prop where
  n0 : 0 ≤ n
  one : l.n ≤ 1
  at' : l.n = 1 → ∃ d t, l.at' 0 = { o with day := d, tr := t } ∧ checkO { o with day := d, tr := t } = 0 ∧ mon d = mon o.day + n * o.ev ∧ (n = 0 ∨ o.ev ≠ 0) ∧ n ≤ 41
  gone : l.n = 0 → n ≤ 42
/-- One attempt that succeeds. -/
structure Step (o : Order) (d : Int) (y : Sl Order × Int) : Prop where
  e : y.2 = 0
  one : y.1.n ≤ 1
  civ : y.1.n = 1 → 12 * (Go.Proofs.Ytoocihhnlhehlaa.civ (y.1.at' 0).day).1 + (Go.Proofs.Ytoocihhnlhehlaa.civ (y.1.at' 0).day).2.1 = 12 * (Go.Proofs.Ytoocihhnlhehlaa.civ d).1 + (Go.Proofs.Ytoocihhnlhehlaa.civ d).2.1 + o.ev
  ev : y.1.n = 1 → o.ev ≠ 0
  un : y.1.n = 1 → (y.1.at' 0).day ≤ o.un
  tr : y.1.n = 1 → (y.1.at' 0).tr = 0
theorem advances {we ho : Sl Int} {o : Order} {l : Sl Order} {n : Int} (hc : checkO o = 0) (hg : 0 < o.ev → (o.un - o.day) / 28 ≤ 40 * o.ev) (h : Adv o l n) (hn : l.n = 1) :
    Step o (l.at' 0).day (doneS we ho l o.id (l.at' 0).day true) ∧ Adv o (doneS we ho l o.id (l.at' 0).day true).1 (n + 1) := by
  obtain ⟨d, t, h0, hck, hm, hne, hle⟩ := h.at' hn
  have hk := ordOk_of hc
  have hk2 := ordOk_of hck
  have hn0 := h.n0
  have hix : ixO l o.id = 0 := by
    unfold ixO
    rw [hn]
    have : ((l.at' 0).id == o.id) = true := by rw [h0]; exact beq_self_eq_true _
    simp only [idx, this, if_true]; rfl
  have hd : (l.at' 0).day = d := by rw [h0]
  rw [hd]
  have hdone : doneS we ho l o.id d true = if (nextO we ho { o with day := d, tr := t }).2 != 0 then (delO l 0, 0) else (setO l 0 { o with tr := 0, day := (nextO we ho { o with day := d, tr := t }).1 }, 0) := by
    unfold doneS
    simp only [hix]
    rw [if_neg (by omega), show (0 : Int).toNat = 0 from rfl, h0, if_neg (by simp), if_neg (by simp)]
  rw [hdone]
  by_cases h3 : (nextO we ho { o with day := d, tr := t }).2 = 0
  · rw [if_neg (by simp [h3])]
    obtain ⟨_, hl⟩ := nextO_later h3
    generalize (nextO we ho { o with day := d, tr := t }).1 = x at hl ⊢
    have e0 : (setO l 0 { o with tr := 0, day := x }).at' 0 = { o with tr := 0, day := x } := by simp [setO]
    have hev : o.ev ≠ 0 := hl.ev
    have hun : x ≤ o.un := hl.un
    have hx : dayB x = true := hl.day
    have hciv : 12 * (civ x).1 + (civ x).2.1 = 12 * (civ d).1 + (civ d).2.1 + o.ev := hl.civ
    have hmx : mon x = mon o.day + (n + 1) * o.ev := by
      have : mon x = mon d + o.ev := hciv
      rw [this, hm, Int.add_mul]; omega
    have hpos : 0 < o.ev := by rcases hk.ev with h | h | h | h | h <;> omega
    have hfar := mon_far hk.day hx (by
      rw [hmx]
      have : 0 < (n + 1) * o.ev := Int.mul_pos (by omega) hpos
      omega)
    have hlim := hg hpos
    have hn41 : n + 1 ≤ 41 := by
      rw [hmx] at hfar
      rcases hk.ev with h | h | h | h | h
      · omega
      all_goals rw [h] at hfar hlim; omega
    refine ⟨⟨rfl, by show l.n ≤ 1; omega, fun _ => ?_, fun _ => hev, fun _ => ?_, fun _ => ?_⟩, ⟨by omega, by show l.n ≤ 1; omega, fun _ => ⟨x, 0, ?_, ?_, hmx, .inr hev, hn41⟩, fun h => ?_⟩⟩
    · simp only [e0]; exact hciv
    · simp only [e0]; exact hun
    · simp only [e0]
    · simp only [e0]
    · exact checkO_turn hc hx hun ⟨by omega, by omega⟩
    · have h : l.n = 0 := h
      omega
  · rw [if_pos (by simp [h3])]
    have hz : (delO l 0).n = 0 := by show l.n - 1 = 0; omega
    refine ⟨⟨rfl, by show (delO l 0).n ≤ 1; omega, fun h => ?_, fun h => ?_, fun h => ?_, fun h => ?_⟩, ⟨by omega, by show (delO l 0).n ≤ 1; omega, fun h => ?_, fun _ => by omega⟩⟩
    all_goals
      have h : (delO l 0).n = 1 := h
      omega
end Go.Proofs.Ytoocihhnlhehlaa
