/- Civil dates, plain. -/
import Derived.Test.YtoocihhnlhehlaaSpa
namespace Go.Proofs.Ytoocihhnlhehlaa
open Go Go.Proofs.Ytoocihhnlhehlaa.Den
set_option linter.unusedVariables false
set_option linter.unusedSimpArgs false
/-- A leap year. -/
def leapB (y : Int) : Bool := (y.tmod 4 == 0) && ((y.tmod 100 != 0) || (y.tmod 400 == 0))
/-- The first day of a year. -/
def yb (y : Int) : Int := 365 * (y - 2000) + (y - 1997) / 4 - (if 2100 < y then 1 else 0)
def mlen0 (m : Int) : Int := if m = 2 then 28 else if m = 4 ∨ m = 6 ∨ m = 9 ∨ m = 11 then 30 else if 1 ≤ m ∧ m ≤ 12 then 31 else 0
/-- How many days a month has. -/
def mlen (y m : Int) : Int := mlen0 m + (if m = 2 ∧ leapB y = true then 1 else 0)
def mb0 (m : Int) : Int := if m ≤ 1 then 0 else if m = 2 then 31 else if m = 3 then 59 else if m = 4 then 90 else if m = 5 then 120 else if m = 6 then 151 else if m = 7 then 181 else if m = 8 then 212 else if m = 9 then 243 else if m = 10 then 273 else if m = 11 then 304 else if m = 12 then 334 else 365
/-- The days of a year ahead of a month. -/
def mb (y m : Int) : Int := mb0 m + (if 2 < m ∧ leapB y = true then 1 else 0)
theorem leap_iff {y : Int} (h : 2000 ≤ y) (h2 : y ≤ 2200) : leapB y = true ↔ y % 4 = 0 ∧ y ≠ 2100 ∧ y ≠ 2200 := by
  unfold leapB
  rw [Int.tmod_eq_emod_of_nonneg (by omega), Int.tmod_eq_emod_of_nonneg (by omega), Int.tmod_eq_emod_of_nonneg (by omega)]
  simp only [Bool.and_eq_true, Bool.or_eq_true, beq_iff_eq, bne_iff_ne, ne_eq]
  omega
def ylen (y : Int) : Int := if leapB y then 366 else 365
theorem yb_succ {y : Int} (h : 2000 ≤ y) (h2 : y ≤ 2199) : yb (y + 1) = yb y + ylen y := by
  have hl := leap_iff (y := y) h (by omega)
  unfold yb ylen
  by_cases h3 : leapB y = true
  · rw [if_pos h3]
    have := hl.1 h3
    split <;> split <;> omega
  · rw [if_neg h3]
    have h4 : ¬ (y % 4 = 0 ∧ y ≠ 2100 ∧ y ≠ 2200) := fun e => h3 (hl.2 e)
    split <;> split <;> omega
theorem yb_2000 : yb 2000 = 0 := by decide
theorem yb_2200 : yb 2200 = 73049 := by decide
theorem m12 {m : Int} (h : 1 ≤ m ∧ m ≤ 12) : m = 1 ∨ m = 2 ∨ m = 3 ∨ m = 4 ∨ m = 5 ∨ m = 6 ∨ m = 7 ∨ m = 8 ∨ m = 9 ∨ m = 10 ∨ m = 11 ∨ m = 12 := by omega
theorem mb_succ (y : Int) {m : Int} (h : 1 ≤ m ∧ m ≤ 12) : mb y (m + 1) = mb y m + mlen y m := by
  unfold mb mlen
  rcases m12 h with rfl | rfl | rfl | rfl | rfl | rfl | rfl | rfl | rfl | rfl | rfl | rfl <;> by_cases hp : leapB y = true <;> simp [mb0, mlen0, hp]
theorem mb_1 (y : Int) : mb y 1 = 0 := by simp [mb, mb0]
theorem mb_13 (y : Int) : mb y 13 = ylen y := by
  unfold mb ylen
  by_cases h : leapB y = true <;> simp [mb0, h]
theorem mlen_pos (y : Int) {m : Int} (h : 1 ≤ m ∧ m ≤ 12) : 28 ≤ mlen y m ∧ mlen y m ≤ 31 := by
  unfold mlen mlen0
  split <;> split <;> omega
theorem mlen_no (y : Int) {m : Int} (h : m < 1 ∨ 12 < m) : mlen y m = 0 := by
  unfold mlen mlen0
  rw [if_neg (by omega), if_neg (by omega), if_neg (by omega), if_neg (by omega)]; rfl
theorem mb_le (y m : Int) : 0 ≤ mb y m ∧ mb y m ≤ 366 := by
  unfold mb
  have : 0 ≤ mb0 m ∧ mb0 m ≤ 365 := by
    unfold mb0
    repeat' split
    all_goals omega
  split <;> omega
theorem mb_mono (y : Int) {m : Int} (h1 : 1 ≤ m) : ∀ k : Nat, m + k ≤ 13 → mb y m ≤ mb y (m + k)
  | 0, _ => by simp
  | k + 1, h => by
    have h2 := mb_mono y h1 k (by omega)
    have h3 := mb_succ y (m := m + k) (by omega)
    have h4 := (mlen_pos y (m := m + k) (by omega)).1
    have e : m + ((k + 1 : Nat) : Int) = m + k + 1 := by omega
    rw [e]; omega
theorem mb_mono' (y : Int) {m m' : Int} (h1 : 1 ≤ m) (h : m ≤ m') (h2 : m' ≤ 13) : mb y m ≤ mb y m' := by
  have := mb_mono y h1 (m' - m).toNat (by omega)
  rwa [show m + ((m' - m).toNat : Int) = m' by omega] at this
theorem yb_mono {y y' : Int} (h1 : 2000 ≤ y) (h : y ≤ y') (h2 : y' ≤ 2200) : yb y ≤ yb y' := by
  unfold yb
  split <;> split <;> omega
theorem ylen_in (y : Int) : ylen y = 365 ∨ ylen y = 366 := by unfold ylen; split <;> simp
/-- A day's date. -/
structure IsCiv (day y m d : Int) : Prop where
  hy : 2000 ≤ y ∧ y ≤ 2199
  hm : 1 ≤ m ∧ m ≤ 12
  hd : 1 ≤ d ∧ d ≤ mlen y m
  he : day = yb y + mb y m + d - 1
theorem IsCiv.box {day y m d : Int} (h : IsCiv day y m d) : yb y ≤ day ∧ day < yb (y + 1) ∧ mb y m ≤ day - yb y ∧ day - yb y < mb y (m + 1) := by
  have h1 := yb_succ h.hy.1 h.hy.2
  have h2 := mb_succ y h.hm
  have h3 := mb_le y m
  have h4 := mb_mono' y (m := m + 1) (m' := 13) (by have := h.hm; omega) (by have := h.hm; omega) (by omega)
  rw [mb_13] at h4
  have h5 := h.hd
  have h6 := h.he
  refine ⟨by omega, by omega, by omega, by omega⟩
theorem IsCiv.uniq {day y m d y' m' d' : Int} (h : IsCiv day y m d) (h' : IsCiv day y' m' d') : y = y' ∧ m = m' ∧ d = d' := by
  obtain ⟨a1, a2, a3, a4⟩ := h.box
  obtain ⟨b1, b2, b3, b4⟩ := h'.box
  have c1 := h.hy
  have c2 := h'.hy
  have e : y = y' := by
    rcases Int.lt_trichotomy y y' with h1 | h1 | h1
    · have := yb_mono (y := y + 1) (y' := y') (by omega) (by omega) (by omega); omega
    · exact h1
    · have := yb_mono (y := y' + 1) (y' := y) (by omega) (by omega) (by omega); omega
  subst e
  have d1 := h.hm
  have d2 := h'.hm
  have e : m = m' := by
    rcases Int.lt_trichotomy m m' with h1 | h1 | h1
    · have := mb_mono' y (m := m + 1) (m' := m') (by omega) (by omega) (by omega); omega
    · exact h1
    · have := mb_mono' y (m := m' + 1) (m' := m) (by omega) (by omega) (by omega); omega
  subst e
  have := h.he
  have := h'.he
  exact ⟨rfl, rfl, by omega⟩
def civY (day : Int) : Int := if yb (2000 + day / 365) ≤ day then 2000 + day / 365 else 1999 + day / 365
def civM (y r : Int) : Int := if r < mb y 2 then 1 else if r < mb y 3 then 2 else if r < mb y 4 then 3 else if r < mb y 5 then 4 else if r < mb y 6 then 5 else if r < mb y 7 then 6 else if r < mb y 8 then 7 else if r < mb y 9 then 8 else if r < mb y 10 then 9 else if r < mb y 11 then 10 else if r < mb y 12 then 11 else 12
def civ (day : Int) : Int × Int × Int :=
  if dayB day then (civY day, civM (civY day) (day - yb (civY day)), day - yb (civY day) - mb (civY day) (civM (civY day) (day - yb (civY day))) + 1) else (0, 0, 0)
theorem civY_in {day : Int} (h : 0 ≤ day ∧ day ≤ 73048) : 2000 ≤ civY day ∧ civY day ≤ 2199 ∧ yb (civY day) ≤ day ∧ day < yb (civY day + 1) := by
  unfold civY yb
  split <;> (repeat' split) <;> omega
theorem civM_in (y : Int) {r : Int} (h0 : 0 ≤ r) (h : r < ylen y) : 1 ≤ civM y r ∧ civM y r ≤ 12 ∧ mb y (civM y r) ≤ r ∧ r < mb y (civM y r + 1) := by
  have h13 := mb_13 y
  have h1 := mb_1 y
  unfold civM
  repeat' split
  all_goals refine ⟨by omega, by omega, ?_, ?_⟩
  all_goals first | omega | (show r < mb y _; assumption) | (show r < mb y 13; omega)
theorem civ_is {day : Int} (h : dayB day = true) : IsCiv day (civ day).1 (civ day).2.1 (civ day).2.2 := by
  have hd : 0 ≤ day ∧ day ≤ 73048 := by simpa [dayB] using h
  obtain ⟨h1, h2, h3, h4⟩ := civY_in hd
  have h5 := yb_succ h1 h2
  obtain ⟨g1, g2, g3, g4⟩ := civM_in (civY day) (r := day - yb (civY day)) (by omega) (by omega)
  have h6 := mb_succ (civY day) ⟨g1, g2⟩
  simp only [civ, h, if_true]
  exact ⟨⟨h1, h2⟩, ⟨g1, g2⟩, ⟨by omega, by omega⟩, by omega⟩
theorem civ_eq {day y m d : Int} (h : IsCiv day y m d) (hd : dayB day = true) : civ day = (y, m, d) := by
  obtain ⟨h1, h2, h3⟩ := (civ_is hd).uniq h
  rw [← h1, ← h2, ← h3]
theorem IsCiv.dayB {day y m d : Int} (h : IsCiv day y m d) : dayB day = true := by
  obtain ⟨a1, a2, _, _⟩ := h.box
  have h0 := yb_mono (y := 2000) (y' := y) (by omega) (by have := h.hy; omega) (by have := h.hy; omega)
  have h1 := yb_mono (y := y + 1) (y' := 2200) (by have := h.hy; omega) (by have := h.hy; omega) (by omega)
  rw [yb_2000] at h0
  rw [yb_2200] at h1
  simp only [Go.Proofs.Ytoocihhnlhehlaa.dayB, Bool.and_eq_true, decide_eq_true_eq]
  omega
/-- A date's day, or 1: an argument is out of its range. -/
def dayOf (y m d : Int) : Int × Int :=
  if y < 2000 ∨ 2199 < y ∨ m < 1 ∨ 12 < m ∨ d < 1 ∨ mlen y m < d then (0, 1) else (yb y + mb y m + d - 1, 0)
def monthEnd (day : Int) : Int := if dayB day then day - (civ day).2.2 + mlen (civ day).1 (civ day).2.1 else -1
def weekday (day : Int) : Int := if dayB day then (day + 5) % 7 else -1
/-- A day some months later. -/
def addM (day n anchor : Int) : Int × Int :=
  if dayB day = false ∨ n < -2400 ∨ 2400 < n ∨ anchor < 1 ∨ 31 < anchor then (0, 1)
  else if 12 * (civ day).1 + (civ day).2.1 - 1 + n < 24000 ∨ 26400 ≤ 12 * (civ day).1 + (civ day).2.1 - 1 + n then (0, 1)
  else dayOf ((12 * (civ day).1 + (civ day).2.1 - 1 + n) / 12) ((12 * (civ day).1 + (civ day).2.1 - 1 + n) % 12 + 1)
    (if mlen ((12 * (civ day).1 + (civ day).2.1 - 1 + n) / 12) ((12 * (civ day).1 + (civ day).2.1 - 1 + n) % 12 + 1) < anchor then mlen ((12 * (civ day).1 + (civ day).2.1 - 1 + n) / 12) ((12 * (civ day).1 + (civ day).2.1 - 1 + n) % 12 + 1) else anchor)
end Go.Proofs.Ytoocihhnlhehlaa
