/- Calendars, plain. -/
import Derived.Test.YtoocihhnlhehlaaSpe
import Derived.Test.YtoocihhnlhehlaaSpb
namespace Go.Proofs.Ytoocihhnlhehlaa
open Go Go.Proofs.Ytoocihhnlhehlaa.Den
set_option linter.unusedVariables false
/-- A number is among a row's. -/
def hasB (x : Sl Int) (n : Int) : Bool := decide (0 ≤ idx (fun j => x.at' j == n) x.n 0)
def openB (we ho : Sl Int) (day : Int) : Bool := dayB day && !hasB we (weekday day) && !hasB ho day
/-- The first open day from a day on. -/
def nextS (we ho : Sl Int) (day : Int) : Int × Int :=
  if dayB day then
    (if idx (fun j => openB we ho (day + j)) (73049 - day).toNat 0 < 0 then (0, 11) else (day + idx (fun j => openB we ho (day + j)) (73049 - day).toNat 0, 0))
  else (0, 1)
/-- The last open day up to a day. -/
def prevS (we ho : Sl Int) (day : Int) : Int × Int :=
  if dayB day then
    (if idx (fun j => openB we ho (day - j)) (day + 1).toNat 0 < 0 then (0, 11) else (day - idx (fun j => openB we ho (day - j)) (day + 1).toNat 0, 0))
  else (0, 1)
/-- The rule 'modified following'. -/
def adjS (we ho : Sl Int) (day : Int) : Int × Int :=
  if dayB day then
    (if (nextS we ho day).2 == 0 && decide ((nextS we ho day).1 ≤ monthEnd day) then ((nextS we ho day).1, 0) else prevS we ho day)
  else (0, 1)
theorem nextS_at {we ho : Sl Int} {day d : Int} (h0 : dayB day = true) (h : day ≤ d) (h1 : d ≤ 73048) (hp : openB we ho d = true) (hn : ∀ x, day ≤ x → x < d → openB we ho x = false) : nextS we ho day = (d, 0) := by
  have hd : 0 ≤ day ∧ day ≤ 73048 := by simpa [dayB] using h0
  have e := idx_at (fun j => openB we ho (day + j)) (73049 - day).toNat (d - day).toNat (by omega) (by show openB we ho (day + ((d - day).toNat : Int)) = true; rw [show day + ((d - day).toNat : Int) = d by omega]; exact hp) (fun j hj => hn _ (by omega) (by omega))
  simp only [nextS, h0, if_true, e]
  rw [if_neg (by omega)]
  simp; omega
theorem nextS_no {we ho : Sl Int} {day : Int} (h0 : dayB day = true) (hn : ∀ x, day ≤ x → x ≤ 73048 → openB we ho x = false) : nextS we ho day = (0, 11) := by
  have hd : 0 ≤ day ∧ day ≤ 73048 := by simpa [dayB] using h0
  have e := idx_no (fun j => openB we ho (day + j)) (73049 - day).toNat (fun j hj => hn _ (by omega) (by omega))
  simp only [nextS, h0, if_true, e]
  rfl
theorem prevS_at {we ho : Sl Int} {day d : Int} (h0 : dayB day = true) (h : d ≤ day) (h1 : 0 ≤ d) (hp : openB we ho d = true) (hn : ∀ x, d < x → x ≤ day → openB we ho x = false) : prevS we ho day = (d, 0) := by
  have hd : 0 ≤ day ∧ day ≤ 73048 := by simpa [dayB] using h0
  have e := idx_at (fun j => openB we ho (day - j)) (day + 1).toNat (day - d).toNat (by omega) (by show openB we ho (day - ((day - d).toNat : Int)) = true; rw [show day - ((day - d).toNat : Int) = d by omega]; exact hp) (fun j hj => hn _ (by omega) (by omega))
  simp only [prevS, h0, if_true, e]
  rw [if_neg (by omega)]
  simp; omega
theorem prevS_no {we ho : Sl Int} {day : Int} (h0 : dayB day = true) (hn : ∀ x, 0 ≤ x → x ≤ day → openB we ho x = false) : prevS we ho day = (0, 11) := by
  have hd : 0 ≤ day ∧ day ≤ 73048 := by simpa [dayB] using h0
  have e := idx_no (fun j => openB we ho (day - j)) (day + 1).toNat (fun j hj => hn _ (by omega) (by omega))
  simp only [prevS, h0, if_true, e]
  rfl
theorem nextS_ok {we ho : Sl Int} {day : Int} (h : (nextS we ho day).2 = 0) : dayB day = true ∧ day ≤ (nextS we ho day).1 ∧ (nextS we ho day).1 ≤ 73048 ∧ openB we ho (nextS we ho day).1 = true := by
  unfold nextS at h ⊢
  cases hb : dayB day with
  | false => rw [hb] at h; cases h
  | true =>
    have hd : 0 ≤ day ∧ day ≤ 73048 := by simpa [dayB] using hb
    simp only [hb, if_true] at h ⊢
    rcases idx_spec (fun j => openB we ho (day + j)) (73049 - day).toNat 0 with ⟨e, _⟩ | ⟨i, h1, h2, e, h3, _⟩
    · rw [e] at h; simp at h
    · rw [e, if_neg (by omega)]
      exact ⟨trivial, by simp; omega, by simp; omega, h3⟩
theorem prevS_ok {we ho : Sl Int} {day : Int} (h : (prevS we ho day).2 = 0) : dayB day = true ∧ 0 ≤ (prevS we ho day).1 ∧ (prevS we ho day).1 ≤ day ∧ openB we ho (prevS we ho day).1 = true := by
  unfold prevS at h ⊢
  cases hb : dayB day with
  | false => rw [hb] at h; cases h
  | true =>
    have hd : 0 ≤ day ∧ day ≤ 73048 := by simpa [dayB] using hb
    simp only [hb, if_true] at h ⊢
    rcases idx_spec (fun j => openB we ho (day - j)) (day + 1).toNat 0 with ⟨e, _⟩ | ⟨i, h1, h2, e, h3, _⟩
    · rw [e] at h; simp at h
    · rw [e, if_neg (by omega)]
      exact ⟨trivial, by simp; omega, by simp; omega, h3⟩
theorem open_day {we ho : Sl Int} {d : Int} (h : openB we ho d = true) : dayB d = true := by
  unfold openB at h
  simp only [Bool.and_eq_true] at h
  exact h.1.1
theorem adjS_ok {we ho : Sl Int} {day : Int} (h : (adjS we ho day).2 = 0) : dayB day = true ∧ dayB (adjS we ho day).1 = true ∧ openB we ho (adjS we ho day).1 = true := by
  unfold adjS at h ⊢
  cases hb : dayB day with
  | false => rw [hb] at h; cases h
  | true =>
    simp only [hb, if_true] at h ⊢
    cases hc : ((nextS we ho day).2 == 0 && decide ((nextS we ho day).1 ≤ monthEnd day)) with
    | true =>
      simp only [hc, if_true] at h ⊢
      simp only [Bool.and_eq_true, beq_iff_eq] at hc
      have := (nextS_ok hc.1).2.2.2
      exact ⟨trivial, open_day this, this⟩
    | false =>
      simp only [hc, Bool.false_eq_true, if_false] at h ⊢
      have := (prevS_ok h).2.2.2
      exact ⟨trivial, open_day this, this⟩
/-- The last day of a valid day's month is not before it, and in the same month. -/
theorem monthEnd_le {day : Int} (h : dayB day = true) : day ≤ monthEnd day ∧ monthEnd day ≤ 73048 := by
  have hc := civ_is h
  have h1 := hc.hd
  have h2 := hc.he
  have h3 := mb_succ (civ day).1 hc.hm
  have h4 := mb_mono' (civ day).1 (m := (civ day).2.1 + 1) (m' := 13) (by have := hc.hm; omega) (by have := hc.hm; omega) (by omega)
  rw [mb_13] at h4
  have h5 := yb_succ hc.hy.1 hc.hy.2
  have h6 := yb_mono (y := (civ day).1 + 1) (y' := 2200) (by have := hc.hy; omega) (by have := hc.hy; omega) (by omega)
  rw [yb_2200] at h6
  simp only [monthEnd, h, if_true]
  omega
end Go.Proofs.Ytoocihhnlhehlaa
