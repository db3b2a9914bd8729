/- Tables of types, looked through at one go; structs held against each other. (Part 9) -/
import Derived.Test.YtoocihhnlhehlaaDenh
import Derived.Laws.StructEq
namespace Go.Proofs.Ytoocihhnlhehlaa.Den
open Go Go.RowKit

/-- A struct's cells, where it can be held against another. -/
def flatEFs (P : Program) (r : TypeId → Option (List CK)) : Nat → List Field → Option (List CK)
  | _, [] => some []
  | off, f :: fs => match r f.type with
    | some xs => if f.offset = off ∧ (f.name == "_") = false ∧ P.cellsOf f.type = xs.length ∧ (P.info? f.type).isSome = true then (match flatEFs P r (off + xs.length) fs with
      | some ys => some (xs ++ ys)
      | none => none) else none
    | none => none
def flatE (P : Program) : Nat → TypeId → Option (List CK)
  | 0, _ => none
  | n + 1, t => match P.underlying t with
    | some .bool => some [.bool]
    | some (.int k) => some [.int k]
    | some .string => some [.str]
    | some (.struct fs) => if P.stoodInHeld t then none else flatEFs P (flatE P n) 0 fs.toList
    | _ => none

def isAggT (P : Program) (t : TypeId) : Bool := match P.underlying t with
  | some (.struct _) | some (.array _ _) => true
  | _ => false
def valOf (P : Program) (t : TypeId) (xs : List Value) : Value := if isAggT P t then .agg xs.toArray else xs.getD 0 undef

theorem ckOk_append : ∀ (ks ks' : List CK) (xs : List Value), ckOk (ks ++ ks') xs = true → ckOk ks (xs.take ks.length) = true ∧ ckOk ks' (xs.drop ks.length) = true
  | [], ks', xs, h => by simpa [ckOk] using h
  | k :: r, ks', xs, h => by
    cases xs with
    | nil => cases k <;> simp [ckOk] at h
    | cons x xs =>
      have go : ckOk (r ++ ks') xs = true → ckOk r (xs.take r.length) = true ∧ ckOk ks' (xs.drop r.length) = true := ckOk_append r ks' xs
      cases k <;> cases x <;> simp only [List.cons_append, ckOk, Bool.false_eq_true, Bool.and_eq_true] at h
      · obtain ⟨h1, h2⟩ := go h.2; exact ⟨by simp [ckOk, h.1, h1], by simpa using h2⟩
      · obtain ⟨h1, h2⟩ := go h; exact ⟨by simp [ckOk, h1], by simpa using h2⟩
      · obtain ⟨h1, h2⟩ := go h; exact ⟨by simp [ckOk, h1], by simpa using h2⟩
theorem ckOk_len : ∀ (ks : List CK) (xs : List Value), ckOk ks xs = true → xs.length = ks.length
  | [], [], _ => rfl
  | [], _ :: _, h => by simp [ckOk] at h
  | k :: r, [], h => by cases k <;> simp [ckOk] at h
  | k :: r, x :: xs, h => by
    cases k <;> cases x <;> simp only [ckOk, Bool.false_eq_true, Bool.and_eq_true] at h
    · simp [ckOk_len r xs h.2]
    · simp [ckOk_len r xs h]
    · simp [ckOk_len r xs h]
theorem cellsEq_append : ∀ (ks : List CK) (xs ys xs' ys' : List Value), ckOk ks xs = true → ckOk ks ys = true → cellsEq (xs ++ xs') (ys ++ ys') = (cellsEq xs ys && cellsEq xs' ys')
  | [], [], [], xs', ys', _, _ => by simp [cellsEq]
  | [], _ :: _, _, _, _, h, _ => by simp [ckOk] at h
  | [], [], _ :: _, _, _, _, h => by simp [ckOk] at h
  | k :: r, [], _, _, _, h, _ => by cases k <;> simp [ckOk] at h
  | k :: r, _ :: _, [], _, _, _, h => by cases k <;> simp [ckOk] at h
  | k :: r, x :: xs, y :: ys, xs', ys', h, h' => by
    cases k <;> cases x <;> simp only [ckOk, Bool.false_eq_true, Bool.and_eq_true] at h <;> cases y <;> simp only [ckOk, Bool.false_eq_true, Bool.and_eq_true] at h'
    · simp only [List.cons_append, cellsEq, cellsEq_append r xs ys xs' ys' h.2 h'.2, Bool.and_assoc]
    · simp only [List.cons_append, cellsEq, cellsEq_append r xs ys xs' ys' h h', Bool.and_assoc]
    · simp only [List.cons_append, cellsEq, cellsEq_append r xs ys xs' ys' h h', Bool.and_assoc]

section
variable {P : Program} {w : World}

theorem run_isAgg0 {t : TypeId} {d : TypeDesc} (h : P.underlying t = some d) : (isAgg t).run P w = .ok (isAggT P t) w := by
  unfold isAgg isAggT
  simp only [Sem.run_bind, Go.run_underlying h, Result.andThen_ok, h]
  cases d <;> rfl
theorem flatE_und {n : Nat} {t : TypeId} {ks : List CK} (h : flatE P n t = some ks) : ∃ d, P.underlying t = some d := by
  cases n with
  | zero => simp [flatE] at h
  | succ n =>
    simp only [flatE] at h
    split at h
    · exact ⟨_, ‹_›⟩
    · exact ⟨_, ‹_›⟩
    · exact ⟨_, ‹_›⟩
    · exact ⟨_, ‹_›⟩
    · cases h
theorem flatE_one {n : Nat} {t : TypeId} {ks : List CK} (h : flatE P n t = some ks) (ha : isAggT P t = false) : ∃ k, ks = [k] := by
  cases n with
  | zero => simp [flatE] at h
  | succ n =>
    unfold isAggT at ha
    simp only [flatE] at h
    split at h
    · exact ⟨_, (Option.some.inj h).symm⟩
    · exact ⟨_, (Option.some.inj h).symm⟩
    · exact ⟨_, (Option.some.inj h).symm⟩
    · rename_i fs hu; rw [hu] at ha; cases ha
    · cases h

theorem part_flat {n : Nat} {t : TypeId} {ks : List CK} (h : flatE P n t = some ks) (hi : (P.info? t).isSome = true) (hc : P.cellsOf t = ks.length) (xs : List Value) (off : Nat) (hk : ckOk ks ((xs.drop off).take ks.length) = true) :
    (Go.part t xs.toArray off).run P w = .ok (valOf P t ((xs.drop off).take ks.length)) w := by
  obtain ⟨d, hd⟩ := flatE_und h
  obtain ⟨i, hi⟩ := Option.isSome_iff_exists.1 hi
  unfold Go.part
  simp only [Sem.run_bind, run_isAgg0 hd, Result.andThen_ok]
  have hs : (sizeOf t).run P w = .ok ks.length w := by rw [run_sizeOf w hi, hc]
  cases ha : isAggT P t with
  | true =>
    simp only [if_true, Sem.run_bind, hs, Result.andThen_ok, Sem.run_pure, valOf, ha]
    congr 2
    rw [List.extract_toArray, List.extract_eq_take_drop]
    congr 2
    omega
  | false =>
    obtain ⟨k, rfl⟩ := flatE_one h ha
    have hl := ckOk_len _ _ hk
    simp only [List.length_cons, List.length_nil, List.length_take, List.length_drop] at hl
    have hlt : off < xs.length := by omega
    have e : xs.toArray[off]? = some xs[off] := by simp [hlt]
    simp only [Bool.false_eq_true, if_false, e, Sem.run_pure, valOf, ha]
    congr 1
    simp [List.getD, List.getElem?_drop, hlt]

theorem eqFs {n d : Nat} (ih : ∀ t ks, flatE P n t = some ks → ∀ xs ys, ckOk ks xs = true → ckOk ks ys = true → (Op.equalIn d t (valOf P t xs) (valOf P t ys)).run P w = .ok (cellsEq xs ys) w) (xs ys : List Value) :
    ∀ (fs : List Field) (off : Nat) (ks : List CK), flatEFs P (flatE P n) off fs = some ks → ckOk ks (xs.drop off) = true → ckOk ks (ys.drop off) = true →
      (Op.eqFields d xs.toArray ys.toArray fs).run P w = .ok (cellsEq (xs.drop off) (ys.drop off)) w
  | [], off, ks, h, hx, hy => by
    simp only [flatEFs, Option.some.injEq] at h
    subst h
    have e1 : xs.drop off = [] := List.eq_nil_of_length_eq_zero (ckOk_len _ _ hx)
    have e2 : ys.drop off = [] := List.eq_nil_of_length_eq_zero (ckOk_len _ _ hy)
    rw [e1, e2]
    simp [Op.eqFields, cellsEq]
  | f :: fs, off, ks, h, hx, hy => by
    simp only [flatEFs] at h
    split at h
    · rename_i k1 hk1
      split at h
      · rename_i hc
        split at h
        · rename_i k2 hk2
          injection h with h
          subst h
          obtain ⟨hx1, hx2⟩ := ckOk_append _ _ _ hx
          obtain ⟨hy1, hy2⟩ := ckOk_append _ _ _ hy
          have ha := part_flat (w := w) hk1 hc.2.2.2 hc.2.2.1 xs off hx1
          have hb := part_flat (w := w) hk1 hc.2.2.2 hc.2.2.1 ys off hy1
          have he := ih _ _ hk1 _ _ hx1 hy1
          rw [List.drop_drop] at hx2 hy2
          have hr := eqFs ih xs ys fs (off + k1.length) k2 hk2 hx2 hy2
          have hn' : f.name ≠ "_" := by simpa using hc.2.1
          have e : cellsEq (xs.drop off) (ys.drop off) = (cellsEq ((xs.drop off).take k1.length) ((ys.drop off).take k1.length) && cellsEq (xs.drop (off + k1.length)) (ys.drop (off + k1.length))) := by
            rw [← cellsEq_append k1 _ _ _ _ hx1 hy1, ← List.drop_drop, ← List.drop_drop, List.take_append_drop, List.take_append_drop]
          rw [e, Op.eqFields]
          simp only [if_pos hn', Sem.run_bind, hc.1, ha, hb, he, Result.andThen_ok]
          cases cellsEq ((xs.drop off).take k1.length) ((ys.drop off).take k1.length)
          · simp
          · simpa using hr
        · cases h
      · cases h
    · cases h

theorem eqIn : ∀ (n : Nat) (t : TypeId) (ks : List CK), flatE P n t = some ks → ∀ d, n ≤ d → ∀ xs ys, ckOk ks xs = true → ckOk ks ys = true →
    (Op.equalIn d t (valOf P t xs) (valOf P t ys)).run P w = .ok (cellsEq xs ys) w
  | 0, _, _, h, _, _, _, _, _, _ => by simp [flatE] at h
  | n + 1, t, ks, h, d, hd, xs, ys, hx, hy => by
    obtain ⟨d, rfl⟩ : ∃ m, d = m + 1 := ⟨d - 1, by omega⟩
    simp only [flatE] at h
    split at h
    · rename_i hu
      injection h with h; subst h
      have ha : isAggT P t = false := by unfold isAggT; rw [hu]
      match xs, ys, hx, hy with
      | [.bool a], [.bool b], _, _ => simp [valOf, ha, Op.equalIn, run_underlying hu, cellsEq]
    · rename_i k hu
      injection h with h; subst h
      have ha : isAggT P t = false := by unfold isAggT; rw [hu]
      have one : ∀ zs : List Value, ckOk [CK.int k] zs = true → ∃ a, zs = [.int k a] := fun zs hz => by
        match zs, hz with
        | [.int k1 a], hz => simp [ckOk] at hz; subst hz; exact ⟨a, rfl⟩
        | .int _ _ :: _ :: _, hz => simp [ckOk] at hz
      obtain ⟨a, rfl⟩ := one _ hx
      obtain ⟨b, rfl⟩ := one _ hy
      simp [valOf, ha, Op.equalIn, run_underlying hu, cellsEq]
    · rename_i hu
      injection h with h; subst h
      have ha : isAggT P t = false := by unfold isAggT; rw [hu]
      match xs, ys, hx, hy with
      | [.string a], [.string b], _, _ =>
        simp [valOf, ha, Op.equalIn, run_underlying hu, cellsEq, beq_toListBytes]
    · rename_i fs hu
      split at h
      · cases h
      · rename_i hp
        have ha : isAggT P t = true := by unfold isAggT; rw [hu]
        have hf : P.fieldsOf t = fs := by simp [Program.fieldsOf, hu]
        simp only [valOf, ha, if_true]
        rw [Go.run_equalIn_struct (P := P) w d t xs.toArray ys.toArray (by rw [hf]; exact hu) (by simpa using hp), hf]
        have := eqFs (w := w) (d := d) (fun t ks h xs ys hx hy => eqIn n t ks h d (by omega) xs ys hx hy) xs ys fs.toList 0 ks h (by simpa using hx) (by simpa using hy)
        simpa using this
    · cases h

theorem guardFs {n d : Nat} (ih : ∀ t ks, flatE P n t = some ks → P.eqGuardType d t = false) : ∀ (fs : List Field) (off : Nat) (ks : List CK), flatEFs P (flatE P n) off fs = some ks → fs.any (fun f => f.name != "_" && P.eqGuardType d f.type) = false
  | [], _, _, _ => rfl
  | f :: fs, off, ks, h => by
    simp only [flatEFs] at h
    split at h
    · rename_i k1 hk1
      split at h
      · split at h
        · rename_i k2 hk2
          simp only [List.any_cons, ih _ _ hk1, Bool.and_false, Bool.false_or]
          exact guardFs ih fs _ k2 hk2
        · cases h
      · cases h
    · cases h
theorem guardT : ∀ (n : Nat) (t : TypeId) (ks : List CK), flatE P n t = some ks → ∀ d, n ≤ d → P.eqGuardType d t = false
  | 0, _, _, h, _, _ => by simp [flatE] at h
  | n + 1, t, ks, h, d, hd => by
    obtain ⟨d, rfl⟩ : ∃ m, d = m + 1 := ⟨d - 1, by omega⟩
    simp only [flatE] at h
    split at h
    · rename_i hu; simp [Program.eqGuardType, hu]
    · rename_i hu; simp [Program.eqGuardType, hu]
    · rename_i hu; simp [Program.eqGuardType, hu]
    · rename_i fs hu
      split at h
      · cases h
      · simp only [Program.eqGuardType, hu]
        rw [← Array.any_toList]
        exact guardFs (fun t ks h => guardT n t ks h d (by omega)) fs.toList 0 ks h
    · cases h

/-! ### One look at a table -/
def sameV : Value → Value → Bool
  | .int k a, .int k' b => k == k' && a == b
  | .bool a, .bool b => a == b
  | .string a, .string b => a.data == b.data
  | .slice none 0 0, .slice none 0 0 => true
  | _, _ => false
def sameVs : List Value → List Value → Bool
  | [], [] => true
  | x :: r, y :: s => sameV x y && sameVs r s
  | _, _ => false
theorem sameV_eq {x y : Value} (h : sameV x y = true) : x = y := by
  unfold sameV at h
  split at h
  · simp at h; obtain ⟨rfl, rfl⟩ := h; rfl
  · simp at h; rw [h]
  · simp at h; rename_i a b; cases a; cases b; simp at h; rw [h]
  · rfl
  · cases h
theorem sameVs_eq : ∀ {xs ys : List Value}, sameVs xs ys = true → xs = ys
  | [], [], _ => rfl
  | x :: r, y :: s, h => by
    simp only [sameVs, Bool.and_eq_true] at h
    rw [sameV_eq h.1, sameVs_eq h.2]
  | [], _ :: _, h => by simp [sameVs] at h
  | _ :: _, [], h => by simp [sameVs] at h

def fieldsOk (P : Program) : List (Nat × Nat) → List Field → Bool
  | [], [] => true
  | (o, s) :: r, f :: fs => f.offset == o && (match P.info? f.type with | some i => i.size == s | none => false) && s != 0 && fieldsOk P r fs
  | _, _ => false
def descOk (P : Program) (d : TypeDesc) : TD → Bool
  | .int k => match d with | .int k' => k' == k | _ => false
  | .bool => match d with | .bool => true | _ => false
  | .str => match d with | .string => true | _ => false
  | .slice e => match d with | .slice e' => e' == e | _ => false
  | .arr n e => match d with | .array n' e' => n' == n && e' == e && (match P.info? e with | some i => i.size != 0 | none => false) | _ => false
  | .struct fs => match d with | .struct fa => fieldsOk P fs fa.toList | _ => false
  | .other => true
def tiOk (P : Program) (t : TypeId) (ti : TI) : Bool :=
  match P.info? t, P.underlying t with
  | some i, some d => (i.size == ti.size) && (i.bytes == ti.bytes) && (match i.zero with | some z => sameVs z.cells.toList ti.zero && z.cells.size == ti.size | none => false) && ti.zero.all (·.oneCell') &&
      ((match d with | .struct _ => true | .array _ _ => true | _ => false) == ti.agg) && descOk P d ti.desc && (!ti.eq || (isAggT P t && (flatE P 6 t == some ti.ck) && decide (6 ≤ P.depth)))
  | _, _ => false

theorem fieldsOk_spec : ∀ (fs : List (Nat × Nat)) (fa : List Field), fieldsOk P fs fa = true → fs.length = fa.length ∧ ∀ (j o s : Nat), fs[j]? = some (o, s) → ∃ (f : Field) (i : TypeInfo), fa[j]? = some f ∧ f.offset = o ∧ P.info? f.type = some i ∧ i.size = s ∧ s ≠ 0
  | [], [], _ => ⟨rfl, fun j o s h => by simp at h⟩
  | [], _ :: _, h => by simp [fieldsOk] at h
  | _ :: _, [], h => by simp [fieldsOk] at h
  | (o, s) :: r, f :: fs, h => by
    simp only [fieldsOk, Bool.and_eq_true] at h
    obtain ⟨⟨⟨h1, h2⟩, h3⟩, h4⟩ := h
    obtain ⟨h5, h6⟩ := fieldsOk_spec r fs h4
    refine ⟨by simp [h5], fun j o' s' hj => ?_⟩
    cases j with
    | zero =>
      simp at hj
      obtain ⟨rfl, rfl⟩ := hj
      split at h2
      · rename_i i hi
        exact ⟨f, i, rfl, by simpa using h1, hi, by simpa using h2, by simpa using h3⟩
      · cases h2
    | succ j => simpa using h6 j o' s' (by simpa using hj)

theorem tiOk_ok {t : TypeId} {ti : TI} (h : tiOk P t ti = true) : TIok P t ti := by
  unfold tiOk at h
  split at h
  · rename_i i d hi hd
    simp only [Bool.and_eq_true] at h
    obtain ⟨⟨⟨⟨⟨⟨h1, h2⟩, h3⟩, h4⟩, h5⟩, h6⟩, h7⟩ := h
    refine ⟨?_, ?_, ?_⟩
    · split at h3
      · rename_i z hz
        simp only [Bool.and_eq_true] at h3
        exact ⟨i, z, hi, by simpa using h1, by simpa using h2, hz, sameVs_eq h3.1, by simpa using h4, by simpa using h3.2⟩
      · cases h3
    · refine ⟨d, hd, by rw [← beq_iff_eq.1 h5]; cases d <;> rfl, ?_⟩
      cases hti : ti.desc with
      | int k => rw [hti] at h6; simp only [descOk] at h6; split at h6 <;> simp_all
      | bool => rw [hti] at h6; simp only [descOk] at h6; split at h6 <;> simp_all
      | str => rw [hti] at h6; simp only [descOk] at h6; split at h6 <;> simp_all
      | slice e => rw [hti] at h6; simp only [descOk] at h6; split at h6 <;> simp_all
      | arr n e =>
        rw [hti] at h6
        simp only [descOk] at h6
        split at h6
        · simp only [Bool.and_eq_true] at h6
          obtain ⟨⟨h8, h9⟩, h10⟩ := h6
          split at h10
          · rename_i j hj
            simp at h8 h9 h10
            subst h8 h9
            exact ⟨rfl, j, hj, h10⟩
          · cases h10
        · cases h6
      | struct fs =>
        rw [hti] at h6
        simp only [descOk] at h6
        split at h6
        · rename_i fa
          obtain ⟨h8, h9⟩ := fieldsOk_spec fs fa.toList h6
          refine ⟨fa, rfl, by simpa using h8, fun j o s hj => ?_⟩
          obtain ⟨f, i', e1, e2⟩ := h9 j o s hj
          exact ⟨f, i', by simpa using e1, e2⟩
        · cases h6
      | other => trivial
    · intro he w x y xs ys hx hy
      rw [he] at h7
      simp only [Bool.not_true, Bool.false_or, Bool.and_eq_true, decide_eq_true_eq, beq_iff_eq] at h7
      obtain ⟨⟨h8, h9⟩, h10⟩ := h7
      have hg := guardT 6 t _ h9 P.depth h10
      have heq := eqIn (w := w) 6 t _ h9 Op.maxDepth (by unfold Op.maxDepth; omega) xs ys hx hy
      simp only [valOf, h8, if_true] at heq
      refine ⟨?_, ?_, ?_, ?_⟩
      · simp [eqGuard, hg]
      · simp [eqGuard, hg]
      · simp [binOp, Op.equal, heq]
      · simp [binOp, Op.equal, heq]
  · cases h

def tabOf : List (Nat × TI) → Tab
  | [], _ => none
  | (j, ti) :: r, t => if t = j then some ti else tabOf r t
def tabOkB (P : Program) : List (Nat × TI) → Bool
  | [] => true
  | (j, ti) :: r => tiOk P j ti && tabOkB P r
theorem tabOk_of : ∀ {l : List (Nat × TI)}, tabOkB P l = true → TabOk P (tabOf l)
  | [], _ => fun t ti h => by simp [tabOf] at h
  | (j, ti) :: r, h => by
    simp only [tabOkB, Bool.and_eq_true] at h
    intro t ti' h'
    simp only [tabOf] at h'
    split at h'
    · rename_i e
      injection h' with h'
      subst e h'
      exact tiOk_ok h.1
    · exact tabOk_of h.2 t ti' h'
end
end Go.Proofs.Ytoocihhnlhehlaa.Den
