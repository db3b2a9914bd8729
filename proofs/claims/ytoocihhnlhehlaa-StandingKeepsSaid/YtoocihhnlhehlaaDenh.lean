/- An argument that reads as data is an abstract value of its type's shape. (Part 8) -/
import Derived.Test.YtoocihhnlhehlaaDenf
import Derived.ProofKit
import Derived.WalkKit
import Derived.OpenShut
import Derived.ShutString
import Derived.ChangeOld
namespace Go.Proofs.Ytoocihhnlhehlaa.Den
open Go Go.RowKit

/-- What a cell of a type holds: a number, a truth, a string; a slice of rows of such. -/
inductive CS where
  | k (c : CK)
  | sl (e : Nat) (ks : List CK)

def ksOf : List CS → Option (List CK)
  | [] => some []
  | .k c :: r => match ksOf r with
    | some ks => some (c :: ks)
    | none => none
  | .sl _ _ :: _ => none

def shapeFs (P : Program) (r : TypeId → Option (List CS)) : Nat → List Field → Option (List CS)
  | _, [] => some []
  | off, f :: fs => match r f.type with
    | some xs => if f.offset = off ∧ P.cellsOf f.type = xs.length then (match shapeFs P r (off + xs.length) fs with
      | some ys => some (xs ++ ys)
      | none => none) else none
    | none => none
def shape (P : Program) : Nat → TypeId → Option (List CS)
  | 0, _ => none
  | n + 1, t => match P.underlying t with
    | some .bool => some [.k .bool]
    | some (.int k) => some [.k (.int k)]
    | some .string => some [.k .str]
    | some (.slice e) => match shape P n e with
      | some ss => match ksOf ss with
        | some ks => if P.cellsOf e = ks.length ∧ 0 < ks.length then some [.sl e ks] else none
        | none => none
      | none => none
    | some (.struct fs) => match shapeFs P (shape P n) 0 fs.toList with
      | some xs => if P.cellsOf t = xs.length then some xs else none
      | none => none
    | _ => none

def VTy : CK → Value → Prop
  | .int k, v => ∃ n, v = .int k n ∧ (Lit.int k n).wf = true
  | .bool, v => ∃ b, v = .bool b
  | .str, v => ∃ s : ByteArray, v = .string s ∧ s.size ≤ maxLen
def KsOk : List CK → List Value → Prop
  | [], vs => vs = []
  | k :: r, vs => ∃ x xs, vs = x :: xs ∧ VTy k x ∧ KsOk r xs
def CTy : CS → C → Prop
  | .k (.int k), x => ∃ n, x = .v (.int k n) ∧ (Lit.int k n).wf = true
  | .k .bool, x => ∃ b, x = .b b
  | .k .str, x => ∃ s : ByteArray, x = .v (.string s) ∧ s.size ≤ maxLen
  | .sl _ ks, x => ∃ n get, x = .sl ks.length n get ∧ n ≤ maxLen ∧ ∀ j, j < n → KsOk ks (get j)
def Typed : List CS → List C → Prop
  | [], xs => xs = []
  | s :: r, xs => ∃ y ys, xs = y :: ys ∧ CTy s y ∧ Typed r ys

theorem KsOk.length : ∀ (ks : List CK) (vs : List Value), KsOk ks vs → vs.length = ks.length
  | [], _, h => by simp only [KsOk] at h; simp [h]
  | k :: r, _, h => by
    simp only [KsOk] at h
    obtain ⟨x, xs, rfl, _, h⟩ := h
    simp [KsOk.length r xs h]
theorem VTy.one {k : CK} {v : Value} (h : VTy k v) : v.oneCell' = true := by
  cases k <;> simp only [VTy] at h <;> obtain ⟨x, h⟩ := h
  · rw [h.1]; rfl
  · rw [h]; rfl
  · rw [h.1]; rfl
theorem KsOk.one : ∀ (ks : List CK) (vs : List Value), KsOk ks vs → ∀ x ∈ vs, x.oneCell' = true
  | [], _, h => by simp only [KsOk] at h; simp [h]
  | k :: r, _, h => by
    simp only [KsOk] at h
    obtain ⟨x, xs, rfl, h1, h⟩ := h
    intro y hy
    rcases List.mem_cons.1 hy with rfl | hy
    · exact h1.one
    · exact KsOk.one r xs h y hy
theorem Typed.append : ∀ (ss : List CS) (xs : List C) (ss' : List CS) (xs' : List C), Typed ss xs → Typed ss' xs' → Typed (ss ++ ss') (xs ++ xs')
  | [], _, ss', xs', h, h' => by simp only [Typed] at h; simpa [h] using h'
  | s :: r, _, ss', xs', h, h' => by
    simp only [Typed] at h
    obtain ⟨y, ys, rfl, h1, h⟩ := h
    simp only [List.cons_append, Typed]
    exact ⟨y, ys ++ xs', rfl, h1, Typed.append r ys ss' xs' h h'⟩

section
variable {P : Program} {w : World} {M : Nat → Prop} {g : Gh} {H : Type} {enc : TypeId × Value → H} {sp : Nat → Bool} {held : Bool}

theorem Typed.flat : ∀ (ss : List CS) (ks : List CK) (xs : List C) (vs : List Value), ksOf ss = some ks → Typed ss xs → C.reps w M g xs vs → KsOk ks vs
  | [], ks, xs, vs, hk, ht, hr => by
    simp only [ksOf, Option.some.injEq] at hk
    simp only [Typed] at ht
    subst hk ht
    simpa only [C.reps, KsOk] using hr
  | .sl _ _ :: _, ks, xs, vs, hk, ht, hr => by simp [ksOf] at hk
  | .k c :: r, ks, xs, vs, hk, ht, hr => by
    simp only [ksOf] at hk
    split at hk
    · rename_i ks' hks
      injection hk with hk
      subst hk
      simp only [Typed] at ht
      obtain ⟨y, ys, rfl, h1, h2⟩ := ht
      simp only [C.reps] at hr
      obtain ⟨v, vs', rfl, h3, h4⟩ := hr
      simp only [KsOk]
      refine ⟨v, vs', rfl, ?_, Typed.flat r ks' ys vs' hks h2 h4⟩
      cases c with
      | int k => simp only [CTy] at h1; obtain ⟨n, rfl, hn⟩ := h1; simp only [C.rep] at h3; exact ⟨n, h3.1, hn⟩
      | bool => simp only [CTy] at h1; obtain ⟨b, rfl⟩ := h1; simp only [C.rep] at h3; exact ⟨b, h3⟩
      | str => simp only [CTy] at h1; obtain ⟨n, rfl, hn⟩ := h1; simp only [C.rep] at h3; exact ⟨n, h3.1, hn⟩
    · cases hk

theorem shapeFs_reps {r : TypeId → Option (List CS)} {m : Nat} {cs : List Value}
    (ih : ∀ t ss, r t = some ss → ∀ (us : List Value) (x : DataW H × List MemPlace), DataW.trod enc P w 0 sp held m t us = some x → ∃ xs, Typed ss xs ∧ C.reps w M g xs us ∧ ∀ y ∈ us, y.oneCell' = true) :
    ∀ (fs : List Field) (off : Nat) (ss : List CS), shapeFs P r off fs = some ss → (∀ f ∈ fs, ∃ x, DataW.trod enc P w 0 sp held m f.type ((cs.drop f.offset).take (P.cellsOf f.type)) = some x) → off + ss.length = cs.length →
      ∃ xs, Typed ss xs ∧ C.reps w M g xs (cs.drop off) ∧ ∀ y ∈ cs.drop off, y.oneCell' = true
  | [], off, ss, h, _, hl => by
    simp only [shapeFs, Option.some.injEq] at h
    subst h
    have : cs.drop off = [] := List.drop_eq_nil_of_le (by simp at hl; omega)
    rw [this]
    exact ⟨[], by simp [Typed], by simp [C.reps], by simp⟩
  | f :: fs, off, ss, h, hf, hl => by
    simp only [shapeFs] at h
    split at h
    · rename_i xs hxs
      split at h
      · rename_i hof
        split at h
        · rename_i ys hys
          injection h with h
          subst h
          obtain ⟨x, hx⟩ := hf f (by simp)
          obtain ⟨zs, h1, h2, h3⟩ := ih _ _ hxs _ x hx
          simp only [List.length_append] at hl
          obtain ⟨zs', h4, h5, h6⟩ := shapeFs_reps ih fs (off + xs.length) ys hys (fun f' hf' => hf f' (by simp [hf'])) (by omega)
          have e : cs.drop off = (cs.drop off).take xs.length ++ cs.drop (off + xs.length) := by
            rw [← List.drop_drop, List.take_append_drop]
          rw [hof.1, hof.2] at h2 h3
          refine ⟨zs ++ zs', Typed.append _ _ _ _ h1 h4, ?_, ?_⟩
          · rw [e]; exact C.reps_append _ _ _ _ h2 h5
          · rw [e]
            intro y hy
            rcases List.mem_append.1 hy with hy | hy
            · exact h3 y hy
            · exact h6 y hy
        · cases h
      · cases h
    · cases h

theorem shape_reps (hM : ∀ b, ¬ M b) : ∀ (n : Nat) (t : TypeId) (ss : List CS), shape P n t = some ss → ∀ (m : Nat) (cs : List Value) (x : DataW H × List MemPlace), DataW.trod enc P w 0 sp held m t cs = some x →
    ∃ xs, Typed ss xs ∧ C.reps w M g xs cs ∧ ∀ y ∈ cs, y.oneCell' = true
  | 0, _, _, h, _, _, _, _ => by simp [shape] at h
  | n + 1, t, ss, h, m, cs, x, hx => by
    simp only [shape] at h
    split at h
    · rename_i ht
      injection h with h; subst h
      obtain ⟨b, rfl, _⟩ := DataW.trod_bool ht hx
      exact ⟨[.b b], by simp [Typed, CTy], by simp [C.reps, C.rep], by simp [Value.oneCell']⟩
    · rename_i k ht
      injection h with h; subst h
      obtain ⟨b, rfl, _, hb⟩ := DataW.trod_int ht hx
      exact ⟨[.v (.int k b)], by simp [Typed, CTy, hb], by simp [C.reps, C.rep, Value.oneCell'], by simp [Value.oneCell']⟩
    · rename_i ht
      injection h with h; subst h
      obtain ⟨b, rfl, _, hb⟩ := DataW.trod_string ht hx
      exact ⟨[.v (.string b)], by simp [Typed, CTy, hb], by simp [C.reps, C.rep, Value.oneCell'], by simp [Value.oneCell']⟩
    · rename_i e ht
      split at h
      · rename_i ss' hss
        split at h
        · rename_i ks hks
          split at h
          · rename_i hc
            injection h with h; subst h
            rcases DataW.trod_slice ht hx with ⟨rfl, _⟩ | ⟨a, len, cap, elems, rest, n', _, rfl, _, _, hlc, hcm, hel, hcell, _⟩
            · exact ⟨[.sl ks.length 0 fun _ => []], by simp only [Typed, CTy]; exact ⟨_, [], rfl, ⟨0, _, rfl, Nat.zero_le _, fun j hj => absurd hj (Nat.not_lt_zero j)⟩, rfl⟩, by simp [C.reps, C.rep], by simp [Value.oneCell']⟩
            · have key : ∀ j, j < len → ∃ us : List Value, w.cells? 0 (a.add (j * ks.length)) ks.length = some us ∧ KsOk ks us := by
                intro j hj
                have h1 := hcell j hj
                rw [hc.1] at h1
                have h2 : ∃ y, elems[j]? = some y := ⟨elems[j]'(by omega), by simp [show j < elems.length by omega]⟩
                obtain ⟨y, hy⟩ := h2
                rw [hy] at h1
                obtain ⟨us, hu1, hu2⟩ := Option.bind_eq_some_iff.1 h1
                obtain ⟨zs, h3, h4, _⟩ := shape_reps hM n e ss' hss n' us y hu2
                exact ⟨us, hu1, Typed.flat _ _ _ _ hks h3 h4⟩
              refine ⟨[.sl ks.length len fun j => (w.cells? 0 (a.add (j * ks.length)) ks.length).getD []], ?_, ?_, by simp [Value.oneCell']⟩
              · simp only [Typed, CTy]
                refine ⟨_, [], rfl, ⟨len, _, rfl, by omega, fun j hj => ?_⟩, rfl⟩
                obtain ⟨us, h1, h2⟩ := key j hj
                simp only [h1, Option.getD_some]; exact h2
              · simp only [C.reps, C.rep]
                refine ⟨_, [], rfl, ⟨some a, cap, rfl, hlc, fun h0 => ⟨a, rfl, hM _, ?_, fun j hj => ?_⟩⟩, rfl⟩
                · obtain ⟨us, h1, h2⟩ := key 0 h0
                  have h3 := World.cells?_block h1 hc.2
                  rwa [Addr.block_add] at h3
                · obtain ⟨us, h1, h2⟩ := key j hj
                  obtain ⟨_, h3, h4⟩ := World.cells?_some h1
                  simp only [h1, Option.getD_some]
                  refine ⟨h3, fun o y hy => ?_⟩
                  have ho : o < ks.length := by
                    rw [← h3]
                    rcases Nat.lt_or_ge o us.length with h | h
                    · exact h
                    · rw [List.getElem?_eq_none h] at hy; cases hy
                  refine ⟨?_, KsOk.one _ _ h2 y (List.mem_of_getElem? hy)⟩
                  rw [← Addr.add_add, h4 o ho, hy]
          · cases h
        · cases h
      · cases h
    · rename_i fs ht
      split at h
      · rename_i xs hxs
        split at h
        · rename_i hc
          injection h with h; subst h
          obtain ⟨ys, n', rfl, _, hl, hyl, hf⟩ := DataW.trod_struct ht hx
          have := shapeFs_reps (cs := cs) (m := n') (r := shape P n) (enc := enc) (w := w) (M := M) (g := g) (sp := sp) (held := held) (fun t' ss' h' us x' hx' => shape_reps hM n t' ss' h' n' us x' hx') fs.toList 0 xs hxs ?_ (by omega)
          · simpa using this
          · intro f hf'
            obtain ⟨i, hi, rfl⟩ := List.getElem_of_mem hf'
            have hi' : i < fs.size := by simpa using hi
            have h1 := hf i _ (Array.getElem?_eq_getElem hi')
            refine ⟨ys[i]'(by omega), ?_⟩
            rw [← List.getElem?_eq_getElem]
            simpa using h1
        · cases h
      · cases h
    · cases h
end

section
variable {P : Program} {w : World} {H : Type} {enc : TypeId × Value → H} {sp : Nat → Bool} {held : Bool} {t base : Nat} {v : Value} {d : DataW H} {ps : List MemPlace}

/-- A struct that came in. -/
theorem open_struct {n : Nat} {ss : List CS} {fs : Array Field} (hs : shape P n t = some ss) (ht : P.underlying t = some (.struct fs)) (hval : Value.okWide P w .any base t v) (h : DataW.Trod enc P w 0 sp held t v d ps) :
    ∃ xs, Typed ss xs ∧ D.rep0 w (fun _ => False) Gh.none (.agg xs) v := by
  obtain ⟨m, h⟩ := h
  obtain ⟨xs, h1, h2, h3⟩ := shape_reps (M := fun _ => False) (g := Gh.none) (fun _ h => h) n t ss hs m _ _ h
  unfold Value.okWide at hval
  rw [ht] at hval
  obtain ⟨cs, rfl, _⟩ := hval
  refine ⟨xs, h1, ?_⟩
  simp only [D.rep0]
  exact ⟨cs.toList, by simp, by simpa [Value.cells] using h2, by simpa [Value.cells] using h3⟩
/-- One cell that came in. -/
theorem open_cell {n : Nat} {s : CS} (hs : shape P n t = some [s]) (hv : v.oneCell' = true) (h : DataW.Trod enc P w 0 sp held t v d ps) :
    ∃ x, CTy s x ∧ D.rep0 w (fun _ => False) Gh.none (.c x) v := by
  obtain ⟨m, h⟩ := h
  obtain ⟨xs, h1, h2, h3⟩ := shape_reps (M := fun _ => False) (g := Gh.none) (fun _ h => h) n t _ hs m _ _ h
  rw [cells_one hv] at h2
  simp only [Typed] at h1
  obtain ⟨y, ys, rfl, h4, rfl⟩ := h1
  simp only [C.reps] at h2
  obtain ⟨u, us, hu, h5, rfl⟩ := h2
  simp at hu
  subst hu
  exact ⟨y, h4, by simpa only [D.rep0] using h5⟩
theorem one_slice {e : Nat} (ht : P.underlying t = some (.slice e)) (hval : Value.okWide P w .any base t v) : v.oneCell' = true := by
  obtain ⟨a, len, cap, rfl⟩ := WideShapes.okWide_slice ht hval
  rfl
end
end Go.Proofs.Ytoocihhnlhehlaa.Den
