/- Ends that are structs or many values. (Part 12) -/
import Derived.Test.YtoocihhnlhehlaaDenk
namespace Go.Proofs.Ytoocihhnlhehlaa.Den
open Go Go.RowKit

/-- What the first cell says the second says, too. -/
structure CLe (c c' : C) : Prop where
  le : ∀ (w : World) (M : Nat → Prop) (u : Value), C.rep w M Gh.none c u → C.rep w M Gh.none c' u
theorem CLe.refl (c : C) : CLe c c := ⟨fun _ _ _ h => h⟩
theorem CLe.eq {c c' : C} (h : c = c') : CLe c c' := h ▸ .refl c
theorem CLe.vi {k : IntKind} {a b : Int} (h : b = a) : CLe (.v (.int k a)) (.v (.int k b)) := .eq (by rw [h])
theorem CLe.vs {a b : ByteArray} (h : b = a) : CLe (.v (.string a)) (.v (.string b)) := .eq (by rw [h])
theorem CLe.vb {a b : Bool} (h : b = a) : CLe (.v (.bool a)) (.b b) := ⟨fun w M u h' => by
  subst h
  simp only [C.rep] at h' ⊢
  exact h'.1⟩
theorem CLe.bb {a b : Bool} (h : b = a) : CLe (.b a) (.b b) := .eq (by rw [h])
theorem CLe.nil {sz n : Nat} {get : Nat → List Value} (h : n = 0) : CLe (.v (.slice none 0 0)) (.sl sz n get) := ⟨fun w M u h' => by
  subst h
  simp only [C.rep] at h' ⊢
  exact ⟨none, 0, h'.1, Nat.le_refl _, fun h0 => absurd h0 (Nat.lt_irrefl _)⟩⟩
theorem CLe.sl {sz n n' : Nat} {get get' : Nat → List Value} (hn : n = n') (h : ∀ j, j < n → get j = get' j) : CLe (.sl sz n get) (.sl sz n' get') := ⟨fun _ _ _ h' => sl_congr hn h h'⟩
inductive CLes : List C → List C → Prop
  | nil : CLes [] []
  | cons {c c' : C} {r r' : List C} : CLe c c' → CLes r r' → CLes (c :: r) (c' :: r')
theorem CLes.reps {w : World} {M : Nat → Prop} : ∀ {cs cs' : List C} {us : List Value}, CLes cs cs' → C.reps w M Gh.none cs us → C.reps w M Gh.none cs' us
  | _, _, us, .nil, h => h
  | _, _, us, .cons h1 h2, h => by
    simp only [C.reps] at h ⊢
    obtain ⟨x, xs, e, h3, h4⟩ := h
    exact ⟨x, xs, e, h1.le w M x h3, h2.reps h4⟩

/-- .. of results: each one of them. -/
structure RLe (d d' : D) : Prop where
  le : ∀ (w w' : World) (X : Nat → Prop) (u : Value), (∀ b, X b → b < w.heap.size) → D.res' w w' X d u → D.res' w w' X d' u
theorem RLe.refl (d : D) : RLe d d := ⟨fun _ _ _ _ _ h => h⟩
theorem RLe.c {c c' : C} (h : CLe c c') : RLe (.c c) (.c c') := ⟨fun w w' X u _ h' => by
  simp only [D.res', D.rep0] at h' ⊢
  exact h.le w' X u h'⟩
theorem RLe.agg {cs cs' : List C} (h : CLes cs cs') : RLe (.agg cs) (.agg cs') := ⟨fun w w' X u _ h' => by
  simp only [D.res', D.rep0] at h' ⊢
  obtain ⟨us, e, h1, h2⟩ := h'
  exact ⟨us, e, h.reps h1, h2⟩⟩
theorem RLe.row_sl {e sz n' : Nat} {xs : Rx} {get' : Nat → List Value} (hn : xs.len = n') (h : ∀ j, j < xs.len → xs.get j = get' j) : RLe (.rowv e sz xs) (.c (.sl sz n' get')) := ⟨fun w w' X u hX h' => by
  simp only [D.res', D.rep0] at h' ⊢
  exact sl_congr hn h (row_slR h'.1 h'.2 hX)⟩
theorem RLe.row {e sz : Nat} {xs ys : Rx} (h : ys.list = xs.list) : RLe (.rowv e sz xs) (.rowv e sz ys) := ⟨fun w w' X u _ h' => by
  simp only [D.res'] at h' ⊢
  rw [h]; exact h'⟩
theorem RLe.nil_row {e sz : Nat} {ys : Rx} (h : ys.list = []) : RLe (.c (.v (.slice none 0 0))) (.rowv e sz ys) := ⟨fun w w' X u _ h' => by
  simp only [D.res', D.rep0, C.rep] at h' ⊢
  rw [h, h'.1]
  exact ⟨⟨by simp, .inl ⟨rfl, rfl⟩⟩, fun x hx => by simp at hx⟩⟩
inductive RLes : List D → List D → Prop
  | nil : RLes [] []
  | cons {c c' : D} {r r' : List D} : RLe c c' → RLes r r' → RLes (c :: r) (c' :: r')
theorem RLes.ress {w w' : World} {X : Nat → Prop} (hX : ∀ b, X b → b < w.heap.size) : ∀ {cs cs' : List D} {us : List Value}, RLes cs cs' → D.ress w w' X cs us → D.ress w w' X cs' us
  | _, _, us, .nil, h => h
  | _, _, us, .cons h1 h2, h => by
    simp only [D.ress] at h ⊢
    obtain ⟨x, xs, e, h3, h4⟩ := h
    exact ⟨x, xs, e, h1.le w w' X x hX h3, h2.ress hX h4⟩
theorem Le.tup {ds ds' : List D} (h : RLes ds ds') : Le (.tup ds) (.tup ds') := ⟨fun w w' X u hX h' => by
  simp only [D.gives] at h' ⊢
  obtain ⟨us, e, h1⟩ := h'
  exact ⟨us, e, h.ress hX h1⟩⟩
theorem Le.agg {cs cs' : List C} (h : CLes cs cs') : Le (.agg cs) (.agg cs') := ⟨fun w w' X u hX h' => (RLe.agg h).le w w' X u hX h'⟩

/-- A slot's nil row becomes a row of the call's own that is empty. -/
theorem Weak.nilF {s : AS} (t e sz : Nat) (h : s.fr.getD t (.c .any) = .c (.v (.slice none 0 0))) :
    Weak s { s with fr := s.fr.set t (.c (.own s.nxt)), mem := (s.nxt, .row e sz (.lit [])) :: s.mem, nxt := s.nxt + 1 } := by
  rintro w0 X b a w ⟨g, hI, hf, hsz, hd, hn, hks⟩
  have hni : ¬ g.dom s.nxt := hn _ (Nat.le_refl _)
  have hw : Below w.heap.size w w := Below.refl _ _
  have hk : ∀ b, blkOf (g.put s.nxt 0 (.slice none 0 0)) s.nxt (some (.row e sz (.lit []))) = some b → w.heap.size ≤ b := by
    intro b hb
    simp [blkOf, Gh.put, Value.ownBlock] at hb
  have hI' := hI.put (b0 := 0) (v := .slice none 0 0) (k := .row e sz (.lit [])) hw hni hk ⟨World.ownsRow_nil w w.heap.size e sz, fun x hx => by simp [Rx.list] at hx⟩
  have hkp := keeps_put hI hw hni hk
  have hg : ∀ k, g.dom k → (g.put s.nxt 0 (.slice none 0 0)).dom k ∧ (g.put s.nxt 0 (.slice none 0 0)).ρ k = g.ρ k := fun k hk => ⟨((Gh.le_put g s.nxt 0 _ hni) k hk).1, ((Gh.le_put g s.nxt 0 _ hni) k hk).2.2⟩
  have hf' := frRep_keep hf hkp fun k _ hk => hg k hk
  have hb' := frRep_keep hks hkp fun k _ hk => hg k hk
  refine ⟨g.put s.nxt 0 (.slice none 0 0), ?_, ?_, by simpa using hsz, hd, fun j hj => ?_, ?_⟩
  · show Inv w0 X _ (look ((s.nxt, .row e sz (.lit [])) :: s.mem)) w
    rw [look_cons]; exact hI'
  · show FrRep w (Mut X _ (look ((s.nxt, .row e sz (.lit [])) :: s.mem))) _ _ _
    rw [look_cons]
    intro t'
    by_cases ht : t' = t
    · subst ht
      have h0 := hf t'
      rw [h] at h0
      simp only [D.rep, D.rep0, C.rep] at h0
      by_cases hl : t' < s.fr.length
      · have e1 : (s.fr.set t' (.c (.own s.nxt))).getD t' (.c .any) = .c (.own s.nxt) := by simp [List.getD, List.getElem?_set_self hl]
        show D.rep _ _ _ ((s.fr.set t' (.c (.own s.nxt))).getD t' (.c .any)) _
        rw [e1]
        simp only [D.rep, Gh.put, if_true]
        exact ⟨.inl trivial, h0.1⟩
      · have e1 : (s.fr.set t' (.c (.own s.nxt))).getD t' (.c .any) = .c .any := by
          rw [List.getD, List.getElem?_eq_none (by simp; omega)]; rfl
        show D.rep _ _ _ ((s.fr.set t' (.c (.own s.nxt))).getD t' (.c .any)) _
        rw [e1]; simp [D.rep, D.rep0, C.rep]
    · have e1 : (s.fr.set t (.c (.own s.nxt))).getD t' (.c .any) = s.fr.getD t' (.c .any) := by simp [List.getD, List.getElem?_set_ne (Ne.symm ht)]
      show D.rep _ _ _ ((s.fr.set t (.c (.own s.nxt))).getD t' (.c .any)) _
      rw [e1]; exact hf' t'
  · have h1 : j ≠ s.nxt := by have : s.nxt + 1 ≤ j := hj; omega
    have h2 := hn j (by have : s.nxt + 1 ≤ j := hj; omega)
    simp [Gh.put, h1, h2]
  · show FrRep w (Mut X _ (look ((s.nxt, .row e sz (.lit [])) :: s.mem))) _ _ _
    rw [look_cons]; exact hb'

/-! ### Cuts behind regions that are read in every order -/
section
variable {A : Ar} {T : Tab} {env : Env} {l : List Oper} {d : Bool} {s : AS} {K : AS → Prop}
theorem hard_eq (keep : List Nat) (fr : List D) (mem : List (Nat × Blk)) (N : Nat) (h1 : regA A T env l d s (fun s' => okF (forget keep N s') = true ∧ ∃ s3, Weak (forget keep N s') s3 ∧ s3 = ⟨fr, mem, N, s.ks⟩)) (h2 : K ⟨fr, mem, N, s.ks⟩) :
    ∃ (keep : List Nat) (N : Nat) (J : AS → Prop), regA A T env l d s (fun s' => okF (forget keep N s') = true ∧ ∃ s3, Weak (forget keep N s') s3 ∧ J s3) ∧ ∀ s3, J s3 → K s3 :=
  ⟨keep, N, fun t => t = ⟨fr, mem, N, s.ks⟩, h1, fun _ h => h ▸ h2⟩
theorem hard_z {ι : Type} (keep : List Nat) (N : Nat) (p : ι → Prop) (f : ι → AS) (h1 : regA A T env l d s (fun s' => okF (forget keep N s') = true ∧ ∃ s3, Weak (forget keep N s') s3 ∧ ∃ z, p z ∧ s3 = f z)) (h2 : ∀ z, p z → K (f z)) :
    ∃ (keep : List Nat) (N : Nat) (J : AS → Prop), regA A T env l d s (fun s' => okF (forget keep N s') = true ∧ ∃ s3, Weak (forget keep N s') s3 ∧ J s3) ∧ ∀ s3, J s3 → K s3 :=
  ⟨keep, N, fun s => ∃ z, p z ∧ s = f z, h1, fun _ ⟨z, hz, e⟩ => e ▸ h2 z hz⟩
theorem lf_eq {s t : AS} (h : Sim s t) : ∃ s3, Weak s s3 ∧ s3 = t := ⟨t, h.weak, rfl⟩
theorem lf_z {ι : Type} {s : AS} {p : ι → Prop} {f : ι → AS} (z : ι) (hp : p z) (h : Sim s (f z)) : ∃ s3, Weak s s3 ∧ ∃ z, p z ∧ s3 = f z := ⟨f z, h.weak, z, hp, rfl⟩
theorem lf_w {ι : Type} {s s1 : AS} {p : ι → Prop} {f : ι → AS} (z : ι) (hp : p z) (hw : Weak s s1) (h : Sim s1 (f z)) : ∃ s3, Weak s s3 ∧ ∃ z, p z ∧ s3 = f z := ⟨f z, hw.trans h.weak, z, hp, rfl⟩
end
end Go.Proofs.Ytoocihhnlhehlaa.Den
