/- An abstract reading of a function's code. (Part 5: control, loops, a function's contract) -/
import Derived.Test.YtoocihhnlhehlaaDeng
namespace Go.Proofs.Ytoocihhnlhehlaa.Den
open Go Go.RowKit

mutual
def C.under (N : Nat) : C → Bool
  | .own k => decide (k < N)
  | .rpt k _ _ _ => decide (k < N)
  | .rsl k _ _ => decide (k < N)
  | .ptr i _ => decide (i < N)
  | .rp cells _ => C.unders N cells
  | .fn _ caps => C.unders N caps
  | _ => true
def C.unders (N : Nat) : List C → Bool
  | [] => true
  | c :: r => c.under N && C.unders N r
end
mutual
def D.under (N : Nat) : D → Bool
  | .c x => x.under N
  | .agg xs => C.unders N xs
  | .tup xs => D.unders N xs
  | .rowv _ _ _ => true
def D.unders (N : Nat) : List D → Bool
  | [] => true
  | d :: r => d.under N && D.unders N r
end
def Blk.under (N : Nat) : Blk → Bool
  | .box _ cs => C.unders N cs
  | .fbx cs => C.unders N cs
  | _ => true

def memBelow (N : Nat) : List (Nat × Blk) → Bool
  | [] => true
  | (i, b) :: r => decide (i < N) && b.under N && memBelow N r

def keepFr (keep : List Nat) : Nat → List D → List D
  | _, [] => []
  | i, d :: r => (if keep.contains i then d else .c .any) :: keepFr keep (i + 1) r
def dropMem (N : Nat) : List (Nat × Blk) → List (Nat × Blk)
  | [] => []
  | (i, b) :: r => if i < N then (i, b) :: dropMem N r else dropMem N r

def forget (keep : List Nat) (N : Nat) (s : AS) : AS := ⟨keepFr keep 0 s.fr, dropMem N s.mem, N, s.ks⟩
def okF (s : AS) : Bool := D.unders s.nxt s.fr && memBelow s.nxt s.mem && D.unders s.nxt s.ks

section
variable {P : Program} {T : Tab} {env : Env} {w0 w : World} {X : Nat → Prop} {s : AS} {a b₀ : Act} {g : Gh} {M M' : Nat → Prop} {N : Nat}

def Gh.cut (g : Gh) (N : Nat) : Gh := ⟨fun i => g.dom i ∧ i < N, g.β, g.ρ⟩

mutual
theorem C.rep_cut (hM : ∀ b, b < w.heap.size → M' b → M b) : ∀ (c : C) (u : Value), c.under N = true → C.rep w M g c u → C.rep w M' (g.cut N) c u
  | .v _, _, _, hr => by simp only [C.rep] at hr ⊢; exact hr
  | .b _, _, _, hr => by simp only [C.rep] at hr ⊢; exact hr
  | .sl sz n get, u, _, hr => by
    simp only [C.rep] at hr ⊢
    obtain ⟨A, c, hu, hc, hn⟩ := hr
    refine ⟨A, c, hu, hc, fun h0 => ?_⟩
    obtain ⟨b, hA, hm, hb, hcell⟩ := hn h0
    exact ⟨b, hA, fun hm' => hm (hM _ hb hm'), hb, hcell⟩
  | .own _, _, _, hr => by simp only [C.rep] at hr
  | .ptr i _, _, hp, hr => by
    simp only [C.under, decide_eq_true_eq] at hp
    simp only [C.rep] at hr ⊢
    exact ⟨⟨hr.1, hp⟩, hr.2⟩
  | .rp cells _, _, hp, hr => by
    simp only [C.under] at hp
    simp only [C.rep] at hr ⊢
    obtain ⟨b, h1, h2, h3, h4⟩ := hr
    exact ⟨b, h1, fun hm => h2 (hM _ h3 hm), h3, C.at_cut hM cells b 0 hp h4⟩
  | .fn _ caps, _, hp, hr => by
    simp only [C.under] at hp
    simp only [C.rep] at hr ⊢
    obtain ⟨us, h1, h2⟩ := hr
    exact ⟨us, h1, C.reps_cut hM caps us hp h2⟩
  | .any, _, _, _ => by simp only [C.rep]
theorem C.at_cut (hM : ∀ b, b < w.heap.size → M' b → M b) : ∀ (cs : List C) (q : Addr) (o : Nat), C.unders N cs = true → C.at_ w M g cs q o → C.at_ w M' (g.cut N) cs q o
  | [], _, _, _, _ => by simp only [C.at_]
  | c :: r, q, o, hp, hr => by
    simp only [C.unders, Bool.and_eq_true] at hp
    simp only [C.at_] at hr ⊢
    obtain ⟨⟨x, h1, h2, h3⟩, h4⟩ := hr
    exact ⟨⟨x, h1, h2, C.rep_cut hM c x hp.1 h3⟩, C.at_cut hM r q (o + 1) hp.2 h4⟩
theorem C.reps_cut (hM : ∀ b, b < w.heap.size → M' b → M b) : ∀ (cs : List C) (us : List Value), C.unders N cs = true → C.reps w M g cs us → C.reps w M' (g.cut N) cs us
  | [], _, _, hr => by simp only [C.reps] at hr ⊢; exact hr
  | c :: r, _, hp, hr => by
    simp only [C.unders, Bool.and_eq_true] at hp
    simp only [C.reps] at hr ⊢
    obtain ⟨x, xs, h1, h2, h3⟩ := hr
    exact ⟨x, xs, h1, C.rep_cut hM c x hp.1 h2, C.reps_cut hM r xs hp.2 h3⟩
end
mutual
theorem D.rep0_cut (hM : ∀ b, b < w.heap.size → M' b → M b) : ∀ (d : D) (u : Value), d.under N = true → D.rep0 w M g d u → D.rep0 w M' (g.cut N) d u
  | .c x, u, hp, hr => by
    simp only [D.under] at hp
    simp only [D.rep0] at hr ⊢
    exact C.rep_cut hM x u hp hr
  | .agg xs, _, hp, hr => by
    simp only [D.under] at hp
    simp only [D.rep0] at hr ⊢
    obtain ⟨us, h1, h2, h3⟩ := hr
    exact ⟨us, h1, C.reps_cut hM xs us hp h2, h3⟩
  | .tup xs, _, hp, hr => by
    simp only [D.under] at hp
    simp only [D.rep0] at hr ⊢
    obtain ⟨us, h1, h2⟩ := hr
    exact ⟨us, h1, D.reps_cut hM xs us hp h2⟩
  | .rowv _ _ _, _, _, hr => by simp only [D.rep0] at hr
theorem D.reps_cut (hM : ∀ b, b < w.heap.size → M' b → M b) : ∀ (ds : List D) (us : List Value), D.unders N ds = true → D.reps w M g ds us → D.reps w M' (g.cut N) ds us
  | [], _, _, hr => by simp only [D.reps] at hr ⊢; exact hr
  | d :: r, _, hp, hr => by
    simp only [D.unders, Bool.and_eq_true] at hp
    simp only [D.reps] at hr ⊢
    obtain ⟨x, xs, h1, h2, h3⟩ := hr
    exact ⟨x, xs, h1, D.rep0_cut hM d x hp.1 h2, D.reps_cut hM r xs hp.2 h3⟩
end
theorem D.rep_cut (hM : ∀ b, b < w.heap.size → M' b → M b) (d : D) (u : Value) (hp : d.under N = true) (hr : D.rep w M g d u) : D.rep w M' (g.cut N) d u := by
  cases d with
  | c x =>
    cases x with
    | own k =>
      simp only [D.under, C.under, decide_eq_true_eq] at hp
      exact ⟨⟨hr.1, hp⟩, hr.2⟩
    | rpt k i sz off =>
      simp only [D.under, C.under, decide_eq_true_eq] at hp
      obtain ⟨h1, h2⟩ := hr
      exact ⟨⟨h1, hp⟩, h2⟩
    | rsl k lo sz =>
      simp only [D.under, C.under, decide_eq_true_eq] at hp
      obtain ⟨h1, h2⟩ := hr
      exact ⟨⟨h1, hp⟩, h2⟩
    | _ => exact D.rep0_cut hM _ u hp hr
  | _ => exact D.rep0_cut hM _ u hp hr
theorem C.repB_cut (hM : ∀ b, b < w.heap.size → M' b → M b) (c : C) (u : Value) (hp : c.under N = true) (hr : C.repB w M g c u) : C.repB w M' (g.cut N) c u := by
  cases c with
  | own k =>
    simp only [C.under, decide_eq_true_eq] at hp
    exact ⟨⟨hr.1, hp⟩, hr.2⟩
  | _ => exact C.rep_cut hM _ u hp hr
theorem C.repsB_cut (hM : ∀ b, b < w.heap.size → M' b → M b) : ∀ (cs : List C) (us : List Value), C.unders N cs = true → C.repsB w M g cs us → C.repsB w M' (g.cut N) cs us
  | [], _, _, hr => by simp only [C.repsB] at hr ⊢; exact hr
  | c :: r, _, hp, hr => by
    simp only [C.unders, Bool.and_eq_true] at hp
    simp only [C.repsB] at hr ⊢
    obtain ⟨x, xs, h1, h2, h3⟩ := hr
    exact ⟨x, xs, h1, C.repB_cut hM c x hp.1 h2, C.repsB_cut hM r xs hp.2 h3⟩

theorem look_drop (N : Nat) : ∀ (m : List (Nat × Blk)) (i : Nat), look (dropMem N m) i = if i < N then look m i else none
  | [], i => by simp [dropMem, look]
  | (j, b) :: r, i => by
    simp only [dropMem]
    split
    · rename_i h
      simp only [look]
      split
      · rename_i hij; subst hij; simp [h]
      · exact look_drop N r i
    · rename_i h
      rw [look_drop N r i]
      simp only [look]
      split
      · rename_i hi
        rw [if_neg (by intro e; subst e; exact h hi)]
      · rfl
theorem memBelow_spec (N : Nat) : ∀ (m : List (Nat × Blk)), memBelow N m = true → ∀ (i : Nat) (b : Blk), look m i = some b → b.under N = true
  | [], _, i, b, h => by simp [look] at h
  | (j, b') :: r, hm, i, b, h => by
    simp only [memBelow, Bool.and_eq_true] at hm
    simp only [look] at h
    split at h
    · injection h with h; subst h; exact hm.1.2
    · exact memBelow_spec N r hm.2 i b h
theorem keepFr_get (keep : List Nat) : ∀ (fr : List D) (i t : Nat), (keepFr keep i fr).getD t (.c .any) = .c .any ∨ (keepFr keep i fr).getD t (.c .any) = fr.getD t (.c .any)
  | [], i, t => .inl (by simp [keepFr])
  | d :: r, i, t => by
    cases t with
    | zero =>
      simp only [keepFr]
      split
      · exact .inr rfl
      · exact .inl rfl
    | succ t => simpa [keepFr] using keepFr_get keep r (i + 1) t
theorem keepFr_len (keep : List Nat) : ∀ (fr : List D) (i : Nat), (keepFr keep i fr).length = fr.length
  | [], _ => rfl
  | d :: r, i => by simp [keepFr, keepFr_len keep r]
theorem belows_get (N : Nat) : ∀ (fr : List D), D.unders N fr = true → ∀ t, (fr.getD t (.c .any)).under N = true
  | [], _, t => by simp [D.under, C.under]
  | d :: r, h, t => by
    simp only [D.unders, Bool.and_eq_true] at h
    cases t with
    | zero => exact h.1
    | succ t => simpa using belows_get N r h.2 t

theorem St.forget (h : St w0 X b₀ s a w) (keep : List Nat) (N : Nat) (hok : okF (forget keep N s) = true) : St w0 X b₀ (forget keep N s) a w := by
  obtain ⟨g, hI, hf, hsz, hd, hn, hks⟩ := h
  simp only [okF, Bool.and_eq_true] at hok
  have hlk : ∀ i, look (dropMem N s.mem) i = if i < N then look s.mem i else none := look_drop N s.mem
  have hb : ∀ i b, look (dropMem N s.mem) i = some b → look s.mem i = some b ∧ i < N ∧ b.under N = true := by
    intro i b hi
    have h1 := memBelow_spec N _ hok.1.2 i b hi
    rw [hlk] at hi
    split at hi
    · rename_i h2; exact ⟨hi, h2, h1⟩
    · cases hi
  have hblk : ∀ i b, blkOf (g.cut N) i (look (dropMem N s.mem) i) = some b → blkOf g i (look s.mem i) = some b := by
    intro i b hi
    cases hl : look (dropMem N s.mem) i with
    | none => rw [hl] at hi; cases hi
    | some k =>
      rw [(hb i k hl).1]
      rw [hl] at hi
      cases k <;> exact hi
  have hM : ∀ b, b < w.heap.size → Mut X (g.cut N) (look (dropMem N s.mem)) b → Mut X g (look s.mem) b := by
    rintro b _ (h1 | ⟨i, h1⟩)
    · exact .inl h1
    · exact .inr ⟨i, hblk i b h1⟩
  refine ⟨g.cut N, ⟨hI.below, hI.hX, ?_, ?_, ?_, ?_, ?_⟩, ?_, by rw [hsz]; exact (keepFr_len _ _ _).symm, hd, fun i hi hd' => by have := hd'.2; have : N ≤ i := hi; omega, ?_⟩
  · intro i t cs hi
    obtain ⟨h1, h2, h3⟩ := hb i _ hi
    obtain ⟨e0, e1, us, e2, e3, e4⟩ := hI.box i t cs h1
    exact ⟨⟨e0, h2⟩, e1, us, e2, C.repsB_cut hM cs us h3 e3, e4⟩
  · intro i e sz xs hi
    obtain ⟨h1, h2, _⟩ := hb i _ hi
    obtain ⟨e0, e1, e2⟩ := hI.row i e sz xs h1
    exact ⟨⟨e0, h2⟩, e1, e2⟩
  · intro i sz n get hi
    obtain ⟨h1, h2, _⟩ := hb i _ hi
    obtain ⟨e0, e1⟩ := hI.fsl i sz n get h1
    exact ⟨⟨e0, h2⟩, C.rep_cut hM _ _ rfl e1⟩
  · intro i cs hi
    obtain ⟨h1, h2, h3⟩ := hb i _ hi
    obtain ⟨e0, e1, e2, e3⟩ := hI.fbx i cs h1
    exact ⟨⟨e0, h2⟩, fun hm => e1 (hM _ e2 hm), e2, C.at_cut hM cs _ _ h3 e3⟩
  · intro i j b hne hi hj
    exact hI.inj i j b hne (hblk i b hi) (hblk j b hj)
  · intro t
    have h1 := belows_get N _ hok.1.1 t
    have h2 := hf t
    rcases keepFr_get keep s.fr 0 t with h3 | h3
    · have h3' : (Den.forget keep N s).fr.getD t (.c .any) = .c .any := h3
      rw [h3']; simp [D.rep, D.rep0, C.rep]
    · have h3' : (Den.forget keep N s).fr.getD t (.c .any) = s.fr.getD t (.c .any) := h3
      rw [h3'] at h1 ⊢
      exact D.rep_cut hM _ _ h1 h2
  · intro t
    exact D.rep_cut hM _ _ (belows_get N _ hok.2 t) (hks t)

/-- The same block, told in other words. -/
def simB : Blk → Blk → Prop
  | .row e sz xs, .row e' sz' ys => e = e' ∧ sz = sz' ∧ xs.list = ys.list
  | b, b' => b = b'
def simO : Option Blk → Option Blk → Prop
  | some b, some b' => simB b b'
  | none, none => True
  | _, _ => False
def simM : List (Nat × Blk) → List (Nat × Blk) → Prop
  | [], [] => True
  | (i, b) :: r, (i', b') :: r' => i = i' ∧ simB b b' ∧ simM r r'
  | _, _ => False
structure Sim (s s' : AS) : Prop where
  fr : s'.fr = s.fr
  mem : simM s.mem s'.mem
  nxt : s'.nxt = s.nxt
  ks : s'.ks = s.ks
theorem simB_rfl (b : Blk) : simB b b := by cases b <;> simp [simB]
theorem simM_rfl : ∀ m, simM m m
  | [] => trivial
  | (_, b) :: r => ⟨rfl, simB_rfl b, simM_rfl r⟩
theorem Sim.refl (s : AS) : Sim s s := ⟨rfl, simM_rfl _, rfl, rfl⟩
theorem simM_look : ∀ (m m' : List (Nat × Blk)), simM m m' → ∀ i, simO (look m i) (look m' i)
  | [], [], _, _ => by simp [look, simO]
  | [], _ :: _, h, _ => h.elim
  | _ :: _, [], h, _ => h.elim
  | (j, b) :: r, (j', b') :: r', ⟨hj, hb, hr⟩, i => by
    subst hj
    simp only [look]
    split
    · exact hb
    · exact simM_look r r' hr i
theorem simO_blk {g : Gh} {i : Nat} {x y : Option Blk} (h : simO x y) : blkOf g i y = blkOf g i x := by
  cases x with
  | none => cases y with
    | none => rfl
    | some _ => exact h.elim
  | some b => cases y with
    | none => exact h.elim
    | some b' =>
      cases b <;> cases b' <;> simp only [simO, simB, reduceCtorEq] at h <;> simp_all [blkOf]
theorem simO_row {x : Option Blk} {e sz : Nat} {ys : Rx} (h : simO x (some (.row e sz ys))) : ∃ xs, x = some (.row e sz xs) ∧ xs.list = ys.list := by
  cases x with
  | none => exact h.elim
  | some b =>
    cases b <;> simp only [simO, simB, reduceCtorEq] at h
    obtain ⟨rfl, rfl, h⟩ := h
    exact ⟨_, rfl, h⟩
theorem simO_other {x : Option Blk} {b : Blk} (h : simO x (some b)) (hb : ∀ e sz ys, b ≠ .row e sz ys) : x = some b := by
  cases x with
  | none => exact h.elim
  | some b' =>
    cases b' <;> cases b <;> simp_all [simO, simB]
theorem Inv.sim {lk lk' : Nat → Option Blk} (h : Inv w0 X g lk w) (hs : ∀ i, simO (lk i) (lk' i)) : Inv w0 X g lk' w ∧ Mut X g lk' = Mut X g lk := by
  have hM : Mut X g lk' = Mut X g lk := by
    funext b
    simp only [Mut, fun i => simO_blk (g := g) (i := i) (hs i)]
  refine ⟨⟨h.below, h.hX, ?_, ?_, ?_, ?_, ?_⟩, hM⟩
  · intro i t cs hi
    have := hs i
    rw [hi] at this
    rw [hM]
    exact h.box i t cs (simO_other this (by intros; simp))
  · intro i e sz ys hi
    have := hs i
    rw [hi] at this
    obtain ⟨xs, hx, hl⟩ := simO_row this
    rw [← hl]
    exact h.row i e sz xs hx
  · intro i sz n get hi
    have := hs i
    rw [hi] at this
    rw [hM]
    exact h.fsl i sz n get (simO_other this (by intros; simp))
  · intro i cs hi
    have := hs i
    rw [hi] at this
    rw [hM]
    exact h.fbx i cs (simO_other this (by intros; simp))
  · intro i j b hne h1 h2
    rw [simO_blk (hs i)] at h1
    rw [simO_blk (hs j)] at h2
    exact h.inj i j b hne h1 h2
theorem St.sim {s' : AS} (h : St w0 X b₀ s a w) (hs : Sim s s') : St w0 X b₀ s' a w := by
  obtain ⟨g, hI, hf, hsz, hd, hn, hks⟩ := h
  obtain ⟨h1, h2⟩ := hI.sim (simM_look _ _ hs.mem)
  refine ⟨g, h1, ?_, ?_, hd, ?_, ?_⟩
  · rw [h2, hs.fr]; exact hf
  · rw [hs.fr]; exact hsz
  · rw [hs.nxt]; exact hn
  · rw [h2, hs.ks]; exact hks

/-- What the first says of the machine, the second says, too. -/
def Weak (s s' : AS) : Prop := ∀ (w0 : World) (X : Nat → Prop) (b a : Act) (w : World), St w0 X b s a w → St w0 X b s' a w
theorem Sim.weak {s s' : AS} (h : Sim s s') : Weak s s' := fun _ _ _ _ _ hs => hs.sim h
theorem Weak.refl (s : AS) : Weak s s := fun _ _ _ _ _ h => h
theorem Weak.trans {s s' s'' : AS} (h : Weak s s') (k : Weak s' s'') : Weak s s'' := fun _ _ _ _ _ hs => k _ _ _ _ _ (h _ _ _ _ _ hs)

theorem C.repsB_at {w : World} {M : Nat → Prop} {g : Gh} {c' : C} : ∀ (cs : List C) (us : List Value) (i : Nat) (c : C), C.repsB w M g cs us → cs[i]? = some c → (∀ u, C.repB w M g c u → C.repB w M g c' u) → C.repsB w M g (cs.set i c') us
  | [], _, i, c, _, h, _ => by simp at h
  | d :: r, _, 0, c, hr, h, hc => by
    simp only [C.repsB] at hr
    obtain ⟨x, xs, rfl, h1, h2⟩ := hr
    simp at h
    subst h
    simp only [List.set_cons_zero, C.repsB]
    exact ⟨x, xs, rfl, hc x h1, h2⟩
  | d :: r, _, i + 1, c, hr, h, hc => by
    simp only [C.repsB] at hr
    obtain ⟨x, xs, rfl, h1, h2⟩ := hr
    simp only [List.set_cons_succ, C.repsB]
    exact ⟨x, xs, rfl, h1, C.repsB_at r xs i c h2 (by simpa using h) hc⟩
/-- A variable's nil row becomes a row of the call's own that is empty. -/
theorem Weak.nil {s : AS} (i off t e sz : Nat) (cs : List C) (h : look s.mem i = some (.box t cs)) (hc : cs[off]? = some (.v (.slice none 0 0))) :
    Weak s { s with mem := (s.nxt, .row e sz (.lit [])) :: upd s.mem i (.box t (cs.set off (.own s.nxt))), nxt := s.nxt + 1 } := by
  rintro w0 X b a w ⟨g, hI, hf, hsz, hd, hn, hks⟩
  have hni : ¬ g.dom s.nxt := hn _ (Nat.le_refl _)
  have hne : i ≠ s.nxt := fun e => hni (e ▸ (hI.box i t cs h).1)
  have hw : Below w.heap.size w w := Below.refl _ _
  have hk : ∀ b, blkOf (g.put s.nxt 0 (.slice none 0 0)) s.nxt (some (.row e sz (.lit []))) = some b → w.heap.size ≤ b := by
    intro b hb
    simp [blkOf, Gh.put, Value.ownBlock] at hb
  have hI' := hI.put (b0 := 0) (v := .slice none 0 0) (k := .row e sz (.lit [])) hw hni hk ⟨World.ownsRow_nil w w.heap.size e sz, fun x hx => by simp [Rx.list] at hx⟩
  have hkp := keeps_put hI hw hni hk
  have hg : ∀ k, g.dom k → (g.put s.nxt 0 (.slice none 0 0)).dom k ∧ (g.put s.nxt 0 (.slice none 0 0)).ρ k = g.ρ k := fun k hk => ⟨((Gh.le_put g s.nxt 0 _ hni) k hk).1, ((Gh.le_put g s.nxt 0 _ hni) k hk).2.2⟩
  have hf' := frRep_keep hf hkp fun k _ hk => hg k hk
  have hb' := frRep_keep hks hkp fun k _ hk => hg k hk
  have hlk : look ((s.nxt, .row e sz (.lit [])) :: upd s.mem i (.box t (cs.set off (.own s.nxt)))) = updL (updL (look s.mem) s.nxt (some (.row e sz (.lit [])))) i (some (.box t (cs.set off (.own s.nxt)))) := by
    rw [look_cons, look_upd _ _ _ (by rw [h]; rfl)]
    funext j
    simp only [updL]
    by_cases h1 : j = s.nxt
    · subst h1; simp [Ne.symm hne]
    · simp [h1]
  have hli : updL (look s.mem) s.nxt (some (.row e sz (.lit []))) i = some (.box t cs) := by simp [updL, hne, h]
  have hsame : ∀ j, blkOf (g.put s.nxt 0 (.slice none 0 0)) j (updL (updL (look s.mem) s.nxt (some (.row e sz (.lit [])))) i (some (.box t (cs.set off (.own s.nxt)))) j) = blkOf (g.put s.nxt 0 (.slice none 0 0)) j (updL (look s.mem) s.nxt (some (.row e sz (.lit []))) j) := by
    intro j
    by_cases hj : j = i
    · subst hj; rw [hli]; simp [updL, blkOf]
    · simp [updL, hj]
  have hM : Mut X (g.put s.nxt 0 (.slice none 0 0)) (updL (updL (look s.mem) s.nxt (some (.row e sz (.lit [])))) i (some (.box t (cs.set off (.own s.nxt))))) = Mut X (g.put s.nxt 0 (.slice none 0 0)) (updL (look s.mem) s.nxt (some (.row e sz (.lit [])))) := by
    funext b
    simp only [Mut, hsame]
  refine ⟨g.put s.nxt 0 (.slice none 0 0), ?_, ?_, hsz, hd, fun j hj => ?_, ?_⟩
  · show Inv w0 X _ (look ((s.nxt, .row e sz (.lit [])) :: upd s.mem i (.box t (cs.set off (.own s.nxt))))) w
    rw [hlk]
    refine ⟨hI'.below, hI'.hX, ?_, ?_, ?_, ?_, ?_⟩
    · intro j t' cs' hj
      rw [hM]
      by_cases hji : j = i
      · subst hji
        simp only [updL, if_true, Option.some.injEq, Blk.box.injEq] at hj
        obtain ⟨rfl, rfl⟩ := hj
        obtain ⟨e0, e1, us, e2, e3, e4⟩ := hI'.box j t cs hli
        refine ⟨e0, e1, us, e2, C.repsB_at cs us off _ e3 hc (fun u hu => ?_), e4⟩
        simp only [C.repB, C.rep] at hu
        simp only [C.repB, Gh.put, if_true]
        exact ⟨.inl trivial, hu.1⟩
      · rw [show updL (updL (look s.mem) s.nxt (some (.row e sz (.lit [])))) i (some (.box t (cs.set off (.own s.nxt)))) j = updL (look s.mem) s.nxt (some (.row e sz (.lit []))) j by simp [updL, hji]] at hj
        exact hI'.box j t' cs' hj
    · intro j e' sz' xs hj
      by_cases hji : j = i
      · subst hji; simp [updL] at hj
      · rw [show updL (updL (look s.mem) s.nxt (some (.row e sz (.lit [])))) i (some (.box t (cs.set off (.own s.nxt)))) j = updL (look s.mem) s.nxt (some (.row e sz (.lit []))) j by simp [updL, hji]] at hj
        exact hI'.row j e' sz' xs hj
    · intro j sz' n get hj
      rw [hM]
      by_cases hji : j = i
      · subst hji; simp [updL] at hj
      · rw [show updL (updL (look s.mem) s.nxt (some (.row e sz (.lit [])))) i (some (.box t (cs.set off (.own s.nxt)))) j = updL (look s.mem) s.nxt (some (.row e sz (.lit []))) j by simp [updL, hji]] at hj
        exact hI'.fsl j sz' n get hj
    · intro j cs' hj
      rw [hM]
      by_cases hji : j = i
      · subst hji; simp [updL] at hj
      · rw [show updL (updL (look s.mem) s.nxt (some (.row e sz (.lit [])))) i (some (.box t (cs.set off (.own s.nxt)))) j = updL (look s.mem) s.nxt (some (.row e sz (.lit []))) j by simp [updL, hji]] at hj
        exact hI'.fbx j cs' hj
    · intro j1 j2 b hne' h1 h2
      rw [hsame] at h1 h2
      exact hI'.inj j1 j2 b hne' h1 h2
  · show FrRep w (Mut X _ (look ((s.nxt, .row e sz (.lit [])) :: upd s.mem i (.box t (cs.set off (.own s.nxt)))))) _ _ _
    rw [hlk, hM]; exact hf'
  · have h1 : j ≠ s.nxt := by have : s.nxt + 1 ≤ j := hj; omega
    have h2 := hn j (by have : s.nxt + 1 ≤ j := hj; omega)
    simp [Gh.put, h1, h2]
  · show FrRep w (Mut X _ (look ((s.nxt, .row e sz (.lit [])) :: upd s.mem i (.box t (cs.set off (.own s.nxt)))))) _ _ _
    rw [hlk, hM]; exact hb'

/-- A loop by a relation that counts down. -/
theorem wp_loop_ix {c : Code} {Q : Exit → Act → World → Prop} (I : Nat → Act → World → Prop) {n : Nat} (h₀ : I n a w)
    (round : ∀ n a w, I n a w → c.wp P (Exit.then (fun a' w' => ∃ m, m < n ∧ I m a' w') Q) a w) : (Code.loop c).wp P Q a w := by
  intro b k cs
  have key : ∀ n a w, I n a w →
      ∃ e a' w', Q e a' w' ∧ Arrives P (lone (b.at a (.code c :: .inLoop c :: k)) cs w) b k cs e a' w' := by
    intro n
    induction n using Nat.strongRecOn with
    | _ n ih =>
      intro a w hI
      obtain ⟨e, a₁, w₁, hq, harr⟩ := round n a w hI b (.inLoop c :: k) cs
      cases e with
      | normal =>
        obtain ⟨m, hlt, hI₁⟩ := hq
        obtain ⟨e₂, a₂, w₂, hq₂, harr₂⟩ := ih m hlt a₁ w₁ hI₁
        exact ⟨e₂, a₂, w₂, hq₂, .of_steps (Steps.trans harr (.one step_inLoop)) harr₂⟩
      | exit id => exact ⟨_, a₁, w₁, hq, .pass (x := .inLoop c) rfl (fun _ _ => .inl (by simp)) harr⟩
      | goto l => exact ⟨_, a₁, w₁, hq, .pass (x := .inLoop c) rfl (fun _ _ => .inl (by simp)) harr⟩
      | ret => exact ⟨_, a₁, w₁, hq, .pass (x := .inLoop c) rfl (fun _ _ => .inl (by simp)) harr⟩
      | panic ch => exact ⟨_, a₁, w₁, hq, .pass (x := .inLoop c) rfl (fun _ _ => .inl (by simp)) harr⟩
      | outgrown => exact ⟨_, a₁, w₁, hq, .pass (x := .inLoop c) rfl (fun _ _ => .inl (by simp)) harr⟩
  obtain ⟨e, a', w', hq, harr⟩ := key _ a w h₀
  exact ⟨e, a', w', hq, .of_steps (.one step_loop) harr⟩

end

def drawsOkX (hard : List Nat) : Code → Bool
  | .region id ops true => hard.contains id || drawOk ops.toList
  | .seq x y => drawsOkX hard x && drawsOkX hard y
  | .cond _ x y => drawsOkX hard x && drawsOkX hard y
  | .block _ c => drawsOkX hard c
  | .loop c => drawsOkX hard c
  | _ => true

abbrev drawsOk (c : Code) : Bool := drawsOkX [] c

/-! ### A region in every order, and a cut behind it -/
def allI : List Nat → (Nat → Prop) → Prop
  | [], _ => True
  | [i], p => p i
  | i :: r, p => p i ∧ allI r p
theorem allI_mem : ∀ (l : List Nat) (p : Nat → Prop), allI l p → ∀ i ∈ l, p i
  | [], _, _, i, hi => by cases hi
  | [j], p, h, i, hi => by simp at hi; subst hi; exact h
  | j :: j' :: r, p, h, i, hi => by
    rcases List.mem_cons.1 hi with rfl | hi
    · exact h.1
    · exact allI_mem (j' :: r) p h.2 i hi
def readyL (l : List Oper) (done : List Bool) : List Nat :=
  (List.range l.length).filter fun i => !(done.getD i true) && (match l[i]? with
    | some o => o.after.toList.all fun e => !Region.binds .any e || done.getD e.on false
    | none => false)
/-- An operation whose value no memory decides, and that value. -/
def inertA (T : Tab) (s : AS) (o : Oper) : Option D := match o.op with
  | .move x => some (ev s.mem s.fr x)
  | .assign x => some (ev s.mem s.fr x)
  | .nilCheck x => match ev s.mem s.fr x with
    | .c (.ptr i off) => some (.c (.ptr i off))
    | .c (.rp cs off) => some (.c (.rp cs off))
    | .c (.rpt k i sz off) => some (.c (.rpt k i sz off))
    | _ => none
  | .fieldAddr t x f => match descOf T t with
    | .struct fs => match fs[f]? with
      | some (o, _) => match ev s.mem s.fr x with
        | .c (.ptr i off) => some (.c (.ptr i (off + o)))
        | .c (.rp cs off) => some (.c (.rp cs (off + o)))
        | .c (.rpt k i sz off) => some (.c (.rpt k i sz (off + o)))
        | _ => none
      | none => none
    | _ => none
  | _ => none
def noSelL (l : List Oper) : Bool := l.all fun o => match o.op with | .select .. => false | _ => true
def looksL (l : List Oper) (o : Oper) : List Tmp :=
  (o.op.operands.toList.filterMap fun | .tmp t => some t | _ => none) ++
  (match o.guard with
   | some (g, _) => ((l[g]?).bind (·.dst)).toList
   | none => [])
def apartL (l : List Oper) (x y : Oper) : Bool :=
  (match x.dst with
   | some d => !(looksL l y).contains d && y.dst != some d
   | none => true) &&
  (match y.dst with
   | some d => !(looksL l x).contains d
   | none => true)
def freeL (l : List Oper) (done : List Bool) (i : Nat) : Bool :=
  match l[i]? with
  | none => false
  | some oi => (List.range l.length).all fun j => j == i || done.getD j true || match l[j]? with
      | some oj => oj.after.toList.any (fun e => Region.binds .any e && e.on == i) || apartL l oi oj
      | none => true
def firstInert (T : Tab) (l : List Oper) (done : List Bool) (s : AS) : List Nat → Option (Nat × Option Nat × D)
  | [] => none
  | i :: r => match l[i]? with
    | some o => match o.guard, inertA T s o with
      | none, some d => match freeL l done i with
        | true => some (i, o.dst, d)
        | false => firstInert T l done s r
      | _, _ => firstInert T l done s r
    | none => firstInert T l done s r
def anyA (A : Ar) (T : Tab) (env : Env) (l : List Oper) : Nat → List Bool → AS → (AS → Prop) → Prop
  | 0, done, s, K => readyL l done = [] ∧ K s
  | f + 1, done, s, K => match readyL l done with
    | [] => K s
    | r => match noSelL l, firstInert T l done s r with
      | true, some (i, dst, d) => anyA A T env l f (done.set i true) { s with fr := put s.fr dst d } K
      | _, _ => allI r fun i => match l[i]? with
        | some o => astep A T env l o s (fun s' => anyA A T env l f (done.set i true) s' K)
        | none => False
def regA (A : Ar) (T : Tab) (env : Env) (l : List Oper) (d : Bool) (s : AS) (K : AS → Prop) : Prop :=
  match d with
  | false => aops A T env l l s K
  | true => anyA A T env l l.length (List.replicate l.length false) s K

def awp (A : Ar) (T : Tab) (env : Env) : Code → AS → (Exit → AS → Prop) → Prop
  | .skip, s, Q => Q .normal s
  | .region id ops d, s, Q => match env.hard.contains id, d with
    | true, d => ∃ (keep : List Nat) (N : Nat) (J : AS → Prop), regA A T env ops.toList d s (fun s' => okF (forget keep N s') = true ∧ ∃ s3, Weak (forget keep N s') s3 ∧ J s3) ∧ ∀ s3, J s3 → Q .normal s3
    | false, false => aops A T env ops.toList ops.toList s (Q .normal)
    | false, true => drawA A T env ops.toList s (Q .normal)
  | .seq x y, s, Q => awp A T env x s (fun e s' => match e with
    | .normal => awp A T env y s' Q
    | e => Q e s')
  | .cond c x y, s, Q => match ev s.mem s.fr c with
    | .c (.v (.bool true)) => awp A T env x s Q
    | .c (.v (.bool false)) => awp A T env y s Q
    | .c (.b t) => (t = true → awp A T env x s Q) ∧ (t = false → awp A T env y s Q)
    | _ => False
  | .block id c, s, Q => awp A T env c s (fun e s' => match e with
    | .exit i => match i == id with
      | true => Q .normal s'
      | false => Q (.exit i) s'
    | e => Q e s')
  | .exit i, s, Q => Q (.exit i) s
  | .ret, s, Q => Q .ret s
  | .label _, s, Q => Q .normal s
  | .loop c, s, Q => ∃ (keep : List Nat) (I : Nat → AS → Prop) (n : Nat), okF (forget keep s.nxt s) = true ∧ (∃ s3, Weak (forget keep s.nxt s) s3 ∧ I n s3) ∧
      ∀ n s', I n s' → awp A T env c s' (fun e s'' => match e with
        | .normal => okF (forget keep s.nxt s'') = true ∧ ∃ m, m < n ∧ ∃ s3, Weak (forget keep s.nxt s'') s3 ∧ I m s3
        | e => Q e s'')
  | _, _, _ => False

section
variable {P : Program} {T : Tab} {env : Env} {w0 : World} {X : Nat → Prop} {b₀ : Act}

theorem ready_iff {ops : Array Oper} {listed : Array Bool} {i : Nat} : i ∈ Region.ready .any ops listed ↔ i ∈ readyL ops.toList listed.toList := by
  rw [mem_ready]
  have hd : ∀ (k : Nat) (d : Bool), listed.toList.getD k d = listed.getD k d := fun k d => by
    simp [List.getD, Array.getD_eq_getD_getElem?]
  unfold readyL
  simp only [List.mem_filter, List.mem_range, Array.length_toList, Array.getElem?_toList, hd, Bool.and_eq_true, Bool.not_eq_true']
  constructor
  · rintro ⟨h1, o, h2, h3⟩
    refine ⟨?_, h1, ?_⟩
    · rcases Nat.lt_or_ge i ops.size with h | h
      · exact h
      · rw [Array.getElem?_eq_none h] at h2; cases h2
    · rw [h2]
      simp only [List.all_eq_true, Bool.or_eq_true, Bool.not_eq_true']
      intro e he
      cases hb : Region.binds .any e with
      | false => exact .inl rfl
      | true => exact .inr (h3 e (by simpa using he) hb)
  · rintro ⟨h1, h2, h3⟩
    refine ⟨h2, ops[i], by simp [h1], fun e he hb => ?_⟩
    rw [show ops[i]? = some ops[i] by simp [h1]] at h3
    simp only [List.all_eq_true, Bool.or_eq_true, Bool.not_eq_true'] at h3
    rcases h3 e (by simpa using he) with h | h
    · rw [hb] at h; cases h
    · exact h
theorem inert_ok (hT : TabOk P T) {s : AS} {a : Act} {w : World} {o : Oper} {d : D} {g : Gh} (hI : Inv w0 X g (look s.mem) w) (hf : FrRep w (Mut X g (look s.mem)) g s.fr a) (h : inertA T s o = some d) :
    ∃ v, (∀ w', (execOp a.eval o).run P w' = .ok (.value v) w') ∧ D.rep w (Mut X g (look s.mem)) g d v := by
  unfold inertA at h
  split at h
  · rename_i x hx
    injection h with h
    subst h
    exact ⟨a.eval x, fun w' => by unfold execOp; simp [hx], rep_ev hI hf x⟩
  · rename_i x hx
    injection h with h
    subst h
    exact ⟨a.eval x, fun w' => by unfold execOp; simp [hx], rep_ev hI hf x⟩
  · rename_i x hx
    have hr := rep_ev hI hf x
    generalize ev s.mem s.fr x = dx at h hr
    split at h
    · injection h with h
      subst h
      refine ⟨a.eval x, fun w' => ?_, hr⟩
      simp only [D.rep, D.rep0, C.rep] at hr
      unfold execOp
      simp [hx, hr.2]
    · injection h with h
      subst h
      refine ⟨a.eval x, fun w' => ?_, hr⟩
      simp only [D.rep, D.rep0, C.rep] at hr
      obtain ⟨b, h1, _⟩ := hr
      unfold execOp
      simp [hx, h1]
    · injection h with h
      subst h
      refine ⟨a.eval x, fun w' => ?_, hr⟩
      obtain ⟨_, b, n, c, _, _, hu⟩ := hr
      unfold execOp
      simp [hx, hu]
    · cases h
  · rename_i t x f hx
    have h1 := rep_ev hI hf x
    generalize ev s.mem s.fr x = dx at h h1
    split at h
    · rename_i fs ht
      split at h
      · rename_i off sz hfs
        obtain ⟨fa, hu, _, hfa⟩ := und_struct hT ht
        obtain ⟨fd, i, h2, h3, h4, h5, h6⟩ := hfa f off sz hfs
        have hrun : ∀ b : Addr, a.eval x = .pointer (some b) → ∀ w', (execOp a.eval o).run P w' = .ok (.value (.pointer (some (b.add off)))) w' := by
          intro b hb w'
          have hsz : i.size ≠ 0 := by omega
          unfold execOp
          simp [hx, hb, Instr.fieldAt, run_underlying hu, h2, Instr.sureAddr, fieldPlace, sizeOf, typeInfo, h4, hsz, h3]
        split at h
        · injection h with h
          subst h
          simp only [D.rep, D.rep0, C.rep] at h1
          refine ⟨_, hrun _ h1.2, ?_⟩
          simp only [D.rep, D.rep0, C.rep]
          refine ⟨h1.1, ?_⟩
          rw [← addr_add0, Addr.add_add, addr_add0]
        · injection h with h
          subst h
          simp only [D.rep, D.rep0, C.rep] at h1
          obtain ⟨b, e1, e2, e3, e4⟩ := h1
          refine ⟨_, hrun _ e1, ?_⟩
          simp only [D.rep, D.rep0, C.rep]
          exact ⟨b, by rw [Addr.add_add], e2, e3, e4⟩
        · injection h with h
          subst h
          obtain ⟨e0, b, n, c, e1, e2, e3⟩ := h1
          exact ⟨_, hrun _ e3, e0, b, n, c, e1, e2, by rw [Addr.add_add, Nat.add_assoc]⟩
        · cases h
      · cases h
    · cases h
  · cases h
theorem looksL_eq {ops : Array Oper} (o : Oper) : looksL ops.toList o = o.looksAt ops := by
  unfold looksL Oper.looksAt
  congr 1
  cases o.guard with
  | none => rfl
  | some p => simp
theorem apartL_eq {ops : Array Oper} (x y : Oper) : apartL ops.toList x y = x.apart ops y := by
  unfold apartL Oper.apart
  rw [looksL_eq, looksL_eq]
  cases x.dst <;> cases y.dst <;> rfl
theorem freeL_ok {ops : Array Oper} {listed : Array Bool} {i : Nat} (h : freeL ops.toList listed.toList i = true) : Region.free .any ops listed i = true := by
  unfold freeL at h
  unfold Region.free
  rw [Array.getElem?_toList] at h
  cases hi : ops[i]? with
  | none => rw [hi] at h; cases h
  | some oi =>
    rw [hi] at h
    simp only [List.all_eq_true] at h ⊢
    intro j hj
    have h1 := h j (by simpa using hj)
    have hd : listed.toList.getD j true = listed.getD j true := by simp [List.getD, Array.getD_eq_getD_getElem?]
    rw [hd, Array.getElem?_toList] at h1
    cases hj : ops[j]? with
    | none => simp
    | some oj =>
      rw [hj] at h1
      simp only [apartL_eq, Array.any_toList] at h1
      exact h1
theorem noSelL_ok {ops : Array Oper} (h : noSelL ops.toList = true) : Region.noSelect ops = true := by
  unfold Region.noSelect
  rw [← Array.all_toList]
  exact h
theorem firstInert_ok {l : List Oper} {done : List Bool} {s : AS} : ∀ (r : List Nat) {i : Nat} {dst : Option Nat} {d : D}, firstInert T l done s r = some (i, dst, d) →
    i ∈ r ∧ ∃ o, l[i]? = some o ∧ o.guard = none ∧ o.dst = dst ∧ inertA T s o = some d ∧ freeL l done i = true
  | [], i, dst, d, h => by simp [firstInert] at h
  | j :: r, i, dst, d, h => by
    have rec_ : firstInert T l done s r = some (i, dst, d) → _ := fun h => firstInert_ok r h
    have go : firstInert T l done s r = some (i, dst, d) → i ∈ j :: r ∧ ∃ o, l[i]? = some o ∧ o.guard = none ∧ o.dst = dst ∧ inertA T s o = some d ∧ freeL l done i = true := fun h =>
      ⟨List.mem_cons_of_mem _ (rec_ h).1, (rec_ h).2⟩
    unfold firstInert at h
    split at h
    · rename_i o ho
      split at h
      · rename_i d' hg hd
        split at h
        · rename_i hfr
          simp only [Option.some.injEq, Prod.mk.injEq] at h
          obtain ⟨rfl, rfl, rfl⟩ := h
          exact ⟨by simp, o, ho, hg, rfl, hd, hfr⟩
        · exact go h
      · exact go h
    · exact go h
theorem anyA_ok (hT : TabOk P T) (hE : EnvOK P env) {ops : Array Oper} {K : AS → Prop} {Q : Exit → Act → World → Prop} (hQ : ∀ s' a' w', St w0 X b₀ s' a' w' → K s' → Q .normal a' w') (hP : ∀ c a w, ¬ Q (.panic c) a w) :
    ∀ (f : Nat) (listed : Array Bool) (s : AS) (a : Act) (w : World), anyA Ar.std T env ops.toList f listed.toList s K → St w0 X b₀ s a w → wpAny P .any ops Q f listed a w
  | 0, listed, s, a, w, h, hs => by
    obtain ⟨h1, h2⟩ := h
    refine ⟨?_, hQ s a w hs h2⟩
    cases hr : Region.ready .any ops listed with
    | nil => rfl
    | cons i r =>
      have : i ∈ readyL ops.toList listed.toList := ready_iff.1 (by rw [hr]; simp)
      rw [h1] at this; cases this
  | f + 1, listed, s, a, w, h, hs => by
    unfold anyA at h
    have hall : (∀ i ∈ readyL ops.toList listed.toList, match ops.toList[i]? with
          | some o => astep Ar.std T env ops.toList o s (fun s' => anyA Ar.std T env ops.toList f (listed.toList.set i true) s' K)
          | none => False) → ∀ i ∈ Region.ready .any ops listed, wpOp P ops Q i (wpAny P .any ops Q f (listed.setIfInBounds i true)) a w := by
      intro hall i hi
      have h3 := hall i (ready_iff.1 hi)
      obtain ⟨_, o, ho, _⟩ := mem_ready.1 hi
      rw [Array.getElem?_toList, ho] at h3
      have := astep_ok (K' := wpAny P .any ops Q f (listed.setIfInBounds i true)) (Q := Q) rfl hT hE ho hs h3 (fun s' a' w' hs' hk => anyA_ok hT hE hQ hP f _ s' a' w' (by simpa using hk) hs')
      unfold wpOp
      rw [ho]
      show if Region.wanted o (yielded ops a.tmps) = true then _ else _
      split
      · rename_i hw'; rw [if_pos hw'] at this; exact .inl this
      · rename_i hw'; rw [if_neg hw'] at this; exact this
    split at h
    · rename_i he
      have hr : Region.ready .any ops listed = [] := by
        cases hr' : Region.ready .any ops listed with
        | nil => rfl
        | cons i r =>
          have : i ∈ readyL ops.toList listed.toList := ready_iff.1 (by rw [hr']; simp)
          rw [he] at this; cases this
      exact ⟨fun _ => hQ s a w hs h, fun i hi => by rw [hr] at hi; cases hi⟩
    · rename_i hne
      split at h
      · rename_i i dst d hns hfi
        obtain ⟨hmem, o, ho, hg, hdst, hin, hfr⟩ := firstInert_ok _ hfi
        rw [Array.getElem?_toList] at ho
        obtain ⟨g, hI, hf, hsz, hd, hn, hks⟩ := hs
        obtain ⟨v, hv1, hv2⟩ := inert_ok hT hI hf hin
        have hput := frRep_put (dst := dst) hf hsz hv2
        have hs' : St w0 X b₀ { s with fr := put s.fr dst d } (a.put dst v) w := ⟨g, hI, hput.1, hput.2, put_defers dst v hd, hn, hks⟩
        refine wpAny_take (v := v) ho (noSelL_ok hns) (freeL_ok hfr) (by simpa using ready_iff.2 hmem) (fun c a w h => (hP _ _ _ h).elim) (.inl ⟨by simp [Region.wanted, hg], hv1⟩) ?_
        rw [hdst]
        exact anyA_ok hT hE hQ hP f _ _ _ _ (by simpa using h) hs'
      · refine ⟨fun hr => ?_, hall (fun i hi => ?_)⟩
        · exact absurd (by
            cases hr' : readyL ops.toList listed.toList with
            | nil => rfl
            | cons i r =>
              have : i ∈ Region.ready .any ops listed := ready_iff.2 (by rw [hr']; simp)
              rw [hr] at this; cases this) hne
        · exact allI_mem _ _ h i hi
theorem regA_ok (hm : P.follows .mixedOrders = true) (hT : TabOk P T) (hE : EnvOK P env) {id : Nat} {ops : Array Oper} {d : Bool} {s : AS} {a : Act} {w : World} {K : AS → Prop} {Q : Exit → Act → World → Prop}
    (h : regA Ar.std T env ops.toList d s K) (hs : St w0 X b₀ s a w) (hQ : ∀ s' a' w', St w0 X b₀ s' a' w' → K s' → Q .normal a' w') : (Code.region id ops d).wp P Q a w := by
  cases d with
  | false =>
    refine wp_region ?_
    have := aops_ok (Q := Q) (ops := ops) (all := ops.toList) rfl hT hE (K := K) hQ ops.toList 0 s a w rfl hs h
    rw [List.range_eq_range']
    simpa using this
  | true =>
    have hb : Below w.heap.size w { w with drawn := w.drawn + 1 } := ⟨rfl, rfl, rfl, Nat.le_refl _, fun _ _ => rfl⟩
    obtain ⟨g, hI, hf, hsz, hd, hn, hks⟩ := hs
    have hs' : St w0 X b₀ s a { w with drawn := w.drawn + 1 } := ⟨g, hI.grow hb, frRep_keep hf (keeps_grow hb) fun _ _ h => ⟨h, rfl⟩, hsz, hd, hn, frRep_keep hks (keeps_grow hb) fun _ _ h => ⟨h, rfl⟩⟩
    refine wp_mono (Q := fun e a w => match e with | .normal => Q .normal a w | _ => False) (wp_region_any hm (anyA_ok (Q := fun e a w => match e with | .normal => Q .normal a w | _ => False) hT hE hQ (fun _ _ _ h => h) ops.size (Array.replicate ops.size false) s a _ ?_ hs')) ?_
    · have h' : anyA Ar.std T env ops.toList ops.toList.length (List.replicate ops.toList.length false) s K := h
      simpa using h'
    · intro e a w he
      cases e with
      | normal => exact he
      | _ => exact he.elim
theorem awp_ok (hm : P.follows .mixedOrders = true) (hT : TabOk P T) (hE : EnvOK P env) :
    ∀ (c : Code) (s : AS) (Q : Exit → AS → Prop) (Q' : Exit → Act → World → Prop) (a : Act) (w : World), drawsOkX env.hard c = true → awp Ar.std T env c s Q → St w0 X b₀ s a w → (∀ e s' a' w', St w0 X b₀ s' a' w' → Q e s' → Q' e a' w') → c.wp P Q' a w := by
  intro c
  induction c with
  | skip => intro s Q Q' a w hdr h hs hQ; exact wp_skip (hQ _ _ _ _ hs h)
  | region id ops draw =>
    intro s Q Q' a w hdr h hs hQ
    unfold awp at h
    cases hh : env.hard.contains id with
    | true =>
      rw [hh] at h
      obtain ⟨keep, N, J, h1, h2⟩ := h
      exact regA_ok hm hT hE h1 hs fun s' a' w' hs' hk => by
        obtain ⟨hok, s3, h3, hj⟩ := hk
        exact hQ .normal s3 a' w' (h3 _ _ _ _ _ (hs'.forget keep N hok)) (h2 s3 hj)
    | false =>
      rw [hh] at h
      cases draw with
      | false =>
        refine wp_region ?_
        have := aops_ok (Q := Q') (ops := ops) (all := ops.toList) rfl hT hE (K := Q .normal) (fun s' a' w' hs' hk => hQ _ _ _ _ hs' hk) ops.toList 0 s a w rfl hs h
        rw [List.range_eq_range']
        simpa using this
      | true =>
        simp only [drawsOkX, hh, Bool.false_or] at hdr
        exact drawA_ok hm hT hE hdr h hs fun s' a' w' hs' hk => hQ _ _ _ _ hs' hk
  | seq x y ihx ihy =>
    intro s Q Q' a w hdr h hs hQ
    simp only [drawsOkX, Bool.and_eq_true] at hdr
    refine wp_seq (ihx s _ _ a w hdr.1 h hs fun e s' a' w' hs' hk => ?_)
    cases e with
    | normal => exact ihy s' Q Q' a' w' hdr.2 hk hs' hQ
    | _ => exact hQ _ _ _ _ hs' hk
  | cond c x y ihx ihy =>
    intro s Q Q' a w hdr h hs hQ
    simp only [awp] at h
    simp only [drawsOkX, Bool.and_eq_true] at hdr
    have hs0 := hs
    obtain ⟨g, hI, hf, _⟩ := hs0
    have hc := rep_ev hI hf c
    split at h
    · rename_i he; rw [he] at hc; exact wp_cond_true (rep_v hc) (ihx s Q Q' a w hdr.1 h hs hQ)
    · rename_i he; rw [he] at hc; exact wp_cond_false (rep_v hc) (ihy s Q Q' a w hdr.2 h hs hQ)
    · rename_i t he; rw [he] at hc
      exact wp_cond_split (rep_bool hc) (fun ht => ihx s Q Q' a w hdr.1 (h.1 ht) hs hQ) (fun ht => ihy s Q Q' a w hdr.2 (h.2 ht) hs hQ)
    · exact h.elim
  | block id c ih =>
    intro s Q Q' a w hdr h hs hQ
    refine wp_block (ih s _ _ a w hdr h hs fun e s' a' w' hs' hk => ?_)
    cases e with
    | exit i =>
      simp only [Exit.inBlock]
      by_cases hi : i = id
      · subst hi
        simp only [beq_self_eq_true] at hk
        simp only [if_true]
        exact hQ _ _ _ _ hs' hk
      · have : (i == id) = false := by simpa using hi
        simp only [this] at hk
        simp only [hi, if_false]
        exact hQ _ _ _ _ hs' hk
    | _ => exact hQ _ _ _ _ hs' hk
  | loop c ih =>
    intro s Q Q' a w hdr h hs hQ
    obtain ⟨keep, I, n, hok, ⟨s3, h03, h0⟩, hround⟩ := h
    refine wp_loop_ix (fun n a w => ∃ s', I n s' ∧ St w0 X b₀ s' a w) ⟨_, h0, h03 _ _ _ _ _ (hs.forget keep s.nxt hok)⟩ ?_
    rintro n a w ⟨s', hI, hs'⟩
    refine ih s' _ _ a w hdr (hround n s' hI) hs' fun e s'' a' w' hs'' hk => ?_
    cases e with
    | normal =>
      obtain ⟨hok', m, hlt, s4, h4, hm⟩ := hk
      exact ⟨m, hlt, _, hm, h4 _ _ _ _ _ (hs''.forget keep s.nxt hok')⟩
    | _ => exact hQ _ _ _ _ hs'' hk
  | rangeFunc f params assign body _ _ => intro s Q Q' a w _ h; exact h.elim
  | exit i => intro s Q Q' a w hdr h hs hQ; exact wp_exit (hQ _ _ _ _ hs h)
  | scope body _ => intro s Q Q' a w _ h; exact h.elim
  | label l => intro s Q Q' a w hdr h hs hQ; exact wp_label (hQ _ _ _ _ hs h)
  | goto l => intro s Q Q' a w _ h; exact h.elim
  | ret => intro s Q Q' a w hdr h hs hQ; exact wp_ret (hQ _ _ _ _ hs h)
  | refuse why => intro s Q Q' a w _ h; exact h.elim

/-! ### A function's contract -/
def outD (mem : List (Nat × Blk)) (d : D) : Option D := match d.res mem with
  | .c (.own k) => match look mem k with
    | some (.row e sz xs) => some (.rowv e sz xs)
    | _ => none
  | d' => if d'.pure then some d' else none
def out1 (T : Tab) (s : AS) : ResultVar → Option D
  | .tmp t => outD s.mem (s.fr.getD t (.c .any))
  | .cell x t => match (s.fr.getD x (.c .any)).res s.mem, T t with
    | .c (.ptr i off), some ti => match look s.mem i with
      | some (.box _ cs) => (partB ti cs off).bind (outD s.mem)
      | _ => none
    | .c (.rp cs off), some ti => (partB ti cs off).bind (outD s.mem)
    | _, _ => none
def outs (T : Tab) (s : AS) : List ResultVar → Option (List D)
  | [] => some []
  | r :: rs => match out1 T s r, outs T s rs with
    | some d, some ds => some (d :: ds)
    | _, _ => none
def single : List D → D
  | [d] => d
  | ds => .tup ds

/-- What the first says the second says, too. -/
def DLe (d d' : D) : Prop := ∀ (w w' : World) (X : Nat → Prop) (u : Value), (∀ b, X b → b < w.heap.size) → D.gives w w' X d u → D.gives w w' X d' u
theorem DLe.rfl_ (d : D) : DLe d d := fun _ _ _ _ _ h => h

/-- How a function's run ends. -/
def Ends (T : Tab) (rs : List ResultVar) (d : D) (e : Exit) (s : AS) : Prop := (e = .normal ∨ e = .ret) ∧ ∃ ds, outs T s rs = some ds ∧ DLe (single ds) d

theorem outD_ok {w : World} {g : Gh} {mem : List (Nat × Blk)} (hI : Inv w0 X g (look mem) w) {d d' : D} {u : Value} (h : D.rep w (Mut X g (look mem)) g d u) (ho : outD mem d = some d') : D.res' w0 w X d' u := by
  have h := rep_res hI d u h
  unfold outD at ho
  generalize d.res mem = d1 at h ho
  have pure_ : ∀ d2 : D, d2.pure = true → D.rep w (Mut X g (look mem)) g d2 u → D.res' w0 w X d2 u := by
    intro d2 hp h2
    have h3 := D.rep_pure (g' := Gh.none) d2 u hp h2
    have h4 : D.rep0 w X Gh.none d2 u := D.rep0_keep ⟨Nat.le_refl _, fun _ _ _ => rfl, fun b _ hb => .inl hb, fun _ h => ⟨h, rfl⟩⟩ _ _ h3
    cases d2 with
    | rowv _ _ _ => cases hp
    | _ => exact h4
  split at ho
  · rename_i k
    split at ho
    · rename_i e sz xs hk
      injection ho with ho
      subst ho
      obtain ⟨_, h1, h2⟩ := hI.row k e sz xs hk
      simp only [D.rep] at h
      rw [h.2]
      exact ⟨h1, h2⟩
    · cases ho
  · split at ho
    · rename_i hp
      injection ho with ho
      subst ho
      exact pure_ d1 hp h
    · cases ho

def rvRun (tmps : Array Value) : ResultVar → Sem Value
  | .tmp t => pure (tmps.getD t undef)
  | .cell x t => do loadVar t (← asAddr (tmps.getD x undef))
theorem results_eq (fn : Func) (tmps : Array Value) : results fn tmps = (fn.results.mapM (rvRun tmps) >>= fun vs => pure (if h : vs.size = 1 then vs[0] else .tuple vs)) := by
  unfold results
  congr 1

theorem out1_ok (hT : TabOk P T) {w : World} {s : AS} {a : Act} (hs : St w0 X b₀ s a w) {r : ResultVar} {d : D} (h : out1 T s r = some d) :
    ∃ u, (rvRun a.tmps r).run P w = .ok u w ∧ D.res' w0 w X d u := by
  obtain ⟨g, hI, hf, hsz, hd, hn⟩ := hs
  cases r with
  | tmp t =>
    simp only [out1] at h
    exact ⟨_, rfl, outD_ok hI (hf t) h⟩
  | cell x t =>
    simp only [out1] at h
    have hx := rep_res hI _ _ (hf x)
    generalize (s.fr.getD x (.c .any)).res s.mem = dx at h hx
    have go : ∀ (ti : TI) (cs : List C) (q : Addr) (off : Nat) (us : List Value), T t = some ti → C.repsB w (Mut X g (look s.mem)) g cs us → (∀ y ∈ us, y.oneCell' = true) → (∀ j u, us[j]? = some u → w.cell? (q.add j) = some u) → a.tmps.getD x undef = .pointer (some (q.add off)) → (partB ti cs off).bind (outD s.mem) = some d →
        ∃ u, ((do loadVar t (← asAddr (a.tmps.getD x undef)) : Sem Value)).run P w = .ok u w ∧ D.res' w0 w X d u := by
      intro ti cs q off us ht hr h1 hc hv hp
      cases hp1 : partB ti cs off with
      | none => rw [hp1] at hp; cases hp
      | some d1 =>
        rw [hp1] at hp
        have ha : Act.eval { tmps := #[.pointer (some (q.add off))], defers := [] } (.tmp 0) = .pointer (some (q.add off)) := rfl
        obtain ⟨v, h2, h3⟩ := load_repB (P := P) (w := w) (g := g) (o := ⟨none, .load t (.tmp 0), t, "", #[], none⟩) (a := { tmps := #[.pointer (some (q.add off))], defers := [] }) hT ht cs q off us hr h1 hc (.tmp 0) rfl ha d1 hp1
        refine ⟨v, ?_, outD_ok hI h3 hp⟩
        have h4 : (loadVar t (q.add off)).run P w = .ok v w := by
          unfold execOp at h2
          simp only [ha, Instr.loadAt, Instr.sureAddr, Sem.run_bind, Sem.run_pure, Result.andThen_ok] at h2
          cases hl : (loadVar t (q.add off)).run P w with
          | ok v' w' =>
            rw [hl] at h2
            simp only [Result.andThen_ok] at h2
            injection h2 with h5 h6
            injection h5 with h5
            rw [h5, h6]
          | halt x w' => rw [hl] at h2; simp [Result.andThen] at h2
        simp [hv, asAddr, h4]
    split at h
    · rename_i i off ti ht
      split at h
      · rename_i t' cs hl
        simp only [D.rep, D.rep0, C.rep] at hx
        obtain ⟨_, _, us, h2, h3, h4⟩ := hI.box i t' cs hl
        refine go ti cs ⟨g.β i, 0, none⟩ off us ht h3 h4 (fun j u hu => ?_) (by rw [hx.2, addr_add0]) h
        rw [addr_add0, cell_of_row w _ j _ _ _ h2]
        simpa using hu
      · cases h
    · rename_i cs off ti ht
      simp only [D.rep, D.rep0, C.rep] at hx
      obtain ⟨q, e1, e2, e3, e4⟩ := hx
      obtain ⟨us, h5, h6, h7⟩ := reps_at cs q 0 e4
      exact go ti cs q off us ht (C.repsB_of _ _ h5) h6 (fun j u hu => by simpa using h7 j u hu) e1 h
    · cases h

theorem outs_ok (hT : TabOk P T) {w : World} {s : AS} {a : Act} (hs : St w0 X b₀ s a w) : ∀ (rs : List ResultVar) (ds : List D), outs T s rs = some ds →
    ∃ us, (rs.mapM (rvRun a.tmps)).run P w = .ok us w ∧ D.ress w0 w X ds us
  | [], ds, h => by
    simp only [outs, Option.some.injEq] at h
    subst h
    exact ⟨[], rfl, by simp [D.ress]⟩
  | r :: rs, ds, h => by
    simp only [outs] at h
    split at h
    · rename_i d ds' h1 h2
      injection h with h
      subst h
      obtain ⟨u, h3, h4⟩ := out1_ok hT hs h1
      obtain ⟨us, h5, h6⟩ := outs_ok hT hs rs ds' h2
      refine ⟨u :: us, ?_, by simp only [D.ress]; exact ⟨u, us, rfl, h4, h6⟩⟩
      rw [List.mapM_cons]
      simp only [Sem.run_bind, h3, Result.andThen_ok, h5]
      rfl
    · cases h

theorem ress_len {w w' : World} {X : Nat → Prop} : ∀ (ds : List D) (us : List Value), D.ress w w' X ds us → us.length = ds.length
  | [], _, h => by simp only [D.ress] at h; simp [h]
  | d :: r, _, h => by
    simp only [D.ress] at h
    obtain ⟨x, xs, rfl, _, h⟩ := h
    simp [ress_len r xs h]

theorem results_ok (hT : TabOk P T) {w : World} {s : AS} {a : Act} (hs : St w0 X b₀ s a w) {fn : Func} {rs : List ResultVar} (hrs : fn.results.toList = rs) {ds : List D} (h : outs T s rs = some ds) :
    ∃ u, (results fn a.tmps).run P w = .ok u w ∧ D.gives w0 w X (single ds) u := by
  obtain ⟨us, h1, h2⟩ := outs_ok hT hs rs ds h
  have hlen := ress_len _ _ h2
  have hrun : (fn.results.mapM (rvRun a.tmps)).run P w = .ok us.toArray w := by
    rw [Array.mapM_eq_mapM_toList, hrs]
    simp only [Sem.run_map, h1, Result.andThen_ok]
  have hres : (results fn a.tmps).run P w = .ok (if h : us.toArray.size = 1 then us.toArray[0] else .tuple us.toArray) w := by
    rw [results_eq, Sem.run_bind, hrun]
    rfl
  refine ⟨_, hres, ?_⟩
  match ds, us, hlen, h2 with
  | [d], [u], _, h2 =>
    simp only [D.ress] at h2
    obtain ⟨x, xs, hx, h3, h4⟩ := h2
    injection hx with hx1 hx2
    subst hx1
    simp only [single, List.size_toArray, List.length_cons, List.length_nil, Nat.zero_add, dite_true]
    cases d with
    | tup ds =>
      simp only [D.res', D.rep0] at h3
      obtain ⟨vs, e1, e2⟩ := h3
      simp only [D.gives]
      refine ⟨vs, e1, ?_⟩
      have : ∀ (l : List D) (v : List Value), D.reps w X Gh.none l v → D.ress w0 w X l v := by
        intro l
        induction l with
        | nil => intro v hv; simp only [D.reps] at hv; simp [hv, D.ress]
        | cons d r ih =>
          intro v hv
          simp only [D.reps] at hv
          obtain ⟨y, ys, rfl, e3, e4⟩ := hv
          simp only [D.ress]
          refine ⟨y, ys, rfl, ?_, ih ys e4⟩
          cases d with
          | rowv _ _ _ => simp only [D.rep0] at e3
          | _ => exact e3
      exact this _ _ e2
    | _ => exact h3
  | [], [], _, h2 => simp only [single, D.gives]; exact ⟨[], by simp, h2⟩
  | d :: d' :: ds, u :: u' :: us, _, h2 =>
    simp only [single, D.gives]
    exact ⟨u :: u' :: us, by simp, h2⟩

theorem reps_init {w : World} {M : Nat → Prop} {g : Gh} : ∀ (args : List D) (us : List Value), D.reps w M g args us → us.length = args.length ∧ ∀ t, D.rep w M g (args.getD t (.c .any)) (us.getD t undef)
  | [], _, h => by simp only [D.reps] at h; simp [h, D.rep, D.rep0, C.rep]
  | d :: r, _, h => by
    simp only [D.reps] at h
    obtain ⟨x, xs, rfl, h1, h2⟩ := h
    obtain ⟨h3, h4⟩ := reps_init r xs h2
    refine ⟨by simp [h3], fun t => ?_⟩
    cases t with
    | zero => exact D.of0 h1
    | succ t => simpa using h4 t

/-- **A function does what its code is read to do.** -/
theorem Does_of (hm : P.follows .mixedOrders = true) (hT : TabOk P T) (hE : EnvOK P env)
    {f : Nat} {fn : Func} {c : Code} {rs : List ResultVar} {n : Nat} (h1 : P.funcs[f]? = some fn) (h2 : (fn.name == "runtime.NumGoroutine") = false) (h3 : fn.body = some c) (h4 : fn.results.toList = rs) (h5 : fn.ntmps = n) (h6 : drawsOkX env.hard c = true)
    {args : List D} {d : D} {R : Exit → AS → Prop} (hR : ∀ e s, R e s → Ends T rs d e s) (h : awp Ar.std T env c ⟨args ++ List.replicate (n - args.length) (.c .any), [], 0, []⟩ R) : Does P f args d := by
  refine ⟨⟨fn, h1, h2, by rw [h3]; rfl⟩, fun w X us hX hus => ?_⟩
  obtain ⟨hul, hur⟩ := reps_init args us hus
  refine calls_of_wp h1 h3 (awp_ok (w0 := w) (X := X) (b₀ := { tmps := #[], defers := [] }) hm hT hE c _ _ _ _ w h6 h ?_ ?_)
  · refine ⟨Gh.none, ⟨Below.refl _ _, hX, fun i t cs hi => by simp [look] at hi, fun i e sz xs hi => by simp [look] at hi, fun i sz n get hi => by simp [look] at hi, fun i cs hi => by simp [look] at hi, fun i j b _ hi => by simp [look, blkOf] at hi⟩, ?_, ?_, rfl, fun i _ hd => hd, fun t => by simp [D.rep, D.rep0, C.rep]⟩
    · intro t
      have e1 : (args ++ List.replicate (n - args.length) (D.c .any)).getD t (.c .any) = args.getD t (.c .any) := by
        simp only [List.getD, List.getElem?_append]
        split
        · rfl
        · rename_i hge
          rw [List.getElem?_replicate, List.getElem?_eq_none (by omega)]
          split <;> rfl
      have e2 : (us.toArray ++ Array.replicate (fn.ntmps - us.toArray.size) undef).getD t undef = us.getD t undef := by
        simp only [Array.getD_eq_getD_getElem?, List.getD, Array.getElem?_append, List.size_toArray]
        split
        · simp
        · rename_i hge
          rw [Array.getElem?_replicate, List.getElem?_eq_none (by omega)]
          split <;> rfl
      rw [e1, e2]
      refine D.rep_keep ⟨Nat.le_refl _, fun _ _ _ => rfl, ?_, fun _ h => ⟨h, rfl⟩⟩ _ _ (fun _ _ hk => hk.elim) (hur t)
      rintro b _ (hb | ⟨i, hi⟩)
      · exact hb
      · simp [look, blkOf] at hi
    · simp only [Array.size_append, List.size_toArray, Array.size_replicate, List.length_append, List.length_replicate, hul, h5]
  · rintro e s' a' w' hs hq
    obtain ⟨he, ds, hds, hle⟩ := hR e s' hq
    obtain ⟨u, h8, h7⟩ := results_ok hT hs h4 hds
    have hfin : a'.defers = [] ∧ ∃ v, (results fn a'.tmps).run P w' = .ok v w' ∧ (fun (e : Ending) w' => ∃ u, e = .returned u ∧ Below w.heap.size w w' ∧ D.gives w w' X d u) (.returned v) w' := by
      obtain ⟨g, hI, _, _, hd, _, _⟩ := hs
      exact ⟨hd, u, h8, u, rfl, hI.below, hle w w' X u hX h7⟩
    rcases he with rfl | rfl <;> exact hfin
end
end Go.Proofs.Ytoocihhnlhehlaa.Den
