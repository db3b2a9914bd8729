/- An abstract reading of a function's code: what it comes to, and that it does. (Part 4: states, regions in the order of the text, control) -/
import Derived.Test.YtoocihhnlhehlaaDenc
namespace Go.Proofs.Ytoocihhnlhehlaa.Den
open Go Go.RowKit

def put (fr : List D) (dst : Option Nat) (d : D) : List D := match dst with
  | some t => fr.set t d
  | none => fr

def upd (m : List (Nat × Blk)) (i : Nat) (b : Blk) : List (Nat × Blk) := match m with
  | [] => []
  | (j, b') :: r => if i = j then (j, b) :: r else (j, b') :: upd r i b

theorem look_upd (m : List (Nat × Blk)) (i : Nat) (b : Blk) (h : (look m i).isSome = true) : look (upd m i b) = updL (look m) i (some b) := by
  funext j
  induction m with
  | nil => simp [look] at h
  | cons p r ih =>
    obtain ⟨k, b'⟩ := p
    simp only [upd, look] at h ⊢
    by_cases hik : i = k
    · subst hik
      by_cases hj : j = i
      · subst hj; simp [look, updL]
      · simp [look, updL, hj]
    · simp only [hik, if_false] at h ⊢
      simp only [look, updL]
      by_cases hjk : j = k
      · subst hjk
        simp [Ne.symm hik]
      · simp only [hjk, if_false]
        rw [ih h]
        simp [updL]

def C.kill (k : Nat) : C → C
  | .own j => if j = k then .any else .own j
  | .rpt j i sz off => if j = k then .any else .rpt j i sz off
  | .rsl j lo sz => if j = k then .any else .rsl j lo sz
  | c => c
def D.kill (k : Nat) : D → D
  | .c x => .c (x.kill k)
  | d => d

def Blk.kill (k : Nat) : Blk → Blk
  | .box t cs => .box t (cs.map (C.kill k))
  | b => b
def killMem (k : Nat) : List (Nat × Blk) → List (Nat × Blk)
  | [] => []
  | (i, b) :: r => (i, b.kill k) :: killMem k r
theorem look_kill (k : Nat) : ∀ (m : List (Nat × Blk)) (i : Nat), look (killMem k m) i = (look m i).map (Blk.kill k)
  | [], _ => rfl
  | (j, b) :: r, i => by
    simp only [killMem, look]
    split
    · rfl
    · exact look_kill k r i

/-- Go on behind an operation. -/
def appE (s : AS) (dst : Option Nat) (K : AS → Prop) : Eff → Prop
  | .ret p d => p ∧ K { s with fr := put s.fr dst d }
  | .sel t x y => (t = true → K { s with fr := put s.fr dst x }) ∧ (t = false → K { s with fr := put s.fr dst y })
  | .nilq n _ => ∀ t : Bool, (t = true → n = 0) → K { s with fr := put s.fr dst (.c (.b t)) }
  | .box t cs => K { s with fr := put s.fr dst (.c (.ptr s.nxt 0)), mem := (s.nxt, .box t cs) :: s.mem, nxt := s.nxt + 1 }
  | .row p e sz xs => p ∧ K { s with fr := put s.fr dst (.c (.own s.nxt)), mem := (s.nxt, .row e sz xs) :: s.mem, nxt := s.nxt + 1 }
  | .store i t cs => K { s with fr := put s.fr dst (.c .any), mem := upd s.mem i (.box t cs) }
  | .app k p e sz xs => p ∧ K { s with fr := put (s.fr.map (D.kill k)) dst (.c (.own k)), mem := upd (killMem k s.mem) k (.row e sz xs), ks := s.ks.map (D.kill k) }
  | .rset k e sz xs => K { s with fr := put s.fr dst (.c .any), mem := upd s.mem k (.row e sz xs) }
  | .call R ef => ∃ d, R d ∧ appE s dst K (ef d)
  | .arr k e sz xs => K { s with fr := put (s.fr.map (D.kill k)) dst (.c (.own k)), mem := upd (killMem k s.mem) k (.row e sz xs), ks := s.ks.map (D.kill k) }
  | .bad => False

def frz1 (A : Ar) (m : List (Nat × Blk)) (k : Nat) : List (Nat × Blk) := match look m k with
  | some (.row _ sz xs) => upd m k (.fsl sz (xs.lenA A) (xs.getA A))
  | some (.box _ cs) => if cs.all C.noOwn then upd m k (.fbx cs) else m
  | _ => m

/-- What an operation's operands must not be: rows that may still grow; variables that are captured. -/
def fixed : Op → List Operand × List Operand
  | .call { callee := .value f, args, .. } => (f :: args.toList, [])
  | .slice _ x _ _ _ => ([x], [])
  | .box _ x => ([x], [])
  | .store _ _ x => ([x], [])
  | .build _ ps => (ps.toList.map (·.2), [])
  | .buildSlice _ _ ps => (ps.toList.map (·.2), [])
  | .binOp _ _ x y _ => ([x, y], [])
  | .makeFunc _ _ captured => ([], captured.toList)
  | _ => ([], [])

def frzRows (A : Ar) (fr : List D) (m : List (Nat × Blk)) : List Operand → List (Nat × Blk)
  | [] => m
  | x :: r => match ev0 fr x with
    | .c (.own k) => frzRows A fr (frz1 A m k) r
    | _ => frzRows A fr m r
def frzVars (A : Ar) (fr : List D) (m : List (Nat × Blk)) : List Operand → List (Nat × Blk)
  | [] => m
  | x :: r => match ev0 fr x with
    | .c (.ptr k _) => frzVars A fr (frz1 A m k) r
    | _ => frzVars A fr m r
def keepsRows (T : Tab) (t : Nat) : Bool := match T t with
  | some ti => ti.keep
  | none => false
/-- The operands whose rows are read alone from now on. -/
def frzList (T : Tab) (env : Env) (o : Op) (fr : List D) (m : List (Nat × Blk)) : List Operand :=
  match o with
  | .store _ a x => match ev0 fr a with
    | .c (.ptr i _) => match look m i with
      | some (.box t' _) => if keepsRows T t' then [] else [x]
      | _ => [x]
    | _ => [x]
  | .call { callee := .value (.func f), args, .. } => match env.eats f with
    | some _ => args.toList.tail
    | none => args.toList
  | .slice t x lo hi mx => match env.raw, lo, hi with
    | true, some _, none => []
    | _, _, _ => (fixed (.slice t x lo hi mx)).1
  | o => (fixed o).1
def frzOp (A : Ar) (T : Tab) (env : Env) (o : Oper) (fr : List D) (m : List (Nat × Blk)) : List (Nat × Blk) := frzVars A fr (frzRows A fr m (frzList T env o.op fr m)) (fixed o.op).2

/-- A call that is read in place. -/
def inlOf (env : Env) : Op → Option ((List D → AS → (D → AS → Prop) → Prop) × List Operand)
  | .call { callee := .value (.func f), args, .. } => match env.inl f with
    | some I => some (I, args.toList)
    | none => none
  | _ => none

def aop (A : Ar) (T : Tab) (env : Env) (o : Oper) (s : AS) (K : AS → Prop) : Prop :=
  match inlOf env o.op with
  | some (I, args) => I (args.map (ev s.mem s.fr)) s (fun d s' => K { s' with fr := put s'.fr o.dst d })
  | none => appE { s with mem := frzOp A T env o s.fr s.mem } o.dst K (gop A T env (frzOp A T env o s.fr s.mem) s.fr o)

def dstOf (ops : List Oper) (j : Nat) : Option Nat := match ops[j]? with
  | some o => o.dst
  | none => none

/-- One operation of a region, under its guard. -/
def astep (A : Ar) (T : Tab) (env : Env) (all : List Oper) (o : Oper) (s : AS) (K : AS → Prop) : Prop :=
  match o.guard with
  | none => aop A T env o s K
  | some (j, want) => match dstOf all j with
    | none => False
    | some t => match s.fr.getD t (.c .any), want with
      | .c (.v (.bool true)), true | .c (.v (.bool false)), false => aop A T env o s K
      | .c (.v (.bool true)), false | .c (.v (.bool false)), true => K { s with fr := put s.fr o.dst (.tup []) }
      | .tup [], _ => K { s with fr := put s.fr o.dst (.tup []) }
      | .c (.b b), want => (b = want → aop A T env o { s with fr := s.fr.set t (.c (.v (.bool want))) } K) ∧
          (b = (!want) → K { s with fr := put (s.fr.set t (.c (.v (.bool (!want))))) o.dst (.tup []) })
      | _, _ => False

def aops (A : Ar) (T : Tab) (env : Env) (all : List Oper) : List Oper → AS → (AS → Prop) → Prop
  | [], s, K => K s
  | o :: r, s, K => astep A T env all o s (fun s' => aops A T env all r s' K)

section
variable {P : Program} {T : Tab} {env : Env} {w0 w : World} {X : Nat → Prop} {s : AS} {a b : Act}

/-- The machine's state is as it is said to be. -/
def St (w0 : World) (X : Nat → Prop) (b : Act) (s : AS) (a : Act) (w : World) : Prop :=
  ∃ g : Gh, Inv w0 X g (look s.mem) w ∧ FrRep w (Mut X g (look s.mem)) g s.fr a ∧ a.tmps.size = s.fr.length ∧ a.defers = [] ∧ (∀ i, s.nxt ≤ i → ¬ g.dom i) ∧ FrRep w (Mut X g (look s.mem)) g s.ks b

theorem frRep_put {M : Nat → Prop} {g : Gh} {fr : List D} {dst : Option Nat} {d : D} {v : Value} (hf : FrRep w M g fr a) (hs : a.tmps.size = fr.length) (hd : D.rep w M g d v) : FrRep w M g (put fr dst d) (a.put dst v) ∧ (a.put dst v).tmps.size = (put fr dst d).length := by
  cases dst with
  | none => exact ⟨hf, hs⟩
  | some t =>
    refine ⟨fun t' => ?_, by simp [Act.put, put, hs]⟩
    have h := hf t'
    simp only [put, Act.put]
    by_cases ht : t' = t
    · subst ht
      by_cases hl : t' < fr.length
      · have hl' : t' < a.tmps.size := by omega
        have e1 : (fr.set t' d).getD t' (.c .any) = d := by simp [List.getD, List.getElem?_set_self hl]
        have e2 : (a.tmps.setIfInBounds t' v).getD t' undef = v := by simp [Array.getD, hl']
        rw [e1, e2]; exact hd
      · have e1 : (fr.set t' d).getD t' (.c .any) = .c .any := by
          rw [List.getD, List.getElem?_eq_none (by simp; omega)]; rfl
        rw [e1]; simp [D.rep, D.rep0, C.rep]
    · have e1 : (fr.set t d).getD t' (.c .any) = fr.getD t' (.c .any) := by simp [List.getD, List.getElem?_set_ne (Ne.symm ht)]
      have e2 : (a.tmps.setIfInBounds t v).getD t' undef = a.tmps.getD t' undef := by
        simp [Array.getElem?_setIfInBounds_ne (Ne.symm ht)]
      rw [e1, e2]; exact h

theorem frRep_keep {w' : World} {M M' : Nat → Prop} {g g' : Gh} {fr : List D} (hf : FrRep w M g fr a) (hk : Keeps w w' M M' g g') (hg : ∀ k, (∃ t, (fr.getD t (.c .any)).num = some k) → g.dom k → g'.dom k ∧ g'.ρ k = g.ρ k) : FrRep w' M' g' fr a := fun t => D.rep_keep hk _ _ (fun k hk => hg k ⟨t, hk⟩) (hf t)

theorem put_defers (dst : Option Nat) (v : Value) (h : a.defers = []) : (a.put dst v).defers = [] := by cases dst <;> exact h

theorem kill_get {fr : List D} (k t : Nat) : (fr.map (D.kill k)).getD t (.c .any) = D.kill k (fr.getD t (.c .any)) := by
  simp only [List.getD, List.getElem?_map]
  cases fr[t]? <;> rfl
theorem D.rep_kill {M : Nat → Prop} {g : Gh} (k : Nat) (d : D) (u : Value) (h : D.rep w M g d u) : D.rep w M g (D.kill k d) u := by
  cases d with
  | c x =>
    cases x with
    | own j =>
      simp only [D.kill, C.kill]
      split
      · simp [D.rep, D.rep0, C.rep]
      · exact h
    | rpt j i sz off =>
      simp only [D.kill, C.kill]
      split
      · simp [D.rep, D.rep0, C.rep]
      · exact h
    | rsl j lo sz =>
      simp only [D.kill, C.kill]
      split
      · simp [D.rep, D.rep0, C.rep]
      · exact h
    | _ => exact h
  | _ => exact h
/-- Every D of the frame lies in it, killed or not. -/
theorem frRep_kill {M : Nat → Prop} {g : Gh} {fr : List D} (k : Nat) (hf : FrRep w M g fr a) : FrRep w M g (fr.map (D.kill k)) a := by
  intro t
  rw [kill_get]
  exact D.rep_kill k _ _ (hf t)

/-- No number k in sight: what k stands for may change. -/
theorem kill_free {fr : List D} {k t : Nat} : ((fr.map (D.kill k)).getD t (.c .any)).num ≠ some k := by
  rw [kill_get]
  cases fr.getD t (.c .any) with
  | c x =>
    cases x with
    | own j =>
      simp only [D.kill, C.kill]
      split
      · simp [D.num]
      · rename_i h; simpa [D.num] using h
    | rpt j i sz off =>
      simp only [D.kill, C.kill]
      split
      · simp [D.num]
      · rename_i h; simpa [D.num] using h
    | rsl j lo sz =>
      simp only [D.kill, C.kill]
      split
      · simp [D.num]
      · rename_i h; simpa [D.num] using h
    | _ => simp [D.kill, C.kill, D.num]
  | _ => simp [D.kill, D.num]

variable {o : Oper} {K' : Act → World → Prop} {Q : Exit → Act → World → Prop} {K : AS → Prop} {g : Gh} {lk : Nat → Option Blk}

theorem mut_same {X : Nat → Prop} {i : Nat} {b b' : Blk} (h : lk i = some b) (hb : blkOf g i (some b') = blkOf g i (some b)) : Mut X g (updL lk i (some b')) = Mut X g lk := by
  funext x
  apply propext
  constructor
  · rintro (h1 | ⟨j, hj⟩)
    · exact .inl h1
    · refine .inr ⟨j, ?_⟩
      by_cases hji : j = i
      · subst hji; simp only [updL, if_true] at hj; rw [h, ← hb]; exact hj
      · simpa only [updL, hji, if_false] using hj
  · rintro (h1 | ⟨j, hj⟩)
    · exact .inl h1
    · refine .inr ⟨j, ?_⟩
      by_cases hji : j = i
      · subst hji; simp only [updL, if_true]; rw [hb, ← h]; exact hj
      · simpa only [updL, hji, if_false] using hj

/-- One of the call's own variables is written. -/
theorem Inv.store (h : Inv w0 X g lk w) {i t : Nat} {cs0 cs : List C} {us : List Value} (hi : lk i = some (.box t cs0)) (hr : C.repsB w (Mut X g lk) g cs us) (h1 : ∀ x ∈ us, x.oneCell' = true) :
    Inv w0 X g (updL lk i (some (.box t cs))) (w.setRow (g.β i) us.toArray) ∧ Keeps w (w.setRow (g.β i) us.toArray) (Mut X g lk) (Mut X g (updL lk i (some (.box t cs)))) g g := by
  have hM : Mut X g (updL lk i (some (.box t cs))) = Mut X g lk := mut_same hi rfl
  obtain ⟨hd, hge, us0, hb, _, _⟩ := h.box i t cs0 hi
  have hin : Mut X g lk (g.β i) := .inr ⟨i, by rw [hi]; rfl⟩
  have hk : Keeps w (w.setRow (g.β i) us.toArray) (Mut X g lk) (Mut X g lk) g g :=
    ⟨by simp, fun b _ hm => setRow_other w _ _ _ (fun e => hm (e ▸ hin)), fun _ _ hm => hm, fun _ h => ⟨h, rfl⟩⟩
  refine ⟨?_, by rw [hM]; exact hk⟩
  have hne : ∀ j b, j ≠ i → blkOf g j (lk j) = some b → b ≠ g.β i := fun j b hj hb he => h.inj j i b hj hb (by rw [hi, he]; rfl)
  refine ⟨h.below.trans ⟨rfl, rfl, rfl, by simp, fun k hk' => setRow_other w _ _ _ (by omega)⟩, h.hX, ?_, ?_, ?_, ?_, ?_⟩
  · intro j t' cs' hj
    rw [hM]
    by_cases hji : j = i
    · subst hji
      simp only [updL, if_true, Option.some.injEq, Blk.box.injEq] at hj
      obtain ⟨rfl, rfl⟩ := hj
      exact ⟨hd, hge, us, setRow_heap w _ _ _ _ _ hb, C.repsB_keep hk _ _ (fun _ _ h => ⟨h, rfl⟩) hr, h1⟩
    · simp only [updL, hji, if_false] at hj
      obtain ⟨e0, e1, us', e2, e3, e4⟩ := h.box j t' cs' hj
      exact ⟨e0, e1, us', (setRow_other w _ _ _ (hne j _ hji (by rw [hj]; rfl))).trans e2, C.repsB_keep hk _ _ (fun _ _ h => ⟨h, rfl⟩) e3, e4⟩
  · intro j e sz xs hj
    by_cases hji : j = i
    · subst hji; simp [updL] at hj
    · simp only [updL, hji, if_false] at hj
      obtain ⟨e0, e1, e2⟩ := h.row j e sz xs hj
      exact ⟨e0, ownsRow_keep e1 fun b hb' => setRow_other w _ _ _ (hne j b hji (by rw [hj]; exact hb')), e2⟩
  · intro j sz n get hj
    rw [hM]
    by_cases hji : j = i
    · subst hji; simp [updL] at hj
    · simp only [updL, hji, if_false] at hj
      obtain ⟨e0, e1⟩ := h.fsl j sz n get hj
      exact ⟨e0, C.rep_keep hk _ _ e1⟩
  · intro j cs' hj
    rw [hM]
    by_cases hji : j = i
    · subst hji; simp [updL] at hj
    · simp only [updL, hji, if_false] at hj
      obtain ⟨e0, e1, e2, e3⟩ := h.fbx j cs' hj
      exact ⟨e0, e1, by simpa using e2, C.at_keep hk _ _ _ e2 e1 e3⟩
  · intro j1 j2 b hne' h2 h3
    have e : ∀ j, blkOf g j (updL lk i (some (.box t cs)) j) = blkOf g j (lk j) := fun j => by
      by_cases hji : j = i
      · subst hji; simp [updL, hi, blkOf]
      · simp [updL, hji]
    rw [e] at h2 h3
    exact h.inj j1 j2 b hne' h2 h3

def Gh.setρ (g : Gh) (k : Nat) (v : Value) : Gh := ⟨g.dom, g.β, fun j => if j = k then v else g.ρ j⟩

theorem blkOf_setρ {k j : Nat} {v : Value} (h : j ≠ k) (x : Option Blk) : blkOf (g.setρ k v) j x = blkOf g j x := by
  cases x with
  | none => rfl
  | some x => cases x <;> simp [blkOf, Gh.setρ, h]

/-- One of the call's own rows has grown. -/
theorem Inv.app0 (h : Inv w0 X g lk w) {w' : World} {k e sz : Nat} {ys xs : Rx} {v : Value} (hbox : ∀ i t cs, lk i = some (.box t cs) → .own k ∈ cs → v = g.ρ k) (hk : lk k = some (.row e sz ys)) (hr : w'.ownsRow w0.heap.size e sz v xs.list.length xs.list.flatten) (ho : rowOk sz xs.list)
    (hg : w.grownBy w' (g.ρ k).ownBlock) (hv : v.ownBlock = (g.ρ k).ownBlock ∨ v.ownBlock = some w.heap.size) :
    Inv w0 X (g.setρ k v) (updL lk k (some (.row e sz xs))) w' ∧ Keeps w w' (Mut X g lk) (Mut X (g.setρ k v) (updL lk k (some (.row e sz xs)))) g (g.setρ k v) := by
  have hold : ∀ b, (g.ρ k).ownBlock = some b → Mut X g lk b := fun b hb => .inr ⟨k, by rw [hk]; exact hb⟩
  have hkp : Keeps w w' (Mut X g lk) (Mut X (g.setρ k v) (updL lk k (some (.row e sz xs)))) g (g.setρ k v) := by
    refine ⟨hg.size, fun b hb hm => hg.block b hb fun e => hm (hold b e.symm), ?_, fun _ h => ⟨h, rfl⟩⟩
    rintro b hb (hm | ⟨j, hj⟩)
    · exact .inl hm
    · by_cases hjk : j = k
      · subst hjk
        simp only [updL, if_true, blkOf, Gh.setρ] at hj
        rcases hv with hv | hv
        · exact hold b (hv ▸ hj)
        · rw [hv] at hj; injection hj with hj; omega
      · rw [blkOf_setρ hjk] at hj
        simp only [updL, hjk, if_false] at hj
        exact .inr ⟨j, hj⟩
  refine ⟨?_, hkp⟩
  have hother : ∀ j b, j ≠ k → blkOf g j (lk j) = some b → w'.heap[b]? = w.heap[b]? := fun j b hj hb => hg.block b (h.blk_lt hb).2 fun e => h.inj j k b hj hb (by rw [hk]; exact e.symm)
  refine ⟨h.below.trans ⟨hg.os, hg.tape, hg.output, hg.size, fun b hb => hg.block b (Nat.lt_of_lt_of_le hb h.below.size) fun e => ?_⟩, h.hX, ?_, ?_, ?_, ?_, ?_⟩
  · have := (h.blk_lt (i := k) (b := b) (by rw [hk]; exact e.symm)).1; omega
  · intro j t cs hj
    by_cases hjk : j = k
    · subst hjk; simp [updL] at hj
    · simp only [updL, hjk, if_false] at hj
      obtain ⟨e0, e1, us', e2, e3, e4⟩ := h.box j t cs hj
      exact ⟨e0, e1, us', (hother j _ hjk (by rw [hj]; rfl)).trans e2, C.repsB_keep hkp _ _ (fun j' hj' hd => ⟨hd, by
        by_cases hjj : j' = k
        · subst hjj
          simp only [Gh.setρ, if_true]
          exact hbox j t cs hj hj'
        · simp [Gh.setρ, hjj]⟩) e3, e4⟩
  · intro j e' sz' xs' hj
    by_cases hjk : j = k
    · subst hjk
      simp only [updL, if_true, Option.some.injEq, Blk.row.injEq] at hj
      obtain ⟨rfl, rfl, rfl⟩ := hj
      exact ⟨(h.row j e sz ys hk).1, by simpa [Gh.setρ] using hr, ho⟩
    · simp only [updL, hjk, if_false] at hj
      obtain ⟨e0, e1, e2⟩ := h.row j e' sz' xs' hj
      exact ⟨e0, by simpa [Gh.setρ, hjk] using ownsRow_keep e1 fun b hb => hother j b hjk (by rw [hj]; exact hb), e2⟩
  · intro j sz' n get hj
    by_cases hjk : j = k
    · subst hjk; simp [updL] at hj
    · simp only [updL, hjk, if_false] at hj
      obtain ⟨e0, e1⟩ := h.fsl j sz' n get hj
      exact ⟨e0, by simpa [Gh.setρ, hjk] using C.rep_keep hkp _ _ e1⟩
  · intro j cs hj
    by_cases hjk : j = k
    · subst hjk; simp [updL] at hj
    · simp only [updL, hjk, if_false] at hj
      obtain ⟨e0, e1, e2, e3⟩ := h.fbx j cs hj
      exact ⟨e0, fun hm => e1 (hkp.muts _ e2 hm), Nat.lt_of_lt_of_le e2 hg.size, C.at_keep hkp _ _ _ e2 e1 e3⟩
  · intro j1 j2 b hne h2 h3
    have new : ∀ j, j ≠ k → blkOf g j (lk j) = some b → blkOf (g.setρ k v) k (some (.row e sz xs)) = some b → False := by
      intro j hj hb hb'
      simp only [blkOf, Gh.setρ, if_true] at hb'
      rcases hv with hv | hv
      · exact h.inj j k b hj hb (by rw [hk]; exact hv.symm.trans hb')
      · rw [hv] at hb'; injection hb' with hb'
        have := (h.blk_lt hb).2; omega
    by_cases hj1 : j1 = k
    · subst hj1
      have hj2 : j2 ≠ j1 := Ne.symm hne
      simp only [updL, if_true] at h2
      rw [blkOf_setρ hj2] at h3
      simp only [updL, hj2, if_false] at h3
      exact new j2 hj2 h3 h2
    · rw [blkOf_setρ hj1] at h2
      simp only [updL, hj1, if_false] at h2
      by_cases hj2 : j2 = k
      · subst hj2
        simp only [updL, if_true] at h3
        exact new j1 hj1 h2 h3
      · rw [blkOf_setρ hj2] at h3
        simp only [updL, hj2, if_false] at h3
        exact h.inj j1 j2 b hne h2 h3

theorem Inv.kill (h : Inv w0 X g lk w) (k : Nat) : Inv w0 X g (fun j => (lk j).map (Blk.kill k)) w ∧ Mut X g (fun j => (lk j).map (Blk.kill k)) = Mut X g lk := by
  have hb : ∀ j, blkOf g j ((lk j).map (Blk.kill k)) = blkOf g j (lk j) := fun j => by
    cases lk j with
    | none => rfl
    | some x => cases x <;> rfl
  have hM : Mut X g (fun j => (lk j).map (Blk.kill k)) = Mut X g lk := by
    funext x
    simp only [Mut, hb]
  refine ⟨⟨h.below, h.hX, ?_, ?_, ?_, ?_, ?_⟩, hM⟩
  · intro j t cs hj
    rw [hM]
    cases hl : lk j with
    | none => rw [hl] at hj; cases hj
    | some x =>
      rw [hl] at hj
      cases x with
      | box t' cs' =>
        simp only [Option.map_some, Blk.kill, Option.some.injEq, Blk.box.injEq] at hj
        obtain ⟨rfl, rfl⟩ := hj
        obtain ⟨e0, e1, us, e2, e3, e4⟩ := h.box j t' cs' hl
        refine ⟨e0, e1, us, e2, ?_, e4⟩
        have : ∀ (cs : List C) (us : List Value), C.repsB w (Mut X g lk) g cs us → C.repsB w (Mut X g lk) g (cs.map (C.kill k)) us := by
          intro cs
          induction cs with
          | nil => intro us h; exact h
          | cons c r ih =>
            intro us h
            simp only [C.repsB] at h
            obtain ⟨x, xs, rfl, hc, h⟩ := h
            simp only [List.map_cons, C.repsB]
            refine ⟨x, xs, rfl, ?_, ih _ h⟩
            cases c with
            | own j =>
              simp only [C.kill]
              split
              · simp [C.repB, C.rep]
              · exact hc
            | rpt j i sz off => simp only [C.repB, C.rep] at hc
            | rsl j lo sz => simp only [C.repB, C.rep] at hc
            | _ => exact hc
        exact this _ _ e3
      | row e sz xs => simp [Blk.kill] at hj
      | fsl sz n get => simp [Blk.kill] at hj
      | fbx cs => simp [Blk.kill] at hj
  · intro j e sz xs hj
    cases hl : lk j with
    | none => rw [hl] at hj; cases hj
    | some x =>
      rw [hl] at hj
      cases x <;> simp only [Option.map_some, Blk.kill, Option.some.injEq, reduceCtorEq] at hj
      rw [hj] at hl
      exact h.row j e sz xs hl
  · intro j sz n get hj
    rw [hM]
    cases hl : lk j with
    | none => rw [hl] at hj; cases hj
    | some x =>
      rw [hl] at hj
      cases x <;> simp only [Option.map_some, Blk.kill, Option.some.injEq, reduceCtorEq] at hj
      rw [hj] at hl
      exact h.fsl j sz n get hl
  · intro j cs hj
    rw [hM]
    cases hl : lk j with
    | none => rw [hl] at hj; cases hj
    | some x =>
      rw [hl] at hj
      cases x <;> simp only [Option.map_some, Blk.kill, Option.some.injEq, reduceCtorEq] at hj
      rw [hj] at hl
      exact h.fbx j cs hl
  · intro j1 j2 b hne h1 h2
    rw [hb] at h1 h2
    exact h.inj j1 j2 b hne h1 h2

theorem no_own_kill {cs : List C} {k : Nat} (h : .own k ∈ cs.map (C.kill k)) : False := by
  obtain ⟨c, _, hc⟩ := List.mem_map.1 h
  cases c with
  | own j =>
    simp only [C.kill] at hc
    split at hc
    · cases hc
    · rename_i hj; injection hc with hc; exact hj hc
  | rpt j i sz off =>
    simp only [C.kill] at hc
    split at hc <;> cases hc
  | rsl j lo sz =>
    simp only [C.kill] at hc
    split at hc <;> cases hc
  | _ => cases hc

theorem Inv.app (h : Inv w0 X g lk w) {w' : World} {k e sz : Nat} {ys xs : Rx} {v : Value} (hk : lk k = some (.row e sz ys)) (hr : w'.ownsRow w0.heap.size e sz v xs.list.length xs.list.flatten) (ho : rowOk sz xs.list)
    (hg : w.grownBy w' (g.ρ k).ownBlock) (hv : v.ownBlock = (g.ρ k).ownBlock ∨ v.ownBlock = some w.heap.size) :
    Inv w0 X (g.setρ k v) (updL (fun j => (lk j).map (Blk.kill k)) k (some (.row e sz xs))) w' ∧ Keeps w w' (Mut X g lk) (Mut X (g.setρ k v) (updL (fun j => (lk j).map (Blk.kill k)) k (some (.row e sz xs)))) g (g.setρ k v) := by
  obtain ⟨h1, h2⟩ := h.kill k
  have := h1.app0 (k := k) (e := e) (sz := sz) (ys := ys) (xs := xs) (v := v) (fun i t cs hi hm => by
    cases hl : lk i with
    | none => rw [hl] at hi; cases hi
    | some x =>
      rw [hl] at hi
      cases x <;> simp only [Option.map_some, Blk.kill, Option.some.injEq, reduceCtorEq, Blk.box.injEq] at hi
      rw [← hi.2] at hm
      exact (no_own_kill hm).elim) (by rw [hk]; rfl) hr ho hg hv
  rw [h2] at this
  exact this

/-- A variable that holds an array becomes a row. -/
theorem Inv.arr (h : Inv w0 X g lk w) {k e sz : Nat} {cs : List C} {xs : Rx} {v : Value} (hk : lk k = some (.box e cs)) (hr : w.ownsRow w0.heap.size e sz v xs.list.length xs.list.flatten) (ho : rowOk sz xs.list) (hv : v.ownBlock = some (g.β k)) :
    Inv w0 X (g.setρ k v) (updL (fun j => (lk j).map (Blk.kill k)) k (some (.row e sz xs))) w ∧ Keeps w w (Mut X g lk) (Mut X (g.setρ k v) (updL (fun j => (lk j).map (Blk.kill k)) k (some (.row e sz xs)))) g (g.setρ k v) := by
  obtain ⟨h1, h2⟩ := h.kill k
  have hkk : blkOf g k ((lk k).map (Blk.kill k)) = some (g.β k) := by rw [hk]; rfl
  have hsame : ∀ j, blkOf (g.setρ k v) j (updL (fun j => (lk j).map (Blk.kill k)) k (some (.row e sz xs)) j) = blkOf g j ((lk j).map (Blk.kill k)) := by
    intro j
    by_cases hjk : j = k
    · subst hjk
      rw [hkk]
      simp only [updL, if_true, blkOf, Gh.setρ]
      exact hv
    · rw [blkOf_setρ hjk]
      simp only [updL, hjk, if_false]
  have hM : Mut X (g.setρ k v) (updL (fun j => (lk j).map (Blk.kill k)) k (some (.row e sz xs))) = Mut X g lk := by
    rw [← h2]
    funext b
    simp only [Mut, hsame]
  have hkp : Keeps w w (Mut X g lk) (Mut X (g.setρ k v) (updL (fun j => (lk j).map (Blk.kill k)) k (some (.row e sz xs)))) g (g.setρ k v) := by
    rw [hM]
    exact ⟨Nat.le_refl _, fun _ _ _ => rfl, fun _ _ hm => hm, fun _ h => ⟨h, rfl⟩⟩
  refine ⟨⟨h.below, h.hX, ?_, ?_, ?_, ?_, ?_⟩, hkp⟩
  · intro j t cs' hj
    by_cases hjk : j = k
    · subst hjk; simp [updL] at hj
    · simp only [updL, hjk, if_false] at hj
      obtain ⟨e0, e1, us, e2, e3, e4⟩ := h1.box j t cs' hj
      rw [h2] at e3
      refine ⟨e0, e1, us, e2, C.repsB_keep hkp _ _ (fun j' hj' hd => ⟨hd, ?_⟩) e3, e4⟩
      by_cases hjj : j' = k
      · subst hjj
        cases hl : lk j with
        | none => rw [hl] at hj; cases hj
        | some x =>
          rw [hl] at hj
          cases x <;> simp only [Option.map_some, Blk.kill, Option.some.injEq, reduceCtorEq, Blk.box.injEq] at hj
          rw [← hj.2] at hj'
          exact (no_own_kill hj').elim
      · simp [Gh.setρ, hjj]
  · intro j e' sz' xs' hj
    by_cases hjk : j = k
    · subst hjk
      simp only [updL, if_true, Option.some.injEq, Blk.row.injEq] at hj
      obtain ⟨rfl, rfl, rfl⟩ := hj
      exact ⟨(h.box j e cs hk).1, by simpa [Gh.setρ] using hr, ho⟩
    · simp only [updL, hjk, if_false] at hj
      obtain ⟨e0, e1, e2⟩ := h1.row j e' sz' xs' hj
      exact ⟨e0, by simpa [Gh.setρ, hjk] using e1, e2⟩
  · intro j sz' n get hj
    by_cases hjk : j = k
    · subst hjk; simp [updL] at hj
    · simp only [updL, hjk, if_false] at hj
      obtain ⟨e0, e1⟩ := h1.fsl j sz' n get hj
      rw [h2] at e1
      exact ⟨e0, by simpa [Gh.setρ, hjk] using C.rep_keep hkp _ _ e1⟩
  · intro j cs' hj
    by_cases hjk : j = k
    · subst hjk; simp [updL] at hj
    · simp only [updL, hjk, if_false] at hj
      obtain ⟨e0, e1, e2, e3⟩ := h1.fbx j cs' hj
      rw [h2] at e1 e3
      exact ⟨e0, fun hm => e1 (hkp.muts _ e2 hm), e2, C.at_keep hkp _ _ _ e2 e1 e3⟩
  · intro j1 j2 b hne h3 h4
    rw [hsame] at h3 h4
    exact h1.inj j1 j2 b hne h3 h4

theorem setρ_self (g : Gh) (k : Nat) : g.setρ k (g.ρ k) = g := by
  unfold Gh.setρ
  have : (fun j => if j = k then g.ρ k else g.ρ j) = g.ρ := by
    funext j; split
    · rename_i h; rw [h]
    · rfl
  rw [this]

/-- An element of one of the call's own rows is written. -/
theorem Inv.rset (h : Inv w0 X g lk w) {w' : World} {k e sz : Nat} {ys xs : Rx} (hk : lk k = some (.row e sz ys)) (hr : w'.ownsRow w0.heap.size e sz (g.ρ k) xs.list.length xs.list.flatten) (ho : rowOk sz xs.list)
    (hg : w.grownBy w' (g.ρ k).ownBlock) : Inv w0 X g (updL lk k (some (.row e sz xs))) w' ∧ Keeps w w' (Mut X g lk) (Mut X g (updL lk k (some (.row e sz xs)))) g g := by
  have := h.app0 (fun _ _ _ _ _ => rfl) hk hr ho hg (.inl rfl)
  rwa [setρ_self] at this

theorem look_cons (i : Nat) (b : Blk) (m : List (Nat × Blk)) : look ((i, b) :: m) = updL (look m) i (some b) := by
  funext j; simp [look, updL]

/-- **Behind an operation the state is as it is said to be.** -/
theorem appE_ok {e : Eff} (hs : ∃ g, Inv w0 X g (look s.mem) w ∧ FrRep w (Mut X g (look s.mem)) g s.fr a ∧ a.tmps.size = s.fr.length ∧ a.defers = [] ∧ (∀ i, s.nxt ≤ i → ¬ g.dom i) ∧ FrRep w (Mut X g (look s.mem)) g s.ks b ∧ ∀ K' Q, EffOk P o a w0 w X g (look s.mem) K' Q e)
    (h : appE s o.dst K e) (hK : ∀ s' a' w', St w0 X b s' a' w' → K s' → K' a' w') : o.wp P a w K' Q := by
  obtain ⟨g, hI, hf, hsz, hd, hn, hb, hee⟩ := hs
  have hd' := hd
  have he := hee K' Q
  cases e with
  | ret p d =>
    refine he h.1 fun v w' hw hv => hK { s with fr := put s.fr o.dst d } _ _ ⟨g, hI.grow hw, ?_, ?_, put_defers _ _ hd, hn, frRep_keep hb (keeps_grow hw) fun k _ hk => ⟨hk, rfl⟩⟩ h.2
    · exact (frRep_put (frRep_keep hf (keeps_grow hw) fun k _ hk => ⟨hk, rfl⟩) hsz hv).1
    · exact (frRep_put (frRep_keep hf (keeps_grow hw) fun k _ hk => ⟨hk, rfl⟩) hsz hv).2
  | sel t x y =>
    refine he fun v hv => ?_
    have hp := frRep_put (dst := o.dst) hf hsz hv
    cases t with
    | true => exact hK { s with fr := put s.fr o.dst x } _ _ ⟨g, hI, hp.1, hp.2, put_defers _ _ hd, hn, hb⟩ (h.1 rfl)
    | false => exact hK { s with fr := put s.fr o.dst y } _ _ ⟨g, hI, hp.1, hp.2, put_defers _ _ hd, hn, hb⟩ (h.2 rfl)
  | nilq n neg =>
    refine he fun t ht => ?_
    have hp := frRep_put (dst := o.dst) (d := .c (.b t)) hf hsz of_bool
    exact hK { s with fr := put s.fr o.dst (.c (.b t)) } _ _ ⟨g, hI, hp.1, hp.2, put_defers _ _ hd, hn, hb⟩ (h t ht)
  | box t cs =>
    refine he fun us hr h1 => ?_
    have hi : ¬ g.dom s.nxt := hn _ (Nat.le_refl _)
    have hw : Below w.heap.size w (w.alloc (.cells us.toArray t)) := (Below.refl _ _).alloc (Nat.le_refl _) _
    have hk : ∀ b, blkOf (g.put s.nxt w.heap.size undef) s.nxt (some (.box t cs)) = some b → w.heap.size ≤ b := by
      intro b hb
      simp only [blkOf, Gh.put, if_true, Option.some.injEq] at hb
      omega
    have hI' := hI.put (v := undef) (k := .box t cs) hw hi hk ⟨Nat.le_refl _, us, heap_alloc_new w _, C.repsB_of _ _ hr, h1⟩
    have hkp := keeps_put hI hw hi hk
    have hg : ∀ k, g.dom k → (g.put s.nxt w.heap.size undef).dom k ∧ (g.put s.nxt w.heap.size undef).ρ k = g.ρ k := fun k hk => ⟨((Gh.le_put g s.nxt w.heap.size undef hi) k hk).1, ((Gh.le_put g s.nxt w.heap.size undef hi) k hk).2.2⟩
    have hf' := frRep_keep hf hkp fun k _ hk => hg k hk
    have hb' := frRep_keep hb hkp fun k _ hk => hg k hk
    have hp := frRep_put (dst := o.dst) (d := .c (.ptr s.nxt 0)) hf' hsz (v := .pointer (some ⟨w.heap.size, 0, none⟩)) (by simp [D.rep, D.rep0, C.rep, Gh.put])
    refine hK { s with fr := put s.fr o.dst (.c (.ptr s.nxt 0)), mem := (s.nxt, .box t cs) :: s.mem, nxt := s.nxt + 1 } _ _ ⟨g.put s.nxt w.heap.size undef, ?_, ?_, hp.2, put_defers _ _ hd, fun i hi' => ?_, ?_⟩ h
    · rw [look_cons]; exact hI'
    · rw [look_cons]; exact hp.1
    · have h1 : i ≠ s.nxt := by have : s.nxt + 1 ≤ i := hi'; omega
      have h2 := hn i (by have : s.nxt + 1 ≤ i := hi'; omega)
      simp [Gh.put, h1, h2]
    · rw [look_cons]; exact hb'
  | row p e sz xs =>
    refine he h.1 fun v w' hw hr hro => ?_
    have hi : ¬ g.dom s.nxt := hn _ (Nat.le_refl _)
    have hk : ∀ b, blkOf (g.put s.nxt 0 v) s.nxt (some (.row e sz xs)) = some b → w.heap.size ≤ b := by
      intro b hb
      simp only [blkOf, Gh.put, if_true] at hb
      exact (hr.lt b hb).1
    have hI' := hI.put (b0 := 0) (k := .row e sz xs) hw hi hk ⟨hr, hro⟩
    have hkp := keeps_put hI hw hi hk
    have hg : ∀ k, g.dom k → (g.put s.nxt 0 v).dom k ∧ (g.put s.nxt 0 v).ρ k = g.ρ k := fun k hk => ⟨((Gh.le_put g s.nxt 0 v hi) k hk).1, ((Gh.le_put g s.nxt 0 v hi) k hk).2.2⟩
    have hf' := frRep_keep hf hkp fun k _ hk => hg k hk
    have hb' := frRep_keep hb hkp fun k _ hk => hg k hk
    have hp := frRep_put (dst := o.dst) (d := .c (.own s.nxt)) hf' hsz (v := v) (by simp [D.rep, Gh.put])
    refine hK { s with fr := put s.fr o.dst (.c (.own s.nxt)), mem := (s.nxt, .row e sz xs) :: s.mem, nxt := s.nxt + 1 } _ _ ⟨g.put s.nxt 0 v, ?_, ?_, hp.2, put_defers _ _ hd, fun i hi' => ?_, ?_⟩ h.2
    · rw [look_cons]; exact hI'
    · rw [look_cons]; exact hp.1
    · have h1 : i ≠ s.nxt := by have : s.nxt + 1 ≤ i := hi'; omega
      have h2 := hn i (by have : s.nxt + 1 ≤ i := hi'; omega)
      simp [Gh.put, h1, h2]
    · rw [look_cons]; exact hb'
  | store i t cs =>
    refine he fun us hr h1 ⟨cs0, hi⟩ => ?_
    obtain ⟨hI', hkp⟩ := hI.store hi hr h1 (cs := cs)
    have hf' := frRep_keep hf hkp fun k _ hk => ⟨hk, rfl⟩
    have hb' := frRep_keep hb hkp fun k _ hk => ⟨hk, rfl⟩
    have hp := frRep_put (dst := o.dst) (d := .c .any) hf' hsz (v := undef) (by simp [D.rep, D.rep0, C.rep])
    refine hK { s with fr := put s.fr o.dst (.c .any), mem := upd s.mem i (.box t cs) } _ _ ⟨g, ?_, ?_, hp.2, put_defers _ _ hd, hn, ?_⟩ h
    · rw [look_upd _ _ _ (by rw [hi]; rfl)]; exact hI'
    · rw [look_upd _ _ _ (by rw [hi]; rfl)]; exact hp.1
    · rw [look_upd _ _ _ (by rw [hi]; rfl)]; exact hb'
  | app k p e sz xs =>
    refine he h.1 fun v w' hr hro ⟨ys, hk⟩ hg hv => ?_
    obtain ⟨hI', hkp⟩ := hI.app hk hr hro hg hv
    have hdom : g.dom k := (hI.row k e sz ys hk).1
    have hlk : look (upd (killMem k s.mem) k (.row e sz xs)) = updL (fun j => (look s.mem j).map (Blk.kill k)) k (some (.row e sz xs)) := by
      rw [look_upd _ _ _ (by rw [look_kill, hk]; rfl)]
      congr 1
      funext j
      exact look_kill k s.mem j
    have hfree : ∀ fr : List D, ∀ j, (∃ t, ((fr.map (D.kill k)).getD t (.c .any)).num = some j) → g.dom j → (g.setρ k v).dom j ∧ (g.setρ k v).ρ j = g.ρ j := fun fr j hj hjd => by
      refine ⟨hjd, ?_⟩
      by_cases hjk : j = k
      · subst hjk
        obtain ⟨t, ht⟩ := hj
        exact absurd ht kill_free
      · simp [Gh.setρ, hjk]
    have hf' := frRep_keep (frRep_kill k hf) hkp (hfree s.fr)
    have hb' := frRep_keep (frRep_kill k hb) hkp (hfree s.ks)
    have hp := frRep_put (dst := o.dst) (d := .c (.own k)) hf' (by simpa using hsz) (v := v) (by simp only [D.rep, Gh.setρ, if_true, and_true]; exact hdom)
    refine hK { s with fr := put (s.fr.map (D.kill k)) o.dst (.c (.own k)), mem := upd (killMem k s.mem) k (.row e sz xs), ks := s.ks.map (D.kill k) } _ _ ⟨g.setρ k v, ?_, ?_, hp.2, put_defers _ _ hd, hn, ?_⟩ h.2
    · show Inv w0 X (g.setρ k v) (look (upd (killMem k s.mem) k (.row e sz xs))) w'
      rw [hlk]; exact hI'
    · show FrRep w' (Mut X (g.setρ k v) (look (upd (killMem k s.mem) k (.row e sz xs)))) _ _ _
      rw [hlk]; exact hp.1
    · show FrRep w' (Mut X (g.setρ k v) (look (upd (killMem k s.mem) k (.row e sz xs)))) _ _ _
      rw [hlk]; exact hb'
  | rset k e sz xs =>
    refine he fun v w' hr hro ⟨ys, hk⟩ hg => ?_
    obtain ⟨hI', hkp⟩ := hI.rset hk hr hro hg
    have hf' := frRep_keep hf hkp fun k _ hk => ⟨hk, rfl⟩
    have hb' := frRep_keep hb hkp fun k _ hk => ⟨hk, rfl⟩
    have hp := frRep_put (dst := o.dst) (d := .c .any) hf' hsz (v := v) (by simp [D.rep, D.rep0, C.rep])
    refine hK { s with fr := put s.fr o.dst (.c .any), mem := upd s.mem k (.row e sz xs) } _ _ ⟨g, ?_, ?_, hp.2, put_defers _ _ hd, hn, ?_⟩ h
    · rw [look_upd _ _ _ (by rw [hk]; rfl)]; exact hI'
    · rw [look_upd _ _ _ (by rw [hk]; rfl)]; exact hp.1
    · rw [look_upd _ _ _ (by rw [hk]; rfl)]; exact hb'
  | arr k e sz xs =>
    refine he fun v hr hro ⟨cs, hk⟩ hv => ?_
    obtain ⟨hI', hkp⟩ := hI.arr hk hr hro hv
    have hdom : g.dom k := (hI.box k e cs hk).1
    have hlk : look (upd (killMem k s.mem) k (.row e sz xs)) = updL (fun j => (look s.mem j).map (Blk.kill k)) k (some (.row e sz xs)) := by
      rw [look_upd _ _ _ (by rw [look_kill, hk]; rfl)]
      congr 1
      funext j
      exact look_kill k s.mem j
    have hfree : ∀ fr : List D, ∀ j, (∃ t, ((fr.map (D.kill k)).getD t (.c .any)).num = some j) → g.dom j → (g.setρ k v).dom j ∧ (g.setρ k v).ρ j = g.ρ j := fun fr j hj hjd => by
      refine ⟨hjd, ?_⟩
      by_cases hjk : j = k
      · subst hjk
        obtain ⟨t, ht⟩ := hj
        exact absurd ht kill_free
      · simp [Gh.setρ, hjk]
    have hf' := frRep_keep (frRep_kill k hf) hkp (hfree s.fr)
    have hb' := frRep_keep (frRep_kill k hb) hkp (hfree s.ks)
    have hp := frRep_put (dst := o.dst) (d := .c (.own k)) hf' (by simpa using hsz) (v := v) (by simp only [D.rep, Gh.setρ, if_true, and_true]; exact hdom)
    refine hK { s with fr := put (s.fr.map (D.kill k)) o.dst (.c (.own k)), mem := upd (killMem k s.mem) k (.row e sz xs), ks := s.ks.map (D.kill k) } _ _ ⟨g.setρ k v, ?_, ?_, hp.2, put_defers _ _ hd, hn, ?_⟩ h
    · show Inv w0 X (g.setρ k v) (look (upd (killMem k s.mem) k (.row e sz xs))) w
      rw [hlk]; exact hI'
    · show FrRep w (Mut X (g.setρ k v) (look (upd (killMem k s.mem) k (.row e sz xs)))) _ _ _
      rw [hlk]; exact hp.1
    · show FrRep w (Mut X (g.setρ k v) (look (upd (killMem k s.mem) k (.row e sz xs)))) _ _ _
      rw [hlk]; exact hb'
  | call R ef =>
    obtain ⟨d, hd, h⟩ := h
    exact appE_ok (e := ef d) ⟨g, hI, hf, hsz, hd', hn, hb, fun K' Q => hee K' Q d hd⟩ h hK
  | bad => exact h.elim

theorem mut_less {X : Nat → Prop} {i : Nat} {b' : Blk} (hb : blkOf g i (some b') = none) : ∀ x, Mut X g (updL lk i (some b')) x → Mut X g lk x := by
  rintro x (h1 | ⟨j, hj⟩)
  · exact .inl h1
  · by_cases hji : j = i
    · subst hji; simp only [updL, if_true] at hj; rw [hb] at hj; cases hj
    · exact .inr ⟨j, by simpa only [updL, hji, if_false] using hj⟩

theorem mut_gone (h : Inv w0 X g lk w) {i b : Nat} {b' : Blk} (hb : blkOf g i (some b') = none) (hi : blkOf g i (lk i) = some b) : ¬ Mut X g (updL lk i (some b')) b := by
  rintro (h1 | ⟨j, hj⟩)
  · have := h.hX b h1
    have := (h.blk_lt hi).1
    omega
  · by_cases hji : j = i
    · subst hji; simp only [updL, if_true] at hj; rw [hb] at hj; cases hj
    · exact h.inj j i b hji (by simpa only [updL, hji, if_false] using hj) hi

/-- A row or a variable is read alone from now on. -/
theorem Inv.lay (h : Inv w0 X g lk w) {k : Nat} {b' : Blk} (hb : blkOf g k (some b') = none)
    (hnew : match b' with
      | .fsl sz n get => g.dom k ∧ C.rep w (Mut X g (updL lk k (some b'))) g (.sl sz n get) (g.ρ k)
      | .fbx cs => g.dom k ∧ ¬ Mut X g (updL lk k (some b')) (g.β k) ∧ g.β k < w.heap.size ∧ C.at_ w (Mut X g (updL lk k (some b'))) g cs ⟨g.β k, 0, none⟩ 0
      | _ => False) : Inv w0 X g (updL lk k (some b')) w ∧ Keeps w w (Mut X g lk) (Mut X g (updL lk k (some b'))) g g := by
  have hkp : Keeps w w (Mut X g lk) (Mut X g (updL lk k (some b'))) g g := ⟨Nat.le_refl _, fun _ _ _ => rfl, fun b _ hm => mut_less hb b hm, fun _ h => ⟨h, rfl⟩⟩
  refine ⟨⟨h.below, h.hX, ?_, ?_, ?_, ?_, ?_⟩, hkp⟩
  · intro j t cs hj
    by_cases hjk : j = k
    · subst hjk
      simp only [updL, if_true, Option.some.injEq] at hj
      subst hj; exact hnew.elim
    · simp only [updL, hjk, if_false] at hj
      obtain ⟨e0, e1, us', e2, e3, e4⟩ := h.box j t cs hj
      exact ⟨e0, e1, us', e2, C.repsB_keep hkp _ _ (fun _ _ h => ⟨h, rfl⟩) e3, e4⟩
  · intro j e sz xs hj
    by_cases hjk : j = k
    · subst hjk
      simp only [updL, if_true, Option.some.injEq] at hj
      subst hj; exact hnew.elim
    · simp only [updL, hjk, if_false] at hj
      exact h.row j e sz xs hj
  · intro j sz n get hj
    by_cases hjk : j = k
    · subst hjk
      simp only [updL, if_true, Option.some.injEq] at hj
      subst hj; exact hnew
    · simp only [updL, hjk, if_false] at hj
      obtain ⟨e0, e1⟩ := h.fsl j sz n get hj
      exact ⟨e0, C.rep_keep hkp _ _ e1⟩
  · intro j cs hj
    by_cases hjk : j = k
    · subst hjk
      simp only [updL, if_true, Option.some.injEq] at hj
      subst hj; exact hnew
    · simp only [updL, hjk, if_false] at hj
      obtain ⟨e0, e1, e2, e3⟩ := h.fbx j cs hj
      exact ⟨e0, fun hm => e1 (mut_less hb _ hm), e2, C.at_keep hkp _ _ _ e2 e1 e3⟩
  · intro j1 j2 b hne h2 h3
    have e : ∀ j, blkOf g j (updL lk k (some b') j) = some b → blkOf g j (lk j) = some b := fun j hj => by
      by_cases hjk : j = k
      · subst hjk; simp only [updL, if_true] at hj; rw [hb] at hj; cases hj
      · simpa only [updL, hjk, if_false] using hj
    exact h.inj j1 j2 b hne (e j1 h2) (e j2 h3)

theorem row_sl' {M : Nat → Prop} {base e sz : Nat} {u : Value} {xs : List (List Value)} (hr : w.ownsRow base e sz u xs.length xs.flatten) (ho : rowOk sz xs) (hM : ∀ b, u.ownBlock = some b → ¬ M b) :
    C.rep w M g (.sl sz xs.length (fun i => xs.getD i [])) u := by
  -- out of row_sl, at a set that leaves the row's block out
  simp only [C.rep]
  rcases hr.2 with ⟨rfl, h0⟩ | ⟨b, cap, cur, hu, hb, hh, hnc, _, hsz, htk⟩
  · exact ⟨none, 0, by rw [h0], by omega, fun h => by omega⟩
  · refine ⟨_, cap, hu, hnc, fun h => ⟨⟨b, 0, none⟩, rfl, hM b (by rw [hu]; rfl), heap_lt hh, fun j hj => ?_⟩⟩
    have hx : xs[j]? = some xs[j] := List.getElem?_eq_getElem hj
    have hg : xs.getD j [] = xs[j] := by simp [List.getD, hx]
    rw [hg]
    obtain ⟨h1, h2⟩ := ho xs[j] (List.getElem_mem hj)
    refine ⟨h1, fun o x hox => ⟨?_, h2 x (List.mem_of_getElem? hox)⟩⟩
    exact hr.cells (g := b) (by rw [hu]; rfl) _ _ (flat_at sz o x xs j xs[j] (fun z hz => (ho z hz).1) hx hox)

theorem row_slR' {M : Nat → Prop} {base e sz : Nat} {u : Value} {xs : Rx} (hr : w.ownsRow base e sz u xs.list.length xs.list.flatten) (ho : rowOk sz xs.list) (hM : ∀ b, u.ownBlock = some b → ¬ M b) :
    C.rep w M g (.sl sz xs.len xs.get) u :=
  sl_congr xs.len_eq.symm (fun j hj => (xs.get_eq j (by rw [xs.len_eq]; exact hj)).symm) (row_sl' hr ho hM)
theorem at_box {M : Nat → Prop} {b t : Nat} : ∀ (cs : List C) (us : List Value) (o : Nat) (pre : List Value), pre.length = o → w.heap[b]? = some (.cells (pre ++ us).toArray t (0, 0)) → C.reps w M g cs us → (∀ x ∈ us, x.oneCell' = true) → C.at_ w M g cs ⟨b, 0, none⟩ o
  | [], _, _, _, _, _, _, _ => by simp only [C.at_]
  | c :: r, us, o, pre, hp, hb, hr, h1 => by
    simp only [C.reps] at hr
    obtain ⟨x, xs, rfl, hc, hr⟩ := hr
    simp only [C.at_]
    refine ⟨⟨x, ?_, h1 x (by simp), hc⟩, at_box r xs (o + 1) (pre ++ [x]) (by simp [hp]) (by simpa using hb) hr fun y hy => h1 y (by simp [hy])⟩
    rw [addr_add0, cell_of_row w _ _ _ _ _ hb]
    simp [← hp]

theorem Inv.frz1 {m : List (Nat × Blk)} (h : Inv w0 X g (look m) w) (k : Nat) : Inv w0 X g (look (frz1 Ar.std m k)) w ∧ Keeps w w (Mut X g (look m)) (Mut X g (look (frz1 Ar.std m k))) g g := by
  have same : Inv w0 X g (look m) w ∧ Keeps w w (Mut X g (look m)) (Mut X g (look m)) g g := ⟨h, ⟨Nat.le_refl _, fun _ _ _ => rfl, fun _ _ hm => hm, fun _ h => ⟨h, rfl⟩⟩⟩
  unfold Den.frz1
  cases hk : look m k with
  | none => exact same
  | some b =>
    cases b with
    | row e sz xs =>
      simp only
      rw [look_upd _ _ _ (by rw [hk]; rfl), xs.lenA_std, xs.getA_std]
      obtain ⟨e0, e1, e2⟩ := h.row k e sz xs hk
      refine h.lay rfl ⟨e0, row_slR' e1 e2 fun b hb => mut_gone h rfl (by rw [hk]; exact hb)⟩
    | box t cs =>
      simp only
      split
      · rename_i hno
        rw [look_upd _ _ _ (by rw [hk]; rfl)]
        obtain ⟨e0, e1, us, e2, e3, e4⟩ := h.box k t cs hk
        have e3' := C.reps_ofB _ _ (fun j hj => by
          have := List.all_eq_true.1 hno _ hj
          simp [C.noOwn] at this) e3
        have hkp : Keeps w w (Mut X g (look m)) (Mut X g (updL (look m) k (some (.fbx cs)))) g g := ⟨Nat.le_refl _, fun _ _ _ => rfl, fun b _ hm => mut_less rfl b hm, fun _ h => ⟨h, rfl⟩⟩
        refine h.lay rfl ⟨e0, mut_gone h rfl (by rw [hk]; rfl), heap_lt e2, at_box cs us 0 [] rfl (by simpa using e2) (C.reps_keep hkp _ _ e3') e4⟩
      · exact same
    | fsl sz n get => exact same
    | fbx cs => exact same

theorem keeps_trans_same {M M1 M2 : Nat → Prop} (h : Keeps w w M M1 g g) (h' : Keeps w w M1 M2 g g) : Keeps w w M M2 g g :=
  ⟨Nat.le_refl _, fun _ _ _ => rfl, fun b hb hm => h.muts b hb (h'.muts b hb hm), fun _ h => ⟨h, rfl⟩⟩

theorem Inv.frzRows {fr : List D} : ∀ (xs : List Operand) (m : List (Nat × Blk)), Inv w0 X g (look m) w → Inv w0 X g (look (frzRows Ar.std fr m xs)) w ∧ Keeps w w (Mut X g (look m)) (Mut X g (look (frzRows Ar.std fr m xs))) g g
  | [], m, h => ⟨h, ⟨Nat.le_refl _, fun _ _ _ => rfl, fun _ _ hm => hm, fun _ h => ⟨h, rfl⟩⟩⟩
  | x :: r, m, h => by
    unfold Den.frzRows
    split
    · rename_i k _
      obtain ⟨h1, h2⟩ := h.frz1 k
      obtain ⟨h3, h4⟩ := Inv.frzRows r _ h1
      exact ⟨h3, keeps_trans_same h2 h4⟩
    · exact Inv.frzRows r m h
theorem Inv.frzVars {fr : List D} : ∀ (xs : List Operand) (m : List (Nat × Blk)), Inv w0 X g (look m) w → Inv w0 X g (look (frzVars Ar.std fr m xs)) w ∧ Keeps w w (Mut X g (look m)) (Mut X g (look (frzVars Ar.std fr m xs))) g g
  | [], m, h => ⟨h, ⟨Nat.le_refl _, fun _ _ _ => rfl, fun _ _ hm => hm, fun _ h => ⟨h, rfl⟩⟩⟩
  | x :: r, m, h => by
    unfold Den.frzVars
    split
    · rename_i k _ _
      obtain ⟨h1, h2⟩ := h.frz1 k
      obtain ⟨h3, h4⟩ := Inv.frzVars r _ h1
      exact ⟨h3, keeps_trans_same h2 h4⟩
    · exact Inv.frzVars r m h

theorem St.frz (h : St w0 X b s a w) (T : Tab) (env : Env) (o : Oper) : St w0 X b { s with mem := frzOp Ar.std T env o s.fr s.mem } a w := by
  obtain ⟨g, hI, hf, hsz, hd, hn, hb⟩ := h
  obtain ⟨h1, h2⟩ := hI.frzRows (fr := s.fr) (frzList T env o.op s.fr s.mem)
  obtain ⟨h3, h4⟩ := h1.frzVars (fr := s.fr) (fixed o.op).2
  exact ⟨g, h3, frRep_keep hf (keeps_trans_same h2 h4) fun k _ hk => ⟨hk, rfl⟩, hsz, hd, hn, frRep_keep hb (keeps_trans_same h2 h4) fun k _ hk => ⟨hk, rfl⟩⟩

/-- A function that is read in place does what is said. -/
def InlOk (P : Program) (f : Nat) (I : List D → AS → (D → AS → Prop) → Prop) : Prop :=
  (∃ fn : Func, P.funcs[f]? = some fn ∧ (fn.name == "runtime.NumGoroutine") = false ∧ fn.body.isNone = false) ∧
  ∀ (args : List D) (s : AS) (K : D → AS → Prop) (us : List Value) (w0 w : World) (X : Nat → Prop) (a b : Act) (g : Gh), Inv w0 X g (look s.mem) w → FrRep w (Mut X g (look s.mem)) g s.fr a → a.tmps.size = s.fr.length → (∀ i, s.nxt ≤ i → ¬ g.dom i) → FrRep w (Mut X g (look s.mem)) g s.ks b →
    D.repsT w (Mut X g (look s.mem)) g args us → I args s K →
    Calls P f us.toArray w fun e w' => ∃ u d s' g', e = .returned u ∧ K d s' ∧ Inv w0 X g' (look s'.mem) w' ∧ FrRep w' (Mut X g' (look s'.mem)) g' s'.fr a ∧ a.tmps.size = s'.fr.length ∧ (∀ i, s'.nxt ≤ i → ¬ g'.dom i) ∧ FrRep w' (Mut X g' (look s'.mem)) g' s'.ks b ∧ D.rep w' (Mut X g' (look s'.mem)) g' d u

/-- What is said of the functions is so. -/
structure EnvOK (P : Program) (env : Env) : Prop where
  ok : EnvOk P env
  inl : ∀ f I, env.inl f = some I → InlOk P f I

theorem aop_ok (hT : TabOk P T) (hE : EnvOK P env) (hs : St w0 X b s a w) (h : aop Ar.std T env o s K) (hK : ∀ s' a' w', St w0 X b s' a' w' → K s' → K' a' w') : o.wp P a w K' Q := by
  unfold aop at h
  cases hi : inlOf env o.op with
  | none =>
    rw [hi] at h
    obtain ⟨g, hI, hf, hsz, hd, hn, hb⟩ := hs.frz T env o
    exact appE_ok (s := { s with mem := frzOp Ar.std T env o s.fr s.mem }) ⟨g, hI, hf, hsz, hd, hn, hb, fun K' Q => gop_ok hT hE.ok hI hf⟩ h hK
  | some z =>
    obtain ⟨I, args⟩ := z
    rw [hi] at h
    simp only at h
    unfold inlOf at hi
    split at hi
    · rename_i f args' tys hx
      split at hi
      · rename_i I' hI'
        injection hi with hi
        injection hi with hi1 hi2
        subst hi1 hi2
        obtain ⟨⟨fn, h1, h2, h3⟩, hc⟩ := hE.inl f I' hI'
        obtain ⟨g, hI, hf, hsz, hd, hn, hb⟩ := hs
        have hc := hc _ s _ (args'.toList.map a.eval) w0 w X a b g hI hf hsz hn hb (reps_map _ (rep_ev hI hf) _) h
        have hrun := run_call (P := P) (w := w) (a := a) (o := o) (c := ⟨.value (.func f), args', tys⟩) (fo := .func f) (caps := []) hx rfl rfl h1 h2 h3
        refine wp_enter_ hrun ?_
        simp only [List.append_nil]
        refine hc.mono ?_
        rintro e w' ⟨u, d, s', g', rfl, hk, hI2, hf2, hsz2, hn2, hb2, hu⟩
        have hp := frRep_put (dst := o.dst) hf2 hsz2 hu
        exact ⟨u, rfl, hK { s' with fr := put s'.fr o.dst d } _ _ ⟨g', hI2, hp.1, hp.2, put_defers _ _ hd, hn2, hb2⟩ hk⟩
      · cases hi
    · cases hi

/-! ### A region in the order of the text -/
theorem dst_of {ops : Array Oper} {all : List Oper} (h : ops.toList = all) (j : Nat) : (ops[j]?).bind (·.dst) = dstOf all j := by
  subst h
  unfold dstOf
  rw [← Array.getElem?_toList]
  cases ops.toList[j]? <;> rfl

theorem frRep_lit {M : Nat → Prop} {fr : List D} {t : Nat} {b : Bool} (hf : FrRep w M g fr a) (h : fr.getD t (.c .any) = .c (.b b)) : FrRep w M g (fr.set t (.c (.v (.bool b)))) a := by
  intro t'
  by_cases ht : t' = t
  · subst ht
    have h1 := hf t'
    rw [h] at h1
    have h2 := rep_bool h1
    by_cases hl : t' < fr.length
    · have e1 : (fr.set t' (.c (.v (.bool b)))).getD t' (.c .any) = .c (.v (.bool b)) := by simp [List.getD, List.getElem?_set_self hl]
      rw [e1, h2]; simp [D.rep, D.rep0, C.rep, Value.oneCell']
    · rw [List.getD, List.getElem?_eq_none (by omega)] at h; cases h
  · have e1 : (fr.set t (.c (.v (.bool b)))).getD t' (.c .any) = fr.getD t' (.c .any) := by simp [List.getD, List.getElem?_set_ne (Ne.symm ht)]
    rw [e1]; exact hf t'

theorem astep_ok {ops : Array Oper} {all : List Oper} (hall : ops.toList = all) (hT : TabOk P T) (hE : EnvOK P env) {i : Nat} (_hi : ops[i]? = some o) (hs : St w0 X b s a w) (h : astep Ar.std T env all o s K)
    (hK : ∀ s' a' w', St w0 X b s' a' w' → K s' → K' a' w') : if Region.wanted o (yielded ops a.tmps) then o.wp P a w K' Q else K' (a.put o.dst undef) w := by
  unfold astep at h
  cases hg : o.guard with
  | none =>
    rw [hg] at h
    simp only [Region.wanted, hg, if_true]
    exact aop_ok hT hE hs h hK
  | some jw =>
    obtain ⟨j, want⟩ := jw
    rw [hg] at h
    simp only at h
    cases hd : dstOf all j with
    | none => rw [hd] at h; exact h.elim
    | some t =>
      rw [hd] at h
      simp only at h
      have hs0 := hs
      obtain ⟨g, hI, hf, hsz, hdf, hn, hbk⟩ := hs0
      have hft := hf t
      have hyield : ∀ b : Bool, a.tmps.getD t undef = .bool b → Region.wanted o (yielded ops a.tmps) = (b == want) := by
        intro b hb
        have hlt : t < a.tmps.size := by
          rcases Nat.lt_or_ge t a.tmps.size with h1 | h1
          · exact h1
          · rw [Array.getD_eq_getD_getElem?, Array.getElem?_eq_none h1] at hb; cases hb
        have e : a.tmps[t]? = some (.bool b) := by
          rw [Array.getD_eq_getD_getElem?] at hb
          rw [Array.getElem?_eq_getElem hlt] at hb ⊢
          simpa using hb
        simp only [Region.wanted, hg, yielded, dst_of hall, hd, Option.bind_some, e]
        cases b <;> cases want <;> rfl
      have hno : s.fr.getD t (.c .any) = .tup [] → Region.wanted o (yielded ops a.tmps) = false := by
        intro he
        rw [he] at hft
        simp only [D.rep, D.rep0, D.reps] at hft
        obtain ⟨us, hu, rfl⟩ := hft
        simp only [Region.wanted, hg, yielded, dst_of hall, hd, Option.bind_some]
        have e : a.tmps[t]? = none ∨ a.tmps[t]? = some (.tuple #[]) := by
          rw [Array.getD_eq_getD_getElem?] at hu
          cases h1 : a.tmps[t]? with
          | none => exact .inl rfl
          | some v => rw [h1] at hu; exact .inr (by rw [← hu]; rfl)
        rcases e with e | e <;> rw [e] <;> cases want <;> rfl
      have skip : ∀ s1 : AS, St w0 X b s1 a w → K { s1 with fr := put s1.fr o.dst (.tup []) } → K' (a.put o.dst undef) w := by
        rintro s1 ⟨g1, hI1, hf1, hsz1, hd1, hn1, hb1⟩ hk
        have hp := frRep_put (dst := o.dst) (d := .tup []) hf1 hsz1 (v := undef) (by simp [D.rep, D.rep0, D.reps, undef])
        exact hK { s1 with fr := put s1.fr o.dst (.tup []) } _ _ ⟨g1, hI1, hp.1, hp.2, put_defers _ _ hd1, hn1, hb1⟩ hk
      split at h
      · rename_i he
        rw [he] at hft
        rw [hyield true (rep_v hft)]
        exact aop_ok hT hE hs h hK
      · rename_i he
        rw [he] at hft
        rw [hyield false (rep_v hft)]
        exact aop_ok hT hE hs h hK
      · rename_i he
        rw [he] at hft
        rw [hyield true (rep_v hft)]
        exact skip s hs h
      · rename_i he
        rw [he] at hft
        rw [hyield false (rep_v hft)]
        exact skip s hs h
      · rename_i he
        rw [hno he]
        exact skip s hs h
      · rename_i want' _ _ b he
        have hb0 := rep_bool (he ▸ hft)
        rw [hyield b hb0]
        by_cases hbw : b = want'
        · rw [if_pos (by rw [hbw]; cases want' <;> rfl)]
          exact aop_ok (s := { s with fr := s.fr.set t (.c (.v (.bool want'))) }) hT hE ⟨g, hI, frRep_lit hf (hbw ▸ he), by simpa using hsz, hdf, hn, hbk⟩ (h.1 hbw) hK
        · have hbn : b = !want' := by cases b <;> cases want' <;> simp_all
          rw [if_neg (by rw [hbn]; cases want' <;> simp)]
          exact skip { s with fr := s.fr.set t (.c (.v (.bool (!want')))) } ⟨g, hI, frRep_lit hf (hbn ▸ he), by simpa using hsz, hdf, hn, hbk⟩ (h.2 hbn)
      · exact h.elim

theorem aops_ok {ops : Array Oper} {all : List Oper} (hall : ops.toList = all) (hT : TabOk P T) (hE : EnvOK P env) (hQ : ∀ s' a' w', St w0 X b s' a' w' → K s' → Q .normal a' w') : ∀ (l : List Oper) (k : Nat) (s : AS) (a : Act) (w : World), all.drop k = l → St w0 X b s a w → aops Ar.std T env all l s K →
    wpOps P ops Q (List.range' k l.length) a w
  | [], k, s, a, w, _, hs, h => by simp only [List.length_nil, List.range'_zero, wpOps]; exact hQ s a w hs h
  | o :: l, k, s, a, w, hl, hs, h => by
    have ho : ops[k]? = some o := by
      rw [← Array.getElem?_toList, hall, ← List.head?_drop, hl]; rfl
    have hl' : all.drop (k + 1) = l := by rw [← List.tail_drop, hl]; rfl
    simp only [List.length_cons, List.range'_succ, wpOps, ho]
    have := astep_ok (K' := wpOps P ops Q (List.range' (k + 1) l.length)) (Q := Q) hall hT hE ho hs h (fun s' a' w' hs' hk => aops_ok hall hT hE hQ l (k + 1) s' a' w' hl' hs' hk)
    split
    · rename_i hw
      rw [hw] at this
      exact .inl this
    · rename_i hw
      rw [if_neg hw] at this
      exact this
end

end Go.Proofs.Ytoocihhnlhehlaa.Den
