/- A region that draws its order, read in the order of the text. (Part 7) -/
import Derived.Test.YtoocihhnlhehlaaDend
namespace Go.Proofs.Ytoocihhnlhehlaa.Den
open Go Go.RowKit

/-! ### What is looked at, and who waits for whom -/
def writesOp : Op → Bool
  | .alloc _ | .box _ _ | .buildSlice _ _ _ | .store _ _ _ => true
  | .call { callee := .builtin .append, .. } => true
  | _ => false
/-- So many operations at the front write nothing. -/
def cutOps : List Oper → Nat
  | [] => 0
  | o :: r => if writesOp o.op then 0 else cutOps r + 1

def tmpsIn : List Operand → List Nat
  | [] => []
  | .tmp t :: r => t :: tmpsIn r
  | _ :: r => tmpsIn r
def looks (all : List Oper) (o : Oper) : List Nat := match o.guard with
  | some (j, _) => match dstOf all j with
    | some t => t :: tmpsIn o.op.operands.toList
    | none => tmpsIn o.op.operands.toList
  | none => tmpsIn o.op.operands.toList
def waits (o : Oper) (j : Nat) : Bool := o.after.toList.any fun e => Region.binds .any e && e.on == j
def isDst (o : Oper) (t : Nat) : Bool := match o.dst with
  | some t' => t' == t
  | none => false

/-- Operation d waits for operation j, by a chain. -/
def reach (l : List Oper) (j : Nat) : Nat → Nat → Bool
  | 0, _ => false
  | f + 1, d => match l[d]? with
    | some o => o.after.toList.any fun e => Region.binds .any e && (e.on == j || reach l j f e.on)
    | none => false

/-- What each writes is not looked at before, nor written anew. -/
def chainOk (all : List Oper) : List Oper → Bool
  | [] => true
  | o :: r => (match o.dst with
    | some t0 => !(looks all o).contains t0 && r.all (fun o' => !isDst o' t0 && (looks all o).all fun t => !isDst o' t)
    | none => false) && chainOk all r

/-- Of each slot that is looked at: who writes it is waited for. -/
def depsAt (all : List Oper) (o : Oper) : Nat → List Oper → Bool
  | _, [] => true
  | j, p :: r => ((looks all o).all fun t => !isDst p t || waits o j) && depsAt all o (j + 1) r

def backOk : Nat → List Oper → Bool
  | _, [] => true
  | i, o :: r => (o.after.toList.all fun e => !Region.binds .any e || decide (e.on < i)) && backOk (i + 1) r

def tailOk (l : List Oper) (n : Nat) : Bool := (List.range l.length).all fun i => decide (i < n) || (List.range i).all fun j => reach l j l.length i

def drawOk (l : List Oper) : Bool :=
  chainOk l (l.take (cutOps l)) && (l.take (cutOps l)).all (fun o => depsAt l o 0 (l.take (cutOps l))) && backOk 0 l && tailOk l (cutOps l)

/-! ### The reading -/
def dopE (A : Ar) (fr : List D) (dst : Option Nat) (K : List D → Prop) : Eff → Prop
  | .ret p d => p ∧ K (put fr dst d)
  | .sel t x y => (t = true → K (put fr dst x)) ∧ (t = false → K (put fr dst y))
  | .row p _ sz xs => p ∧ K (put fr dst (.c (.sl sz (xs.lenA A) (xs.getA A))))
  | .call R ef => ∃ d, R d ∧ dopE A fr dst K (ef d)
  | _ => False

def dstep (A : Ar) (T : Tab) (env : Env) (mem : List (Nat × Blk)) (all : List Oper) (o : Oper) (fr : List D) (K : List D → Prop) : Prop :=
  match o.guard with
  | none => dopE A fr o.dst K (gop A T env mem fr o)
  | some (j, want) => match dstOf all j with
    | none => False
    | some t => match fr.getD t (.c .any), want with
      | .c (.v (.bool true)), true | .c (.v (.bool false)), false => dopE A fr o.dst K (gop A T env mem fr o)
      | .c (.v (.bool true)), false | .c (.v (.bool false)), true => K (put fr o.dst (.tup []))
      | .tup [], _ => K (put fr o.dst (.tup []))
      | .c (.b b), want => (b = want → dopE A (fr.set t (.c (.v (.bool want)))) o.dst K (gop A T env mem (fr.set t (.c (.v (.bool want)))) o)) ∧
          (b = (!want) → K (put (fr.set t (.c (.v (.bool (!want))))) o.dst (.tup [])))
      | _, _ => False

def dops (A : Ar) (T : Tab) (env : Env) (mem : List (Nat × Blk)) (all : List Oper) : List Oper → List D → (List D → Prop) → Prop
  | [], fr, K => K fr
  | o :: r, fr, K => dstep A T env mem all o fr (fun fr' => dops A T env mem all r fr' K)

def aliasOf (l : List Oper) : Nat → Operand → Operand
  | 0, x => x
  | f + 1, .tmp t => match l.find? (fun o => isDst o t) with
    | some o => match o.op with
      | .move x => aliasOf l f x
      | _ => .tmp t
    | none => .tmp t
  | _, x => x
def hasRow : List (Nat × Blk) → Bool
  | [] => false
  | (_, .row _ _ _) :: _ => true
  | _ :: r => hasRow r
def frzAll (A : Ar) (l : List Oper) (fr : List D) : List Oper → List (Nat × Blk) → List (Nat × Blk)
  | [], m => m
  | o :: r, m => frzAll A l fr r (frzVars A fr (if hasRow m then frzRows A fr m ((fixed o.op).1.map (aliasOf l 8)) else m) (fixed o.op).2)

def drawA (A : Ar) (T : Tab) (env : Env) (l : List Oper) (s : AS) (K : AS → Prop) : Prop :=
  dops A T env (frzAll A l s.fr (l.take (cutOps l)) s.mem) l (l.take (cutOps l)) s.fr fun fr => aops A T env l (l.drop (cutOps l)) { s with fr := fr, mem := frzAll A l s.fr (l.take (cutOps l)) s.mem } K

/-! ### An operation looks at its operands alone -/
theorem gop_congr {A : Ar} {T : Tab} {env : Env} {mem : List (Nat × Blk)} {fr fr' : List D} {o : Oper} (h : ∀ x ∈ o.op.operands.toList, ev mem fr x = ev mem fr' x) : gop A T env mem fr o = gop A T env mem fr' o := by
  have hparts : ∀ ps : Array (Nat × Operand), (∀ x ∈ ((ps.toList.map (·.2)).toArray).toList, ev mem fr x = ev mem fr' x) → (ps.toList.map fun (i, x) => (i, ev mem fr x)) = (ps.toList.map fun (i, x) => (i, ev mem fr' x)) := by
    intro ps hp
    refine List.map_congr_left fun p hp' => ?_
    have := hp p.2 (by simp only [List.mem_map]; exact ⟨p, hp', rfl⟩)
    simp only [this]
  have hmap : ∀ xs : Array Operand, (∀ x ∈ xs, ev mem fr x = ev mem fr' x) → xs.toList.map (ev mem fr) = xs.toList.map (ev mem fr') := fun xs hp =>
    List.map_congr_left fun x hx => hp x (by simpa using hx)
  have hopt : ∀ x : Option Operand, (∀ y ∈ x.toArray, ev mem fr y = ev mem fr' y) → x.map (ev mem fr) = x.map (ev mem fr') := by
    intro x hp
    cases x with
    | none => rfl
    | some y => simp [hp y (by simp)]
  unfold gop
  cases ho : o.op with
  | build t ps => rw [ho] at h; simp only [Op.operands] at h; simp only [hparts ps h]
  | buildSlice t n ps => rw [ho] at h; simp only [Op.operands] at h; simp only [hparts ps h]
  | makeFunc f first captured =>
    rw [ho] at h
    simp only [Op.operands, Array.toList_append, List.mem_append] at h
    have := hmap captured (fun x hx => h x (.inr (by simpa using hx)))
    cases f <;> simp only [this]
  | slice t x l hi m =>
    rw [ho] at h
    simp only [Op.operands, Array.toList_append, List.mem_append] at h
    have h1 := h x (.inl (.inl (.inl (by simp))))
    have h2 := hopt l fun y hy => h y (.inl (.inl (.inr (by simpa using hy))))
    have h3 := hopt hi fun y hy => h y (.inl (.inr (by simpa using hy)))
    cases m <;> simp only [h1, h2, h3]
  | call c =>
    rw [ho] at h
    obtain ⟨callee, args, tys⟩ := c
    simp only [Op.operands, Call.operands, Array.toList_append, List.mem_append] at h
    have h1 := hmap args (fun x hx => h x (.inr (by simpa using hx)))
    cases callee with
    | builtin b => simp only [h1]
    | value f => simp only [h1, h f (.inl (by simp))]
    | invoke r m => rfl
  | unOp op t x => rw [ho] at h; have := h x (by simp [Op.operands]); cases op <;> simp only [this]
  | _ => first | rfl | (rw [ho] at h; simp [Op.operands] at h; simp only [h])

theorem mem_tmpsIn {t : Nat} : ∀ {xs : List Operand}, .tmp t ∈ xs → t ∈ tmpsIn xs
  | [], h => by cases h
  | .tmp t' :: r, h => by
    simp only [List.mem_cons, Operand.tmp.injEq] at h
    simp only [tmpsIn, List.mem_cons]
    exact h.imp id fun h => mem_tmpsIn h
  | .const _ :: r, h => by simp only [List.mem_cons, reduceCtorEq, false_or] at h; exact mem_tmpsIn (xs := r) h
  | .global _ :: r, h => by simp only [List.mem_cons, reduceCtorEq, false_or] at h; exact mem_tmpsIn (xs := r) h
  | .func _ :: r, h => by simp only [List.mem_cons, reduceCtorEq, false_or] at h; exact mem_tmpsIn (xs := r) h
theorem looks_operand {all : List Oper} {o : Oper} {t : Nat} (h : .tmp t ∈ o.op.operands.toList) : t ∈ looks all o := by
  have := mem_tmpsIn h
  unfold looks
  split
  · split
    · exact List.mem_cons_of_mem _ this
    · exact this
  · exact this
theorem looks_guard {all : List Oper} {o : Oper} {j t : Nat} {want : Bool} (h : o.guard = some (j, want)) (ht : dstOf all j = some t) : t ∈ looks all o := by
  unfold looks
  simp [h, ht]

/-- Only what is looked at. -/
def maskFr (all : List Oper) (o : Oper) : Nat → List D → List D
  | _, [] => []
  | i, d :: r => (if (looks all o).contains i then d else .c .any) :: maskFr all o (i + 1) r
theorem maskFr_get {all : List Oper} {o : Oper} : ∀ (fr : List D) (i t : Nat), (maskFr all o i fr).getD t (.c .any) = if (looks all o).contains (i + t) then fr.getD t (.c .any) else .c .any
  | [], i, t => by simp [maskFr]
  | d :: r, i, 0 => by simp [maskFr]
  | d :: r, i, t + 1 => by
    have := maskFr_get (all := all) (o := o) r (i + 1) t
    rw [show i + 1 + t = i + (t + 1) by omega] at this
    simpa [maskFr] using this

section
variable {P : Program} {T : Tab} {env : Env} {w0 w : World} {X : Nat → Prop} {g : Gh} {mem : List (Nat × Blk)} {all : List Oper} {ops : Array Oper} {o : Oper} {Q : Exit → Act → World → Prop}

/-- One slot is as it is said to be. -/
def RepAt (X : Nat → Prop) (g : Gh) (mem : List (Nat × Blk)) (w : World) (fr : List D) (a : Act) (t : Nat) : Prop := D.rep w (Mut X g (look mem)) g (fr.getD t (.c .any)) (a.tmps.getD t undef)

def Same (d d' : D) : Prop := ∀ (w : World) (M : Nat → Prop) (g : Gh) (u : Value), D.rep w M g d u ↔ D.rep w M g d' u
theorem Same.rfl_ (d : D) : Same d d := fun _ _ _ _ => Iff.rfl
theorem Same.trans {a b c : D} (h : Same a b) (k : Same b c) : Same a c := fun w M g u => (h w M g u).trans (k w M g u)
theorem Same.lit (b : Bool) : Same (.c (.b b)) (.c (.v (.bool b))) := fun w M g u => by
  simp only [D.rep, D.rep0, C.rep]
  exact ⟨fun h => ⟨h, rfl⟩, fun h => h.1⟩

theorem same_lit {fr : List D} {t : Nat} {b : Bool} (h : fr.getD t (.c .any) = .c (.b b)) (t' : Nat) : Same (fr.getD t' (.c .any)) ((fr.set t (.c (.v (.bool b)))).getD t' (.c .any)) := by
  by_cases ht : t' = t
  · subst ht
    by_cases hl : t' < fr.length
    · rw [h, show (fr.set t' (.c (.v (.bool b)))).getD t' (.c .any) = .c (.v (.bool b)) by simp [List.getD, List.getElem?_set_self hl]]
      exact Same.lit b
    · rw [List.getD, List.getElem?_eq_none (by omega)] at h; cases h
  · rw [show (fr.set t (.c (.v (.bool b)))).getD t' (.c .any) = fr.getD t' (.c .any) by simp [List.getD, List.getElem?_set_ne (Ne.symm ht)]]
    exact Same.rfl_ _

theorem put_other {fr : List D} {t0 t : Nat} {d : D} (h : t ≠ t0) : (put fr (some t0) d).getD t (.c .any) = fr.getD t (.c .any) := by
  simp [put, List.getD, List.getElem?_set_ne (Ne.symm h)]
theorem put_self {M : Nat → Prop} {fr : List D} {t0 : Nat} {d : D} {v : Value} (h : D.rep w M g d v) : D.rep w M g ((put fr (some t0) d).getD t0 (.c .any)) v := by
  by_cases hl : t0 < fr.length
  · rw [show (put fr (some t0) d).getD t0 (.c .any) = d by simp [put, List.getD, List.getElem?_set_self hl]]; exact h
  · rw [show (put fr (some t0) d).getD t0 (.c .any) = .c .any by simp [put, List.getD, List.getElem?_eq_none (show (fr.set t0 d).length ≤ t0 by simp; omega)]]
    simp [D.rep, D.rep0, C.rep]

/-- In whatever state an operation comes up, it leaves in its slot what the frame says. -/
def Good (P : Program) (ops : Array Oper) (Q : Exit → Act → World → Prop) (w0 : World) (X : Nat → Prop) (g : Gh) (mem : List (Nat × Blk)) (all : List Oper) (o : Oper) (fr : List D) : Prop :=
  ∀ (a : Act) (w : World) (K : Act → World → Prop), Inv w0 X g (look mem) w → (∀ t ∈ looks all o, RepAt X g mem w fr a t) →
    (∀ v w', Below w.heap.size w w' → (∀ t0, o.dst = some t0 → D.rep w' (Mut X g (look mem)) g (fr.getD t0 (.c .any)) v) → K (a.put o.dst v) w') →
    if Region.wanted o (yielded ops a.tmps) then o.wp P a w K Q else K (a.put o.dst undef) w

theorem Good.mono {fr fr' : List D} (h : Good P ops Q w0 X g mem all o fr) (hl : ∀ t ∈ looks all o, Same (fr.getD t (.c .any)) (fr'.getD t (.c .any))) (hd : ∀ t0, o.dst = some t0 → Same (fr.getD t0 (.c .any)) (fr'.getD t0 (.c .any))) :
    Good P ops Q w0 X g mem all o fr' := fun a w K hI hr hK =>
  h a w K hI (fun t ht => (hl t ht _ _ _ _).2 (hr t ht)) fun v w' hb hv => hK v w' hb fun t0 h0 => (hd t0 h0 _ _ _ _).1 (hv t0 h0)

/-- What an operation does where it is carried out. -/
def Goes (P : Program) (Q : Exit → Act → World → Prop) (w0 : World) (X : Nat → Prop) (g : Gh) (mem : List (Nat × Blk)) (all : List Oper) (o : Oper) (fr : List D) : Prop :=
  ∀ (a : Act) (w : World) (K : Act → World → Prop), Inv w0 X g (look mem) w → (∀ t ∈ looks all o, RepAt X g mem w fr a t) →
    (∀ v w', Below w.heap.size w w' → (∀ t0, o.dst = some t0 → D.rep w' (Mut X g (look mem)) g (fr.getD t0 (.c .any)) v) → K (a.put o.dst v) w') → o.wp P a w K Q

theorem dopE_goes (hT : TabOk P T) (hE : EnvOK P env) {fr : List D} {K : List D → Prop} {t0 : Nat} (hd : o.dst = some t0) (h0 : t0 ∉ looks all o)
    (h : dopE Ar.std fr o.dst K (gop Ar.std T env mem fr o)) : ∃ d, K (put fr o.dst d) ∧ Goes P Q w0 X g mem all o (put fr o.dst d) := by
  have key : ∀ (d : D) (a : Act) (w : World), Inv w0 X g (look mem) w → (∀ t ∈ looks all o, RepAt X g mem w (put fr o.dst d) a t) → ∀ K : Act → World → Prop, EffOk P o a w0 w X g (look mem) K Q (gop Ar.std T env mem fr o) := by
    intro d a w hI hr K
    have hm : FrRep w (Mut X g (look mem)) g (maskFr all o 0 fr) a := by
      intro t
      rw [maskFr_get, Nat.zero_add]
      split
      · rename_i ht
        have ht : t ∈ looks all o := by simpa using ht
        have := hr t ht
        unfold RepAt at this
        rwa [hd, put_other (by intro e; subst e; exact h0 ht)] at this
      · simp [D.rep, D.rep0, C.rep]
    have hg := gop_ok (K := K) (Q := Q) (o := o) (a := a) hT hE.ok hI hm
    rw [gop_congr (fr' := fr)] at hg
    · exact hg
    · intro x hx
      unfold ev
      cases x with
      | tmp t =>
        have : t ∈ looks all o := looks_operand hx
        simp only [ev0, maskFr_get, Nat.zero_add]
        rw [if_pos (by simpa using this)]
      | _ => rfl
  generalize hgo : gop Ar.std T env mem fr o = e at h key
  clear hgo
  induction e with
  | call R ef ih =>
    obtain ⟨d, hd, h⟩ := h
    exact ih d h fun d' a w hI hr K => key d' a w hI hr K d hd
  | ret p d =>
    refine ⟨d, h.2, fun a w K hI hr hK => key d a w hI hr K h.1 fun v w' hb hv => hK v w' hb fun t1 h1 => ?_⟩
    have : t1 = t0 := by rw [hd] at h1; injection h1 with h1; exact h1.symm
    subst this
    rw [hd]; exact put_self hv
  | sel t x y =>
    refine ⟨if t then x else y, by cases t; exact h.2 rfl; exact h.1 rfl, fun a w K hI hr hK => key _ a w hI hr K fun v hv => hK v w (Below.refl _ _) fun t1 h1 => ?_⟩
    have : t1 = t0 := by rw [hd] at h1; injection h1 with h1; exact h1.symm
    subst this
    rw [hd]; exact put_self hv
  | row p e sz xs =>
    refine ⟨_, h.2, fun a w K hI hr hK => key _ a w hI hr K h.1 fun v w' hb hv ho => hK v w' hb fun t1 h1 => ?_⟩
    have : t1 = t0 := by rw [hd] at h1; injection h1 with h1; exact h1.symm
    subst this
    rw [hd]
    exact put_self (D.of_C (by rw [xs.lenA_std, xs.getA_std]; exact row_slR hv ho fun b hb => hI.mut_lt hb))
  | _ => exact h.elim

theorem Same_of_put {fr : List D} {t0 : Nat} {d : D} : ∀ t, t ≠ t0 → Same (fr.getD t (.c .any)) ((put fr (some t0) d).getD t (.c .any)) := fun t h => by
  rw [put_other h]; exact Same.rfl_ _

theorem dstep_good (hall : ops.toList = all) (hT : TabOk P T) (hE : EnvOK P env) {fr : List D} {K : List D → Prop} {t0 : Nat} (hd : o.dst = some t0) (h0 : t0 ∉ looks all o)
    (h : dstep Ar.std T env mem all o fr K) :
    ∃ fr', K fr' ∧ Good P ops Q w0 X g mem all o fr' ∧ fr'.length = fr.length ∧ ∀ t, t ≠ t0 → Same (fr.getD t (.c .any)) (fr'.getD t (.c .any)) := by
  have plen : ∀ (fr : List D) d, (put fr o.dst d).length = fr.length := fun fr d => by rw [hd]; simp [put]
  unfold dstep at h
  cases hg : o.guard with
  | none =>
    rw [hg] at h
    obtain ⟨d, hK, hG⟩ := dopE_goes (P := P) (Q := Q) (w0 := w0) (X := X) (g := g) (all := all) hT hE hd h0 h
    refine ⟨_, hK, fun a w K hI hr hKk => ?_, plen _ _, by rw [hd]; exact Same_of_put⟩
    simp only [Region.wanted, hg, if_true]
    exact hG a w K hI hr hKk
  | some jw =>
    obtain ⟨j, want⟩ := jw
    rw [hg] at h
    simp only at h
    cases hdj : dstOf all j with
    | none => rw [hdj] at h; exact h.elim
    | some t =>
      rw [hdj] at h
      simp only at h
      have htl : t ∈ looks all o := looks_guard hg hdj
      have htne : t ≠ t0 := fun e => h0 (e ▸ htl)
      have hyield : ∀ (a : Act) (b : Bool), a.tmps.getD t undef = .bool b → Region.wanted o (yielded ops a.tmps) = (b == want) := by
        intro a b hb
        have hlt : t < a.tmps.size := by
          rcases Nat.lt_or_ge t a.tmps.size with h1 | h1
          · exact h1
          · rw [Array.getD_eq_getD_getElem?, Array.getElem?_eq_none h1] at hb; cases hb
        have e : a.tmps[t]? = some (.bool b) := by
          rw [Array.getD_eq_getD_getElem?] at hb
          rw [Array.getElem?_eq_getElem hlt] at hb ⊢
          simpa using hb
        simp only [Region.wanted, hg, yielded, dst_of hall, hdj, Option.bind_some, e]
        cases b <;> cases want <;> rfl
      have hno : ∀ (a : Act) (w : World), D.rep w (Mut X g (look mem)) g (.tup []) (a.tmps.getD t undef) → Region.wanted o (yielded ops a.tmps) = false := by
        intro a w hu
        simp only [D.rep, D.rep0, D.reps] at hu
        obtain ⟨us, hu, rfl⟩ := hu
        simp only [Region.wanted, hg, yielded, dst_of hall, hdj, Option.bind_some]
        have e : a.tmps[t]? = none ∨ a.tmps[t]? = some (.tuple #[]) := by
          rw [Array.getD_eq_getD_getElem?] at hu
          cases h1 : a.tmps[t]? with
          | none => exact .inl rfl
          | some v => rw [h1] at hu; exact .inr (by rw [← hu]; rfl)
        rcases e with e | e <;> rw [e] <;> cases want <;> rfl
      -- the guard's slot in what the frame becomes
      have at_t : ∀ (fr1 : List D) (d : D) (a : Act) (w : World), (∀ t ∈ looks all o, RepAt X g mem w (put fr1 o.dst d) a t) → D.rep w (Mut X g (look mem)) g (fr1.getD t (.c .any)) (a.tmps.getD t undef) := by
        intro fr1 d a w hr
        have := hr t htl
        unfold RepAt at this
        rwa [hd, put_other htne] at this
      have skip : ∀ fr1 : List D, K (put fr1 o.dst (.tup [])) → fr1.length = fr.length → (∀ t', Same (fr.getD t' (.c .any)) (fr1.getD t' (.c .any))) → (∀ (a : Act) (w : World), D.rep w (Mut X g (look mem)) g (fr1.getD t (.c .any)) (a.tmps.getD t undef) → Region.wanted o (yielded ops a.tmps) = false) →
          ∃ fr', K fr' ∧ Good P ops Q w0 X g mem all o fr' ∧ fr'.length = fr.length ∧ ∀ t, t ≠ t0 → Same (fr.getD t (.c .any)) (fr'.getD t (.c .any)) := by
        intro fr1 hk hl hs hw
        refine ⟨_, hk, fun a w K hI hr hKk => ?_, (plen _ _).trans hl, fun t' ht' => (hs t').trans (by rw [hd]; exact Same_of_put t' ht')⟩
        rw [hw a w (at_t _ _ a w hr)]
        refine hKk undef w (Below.refl _ _) fun t1 h1 => ?_
        have : t1 = t0 := by rw [hd] at h1; injection h1 with h1; exact h1.symm
        subst this
        rw [hd]
        exact put_self (by simp [D.rep, D.rep0, D.reps, undef])
      have go : ∀ fr1 : List D, dopE Ar.std fr1 o.dst K (gop Ar.std T env mem fr1 o) → fr1.length = fr.length → (∀ t', Same (fr.getD t' (.c .any)) (fr1.getD t' (.c .any))) → (∀ (a : Act) (w : World), D.rep w (Mut X g (look mem)) g (fr1.getD t (.c .any)) (a.tmps.getD t undef) → Region.wanted o (yielded ops a.tmps) = true) →
          ∃ fr', K fr' ∧ Good P ops Q w0 X g mem all o fr' ∧ fr'.length = fr.length ∧ ∀ t, t ≠ t0 → Same (fr.getD t (.c .any)) (fr'.getD t (.c .any)) := by
        intro fr1 hk hl hs hw
        obtain ⟨d, hK, hG⟩ := dopE_goes (P := P) (Q := Q) (w0 := w0) (X := X) (g := g) (all := all) hT hE hd h0 hk
        refine ⟨_, hK, fun a w K hI hr hKk => ?_, (plen _ _).trans hl, fun t' ht' => (hs t').trans (by rw [hd]; exact Same_of_put t' ht')⟩
        rw [hw a w (at_t _ _ a w hr)]
        exact hG a w K hI hr hKk
      split at h
      · rename_i he
        refine go fr h rfl (fun _ => Same.rfl_ _) fun a w hu => ?_
        rw [he] at hu
        rw [hyield a true (rep_v hu)]; rfl
      · rename_i he
        refine go fr h rfl (fun _ => Same.rfl_ _) fun a w hu => ?_
        rw [he] at hu
        rw [hyield a false (rep_v hu)]; rfl
      · rename_i he
        refine skip fr h rfl (fun _ => Same.rfl_ _) fun a w hu => ?_
        rw [he] at hu
        rw [hyield a true (rep_v hu)]; rfl
      · rename_i he
        refine skip fr h rfl (fun _ => Same.rfl_ _) fun a w hu => ?_
        rw [he] at hu
        rw [hyield a false (rep_v hu)]; rfl
      · rename_i he
        refine skip fr h rfl (fun _ => Same.rfl_ _) fun a w hu => ?_
        rw [he] at hu
        exact hno a w hu
      · rename_i want' _ _ b he
        by_cases hbw : b = want'
        · refine go _ (h.1 hbw) (by simp) (same_lit (hbw ▸ he)) fun a w hu => ?_
          have hu' := (same_lit (hbw ▸ he) t _ _ _ _).2 hu
          rw [he] at hu'
          rw [hyield a b (rep_bool hu'), hbw]
          cases want' <;> rfl
        · have hbn : b = !want' := by cases b <;> cases want' <;> simp_all
          refine skip _ (h.2 hbn) (by simp) (same_lit (hbn ▸ he)) fun a w hu => ?_
          have hu' := (same_lit (hbn ▸ he) t _ _ _ _).2 hu
          rw [he] at hu'
          rw [hyield a b (rep_bool hu'), hbn]
          cases want' <;> rfl
      · exact h.elim

theorem dops_good (hall : ops.toList = all) (hT : TabOk P T) (hE : EnvOK P env) : ∀ (l : List Oper) (fr : List D) (K : List D → Prop), chainOk all l = true → dops Ar.std T env mem all l fr K →
    ∃ fr', K fr' ∧ (∀ o ∈ l, (∃ t0, o.dst = some t0) ∧ Good P ops Q w0 X g mem all o fr') ∧ fr'.length = fr.length ∧ ∀ t, (∀ o ∈ l, o.dst ≠ some t) → Same (fr.getD t (.c .any)) (fr'.getD t (.c .any))
  | [], fr, K, _, h => ⟨fr, h, by simp, rfl, fun t _ => Same.rfl_ _⟩
  | o :: r, fr, K, hc, h => by
    simp only [chainOk, Bool.and_eq_true] at hc
    obtain ⟨hc1, hc2⟩ := hc
    cases hd : o.dst with
    | none => rw [hd] at hc1; cases hc1
    | some t0 =>
      rw [hd] at hc1
      simp only [Bool.and_eq_true, Bool.not_eq_true', List.all_eq_true] at hc1
      obtain ⟨h0, h1⟩ := hc1
      have h0' : t0 ∉ looks all o := by simpa using h0
      have hdst : ∀ o' ∈ r, ∀ t, isDst o' t = false → o'.dst ≠ some t := by
        intro o' _ t ht e
        simp [isDst, e] at ht
      obtain ⟨fr1, hk1, hg1, hl1, hs1⟩ := dstep_good (P := P) (Q := Q) (w0 := w0) (X := X) (g := g) hall hT hE hd h0' h
      obtain ⟨fr2, hk2, hg2, hl2, hs2⟩ := dops_good hall hT hE r fr1 K hc2 hk1
      refine ⟨fr2, hk2, ?_, hl2.trans hl1, fun t ht => ?_⟩
      · intro o' ho'
        rcases List.mem_cons.1 ho' with rfl | ho'
        · refine ⟨⟨t0, hd⟩, hg1.mono (fun t ht => hs2 t fun o' ho' => hdst o' ho' t ?_) fun t1 ht1 => hs2 t1 fun o' ho' => hdst o' ho' t1 ?_⟩
          · have := (h1 o' ho').2
            simpa using this t ht
          · have : t1 = t0 := by rw [hd] at ht1; injection ht1 with ht1; exact ht1.symm
            subst this
            simpa using (h1 o' ho').1
        · exact hg2 o' ho'
      · have ht0 : t ≠ t0 := fun e => ht o (by simp) (by rw [hd, e])
        exact (hs1 t ht0).trans (hs2 t fun o' ho' => ht o' (by simp [ho']))

/-! ### What has come up -/
def cnt (listed : Array Bool) : Nat := listed.toList.count false

theorem getD_lt {listed : Array Bool} {i : Nat} (h : i < listed.size) (d d' : Bool) : listed.getD i d = listed.getD i d' := by simp only [Array.getD, h, dite_true]
theorem cnt_set {listed : Array Bool} {i : Nat} (h : listed.getD i true = false) : cnt (listed.setIfInBounds i true) + 1 = cnt listed := by
  have hi : i < listed.size := by
    rcases Nat.lt_or_ge i listed.size with h1 | h1
    · exact h1
    · simp [Array.getElem?_eq_none h1] at h
  have hv : listed.toList[i]'(by simpa using hi) = false := by
    simp [hi] at h
    simpa using h
  unfold cnt
  rw [Array.toList_setIfInBounds, List.count_set (by simpa using hi)]
  have : 0 < listed.toList.count false := List.count_pos_iff.2 (hv ▸ List.getElem_mem _)
  simp only [hv]
  rw [if_pos (by rfl), if_neg (by decide)]
  omega
theorem cnt_zero {listed : Array Bool} (h : cnt listed = 0) (i : Nat) : listed.getD i true = true := by
  unfold cnt at h
  have h1 := List.count_eq_zero.1 h
  rcases Nat.lt_or_ge i listed.size with hi | hi
  · have : listed[i] ∈ listed.toList := by simp
    simp only [Array.getD, hi, dite_true]
    cases hb : listed[i] with
    | true => exact hb
    | false => rw [hb] at this; exact absurd this h1
  · simp [Array.getElem?_eq_none hi]
theorem cnt_init (n : Nat) : cnt (Array.replicate n false) = n := by simp [cnt]

def Closed (ops : Array Oper) (listed : Array Bool) : Prop := ∀ j oj, ops[j]? = some oj → listed.getD j false = true → ∀ e ∈ oj.after, Region.binds .any e = true → listed.getD e.on false = true

theorem Closed.set_ {listed : Array Bool} {i : Nat} (h : Closed ops listed) (hi : i ∈ Region.ready .any ops listed) : Closed ops (listed.setIfInBounds i true) := by
  obtain ⟨_, oi, hoi, hall⟩ := mem_ready.1 hi
  intro j oj hj hl e he hb
  by_cases hij : i = j
  · subst hij
    have : oj = oi := Option.some.inj (hj.symm.trans hoi)
    subst this
    exact getD_set_true (hall e he hb)
  · rw [getD_set_ne false hij] at hl
    exact getD_set_true (h j oj hj hl e he hb)

theorem reach_listed (hall : ops.toList = all) {listed : Array Bool} (hc : Closed ops listed) {j : Nat} : ∀ (f d : Nat) (o : Oper), ops[d]? = some o → (∀ e ∈ o.after, Region.binds .any e = true → listed.getD e.on false = true) → reach all j f d = true → listed.getD j false = true
  | 0, _, _, _, _, h => by simp [reach] at h
  | f + 1, d, o, ho, hw, h => by
    have ho' : all[d]? = some o := by rw [← hall, Array.getElem?_toList]; exact ho
    simp only [reach, ho', List.any_eq_true, Bool.and_eq_true, Bool.or_eq_true, beq_iff_eq] at h
    obtain ⟨e, he, hb, h1⟩ := h
    have hl := hw e (by simpa using he) hb
    rcases h1 with h1 | h1
    · rw [← h1]; exact hl
    · cases hoe : ops[e.on]? with
      | none =>
        have hn : all[e.on]? = none := by rw [← hall, Array.getElem?_toList]; exact hoe
        cases f with
        | zero => simp [reach] at h1
        | succ f => simp [reach, hn] at h1
      | some oe => exact reach_listed hall hc f e.on oe hoe (fun e' he' hb' => hc e.on oe hoe hl e' he' hb') h1

theorem tailOk_spec {l : List Oper} {n i j : Nat} (h : tailOk l n = true) (hn : n ≤ i) (hi : i < l.length) (hj : j < i) : reach l j l.length i = true := by
  simp only [tailOk, List.all_eq_true, List.mem_range, Bool.or_eq_true, decide_eq_true_eq] at h
  rcases h i hi with h1 | h1
  · omega
  · exact h1 j hj
theorem backOk_spec : ∀ (l : List Oper) (k i : Nat) (o : Oper), backOk k l = true → l[i]? = some o → ∀ e ∈ o.after, Region.binds .any e = true → e.on < k + i
  | [], _, i, _, _, h, _, _, _ => by simp at h
  | p :: r, k, i, o, hb, h, e, he, hbe => by
    simp only [backOk, Bool.and_eq_true, List.all_eq_true, Bool.or_eq_true, Bool.not_eq_true', decide_eq_true_eq] at hb
    cases i with
    | zero =>
      simp at h; subst h
      rcases hb.1 e (by simpa using he) with h1 | h1
      · rw [h1] at hbe; cases hbe
      · omega
    | succ i =>
      have := backOk_spec r (k + 1) i o hb.2 (by simpa using h) e he hbe
      omega
theorem depsAt_spec {all : List Oper} {o : Oper} : ∀ (l : List Oper) (k j : Nat) (p : Oper) (t : Nat), depsAt all o k l = true → l[j]? = some p → t ∈ looks all o → p.dst = some t → waits o (k + j) = true
  | [], _, j, _, _, _, h, _, _ => by simp at h
  | q :: r, k, j, p, t, hd, h, ht, hp => by
    simp only [depsAt, Bool.and_eq_true, List.all_eq_true, Bool.or_eq_true, Bool.not_eq_true'] at hd
    cases j with
    | zero =>
      simp at h; subst h
      rcases hd.1 t ht with h1 | h1
      · simp [isDst, hp] at h1
      · exact h1
    | succ j =>
      have := depsAt_spec r (k + 1) j p t hd.2 (by simpa using h) ht hp
      rwa [show k + 1 + j = k + (j + 1) by omega] at this

/-- The operations at the end come up one after the other. -/
theorem wpAny_tail (hall : ops.toList = all) (hT : TabOk P T) (hE : EnvOK P env) {n : Nat} (htl : tailOk all n = true) (hbk : backOk 0 all = true) {b : Act} {K : AS → Prop}
    (hQ : ∀ s' a' w', St w0 X b s' a' w' → K s' → Q .normal a' w') : ∀ (f k : Nat) (listed : Array Bool) (s : AS) (a : Act) (w : World), n ≤ k → k ≤ all.length → cnt listed = f → listed.size = all.length → Closed ops listed →
    (∀ j, j < all.length → listed.getD j true = decide (j < k)) → St w0 X b s a w → aops Ar.std T env all (all.drop k) s K → wpAny P .any ops Q f listed a w := by
  have hsz : ops.size = all.length := by rw [← hall]; simp
  intro f
  induction f with
  | zero =>
    intro k listed s a w hn hk hc hs hcl hl hst h
    have hk' : k = all.length := by
      rcases Nat.lt_or_ge k all.length with h1 | h1
      · have h2 := hl k h1
        rw [cnt_zero hc] at h2
        simp at h2
      · omega
    rw [hk', List.drop_length] at h
    refine ⟨?_, hQ _ _ _ hst h⟩
    rw [List.eq_nil_iff_forall_not_mem]
    intro j hj
    have := (mem_ready.1 hj).1
    rw [cnt_zero hc] at this
    cases this
  | succ f ih =>
    intro k listed s a w hn hk hc hs hcl hl hst h
    have hk' : k < all.length := by
      rcases Nat.lt_or_ge k all.length with h1 | h1
      · exact h1
      · exfalso
        have hall1 : ∀ b ∈ listed.toList, b = true := by
          intro b hb
          obtain ⟨j, hj, rfl⟩ := List.getElem_of_mem hb
          have hj' : j < listed.size := by simpa using hj
          have h2 := hl j (by omega)
          simp only [Array.getD, hj', dite_true] at h2
          rw [Array.getElem_toList]
          exact h2.trans (decide_eq_true (by omega))
        have : listed.toList.count false = 0 := List.count_eq_zero.2 fun hb => by have := hall1 _ hb; cases this
        unfold cnt at hc; omega
    obtain ⟨o, ho⟩ : ∃ o, all[k]? = some o := ⟨_, List.getElem?_eq_getElem hk'⟩
    have ho' : ops[k]? = some o := by rw [← Array.getElem?_toList, hall]; exact ho
    have hdrop : all.drop k = o :: all.drop (k + 1) := by
      rw [List.drop_eq_getElem_cons hk']
      congr 1
      rw [List.getElem?_eq_getElem hk'] at ho
      exact Option.some.inj ho
    have hkun : listed.getD k true = false := by rw [hl k hk']; simp
    have hkr : k ∈ Region.ready .any ops listed := by
      refine mem_ready.2 ⟨hkun, o, ho', fun e he hb => ?_⟩
      have h1 := backOk_spec all 0 k o hbk ho e he hb
      have h1 : e.on < k := by omega
      rw [getD_lt (by omega) false true, hl e.on (by omega)]
      exact decide_eq_true h1
    refine ⟨fun h0 => (by rw [h0] at hkr; cases hkr), fun i hi => ?_⟩
    have hik : i = k := by
      obtain ⟨h1, oi, hoi, hw⟩ := mem_ready.1 hi
      have hilt : i < all.length := by have := (Array.getElem?_eq_some_iff.1 hoi).1; omega
      have h2 := hl i hilt
      rw [h1] at h2
      have h3 : k ≤ i := by simpa using h2.symm
      rcases Nat.lt_or_ge k i with h4 | h4
      · exfalso
        have h5 := reach_listed hall hcl _ i oi hoi hw (tailOk_spec htl (by omega) hilt h4)
        rw [getD_lt (by omega) false true, hkun] at h5; cases h5
      · omega
    subst hik
    rw [hdrop] at h
    simp only [aops] at h
    have := astep_ok (K' := wpAny P .any ops Q f (listed.setIfInBounds i true)) (Q := Q) hall hT hE ho' hst h fun s' a' w' hs' hk1 => by
      refine ih (i + 1) _ s' a' w' (by omega) (by omega) ?_ (by simpa using hs) (hcl.set_ hkr) ?_ hs' hk1
      · have := cnt_set hkun; omega
      · intro j hj
        by_cases hji : j = i
        · subst hji
          have : j < listed.size := by omega
          simp [this]
        · rw [getD_set_ne true (Ne.symm hji), hl j hj]
          simp only [decide_eq_decide]; omega
    unfold wpOp
    simp only [ho']
    split
    · rename_i hw; rw [if_pos hw] at this; exact .inl this
    · rename_i hw; rw [if_neg hw] at this; exact this

/-- The operations at the front come up in whatever order. -/
theorem wpAny_front (hall : ops.toList = all) (hT : TabOk P T) (hE : EnvOK P env) {n nxt : Nat} (hn : n ≤ all.length) (htl : tailOk all n = true) (hbk : backOk 0 all = true) (hdeps : ∀ o ∈ all.take n, depsAt all o 0 (all.take n) = true) {b : Act} {ks : List D} {K : AS → Prop}
    (hQ : ∀ s' a' w', St w0 X b s' a' w' → K s' → Q .normal a' w') {fr : List D} (hgood : ∀ o ∈ all.take n, (∃ t0, o.dst = some t0) ∧ Good P ops Q w0 X g mem all o fr) (hnx : ∀ i, nxt ≤ i → ¬ g.dom i)
    (hend : aops Ar.std T env all (all.drop n) ⟨fr, mem, nxt, ks⟩ K) : ∀ (f : Nat) (listed : Array Bool) (a : Act) (w : World), cnt listed = f → listed.size = all.length → Closed ops listed → (∀ i, n ≤ i → i < all.length → listed.getD i true = false) →
    Inv w0 X g (look mem) w → FrRep w (Mut X g (look mem)) g ks b → a.tmps.size = fr.length → a.defers = [] → (∀ t, (∀ j p, j < n → all[j]? = some p → p.dst = some t → listed.getD j false = true) → RepAt X g mem w fr a t) → wpAny P .any ops Q f listed a w := by
  have hsz : ops.size = all.length := by rw [← hall]; simp
  intro f listed
  by_cases hdone : ∀ i, i < n → listed.getD i true = true
  · intro a w hc hs hcl hta hI hks hat had hr
    refine wpAny_tail hall hT hE htl hbk hQ f n listed ⟨fr, mem, nxt, ks⟩ a w (Nat.le_refl _) hn hc hs hcl ?_ ⟨g, hI, fun t => hr t fun j p hj hp _ => ?_, hat, had, hnx, hks⟩ hend
    · intro j hj
      by_cases hjn : j < n
      · rw [hdone j hjn]; simp [hjn]
      · rw [hta j (by omega) hj]; simp [hjn]
    · rw [getD_lt (by omega) false true]; exact hdone j hj
  · induction f generalizing listed with
    | zero =>
      intro a w hc
      exact absurd (fun i _ => cnt_zero hc i) hdone
    | succ f ih =>
      intro a w hc hs hcl hta hI hks hat had hr
      have step : ∀ i ∈ Region.ready .any ops listed, wpOp P ops Q i (wpAny P .any ops Q f (listed.setIfInBounds i true)) a w := by
        intro i hi
        obtain ⟨hun, oi, hoi, hw⟩ := mem_ready.1 hi
        have hilt : i < all.length := by have := (Array.getElem?_eq_some_iff.1 hoi).1; omega
        have hoi' : all[i]? = some oi := by rw [← hall, Array.getElem?_toList]; exact hoi
        have hin : i < n := by
          rcases Nat.lt_or_ge i n with h1 | h1
          · exact h1
          · exfalso
            refine hdone fun j hj => ?_
            have := reach_listed hall hcl _ i oi hoi hw (tailOk_spec htl h1 hilt (by omega : j < i))
            rw [getD_lt (by omega) true false]; exact this
        have hmem : oi ∈ all.take n := by
          have : (all.take n)[i]? = some oi := by rw [List.getElem?_take, if_pos hin]; exact hoi'
          exact List.mem_of_getElem? this
        obtain ⟨⟨t0, hd⟩, hg⟩ := hgood oi hmem
        have hlook : ∀ t ∈ looks all oi, RepAt X g mem w fr a t := by
          intro t ht
          refine hr t fun j p hj hp hpt => ?_
          have h1 := depsAt_spec (all.take n) 0 j p t (hdeps oi hmem) (by rw [List.getElem?_take, if_pos hj]; exact hp) ht hpt
          rw [Nat.zero_add] at h1
          simp only [waits, List.any_eq_true, Bool.and_eq_true, beq_iff_eq] at h1
          obtain ⟨e, he, hb, hon⟩ := h1
          rw [← hon]
          exact hw e (by simpa using he) hb
        have := hg a w (wpAny P .any ops Q f (listed.setIfInBounds i true)) hI hlook fun v w' hb hv => by
          have hcnt : cnt (listed.setIfInBounds i true) = f := by have := cnt_set hun; omega
          have hI' := hI.grow hb
          have hks' := frRep_keep hks (keeps_grow hb) fun _ _ h => ⟨h, rfl⟩
          have hrest : ∀ t, (∀ j p, j < n → all[j]? = some p → p.dst = some t → (listed.setIfInBounds i true).getD j false = true) → RepAt X g mem w' fr (a.put oi.dst v) t := by
            intro t ht
            unfold RepAt
            by_cases htt : t = t0
            · subst htt
              rw [hd]
              by_cases hlt : t < a.tmps.size
              · have e : (a.put (some t) v).tmps.getD t undef = v := by simp [Act.put, Array.getD, hlt]
                rw [e]; exact hv t hd
              · rw [show fr.getD t (.c .any) = .c .any by rw [List.getD, List.getElem?_eq_none (by rw [← hat]; exact Nat.le_of_not_lt hlt)]; rfl]
                simp [D.rep, D.rep0, C.rep]
            · have e : (a.put oi.dst v).tmps.getD t undef = a.tmps.getD t undef := by
                rw [hd]; simp [Act.put, Array.getElem?_setIfInBounds_ne (Ne.symm htt)]
              rw [e]
              refine D.rep_keep ⟨hb.size, fun b hb' _ => hb.block b hb', fun _ _ hm => hm, fun _ h => ⟨h, rfl⟩⟩ _ _ (fun _ _ h => ⟨h, rfl⟩) (hr t fun j p hj hp hpt => ?_)
              have h1 := ht j p hj hp hpt
              have hji : i ≠ j := fun e' => by
                subst e'
                have : p = oi := Option.some.inj (hp.symm.trans hoi')
                subst this
                rw [hd] at hpt; injection hpt with hpt; exact htt hpt.symm
              rwa [getD_set_ne false hji] at h1
          have hta' : ∀ j, n ≤ j → j < all.length → (listed.setIfInBounds i true).getD j true = false := fun j hj hj' => by
            rw [getD_set_ne true (by omega)]; exact hta j hj hj'
          by_cases hdone' : ∀ j, j < n → (listed.setIfInBounds i true).getD j true = true
          · refine wpAny_tail hall hT hE htl hbk hQ f n _ ⟨fr, mem, nxt, ks⟩ _ w' (Nat.le_refl _) hn hcnt (by simpa using hs) (hcl.set_ hi) ?_ ⟨g, hI', fun t => hrest t fun j p hj hp _ => ?_, by rw [hd]; simpa [Act.put] using hat, put_defers _ _ had, hnx, hks'⟩ hend
            · intro j hj
              by_cases hjn : j < n
              · rw [hdone' j hjn]; simp [hjn]
              · rw [hta' j (by omega) hj]; simp [hjn]
            · rw [getD_lt (by simp; omega) false true]; exact hdone' j hj
          · exact ih _ hdone' _ _ hcnt (by simpa using hs) (hcl.set_ hi) hta' hI' hks' (by rw [hd]; simpa [Act.put] using hat) (put_defers _ _ had) hrest
        unfold wpOp
        simp only [hoi]
        split
        · rename_i hw; rw [if_pos hw] at this; exact .inl this
        · rename_i hw; rw [if_neg hw] at this; exact this
      refine ⟨fun h0 => ?_, step⟩
      -- the first that has not come up can come up
      exfalso
      have hex : ∃ i, i < n ∧ listed.getD i true = false := by
        by_cases hx : ∃ i, i < n ∧ listed.getD i true = false
        · exact hx
        · exfalso
          refine hdone fun i hi => ?_
          cases hb : listed.getD i true with
          | true => rfl
          | false => exact absurd ⟨i, hi, hb⟩ hx
      have hmin : ∀ (m i : Nat), i < m → i < n → listed.getD i true = false → False := by
        intro m
        induction m with
        | zero => intro i hi; omega
        | succ m ihm =>
          intro i him hin hun
          have hilt : i < all.length := by omega
          obtain ⟨oi, hoi⟩ : ∃ o, ops[i]? = some o := ⟨_, Array.getElem?_eq_getElem (by omega)⟩
          have hoi' : all[i]? = some oi := by rw [← hall, Array.getElem?_toList]; exact hoi
          have : i ∈ Region.ready .any ops listed := by
            refine mem_ready.2 ⟨hun, oi, hoi, fun e he hb => ?_⟩
            have h1 := backOk_spec all 0 i oi hbk hoi' e he hb
            cases hb2 : listed.getD e.on true with
            | true =>
              rw [getD_lt (by omega) false true]; exact hb2
            | false => exact (ihm e.on (by omega) (by omega) hb2).elim
          rw [h0] at this; cases this
      obtain ⟨i, hi, hun⟩ := hex
      exact hmin (i + 1) i (by omega) hi hun

theorem cutOps_le : ∀ l : List Oper, cutOps l ≤ l.length
  | [] => Nat.le_refl _
  | o :: r => by
    unfold cutOps
    split
    · exact Nat.zero_le _
    · have := cutOps_le r; simp; omega

theorem Inv.frzAll {l : List Oper} {fr : List D} : ∀ (xs : List Oper) (m : List (Nat × Blk)), Inv w0 X g (look m) w → Inv w0 X g (look (frzAll Ar.std l fr xs m)) w ∧ Keeps w w (Mut X g (look m)) (Mut X g (look (frzAll Ar.std l fr xs m))) g g
  | [], m, h => ⟨h, ⟨Nat.le_refl _, fun _ _ _ => rfl, fun _ _ hm => hm, fun _ h => ⟨h, rfl⟩⟩⟩
  | o :: r, m, h => by
    unfold Den.frzAll
    have h1 : Inv w0 X g (look (if hasRow m then Den.frzRows Ar.std fr m ((fixed o.op).1.map (aliasOf l 8)) else m)) w ∧ Keeps w w (Mut X g (look m)) (Mut X g (look (if hasRow m then Den.frzRows Ar.std fr m ((fixed o.op).1.map (aliasOf l 8)) else m))) g g := by
      split
      · exact h.frzRows _ m
      · exact ⟨h, ⟨Nat.le_refl _, fun _ _ _ => rfl, fun _ _ hm => hm, fun _ h => ⟨h, rfl⟩⟩⟩
    obtain ⟨h2, h3⟩ := h1
    obtain ⟨h4, h5⟩ := h2.frzVars (fr := fr) (fixed o.op).2
    obtain ⟨h6, h7⟩ := Inv.frzAll r _ h4
    exact ⟨h6, keeps_trans_same (keeps_trans_same h3 h5) h7⟩

/-- **A region that draws its order does what it is read to do in the order of the text.** -/
theorem drawA_ok (hm : P.follows .mixedOrders = true) (hT : TabOk P T) (hE : EnvOK P env) {id : Nat} {ops : Array Oper} {s : AS} {a b : Act} {w : World} {K : AS → Prop} (hok : drawOk ops.toList = true)
    (h : drawA Ar.std T env ops.toList s K) (hs : St w0 X b s a w) (hQ : ∀ s' a' w', St w0 X b s' a' w' → K s' → Q .normal a' w') : (Code.region id ops true).wp P Q a w := by
  obtain ⟨g, hI, hf, hsz, hd, hn, hks⟩ := hs
  simp only [drawOk, Bool.and_eq_true] at hok
  obtain ⟨⟨⟨hc, hdeps⟩, hbk⟩, htl⟩ := hok
  have hb : Below w.heap.size w { w with drawn := w.drawn + 1 } := ⟨rfl, rfl, rfl, Nat.le_refl _, fun _ _ => rfl⟩
  have hI0 := hI.grow hb
  obtain ⟨hI1, hk1⟩ := hI0.frzAll (l := ops.toList) (fr := s.fr) (ops.toList.take (cutOps ops.toList)) s.mem
  have hf0 : FrRep { w with drawn := w.drawn + 1 } (Mut X g (look s.mem)) g s.fr a := frRep_keep hf ⟨hb.size, fun b hb' _ => hb.block b hb', fun _ _ hm => hm, fun _ h => ⟨h, rfl⟩⟩ fun k _ hk => ⟨hk, rfl⟩
  have hf1 := frRep_keep hf0 hk1 fun k _ hk => ⟨hk, rfl⟩
  have hks1 := frRep_keep (frRep_keep hks (keeps_grow hb) fun _ _ h => ⟨h, rfl⟩) hk1 fun k _ hk => ⟨hk, rfl⟩
  unfold drawA at h
  obtain ⟨fr', hK, hg, hl, hsame⟩ := dops_good (P := P) (Q := Q) (w0 := w0) (X := X) (g := g) (ops := ops) rfl hT hE _ _ _ hc h
  refine wp_region_any hm (wpAny_front (fr := fr') (nxt := s.nxt) rfl hT hE (cutOps_le _) htl hbk (fun o ho => List.all_eq_true.1 hdeps o ho) hQ hg hn hK ops.size _ a _ (cnt_init _) (by simp) ?_ ?_ hI1 hks1 (by rw [hl]; exact hsz) hd ?_)
  · intro j oj _ hl
    rcases Nat.lt_or_ge j ops.size with h1 | h1
    · simp [h1] at hl
    · simp [h1] at hl
  · intro i _ hi
    have : i < ops.size := by simpa using hi
    simp [this]
  · intro t ht
    have := hf1 t
    unfold RepAt
    refine (hsame t fun o ho e => ?_) _ _ _ _ |>.1 this
    obtain ⟨j, hj, hjo⟩ := List.getElem_of_mem ho
    have hjn : j < cutOps ops.toList := by simp at hj; omega
    have hjl : j < ops.toList.length := by simp at hj ⊢; omega
    have h1 := ht j o hjn (by rw [← hjo]; simp) e
    have hjs : j < ops.size := by simpa using hjl
    simp [hjs] at h1
end
end Go.Proofs.Ytoocihhnlhehlaa.Den
