/- An abstract reading of one operation is right. (Part 3) -/
import Derived.Test.YtoocihhnlhehlaaDenb
import Derived.Great.BuildSlice
import Derived.Lib.SliceRun
namespace Go.Proofs.Ytoocihhnlhehlaa.Den
open Go Go.RowKit

/-- What a call hands back. -/
def D.res' (w w' : World) (X : Nat → Prop) : D → Value → Prop
  | .rowv e sz xs, u => w'.ownsRow w.heap.size e sz u xs.list.length xs.list.flatten ∧ rowOk sz xs.list
  | d, u => D.rep0 w' X Gh.none d u
def D.ress (w w' : World) (X : Nat → Prop) : List D → List Value → Prop
  | [], us => us = []
  | d :: r, us => ∃ x xs, us = x :: xs ∧ D.res' w w' X d x ∧ D.ress w w' X r xs
def D.gives (w w' : World) (X : Nat → Prop) : D → Value → Prop
  | .tup ds, u => ∃ us : List Value, u = .tuple us.toArray ∧ D.ress w w' X ds us
  | d, u => D.res' w w' X d u

/-- The function's contract at these arguments: it hands back d; of what was there nothing turns. -/
def Does (P : Program) (f : Nat) (args : List D) (d : D) : Prop :=
  (∃ fn : Func, P.funcs[f]? = some fn ∧ (fn.name == "runtime.NumGoroutine") = false ∧ fn.body.isNone = false) ∧
  ∀ (w : World) (X : Nat → Prop) (us : List Value), (∀ b, X b → b < w.heap.size) → D.reps w X Gh.none args us →
    Calls P f us.toArray w fun e w' => ∃ u, e = .returned u ∧ Below w.heap.size w w' ∧ D.gives w w' X d u

/-- The function takes a row for its own, and hands another back in its place. -/
def Eats (P : Program) (f : Nat) (e sz : Nat) (xs : Rx) (rest : List D) (ys : Rx) : Prop :=
  (∃ fn : Func, P.funcs[f]? = some fn ∧ (fn.name == "runtime.NumGoroutine") = false ∧ fn.body.isNone = false) ∧
  ∀ (w : World) (base : Nat) (v : Value) (us : List Value), base ≤ w.heap.size → w.ownsRow base e sz v xs.list.length xs.list.flatten → rowOk sz xs.list → D.reps w (fun b => v.ownBlock = some b) Gh.none rest us →
    Calls P f (v :: us).toArray w fun x w' => ∃ u, x = .returned u ∧ w'.ownsRow base e sz u ys.list.length ys.list.flatten ∧ rowOk sz ys.list ∧ w.grownBy w' v.ownBlock ∧ (u.ownBlock = v.ownBlock ∨ u.ownBlock = some w.heap.size)

structure EnvOk (P : Program) (env : Env) : Prop where
  calls : ∀ f args p d, env.calls f args = some (p, d) → p → Does P f args d
  does : ∀ f args d, env.does f args d → Does P f args d
  eats : ∀ f h, env.eats f = some h → ∀ (e sz : Nat) xs rest p ys, h xs rest = some (p, ys) → p → Eats P f e sz xs rest ys

section
variable {P : Program} {o : Oper} {a : Act} {w w0 : World} {K : Act → World → Prop} {Q : Exit → Act → World → Prop} {X : Nat → Prop} {g : Gh} {mem : List (Nat × Blk)} {fr : List D} {T : Tab} {env : Env}

theorem wp_value {v : Value} {w' : World} (h : (execOp a.eval o).run P w = .ok (.value v) w') (hK : K (a.put o.dst v) w') : o.wp P a w K Q := by
  unfold Oper.wp; rw [h]; exact hK
theorem wp_skip_ {w' : World} (h : (execOp a.eval o).run P w = .ok .skip w') (hK : K (a.put o.dst undef) w') : o.wp P a w K Q := by
  unfold Oper.wp; rw [h]; exact hK
theorem wp_enter_ {f : FuncId} {args : Array Value} {w' : World} (h : (execOp a.eval o).run P w = .ok (.enter f args) w')
    (hK : Calls P f args w' fun e w'' => ∃ v, e = .returned v ∧ K (a.put o.dst v) w'') : o.wp P a w K Q := by
  unfold Oper.wp; rw [h]
  show Calls P f args w' _
  refine hK.mono ?_
  rintro e w'' ⟨v, rfl, hk⟩
  exact hk

/-- That an operation does so. -/
def EffOk (P : Program) (o : Oper) (a : Act) (w0 w : World) (X : Nat → Prop) (g : Gh) (lk : Nat → Option Blk) (K : Act → World → Prop) (Q : Exit → Act → World → Prop) : Eff → Prop
  | .ret p d => p → (∀ v w', Below w.heap.size w w' → D.rep w' (Mut X g lk) g d v → K (a.put o.dst v) w') → o.wp P a w K Q
  | .sel t x y => (∀ v, D.rep w (Mut X g lk) g (if t then x else y) v → K (a.put o.dst v) w) → o.wp P a w K Q
  | .nilq n _ => (∀ t : Bool, (t = true → n = 0) → K (a.put o.dst (.bool t)) w) → o.wp P a w K Q
  | .box t cs => (∀ us : List Value, C.reps w (Mut X g lk) g cs us → (∀ x ∈ us, x.oneCell' = true) → K (a.put o.dst (.pointer (some ⟨w.heap.size, 0, none⟩))) (w.alloc (.cells us.toArray t))) → o.wp P a w K Q
  | .row p e sz xs => p → (∀ v w', Below w.heap.size w w' → w'.ownsRow w.heap.size e sz v xs.list.length xs.list.flatten → rowOk sz xs.list → K (a.put o.dst v) w') → o.wp P a w K Q
  | .store i t cs => (∀ us : List Value, C.repsB w (Mut X g lk) g cs us → (∀ x ∈ us, x.oneCell' = true) → (∃ cs', lk i = some (.box t cs')) → K (a.put o.dst undef) (w.setRow (g.β i) us.toArray)) → o.wp P a w K Q
  | .app k p e sz xs => p → (∀ v w', w'.ownsRow w0.heap.size e sz v xs.list.length xs.list.flatten → rowOk sz xs.list → (∃ ys, lk k = some (.row e sz ys)) → w.grownBy w' (g.ρ k).ownBlock → (v.ownBlock = (g.ρ k).ownBlock ∨ v.ownBlock = some w.heap.size) → K (a.put o.dst v) w') → o.wp P a w K Q
  | .arr k e sz xs => (∀ v, w.ownsRow w0.heap.size e sz v xs.list.length xs.list.flatten → rowOk sz xs.list → (∃ cs, lk k = some (.box e cs)) → v.ownBlock = some (g.β k) → K (a.put o.dst v) w) → o.wp P a w K Q
  | .rset k e sz xs => (∀ v w', w'.ownsRow w0.heap.size e sz (g.ρ k) xs.list.length xs.list.flatten → rowOk sz xs.list → (∃ ys, lk k = some (.row e sz ys)) → w.grownBy w' (g.ρ k).ownBlock → K (a.put o.dst v) w') → o.wp P a w K Q
  | .call R ef => ∀ d, R d → EffOk P o a w0 w X g lk K Q (ef d)
  | .bad => True

theorem EffOk.ret_same {lk : Nat → Option Blk} {p : Prop} {d : D} (h : p → ∃ v, (execOp a.eval o).run P w = .ok (.value v) w ∧ D.rep w (Mut X g lk) g d v) : EffOk P o a w0 w X g lk K Q (.ret p d) := by
  intro hp hK
  obtain ⟨v, h1, h2⟩ := h hp
  exact wp_value h1 (hK v w (Below.refl _ _) h2)

/-! ### Operands -/
theorem rep_nil : C.rep w (Mut X g (look mem)) g (.v (.slice none 0 0)) (.slice none 0 0) := by simp [C.rep, Value.oneCell']

theorem rep_const {M : Nat → Prop} (v : Value) : D.rep w M g (ofConst v) v := by
  unfold ofConst
  split
  · rename_i a
    split
    · rename_i h
      simp only [D.rep, D.rep0]
      refine ⟨a.toList, by simp, ?_, fun x hx => by simpa using List.all_eq_true.1 h x hx⟩
      have : ∀ l : List Value, (∀ x ∈ l, x.oneCell' = true) → C.reps w M g (l.map C.v) l := by
        intro l
        induction l with
        | nil => intro _; simp [C.reps]
        | cons x r ih =>
          intro h
          simp only [List.map_cons, C.reps]
          exact ⟨x, r, rfl, by simp [C.rep, h x (by simp)], ih fun y hy => h y (by simp [hy])⟩
      exact this _ fun x hx => by simpa using List.all_eq_true.1 h x hx
    · simp [D.rep, D.rep0, C.rep]
  · simp [D.rep, D.rep0, C.rep]
  · rename_i h1 h2
    simp only [D.rep, D.rep0, C.rep, true_and]
    cases v <;> simp_all [Value.oneCell']

def FrRep (w : World) (M : Nat → Prop) (g : Gh) (fr : List D) (a : Act) : Prop := ∀ t, D.rep w M g (fr.getD t (.c .any)) (a.tmps.getD t undef)

theorem rep_ev0 {M : Nat → Prop} (hf : FrRep w M g fr a) (x : Operand) : D.rep w M g (ev0 fr x) (a.eval x) := by
  cases x with
  | tmp t => exact hf t
  | const v => exact rep_const v
  | global n => simp [ev0, D.rep, D.rep0, C.rep]
  | func f => simp only [ev0, D.rep, D.rep0, C.rep, Act.eval]; exact ⟨[], rfl, by simp [C.reps]⟩

theorem rep_res (hI : Inv w0 X g (look mem) w) (d : D) (u : Value) (h : D.rep w (Mut X g (look mem)) g d u) : D.rep w (Mut X g (look mem)) g (d.res mem) u := by
  cases d with
  | c x =>
    cases x with
    | own k =>
      simp only [D.res, C.res]
      split
      · rename_i sz n get hk
        obtain ⟨_, h2⟩ := h
        rw [h2]
        exact D.of_C (hI.fsl k sz n get hk).2
      · exact h
    | ptr i off =>
      simp only [D.res, C.res]
      split
      · rename_i cs hk
        simp only [D.rep, D.rep0, C.rep] at h ⊢
        obtain ⟨_, h1, h2, h3⟩ := hI.fbx i cs hk
        refine ⟨⟨g.β i, 0, none⟩, ?_, h1, h2, h3⟩
        rw [h.2]
        unfold Addr.add
        split <;> simp_all
      · exact h
    | _ => exact h
  | _ => exact h

theorem rep_ev (hI : Inv w0 X g (look mem) w) (hf : FrRep w (Mut X g (look mem)) g fr a) (x : Operand) : D.rep w (Mut X g (look mem)) g (ev mem fr x) (a.eval x) :=
  rep_res hI _ _ (rep_ev0 hf x)

theorem solid_one {M : Nat → Prop} {c : C} {u : Value} (hs : c.solid = true) (h : C.rep w M g c u) : u.oneCell' = true := by
  cases c <;> simp only [C.rep] at h
  · rw [h.1]; exact h.2
  · rw [h]; rfl
  · obtain ⟨A, c, hu, _⟩ := h; rw [hu]; rfl
  · rw [h.2]; rfl
  · obtain ⟨a, hu, _⟩ := h; rw [hu]; rfl
  · obtain ⟨us, hu, _⟩ := h; rw [hu]; rfl
  · cases hs
theorem D.to_C {M : Nat → Prop} {c : C} {u : Value} (hs : c.solid = true) (h : D.rep w M g (.c c) u) : C.rep w M g c u := by
  cases c <;> first | exact h | cases hs

theorem cells_one {u : Value} (h : u.oneCell' = true) : u.cells = #[u] := by cases u <;> first | rfl | cases h

theorem rep_cellsOf {M : Nat → Prop} {d : D} {cs : List C} {u : Value} (hc : cellsOf d = some cs) (h : D.rep w M g d u) : C.reps w M g cs u.cells.toList ∧ ∀ x ∈ u.cells.toList, x.oneCell' = true := by
  cases d with
  | c x =>
    simp only [cellsOf] at hc
    split at hc
    · rename_i hs
      injection hc with hc
      subst hc
      have h := D.to_C hs h
      have h1 := solid_one hs h
      rw [cells_one h1]
      exact ⟨by simp only [C.reps]; exact ⟨u, [], rfl, h, rfl⟩, by simpa using h1⟩
    · cases hc
  | agg xs =>
    simp only [cellsOf, Option.some.injEq] at hc
    subst hc
    simp only [D.rep, D.rep0] at h
    obtain ⟨us, hu, h1, h2⟩ := h
    subst hu
    exact ⟨h1, h2⟩
  | tup _ => cases hc
  | rowv _ _ _ => cases hc

theorem rep_cval {M : Nat → Prop} {c : C} {x u : Value} (hc : cval c = some x) (h : C.rep w M g c u) : u = x ∧ x.oneCell' = true := by
  cases c <;> simp only [cval] at hc <;> try cases hc
  · simp only [C.rep] at h; exact h
  · simp only [C.rep] at h; exact ⟨h, rfl⟩
theorem rep_cvals {M : Nat → Prop} : ∀ (cs : List C) (xs us : List Value), cvals cs = some xs → C.reps w M g cs us → us = xs ∧ ∀ x ∈ xs, x.oneCell' = true
  | [], xs, us, hc, h => by
    simp only [cvals, Option.some.injEq] at hc
    subst hc
    simp only [C.reps] at h
    simp [h]
  | c :: r, xs, us, hc, h => by
    simp only [cvals] at hc
    split at hc
    · rename_i x ys h1 h2
      injection hc with hc
      subst hc
      simp only [C.reps] at h
      obtain ⟨u, vs, rfl, h3, h4⟩ := h
      obtain ⟨rfl, h5⟩ := rep_cval h1 h3
      obtain ⟨rfl, h6⟩ := rep_cvals r ys vs h2 h4
      exact ⟨rfl, by simpa using ⟨h5, h6⟩⟩
    · cases hc

/-! ### Types -/
theorem tab_info (hT : TabOk P T) {t : Nat} {ti : TI} (h : T t = some ti) : ∃ i z, P.info? t = some i ∧ i.size = ti.size ∧ i.bytes = ti.bytes ∧ i.zero = some z ∧ z.cells.toList = ti.zero ∧ (∀ x ∈ ti.zero, x.oneCell' = true) ∧ z.cells.size = ti.size := (hT t ti h).info
theorem run_sizeOf_ (hT : TabOk P T) {t : Nat} {ti : TI} (h : T t = some ti) (w : World) : (sizeOf t).run P w = .ok ti.size w := by
  obtain ⟨i, z, h1, h2, _⟩ := tab_info hT h
  simp [sizeOf, typeInfo, h1, h2]
theorem run_isAgg_ (hT : TabOk P T) {t : Nat} {ti : TI} (h : T t = some ti) (w : World) : (isAgg t).run P w = .ok ti.agg w := by
  obtain ⟨d, h1, h2, _⟩ := (hT t ti h).und
  rw [← h2]
  cases d <;> simp [isAgg, run_underlying h1]
theorem run_zero_ (hT : TabOk P T) {t : Nat} {ti : TI} (h : T t = some ti) (w : World) : ∃ z, (zeroValue t).run P w = .ok z w ∧ z.cells.toList = ti.zero := by
  obtain ⟨i, z, h1, h2, h3, h4, h5, _⟩ := tab_info hT h
  exact ⟨z, by simp [zeroValue, typeInfo, h1, h4], h5⟩

/-- A value of the type, read out of cells. -/
theorem run_loadVar_ (hT : TabOk P T) {t : Nat} {ti : TI} (h : T t = some ti) (x : Addr) (us : List Value) (hc : ∀ j u, us[j]? = some u → w.cell? (x.add j) = some u) (hn : ti.agg = true → us.length = ti.size) (hs : ti.agg = false → us.length = 1) :
    (loadVar t x).run P w = .ok (if ti.agg then .agg us.toArray else us.getD 0 undef) w := by
  unfold loadVar
  rw [Sem.run_bind, run_isAgg_ hT h]
  simp only [Result.andThen_ok]
  by_cases ha : ti.agg = true
  · simp only [ha, if_true]
    have := run_loadCells_list (P := P) w x us hc
    rw [Sem.run_bind, run_sizeOf_ hT h]
    simp only [Result.andThen_ok, Sem.run_bind, ← hn ha, this]
    rfl
  · have ha' : ti.agg = false := by simpa using ha
    have h1 := hs ha'
    match us, h1 with
    | [u], _ =>
      have := hc 0 u (by simp)
      simp only [Addr.add, if_true] at this
      simp [ha', this]

/-! ### The operations, one after the other -/
theorem eff_move (hI : Inv w0 X g (look mem) w) (hf : FrRep w (Mut X g (look mem)) g fr a) (x : Operand) (hx : execOp a.eval o = pure (.value (a.eval x))) :
    EffOk P o a w0 w X g (look mem) K Q (.ret True (ev mem fr x)) := by
  refine EffOk.ret_same fun _ => ⟨a.eval x, ?_, rep_ev hI hf x⟩
  rw [hx]; rfl

theorem eff_pick (hI : Inv w0 X g (look mem) w) (hf : FrRep w (Mut X g (look mem)) g fr a) (c x y : Operand) (hx : o.op = .pick c x y) :
    EffOk P o a w0 w X g (look mem) K Q (match ev mem fr c with
    | .c (.v (.bool true)) => .ret True (ev mem fr x)
    | .c (.v (.bool false)) => .ret True (ev mem fr y)
    | .c (.b t) => .sel t (ev mem fr x) (ev mem fr y)
    | _ => .bad) := by
  have hc := rep_ev hI hf c
  have hr : ∀ t : Bool, a.eval c = .bool t → (execOp a.eval o).run P w = .ok (.value (if t then a.eval x else a.eval y)) w := by
    intro t ht
    unfold execOp
    simp [hx, ht, asBool]
  generalize ev mem fr c = dc at hc
  split
  · simp only [D.rep, D.rep0, C.rep] at hc
    exact EffOk.ret_same fun _ => ⟨a.eval x, by simpa using hr true hc.1, rep_ev hI hf x⟩
  · simp only [D.rep, D.rep0, C.rep] at hc
    exact EffOk.ret_same fun _ => ⟨a.eval y, by simpa using hr false hc.1, rep_ev hI hf y⟩
  · rename_i t
    simp only [D.rep, D.rep0, C.rep] at hc
    intro hK
    refine wp_value (hr t hc) (hK _ ?_)
    cases t
    · exact rep_ev hI hf y
    · exact rep_ev hI hf x
  · trivial

theorem reps_zero {M : Nat → Prop} : ∀ (l : List Value), (∀ x ∈ l, x.oneCell' = true) → C.reps w M g (l.map C.v) l
  | [], _ => by simp [C.reps]
  | x :: r, h => by
    simp only [List.map_cons, C.reps]
    exact ⟨x, r, rfl, by simp [C.rep, h x (by simp)], reps_zero r fun y hy => h y (by simp [hy])⟩

theorem eff_alloc (hT : TabOk P T) (t : Nat) (hx : o.op = .alloc t) :
    EffOk P o a w0 w X g (look mem) K Q (match T t with
    | some ti => .box t (ti.zero.map C.v)
    | none => .bad) := by
  split
  · rename_i ti ht
    intro hK
    obtain ⟨i, z, h1, h2, h3, h4, h5, h6, _⟩ := tab_info hT ht
    refine wp_value ?_ (hK ti.zero (reps_zero _ h6) h6)
    unfold execOp
    simp only [hx]
    simp [Instr.alloc, zeroValue, typeInfo, h1, h4, newVar, newRow, ← h5]
  · trivial

theorem eff_box (hI : Inv w0 X g (look mem) w) (hf : FrRep w (Mut X g (look mem)) g fr a) (t : Nat) (x : Operand) (hx : o.op = .box t x) :
    EffOk P o a w0 w X g (look mem) K Q (match T t, cellsOf (ev mem fr x) with
    | some ti, some cs => if cs.length = ti.size then .box t cs else .bad
    | _, _ => .bad) := by
  split
  · rename_i ti cs ht hc
    split
    · intro hK
      obtain ⟨h1, h2⟩ := rep_cellsOf hc (rep_ev hI hf x)
      refine wp_value ?_ (hK _ h1 h2)
      unfold execOp
      simp only [hx]
      simp [Instr.box, newVar, newRow]
    · trivial
  · trivial

theorem load_rep {M : Nat → Prop} (hT : TabOk P T) {t : Nat} {ti : TI} (ht : T t = some ti) (cs : List C) (x : Addr) (off : Nat) (us : List Value) (hr : C.reps w M g cs us) (h1 : ∀ y ∈ us, y.oneCell' = true)
    (hc : ∀ j u, us[j]? = some u → w.cell? (x.add j) = some u) (q : Operand) (hq1 : o.op = .load t q) (hq2 : a.eval q = .pointer (some (x.add off))) (d : D) (hd : part ti cs off = some d) :
    ∃ v, (execOp a.eval o).run P w = .ok (.value v) w ∧ D.rep w M g d v := by
  have hrun : ∀ us' : List Value, (∀ j u, us'[j]? = some u → w.cell? ((x.add off).add j) = some u) → (ti.agg = true → us'.length = ti.size) → (ti.agg = false → us'.length = 1) →
      (execOp a.eval o).run P w = .ok (.value (if ti.agg then .agg us'.toArray else us'.getD 0 undef)) w := by
    intro us' h2 h3 h4
    unfold execOp
    simp only [hq1, hq2, Instr.loadAt, Instr.sureAddr]
    simp [run_loadVar_ hT ht (x.add off) us' h2 h3 h4]
  unfold part at hd
  by_cases ha : ti.agg = true
  · simp only [ha, if_true] at hd
    split at hd
    · rename_i hl
      injection hd with hd
      subst hd
      have hr' := C.reps_take ti.size _ _ (C.reps_drop off _ _ hr)
      refine ⟨_, hrun ((us.drop off).take ti.size) ?_ ?_ ?_, ?_⟩
      · intro j u hu
        rw [Addr.add_add]
        refine hc _ u ?_
        rw [List.getElem?_take] at hu
        split at hu
        · rwa [List.getElem?_drop] at hu
        · cases hu
      · intro _; rw [C.reps_length _ _ hr', hl]
      · intro hb; rw [ha] at hb; cases hb
      · simp only [ha, if_true, D.rep]
        refine ⟨_, rfl, hr', fun y hy => h1 y (List.mem_of_mem_drop (List.mem_of_mem_take hy))⟩
    · cases hd
  · have ha' : ti.agg = false := by simpa using ha
    simp only [ha', Bool.false_eq_true, if_false] at hd
    split at hd
    · rename_i c hcc
      injection hd with hd
      subst hd
      obtain ⟨u, hu, hcu⟩ := C.reps_get _ _ hr off c hcc
      refine ⟨u, ?_, D.of_C hcu⟩
      have := hrun [u] ?_ ?_ ?_
      · simpa [ha'] using this
      · intro j u' hu'
        match j with
        | 0 =>
          simp only [List.getElem?_cons_zero, Option.some.injEq] at hu'
          subst hu'
          rw [Addr.add_add]
          exact hc _ _ (by simpa using hu)
        | j + 1 => simp at hu'
      · intro hb; rw [ha'] at hb; cases hb
      · intro _; rfl
    · cases hd

theorem addr_add0 (b off : Nat) : (⟨b, 0, none⟩ : Addr).add off = ⟨b, off, none⟩ := by unfold Addr.add; split <;> simp_all

theorem reps_at {M : Nat → Prop} : ∀ (cs : List C) (x : Addr) (o : Nat), C.at_ w M g cs x o → ∃ us : List Value, C.reps w M g cs us ∧ (∀ y ∈ us, y.oneCell' = true) ∧ ∀ j u, us[j]? = some u → w.cell? (x.add (o + j)) = some u
  | [], _, _, _ => ⟨[], by simp [C.reps], by simp, fun j u h => by simp at h⟩
  | c :: r, x, o, h => by
    simp only [C.at_] at h
    obtain ⟨⟨u, hu, h0, hc⟩, h⟩ := h
    obtain ⟨us, h1, h3, h2⟩ := reps_at r x (o + 1) h
    refine ⟨u :: us, by simp only [C.reps]; exact ⟨u, us, rfl, hc, h1⟩, by simpa using ⟨h0, h3⟩, fun j v hj => ?_⟩
    cases j with
    | zero => simp only [List.getElem?_cons_zero, Option.some.injEq] at hj; subst hj; exact hu
    | succ j =>
      have := h2 j v (by simpa using hj)
      rwa [show o + 1 + j = o + (j + 1) from by omega] at this

/-- The same out of a variable of the call's own, where rows of the call's own may lie. -/
theorem load_repB {M : Nat → Prop} (hT : TabOk P T) {t : Nat} {ti : TI} (ht : T t = some ti) (cs : List C) (x : Addr) (off : Nat) (us : List Value) (hr : C.repsB w M g cs us) (h1 : ∀ y ∈ us, y.oneCell' = true)
    (hc : ∀ j u, us[j]? = some u → w.cell? (x.add j) = some u) (q : Operand) (hq1 : o.op = .load t q) (hq2 : a.eval q = .pointer (some (x.add off))) (d : D) (hd : partB ti cs off = some d) :
    ∃ v, (execOp a.eval o).run P w = .ok (.value v) w ∧ D.rep w M g d v := by
  have hrun : ∀ us' : List Value, (∀ j u, us'[j]? = some u → w.cell? ((x.add off).add j) = some u) → (ti.agg = true → us'.length = ti.size) → (ti.agg = false → us'.length = 1) →
      (execOp a.eval o).run P w = .ok (.value (if ti.agg then .agg us'.toArray else us'.getD 0 undef)) w := by
    intro us' h2 h3 h4
    unfold execOp
    simp only [hq1, hq2, Instr.loadAt, Instr.sureAddr]
    simp [run_loadVar_ hT ht (x.add off) us' h2 h3 h4]
  unfold partB at hd
  by_cases ha : ti.agg = true
  · simp only [ha, if_true] at hd
    split at hd
    · rename_i hl
      injection hd with hd
      subst hd
      have hr' := C.repsB_take ti.size _ _ (C.repsB_drop off _ _ hr)
      have hr2 := C.reps_ofB _ _ (fun k hk => by
        have := List.all_eq_true.1 hl.2 _ hk
        simp [C.noOwn] at this) hr'
      refine ⟨_, hrun ((us.drop off).take ti.size) ?_ ?_ ?_, ?_⟩
      · intro j u hu
        rw [Addr.add_add]
        refine hc _ u ?_
        rw [List.getElem?_take] at hu
        split at hu
        · rwa [List.getElem?_drop] at hu
        · cases hu
      · intro _; rw [C.repsB_length _ _ hr', hl.1]
      · intro hb; rw [ha] at hb; cases hb
      · simp only [ha, if_true, D.rep]
        refine ⟨_, rfl, hr2, fun y hy => h1 y (List.mem_of_mem_drop (List.mem_of_mem_take hy))⟩
    · cases hd
  · have ha' : ti.agg = false := by simpa using ha
    simp only [ha', Bool.false_eq_true, if_false] at hd
    split at hd
    · rename_i c hcs
      injection hd with hd
      subst hd
      obtain ⟨u, hu, hcu⟩ := C.repsB_get _ _ hr off c hcs
      refine ⟨_, hrun [u] ?_ (fun hb => by rw [ha'] at hb; cases hb) (fun _ => rfl), ?_⟩
      · intro j v hv
        cases j with
        | zero =>
          simp at hv; subst hv
          have := hc off u hu
          simpa [Addr.add_add] using this
        | succ j => simp at hv
      · simp only [ha', Bool.false_eq_true, if_false, List.getD_cons_zero]
        cases c with
        | own k => exact hcu
        | _ => exact D.of_C hcu
    · cases hd

theorem reps_vals {M : Nat → Prop} : ∀ us : List Value, (∀ x ∈ us, x.oneCell' = true) → C.reps w M g (us.map C.v) us := reps_zero

theorem flat_at (sz o : Nat) (x : Value) : ∀ (ys : List (List Value)) (i : Nat) (y : List Value), (∀ z ∈ ys, z.length = sz) → ys[i]? = some y → y[o]? = some x → ys.flatten[i * sz + o]? = some x := by
  intro ys
  induction ys with
  | nil => intro i y _ h _; simp at h
  | cons z r ih =>
    intro i y hl hi ho
    have hz := hl z (by simp)
    rw [List.flatten_cons]
    cases i with
    | zero =>
      simp only [List.getElem?_cons_zero, Option.some.injEq] at hi
      subst hi
      have : o < z.length := (List.getElem?_eq_some_iff.1 ho).1
      rw [Nat.zero_mul, Nat.zero_add, List.getElem?_append_left this]
      exact ho
    | succ i =>
      rw [List.getElem?_append_right (by rw [hz, Nat.add_mul]; omega)]
      have := ih i y (fun q hq => hl q (by simp [hq])) (by simpa using hi) ho
      rw [show (i + 1) * sz + o - z.length = i * sz + o from by rw [hz, Nat.add_mul]; omega]
      exact this

theorem flat_len (sz : Nat) : ∀ (xs : List (List Value)), (∀ x ∈ xs, x.length = sz) → xs.flatten.length = xs.length * sz
  | [], _ => by simp
  | x :: r, hl => by
    rw [List.flatten_cons, List.length_append, flat_len sz r (fun z hz => hl z (by simp [hz])), hl x (by simp), List.length_cons, Nat.add_mul]; omega

theorem take_seg (l us : List Value) (o m : Nat) (h : o + us.length ≤ m) (hm : m ≤ l.length) : (l.take o ++ us ++ l.drop (o + us.length)).take m = (l.take m).take o ++ us ++ (l.take m).drop (o + us.length) := by
  have hl : (l.take o ++ us).length = o + us.length := by simp; omega
  rw [List.take_append, hl, List.take_of_length_le (by rw [hl]; exact h), List.take_take, Nat.min_eq_left (by omega), List.drop_take]

/-- The cells of one element of a row of the call's own. -/
theorem row_cells {base e sz : Nat} {xs : Rx} {b : Addr} {n c i : Nat} (hr : w.ownsRow base e sz (.slice (some b) n c) xs.list.length xs.list.flatten) (ho : rowOk sz xs.list) (hi : i < n) :
    n = xs.len ∧ (xs.get i).length = sz ∧ (∀ y ∈ xs.get i, y.oneCell' = true) ∧ ∀ j u, (xs.get i)[j]? = some u → w.cell? ((b.add (i * sz)).add j) = some u := by
  have hn : n = xs.len := by
    rw [xs.len_eq]
    rcases hr.2 with ⟨h1, _⟩ | ⟨_, _, _, h1, _⟩
    · cases h1
    · injection h1 with _ h1 _
  have hi' : i < xs.list.length := by rw [← xs.len_eq, ← hn]; exact hi
  have hx : xs.list[i]? = some xs.list[i] := List.getElem?_eq_getElem hi'
  have hg : xs.get i = xs.list[i] := by rw [xs.get_eq i (by rw [← hn]; exact hi)]; simp [List.getD, hx]
  obtain ⟨h1, h2⟩ := ho xs.list[i] (List.getElem_mem hi')
  rw [hg]
  refine ⟨hn, h1, h2, fun j u hu => ?_⟩
  rw [Addr.add_add]
  rcases hr.2 with ⟨h3, _⟩ | ⟨b', cap, cur, h3, hb, hh, r⟩
  · cases h3
  · injection h3 with h3 _ _
    injection h3 with h3
    subst h3
    exact hr.cells (g := b') rfl _ _ (flat_at sz j u xs.list i xs.list[i] (fun z hz => (ho z hz).1) hx hu)

theorem eff_load (hT : TabOk P T) (hI : Inv w0 X g (look mem) w) (hf : FrRep w (Mut X g (look mem)) g fr a) (t : Nat) (x : Operand) (hx : o.op = .load t x) :
    EffOk P o a w0 w X g (look mem) K Q (match ev mem fr x, T t with
    | .c (.ptr i off), some ti => match look mem i with
      | some (.box _ cs) => Eff.of (partB ti cs off)
      | _ => .bad
    | .c (.rp cs off), some ti => Eff.of (part ti cs off)
    | .c (.rpt k i sz off), some ti => match look mem k with
      | some (.row _ sz' xs) => if sz = sz' then Eff.of (part ti ((xs.getA Ar.std i).map C.v) off) else .bad
      | _ => .bad
    | _, _ => .bad) := by
  have hr := rep_ev hI hf x
  generalize ev mem fr x = dx at hr
  split
  · rename_i i off ti ht
    split
    · rename_i t' cs hl
      cases hp : partB ti cs off with
      | none => trivial
      | some d =>
        simp only [D.rep, D.rep0, C.rep] at hr
        obtain ⟨_, _, us, h2, h3, h4⟩ := hI.box i t' cs hl
        refine EffOk.ret_same fun _ => load_repB hT ht cs ⟨g.β i, 0, none⟩ off us h3 h4 (fun j u hu => ?_) x hx (by rw [hr.2, addr_add0]) d hp
        rw [addr_add0, cell_of_row w _ j _ _ _ h2]
        simpa using hu
    · trivial
  · rename_i cs off ti ht
    cases hp : part ti cs off with
    | none => trivial
    | some d =>
      simp only [D.rep, D.rep0, C.rep] at hr
      obtain ⟨b, h1, h2, h3, h4⟩ := hr
      obtain ⟨us, h5, h6, h7⟩ := reps_at cs b 0 h4
      exact EffOk.ret_same fun _ => load_rep hT ht cs b off us h5 h6 (fun j u hu => by simpa using h7 j u hu) x hx h1 d hp
  · rename_i k i sz off ti ht
    split
    · rename_i e sz' xs hl
      split
      · rename_i hz
        subst hz
        rw [xs.getA_std]
        cases hp : part ti ((xs.get i).map C.v) off with
        | none => trivial
        | some d =>
          obtain ⟨hdom, b, n, c, hρ, hi, hu⟩ := hr
          obtain ⟨_, h1, h2⟩ := hI.row k e _ xs hl
          rw [hρ] at h1
          obtain ⟨_, h3, h4, h5⟩ := row_cells h1 h2 hi
          exact EffOk.ret_same fun _ => load_rep hT ht _ (b.add (i * sz)) off (xs.get i) (reps_vals _ h4) h4 h5 x hx (by rw [hu, Addr.add_add]) d hp
      · trivial
    · trivial
  · trivial

theorem C.repsB_set {M : Nat → Prop} : ∀ (cs : List C) (us : List Value), C.repsB w M g cs us → ∀ i c u, C.repB w M g c u → C.repsB w M g (cs.set i c) (us.set i u)
  | [], _, h, i, c, u, hc => by simp only [C.repsB] at h; simp [h, C.repsB]
  | c :: r, _, h, i, c', u, hu => by
    simp only [C.repsB] at h
    obtain ⟨x, xs, rfl, hc, h⟩ := h
    cases i with
    | zero => simp only [List.set_cons_zero, C.repsB]; exact ⟨u, xs, rfl, hu, h⟩
    | succ i => simp only [List.set_cons_succ, C.repsB]; exact ⟨x, _, rfl, hc, C.repsB_set r xs h i c' u hu⟩

theorem reps_setAll {M : Nat → Prop} : ∀ (xs cs : List C) (us vs : List Value) (off : Nat), C.repsB w M g cs us → C.repsB w M g xs vs → C.repsB w M g (setAll cs off xs) ((vs.zipIdx.foldl (fun l (p : Value × Nat) => l.set (off + p.2) p.1) us))
  | [], _, _, vs, _, h, h' => by simp only [C.repsB] at h'; simpa [h', setAll] using h
  | x :: r, cs, us, vs, off, h, h' => by
    simp only [C.repsB] at h'
    obtain ⟨v, ws, rfl, hv, h'⟩ := h'
    have := reps_setAll r (cs.set off x) (us.set off v) ws (off + 1) (C.repsB_set _ _ h off x v hv) h'
    simp only [setAll, List.zipIdx_cons, List.foldl_cons, Nat.add_zero]
    have e : ∀ (l : List Value) (i : Nat) (k : List Value), (l.zipIdx (i + 1)).foldl (fun l (p : Value × Nat) => l.set (off + p.2) p.1) k = (l.zipIdx i).foldl (fun l (p : Value × Nat) => l.set (off + 1 + p.2) p.1) k := by
      intro l
      induction l with
      | nil => intro i k; rfl
      | cons y s ih =>
        intro i k
        simp only [List.zipIdx_cons, List.foldl_cons]
        rw [ih (i + 1)]
        congr 2
        omega
    rw [e]
    exact this

theorem foldl_set_seg : ∀ (vs us : List Value) (off i : Nat), off + i + vs.length ≤ us.length → (vs.zipIdx i).foldl (fun l (p : Value × Nat) => l.set (off + p.2) p.1) us = us.take (off + i) ++ vs ++ us.drop (off + i + vs.length)
  | [], us, off, i, _ => by simp
  | v :: r, us, off, i, h => by
    simp only [List.zipIdx_cons, List.foldl_cons]
    rw [foldl_set_seg r (us.set (off + i) v) off (i + 1) (by simp at h ⊢; omega)]
    have := Go.list_seg_step us (off + i) v r (by simp at h; omega)
    rw [← Nat.add_assoc off i 1]
    rw [this]
    simp [Nat.add_assoc]

theorem reps_seg {M : Nat → Prop} (cs xs : List C) (us vs : List Value) (off : Nat) (h : C.repsB w M g cs us) (h' : C.repsB w M g xs vs) (hl : off + xs.length ≤ cs.length) :
    C.repsB w M g (setAll cs off xs) (us.take off ++ vs ++ us.drop (off + vs.length)) := by
  have h1 := reps_setAll xs cs us vs off h h'
  have hv := C.repsB_length _ _ h'
  have hu := C.repsB_length _ _ h
  have h2 := foldl_set_seg vs us off 0 (by omega)
  simp only [Nat.add_zero] at h2
  rwa [← h2]

theorem reps_setAllC {M : Nat → Prop} : ∀ (xs cs : List C) (us vs : List Value) (off : Nat), C.reps w M g cs us → C.reps w M g xs vs → C.reps w M g (setAll cs off xs) ((vs.zipIdx.foldl (fun l (p : Value × Nat) => l.set (off + p.2) p.1) us))
  | [], _, _, vs, _, h, h' => by simp only [C.reps] at h'; simpa [h', setAll] using h
  | x :: r, cs, us, vs, off, h, h' => by
    simp only [C.reps] at h'
    obtain ⟨v, ws, rfl, hv, h'⟩ := h'
    have := reps_setAllC r (cs.set off x) (us.set off v) ws (off + 1) (C.reps_set _ _ h off x v hv) h'
    simp only [setAll, List.zipIdx_cons, List.foldl_cons, Nat.add_zero]
    have e : ∀ (l : List Value) (i : Nat) (k : List Value), (l.zipIdx (i + 1)).foldl (fun l (p : Value × Nat) => l.set (off + p.2) p.1) k = (l.zipIdx i).foldl (fun l (p : Value × Nat) => l.set (off + 1 + p.2) p.1) k := by
      intro l
      induction l with
      | nil => intro i k; rfl
      | cons y s ih =>
        intro i k
        simp only [List.zipIdx_cons, List.foldl_cons]
        rw [ih (i + 1)]
        congr 2
        omega
    rw [e]
    exact this

theorem reps_segC {M : Nat → Prop} (cs xs : List C) (us vs : List Value) (off : Nat) (h : C.reps w M g cs us) (h' : C.reps w M g xs vs) (hl : off + xs.length ≤ cs.length) :
    C.reps w M g (setAll cs off xs) (us.take off ++ vs ++ us.drop (off + vs.length)) := by
  have h1 := reps_setAllC xs cs us vs off h h'
  have hv := C.reps_length _ _ h'
  have hu := C.reps_length _ _ h
  have h2 := foldl_set_seg vs us off 0 (by omega)
  simp only [Nat.add_zero] at h2
  rwa [← h2]

theorem rep_cellsOfB (hI : Inv w0 X g (look mem) w) {d : D} {cs : List C} {u : Value} (hc : cellsOfB mem d = some cs) (h : D.rep w (Mut X g (look mem)) g d u) : C.repsB w (Mut X g (look mem)) g cs u.cells.toList ∧ ∀ x ∈ u.cells.toList, x.oneCell' = true := by
  unfold cellsOfB at hc
  split at hc
  · rename_i k
    split at hc
    · rename_i e sz xs hk
      injection hc with hc
      subst hc
      obtain ⟨_, h1, _⟩ := hI.row k e sz xs hk
      have h2 : u.oneCell' = true := by
        rw [h.2]
        rcases h1.2 with ⟨e1, _⟩ | ⟨_, _, _, e1, _⟩ <;> rw [e1] <;> rfl
      rw [cells_one h2]
      exact ⟨by simp only [C.repsB]; exact ⟨u, [], rfl, h, rfl⟩, by simpa using h2⟩
    · cases hc
  · obtain ⟨h1, h2⟩ := rep_cellsOf hc h
    exact ⟨C.repsB_of _ _ h1, h2⟩

theorem setRow1_flat (sz off : Nat) (us : List Value) : ∀ (l : List (List Value)) (i : Nat), (∀ z ∈ l, z.length = sz) → i < l.length → off + us.length ≤ sz →
    (setRow1 l i off us).flatten = l.flatten.take (i * sz + off) ++ us ++ l.flatten.drop (i * sz + off + us.length)
  | [], i, _, hi, _ => by simp at hi
  | z :: r, 0, hl, _, ho => by
    have hz := hl z (by simp)
    simp only [setRow1, List.getD_cons_zero, List.set_cons_zero, List.flatten_cons, Nat.zero_mul, Nat.zero_add]
    rw [List.take_append_of_le_length (by omega), List.drop_append_of_le_length (by omega)]
    simp [List.append_assoc]
  | z :: r, i + 1, hl, hi, ho => by
    have hz := hl z (by simp)
    have ih := setRow1_flat sz off us r i (fun q hq => hl q (by simp [hq])) (by simpa using hi) ho
    simp only [setRow1] at ih ⊢
    simp only [List.getD_cons_succ, List.set_cons_succ, List.flatten_cons, ih]
    have e1 : (i + 1) * sz + off = z.length + (i * sz + off) := by rw [hz, Nat.add_mul]; omega
    have e2 : (i + 1) * sz + off + us.length = z.length + (i * sz + off + us.length) := by rw [hz, Nat.add_mul]; omega
    rw [e1, show z.length + (i * sz + off) + us.length = z.length + (i * sz + off + us.length) by omega]
    rw [List.take_length_add_append, List.drop_length_add_append]
    simp [List.append_assoc]

theorem setRow1_ok (sz off : Nat) (us : List Value) (l : List (List Value)) (i : Nat) (h : rowOk sz l) (hi : i < l.length) (ho : off + us.length ≤ sz) (hu : ∀ x ∈ us, x.oneCell' = true) : rowOk sz (setRow1 l i off us) := by
  intro x hx
  have hg : l.getD i [] = l[i] := by simp [List.getD, List.getElem?_eq_getElem hi]
  obtain ⟨h1, h2⟩ := h l[i] (List.getElem_mem hi)
  unfold setRow1 at hx
  rw [hg] at hx
  rcases List.mem_or_eq_of_mem_set hx with hx | hx
  · exact h x hx
  · subst hx
    refine ⟨by simp; omega, fun y hy => ?_⟩
    simp only [List.mem_append] at hy
    rcases hy with (hy | hy) | hy
    · exact h2 y (List.mem_of_mem_take hy)
    · exact hu y hy
    · exact h2 y (List.mem_of_mem_drop hy)

theorem eff_store (hT : TabOk P T) (hI : Inv w0 X g (look mem) w) (hf : FrRep w (Mut X g (look mem)) g fr a) (t : Nat) (q x : Operand) (hx : o.op = .store t q x) :
    EffOk P o a w0 w X g (look mem) K Q (match ev mem fr q, T t with
    | .c (.ptr i off), some ti => match look mem i, cellsOfB mem (ev mem fr x) with
      | some (.box t' cs), some xs => if xs.length = ti.size ∧ off + ti.size ≤ cs.length then .store i t' (setAll cs off xs) else .bad
      | _, _ => .bad
    | .c (.rpt k i sz off), some ti => match look mem k, (cellsOf (ev mem fr x)).bind cvals with
      | some (.row e sz' xs), some us => if us.length = ti.size ∧ off + ti.size ≤ sz ∧ sz = sz' then .rset k e sz (.set xs i off us) else .bad
      | _, _ => .bad
    | _, _ => .bad) := by
  have hr := rep_ev hI hf q
  have hrx := rep_ev hI hf x
  generalize ev mem fr q = dq at hr
  split
  · rename_i i off ti ht
    split
    · rename_i t' cs xs hl hc
      split
      · rename_i hlen
        intro hK
        simp only [D.rep, D.rep0, C.rep] at hr
        obtain ⟨_, _, us, h2, h3, h4⟩ := hI.box i t' cs hl
        obtain ⟨h5, h6⟩ := rep_cellsOfB hI hc hrx
        have hvl := C.repsB_length _ _ h5
        have hul := C.repsB_length _ _ h3
        have hseg := reps_seg cs xs us _ off h3 h5 (by omega)
        refine wp_skip_ ?_ (hK _ hseg ?_ ⟨cs, hl⟩)
        · unfold execOp
          simp only [hx, hr.2, Instr.storeAt, Instr.sureAddr]
          have hst := run_storeCells_at P (g.β i) off t' (a.eval x).cells.toList 0 us.toArray w h2 (by simp at hvl ⊢; omega) h6
          simp only [Nat.add_zero] at hst
          have hsz : (a.eval x).cells.size = ti.size := by simpa using hvl.trans hlen.1
          simp only [Sem.run_bind, Sem.run_pure, Result.andThen_ok, storeVar, run_sizeOf_ hT ht, hsz, ne_eq, not_true_eq_false, if_false, hst]
        · intro y hy
          simp only [List.mem_append] at hy
          rcases hy with (hy | hy) | hy
          · exact h4 y (List.mem_of_mem_take hy)
          · exact h6 y hy
          · exact h4 y (List.mem_of_mem_drop hy)
      · trivial
    · trivial
  · rename_i k i sz off ti ht
    split
    · rename_i e sz' xs us hl hc
      split
      · rename_i hlen
        obtain ⟨hl1, hl2, rfl⟩ := hlen
        intro hK
        cases hc1 : cellsOf (ev mem fr x) with
        | none => rw [hc1] at hc; cases hc
        | some cs =>
          rw [hc1] at hc
          have hc : cvals cs = some us := hc
          obtain ⟨h5, h6⟩ := rep_cellsOf hc1 hrx
          obtain ⟨h7, h8⟩ := rep_cvals _ _ _ hc h5
          obtain ⟨hdom, b, n, c, hρ, hi, hu⟩ := hr
          obtain ⟨_, h1, h2⟩ := hI.row k e _ xs hl
          rw [hρ] at h1
          have hrow := h1
          obtain ⟨hlen0, h1'⟩ := h1
          rcases h1' with ⟨h3, _⟩ | ⟨b', cap, cur, h3, hb, hh, hnc, hcm, hcs, htk⟩
          · cases h3
          · injection h3 with h3 hn3 hc3
            injection h3 with h3
            subst h3 hn3 hc3
            have hil : i < xs.list.length := hi
            have hfl : xs.list.flatten.length = xs.list.length * sz := flat_len sz _ fun z hz => (h2 z hz).1
            have hbd : i * sz + off + us.length ≤ xs.list.length * sz := by
              have : (i + 1) * sz ≤ xs.list.length * sz := Nat.mul_le_mul_right sz hil
              rw [Nat.add_mul] at this; omega
            have hcap : xs.list.length * sz ≤ c * sz := Nat.mul_le_mul_right sz hnc
            have hst := run_storeCells_at P b' (i * sz + off) e us 0 cur w hh (by omega) h8
            simp only [Nat.add_zero] at hst
            have hadd : (⟨b', 0, none⟩ : Addr).add (i * sz + off) = ⟨b', i * sz + off, none⟩ := by unfold Addr.add; split <;> simp_all
            have hcells : (a.eval x).cells.toList = us := h7
            have hcsz : (a.eval x).cells.size = ti.size := by rw [← hl1, ← hcells]; simp
            generalize hcur : (cur.toList.take (i * sz + off) ++ us ++ cur.toList.drop (i * sz + off + us.length)).toArray = cur' at hst
            have hcur' : cur'.size = c * sz := by
              rw [← hcur]; simp; omega
            have hheap : (w.setRow b' cur').heap[b']? = some (.cells cur' e (0, 0)) := by
              exact setRow_heap w _ _ _ _ _ hh
            refine wp_skip_ ?_ (hK undef (w.setRow b' cur') ?_ (setRow1_ok sz off us xs.list i h2 hil (by omega) h8) ⟨xs, hl⟩ ⟨rfl, rfl, rfl, by simp, fun k hk hne => setRow_other w _ _ _ (fun e => hne (by rw [hρ]; exact congrArg some e))⟩)
            · unfold execOp
              simp only [hx, hu, hadd, Instr.storeAt, Instr.sureAddr]
              simp only [Sem.run_bind, Sem.run_pure, Result.andThen_ok, storeVar, run_sizeOf_ hT ht, hcsz, ne_eq, not_true_eq_false, if_false, hcells, hst]
            · rw [hρ]
              have hsl : (setRow1 xs.list i off us).length = xs.list.length := by simp [setRow1]
              have hsf := setRow1_flat sz off us xs.list i (fun z hz => (h2 z hz).1) hil (by omega)
              show World.ownsRow _ _ _ _ _ (setRow1 xs.list i off us).length (setRow1 xs.list i off us).flatten
              rw [hsl]
              refine ⟨by rw [hsf]; simp only [List.length_append, List.length_take, List.length_drop, hfl]; omega, Or.inr ⟨b', c, cur', rfl, hb, hheap, hnc, hcm, hcur', ?_⟩⟩
              rw [hsf, ← htk, ← hcur]
              exact take_seg _ _ _ _ (by omega) (by simp; omega)
      · trivial
    · trivial
  · trivial


theorem eff_nilCheck (hI : Inv w0 X g (look mem) w) (hf : FrRep w (Mut X g (look mem)) g fr a) (x : Operand) (hx : o.op = .nilCheck x) :
    EffOk P o a w0 w X g (look mem) K Q (match ev mem fr x with
    | .c (.ptr i off) => .ret True (.c (.ptr i off))
    | .c (.rp cs off) => .ret True (.c (.rp cs off))
    | .c (.rpt k i sz off) => .ret True (.c (.rpt k i sz off))
    | _ => .bad) := by
  have hr := rep_ev hI hf x
  generalize ev mem fr x = dx at hr
  split
  · refine EffOk.ret_same fun _ => ⟨a.eval x, ?_, hr⟩
    simp only [D.rep, D.rep0, C.rep] at hr
    unfold execOp
    simp [hx, hr.2]
  · refine EffOk.ret_same fun _ => ⟨a.eval x, ?_, hr⟩
    simp only [D.rep, D.rep0, C.rep] at hr
    obtain ⟨b, h1, _⟩ := hr
    unfold execOp
    simp [hx, h1]
  · refine EffOk.ret_same fun _ => ⟨a.eval x, ?_, hr⟩
    obtain ⟨_, b, n, c, _, _, hu⟩ := hr
    unfold execOp
    simp [hx, hu]
  · trivial

theorem rep_int {M : Nat → Prop} {k : IntKind} {n : Int} {u : Value} (h : D.rep w M g (.c (.v (.int k n))) u) : u = .int k n := by
  simp only [D.rep, D.rep0, C.rep] at h; exact h.1
theorem rep_bool {M : Nat → Prop} {t : Bool} {u : Value} (h : D.rep w M g (.c (.b t)) u) : u = .bool t := by
  simp only [D.rep, D.rep0, C.rep] at h; exact h
theorem rep_v {M : Nat → Prop} {x : Value} {u : Value} (h : D.rep w M g (.c (.v x)) u) : u = x := by
  simp only [D.rep, D.rep0, C.rep] at h; exact h.1
theorem of_int {M : Nat → Prop} {k : IntKind} {n : Int} : D.rep w M g (.c (.v (.int k n))) (.int k n) := by
  simp only [D.rep, D.rep0, C.rep, Value.oneCell', and_self]
theorem of_bool {M : Nat → Prop} {t : Bool} : D.rep w M g (.c (.b t)) (.bool t) := by
  simp only [D.rep, D.rep0, C.rep]

theorem eqGuard_int (op : BinOp) (t : TypeId) (x y : Operand) (k k' : IntKind) (m n : Int) : (eqGuard op t x y (.int k m) (.int k' n)).run P w = .ok () w := by
  unfold eqGuard
  cases op <;> simp <;> rfl

theorem run_bin {x y : Operand} {op : BinOp} {t t' : TypeId} {u v r : Value} (hx : o.op = .binOp op t x y t') (h1 : a.eval x = u) (h2 : a.eval y = v)
    (hg : (eqGuard op t x y u v).run P w = .ok () w) (hb : (binOp op t u v).run P w = .ok r w) : (execOp a.eval o).run P w = .ok (.value r) w := by
  unfold execOp
  simp only [hx, h1, h2, Sem.run_bind, hg, hb, Result.andThen_ok]
  rfl

set_option linter.unusedSimpArgs false in
theorem eff_abin (hT : TabOk P T) (op : BinOp) (t t' : TypeId) (x y : Operand) (hx : o.op = .binOp op t x y t') (dx dy : D) {M : Nat → Prop} (hM : M = Mut X g (look mem))
    (h1 : D.rep w M g dx (a.eval x)) (h2 : D.rep w M g dy (a.eval y)) :
    EffOk P o a w0 w X g (look mem) K Q (abin Ar.std (T t) op dx dy) := by
  subst hM
  unfold abin
  split
  all_goals first
    | trivial
    | (rename_i k m k' n
       split
       · rename_i hk
         subst hk
         have e1 := rep_int h1
         have e2 := rep_int h2
         first
           | exact EffOk.ret_same fun _ => ⟨_, run_bin hx e1 e2 (eqGuard_int _ _ _ _ _ _ _ _) (by simp [binOp, Op.intArith, Op.intCmp]; rfl), by simp only [D.rep, D.rep0, C.rep, Value.oneCell', and_self, Ar.std]⟩
           | exact EffOk.ret_same fun (hn : n ≠ 0) => ⟨_, run_bin hx e1 e2 (eqGuard_int _ _ _ _ _ _ _ _) (by simp [binOp, Op.intDiv, hn]; rfl), by simp only [D.rep, D.rep0, C.rep, Value.oneCell', and_self, Ar.std]⟩
       · trivial)
    | skip
  all_goals
    rename_i xs ys
    split
    · rename_i ti ht
      split
      · rename_i he
        split
        · rename_i us vs hu hv
          split
          · rename_i hck
            simp only [Bool.and_eq_true] at hck
            simp only [D.rep, D.rep0] at h1 h2
            obtain ⟨us', e1, c1, _⟩ := h1
            obtain ⟨vs', e2, c2, _⟩ := h2
            obtain ⟨rfl, _⟩ := rep_cvals xs us us' hu c1
            obtain ⟨rfl, _⟩ := rep_cvals ys vs vs' hv c2
            obtain ⟨g1, g2, b1, b2⟩ := (hT t ti ht).eqs he w x y _ _ hck.1 hck.2
            rw [cellsEqA_std]
            first
              | exact EffOk.ret_same fun _ => ⟨_, run_bin hx e1 e2 g1 b1, of_bool⟩
              | exact EffOk.ret_same fun _ => ⟨_, run_bin hx e1 e2 g2 b2, of_bool⟩
          · trivial
        · trivial
      · trivial
    · trivial


theorem eqGuard_str (op : BinOp) (t : TypeId) (x y : Operand) (m n : ByteArray) : (eqGuard op t x y (.string m) (.string n)).run P w = .ok () w := by
  unfold eqGuard
  cases op <;> simp <;> rfl
theorem eqGuard_slice (op : BinOp) (t : TypeId) (x y : Operand) (A B : Option Addr) (m n c d : Nat) : (eqGuard op t x y (.slice A m c) (.slice B n d)).run P w = .ok () w := by
  unfold eqGuard
  cases op <;> simp <;> rfl

theorem und_of (hT : TabOk P T) {t : Nat} : match descOf T t with
    | .int k => P.underlying t = some (.int k)
    | .bool => P.underlying t = some .bool
    | .str => P.underlying t = some .string
    | .slice e => P.underlying t = some (.slice e)
    | .arr n e => P.underlying t = some (.array n e)
    | .struct fs => ∃ fa, P.underlying t = some (.struct fa) ∧ fs.length = fa.size ∧ ∀ (j o s : Nat), fs[j]? = some (o, s) → ∃ (f : Field) (i : TypeInfo), fa[j]? = some f ∧ f.offset = o ∧ P.info? f.type = some i ∧ i.size = s ∧ s ≠ 0
    | .other => True := by
  unfold descOf
  cases ht : T t with
  | none => trivial
  | some ti =>
    obtain ⟨d, h1, _, h2⟩ := (hT t ti ht).und
    simp only
    cases hd : ti.desc <;> rw [hd] at h2 <;> simp only at h2 ⊢
    case struct fs => obtain ⟨fa, h3, h4, h5⟩ := h2; exact ⟨fa, h3 ▸ h1, h4, h5⟩
    case arr n e => exact h2.1 ▸ h1
    all_goals exact h2 ▸ h1
theorem und_struct (hT : TabOk P T) {t : Nat} {fs : List (Nat × Nat)} (hd : descOf T t = .struct fs) :
    ∃ fa, P.underlying t = some (.struct fa) ∧ fs.length = fa.size ∧ ∀ (j o s : Nat), fs[j]? = some (o, s) → ∃ (f : Field) (i : TypeInfo), fa[j]? = some f ∧ f.offset = o ∧ P.info? f.type = some i ∧ i.size = s ∧ s ≠ 0 := by
  have := und_of hT (t := t)
  rw [hd] at this
  exact this
theorem und_slice (hT : TabOk P T) {t e : Nat} (hd : descOf T t = .slice e) : P.underlying t = some (.slice e) := by
  have := und_of hT (t := t)
  rw [hd] at this
  exact this
theorem und_str (hT : TabOk P T) {t : Nat} (hd : descOf T t = .str) : P.underlying t = some .string := by
  have := und_of hT (t := t)
  rw [hd] at this
  exact this
theorem und_arr (hT : TabOk P T) {t n e : Nat} (hd : descOf T t = .arr n e) : P.underlying t = some (.array n e) := by
  have := und_of hT (t := t)
  rw [hd] at this
  exact this

theorem und_bool (hT : TabOk P T) {t : Nat} (hd : descOf T t = .bool) : P.underlying t = some .bool := by
  have := und_of hT (t := t)
  rw [hd] at this
  exact this
theorem rep_boolC {M : Nat → Prop} {c : C} {t : Bool} {u : Value} (hc : boolC c = some t) (h : D.rep w M g (.c c) u) : u = .bool t := by
  unfold boolC at hc
  split at hc
  · injection hc with hc; subst hc; exact rep_bool h
  · injection hc with hc; subst hc; exact rep_v h
  · cases hc
theorem eqGuard_bool (op : BinOp) (t : TypeId) (x y : Operand) (m n : Bool) : (eqGuard op t x y (.bool m) (.bool n)).run P w = .ok () w := by
  unfold eqGuard; split <;> simp
theorem run_eqIn_bool (d : Nat) {t : TypeId} (ht : P.underlying t = some .bool) (a b : Bool) : (Op.equalIn (d + 1) t (.bool a) (.bool b)).run P w = .ok (a == b) w := by
  simp [Op.equalIn, run_underlying ht]
theorem run_eql_bool {t : TypeId} (ht : P.underlying t = some .bool) (a b : Bool) : (binOp .eql t (.bool a) (.bool b)).run P w = .ok (.bool (a == b)) w := by
  simp only [binOp]
  simp [Op.equal, Op.maxDepth, run_eqIn_bool (w := w) 9999 ht a b]
theorem run_neq_bool {t : TypeId} (ht : P.underlying t = some .bool) (a b : Bool) : (binOp .neq t (.bool a) (.bool b)).run P w = .ok (.bool (!(a == b))) w := by
  simp only [binOp]
  simp [Op.equal, Op.maxDepth, run_eqIn_bool (w := w) 9999 ht a b]
theorem eff_binOp (hT : TabOk P T) (hI : Inv w0 X g (look mem) w) (hf : FrRep w (Mut X g (look mem)) g fr a) (op : BinOp) (t t' : TypeId) (x y : Operand) (hx : o.op = .binOp op t x y t') :
    EffOk P o a w0 w X g (look mem) K Q (binEff Ar.std T op t (ev mem fr x) (ev mem fr y)) := by
  have h1 := rep_ev hI hf x
  have h2 := rep_ev hI hf y
  generalize ev mem fr x = dx at h1
  generalize ev mem fr y = dy at h2
  unfold binEff
  split
  · rename_i sz n get
    split
    · rename_i e ht
      intro hK
      have hx := ‹o.op = Op.binOp BinOp.eql t x y t'›
      have h3 := rep_v h2
      simp only [D.rep, D.rep0, C.rep] at h1
      obtain ⟨A, c, hu, hc, hn⟩ := h1
      have hd := und_slice hT ht
      refine wp_value (run_bin hx hu h3 (eqGuard_slice _ _ _ _ _ _ _ _ _ _) (r := .bool A.isNone) ?_) (hK A.isNone fun hA => ?_)
      · exact Go.Lib.run_eql_slice_nil w _ _ _ _ _ _ _ hd
      · refine (Nat.eq_zero_or_pos _).resolve_right fun h0 => ?_
        obtain ⟨b, hb, _⟩ := hn h0
        subst hb
        cases hA
    · trivial
  · have hx := ‹o.op = Op.binOp BinOp.eql t x y t'›
    exact EffOk.ret_same fun _ => ⟨_, run_bin hx (rep_v h1) (rep_v h2) (eqGuard_str _ _ _ _ _ _) (by simp [binOp, Op.stringOp, Ar.std]), of_bool⟩
  · have hx := ‹o.op = Op.binOp BinOp.neq t x y t'›
    exact EffOk.ret_same fun _ => ⟨_, run_bin hx (rep_v h1) (rep_v h2) (eqGuard_str _ _ _ _ _ _) (by simp [binOp, Op.stringOp, Ar.std]), of_bool⟩
  · split
    · rename_i neg p q hb
      split
      · rename_i ht
        have hu := und_bool hT ht
        unfold boolsOf at hb
        split at hb
        · split at hb
          · rename_i p' q' hp hq
            injection hb with hb
            injection hb with e1 hb
            injection hb with e2 e3
            subst e1 e2 e3
            exact EffOk.ret_same fun _ => ⟨_, run_bin ‹_› (rep_boolC hp h1) (rep_boolC hq h2) (eqGuard_bool _ _ _ _ _ _) (run_eql_bool hu _ _), of_bool⟩
          · cases hb
        · split at hb
          · rename_i p' q' hp hq
            injection hb with hb
            injection hb with e1 hb
            injection hb with e2 e3
            subst e1 e2 e3
            exact EffOk.ret_same fun _ => ⟨_, run_bin ‹_› (rep_boolC hp h1) (rep_boolC hq h2) (eqGuard_bool _ _ _ _ _ _) (run_neq_bool hu _ _), of_bool⟩
          · cases hb
        · cases hb
      · trivial
    · exact eff_abin hT _ t t' x y ‹_› _ _ rfl h1 h2

theorem eff_not (hI : Inv w0 X g (look mem) w) (hf : FrRep w (Mut X g (look mem)) g fr a) (t : TypeId) (x : Operand) (hx : o.op = .unOp .not t x) :
    EffOk P o a w0 w X g (look mem) K Q (match ev mem fr x with
    | .c (.v (.bool t)) => .ret True (.c (.v (.bool (!t))))
    | .c (.b t) => .ret True (.c (.b (!t)))
    | _ => .bad) := by
  have h1 := rep_ev hI hf x
  generalize ev mem fr x = dx at h1
  split
  · refine EffOk.ret_same fun _ => ⟨_, ?_, by simp only [D.rep, D.rep0, C.rep, Value.oneCell']; exact ⟨rfl, trivial⟩⟩
    unfold execOp
    simp [hx, rep_v h1, Op.unary]
  · refine EffOk.ret_same fun _ => ⟨_, ?_, of_bool⟩
    unfold execOp
    simp [hx, rep_bool h1, Op.unary]
  · trivial

theorem eff_neg (hI : Inv w0 X g (look mem) w) (hf : FrRep w (Mut X g (look mem)) g fr a) (t : TypeId) (x : Operand) (hx : o.op = .unOp .neg t x) :
    EffOk P o a w0 w X g (look mem) K Q (match ev mem fr x with
    | .c (.v (.int k n)) => .ret True (.c (.v (.int k (k.wrap (0 - n)))))
    | _ => .bad) := by
  have h1 := rep_ev hI hf x
  generalize ev mem fr x = dx at h1
  split
  · refine EffOk.ret_same fun _ => ⟨_, ?_, of_int⟩
    unfold execOp
    simp [hx, rep_v h1, Op.unary, Op.intArith]
  · trivial

theorem eff_fieldAddr (hT : TabOk P T) (hI : Inv w0 X g (look mem) w) (hf : FrRep w (Mut X g (look mem)) g fr a) (t : TypeId) (x : Operand) (f : Nat) (hx : o.op = .fieldAddr t x f) :
    EffOk P o a w0 w X g (look mem) K Q (match descOf T t with
    | .struct fs => match fs[f]? with
      | some (o, _) => match ev mem fr x with
        | .c (.ptr i off) => .ret True (.c (.ptr i (off + o)))
        | .c (.rp cs off) => .ret True (.c (.rp cs (off + o)))
        | .c (.rpt k i sz off) => .ret True (.c (.rpt k i sz (off + o)))
        | _ => .bad
      | none => .bad
    | _ => .bad) := by
  have h1 := rep_ev hI hf x
  generalize ev mem fr x = dx at h1
  split
  · rename_i fs ht
    split
    · rename_i off s hfs
      obtain ⟨fa, hu, _, hfa⟩ := und_struct hT ht
      obtain ⟨fd, i, h2, h3, h4, h5, h6⟩ := hfa f off s hfs
      have hrun : ∀ b : Addr, a.eval x = .pointer (some b) → (execOp a.eval o).run P w = .ok (.value (.pointer (some (b.add off)))) w := by
        intro b hb
        have hsz : i.size ≠ 0 := by omega
        unfold execOp
        simp [hx, hb, Instr.fieldAt, run_underlying hu, h2, Instr.sureAddr, fieldPlace, sizeOf, typeInfo, h4, hsz, h3]
      split
      · simp only [D.rep, D.rep0, C.rep] at h1
        refine EffOk.ret_same fun _ => ⟨_, hrun _ h1.2, ?_⟩
        simp only [D.rep, D.rep0, C.rep]
        refine ⟨h1.1, ?_⟩
        rw [← addr_add0, Addr.add_add, addr_add0]
      · simp only [D.rep, D.rep0, C.rep] at h1
        obtain ⟨b, e1, e2, e3, e4⟩ := h1
        refine EffOk.ret_same fun _ => ⟨_, hrun _ e1, ?_⟩
        simp only [D.rep, D.rep0, C.rep]
        exact ⟨b, by rw [Addr.add_add], e2, e3, e4⟩
      · obtain ⟨e0, b, n, c, e1, e2, e3⟩ := h1
        exact EffOk.ret_same fun _ => ⟨_, hrun _ e3, e0, b, n, c, e1, e2, by rw [Addr.add_add, Nat.add_assoc]⟩
      · trivial
    · trivial
  · trivial

theorem eff_extract (hI : Inv w0 X g (look mem) w) (hf : FrRep w (Mut X g (look mem)) g fr a) (x : Operand) (i : Nat) (hx : o.op = .extract x i) :
    EffOk P o a w0 w X g (look mem) K Q (match ev mem fr x with
    | .tup ds => match ds[i]? with
      | some d => .ret True d
      | none => .bad
    | _ => .bad) := by
  have h1 := rep_ev hI hf x
  generalize ev mem fr x = dx at h1
  split
  · rename_i ds
    split
    · rename_i d hd
      simp only [D.rep, D.rep0] at h1
      obtain ⟨us, e1, e2⟩ := h1
      obtain ⟨u, h2, h3⟩ := D.reps_get _ _ e2 i d hd
      refine EffOk.ret_same fun _ => ⟨u, ?_, D.of0 h3⟩
      unfold execOp
      simp [hx, e1, Instr.extract, h2]
    · trivial
  · trivial

theorem getD_of {l : List Value} {i : Nat} {x : Value} (h : l[i]? = some x) : l.getD i undef = x := by simp [List.getD, h]

theorem eff_indexAddr (hT : TabOk P T) (hI : Inv w0 X g (look mem) w) (hf : FrRep w (Mut X g (look mem)) g fr a) (t : TypeId) (x ix : Operand) (hx : o.op = .indexAddr t x ix) :
    EffOk P o a w0 w X g (look mem) K Q (match descOf T t with
    | .slice e => match T e with
      | some ei => match ev mem fr x, ev mem fr ix with
        | .c (.sl sz n get), .c (.v (.int _ i)) => if sz = ei.size then .ret (0 ≤ i ∧ i < n) (.c (.rp ((get i.toNat).map C.v) 0)) else .bad
        | .c (.own k), .c (.v (.int _ i)) => match look mem k with
          | some (.row _ sz xs) => if sz = ei.size then .ret (0 ≤ i ∧ i < xs.lenA Ar.std) (.c (.rpt k i.toNat sz 0)) else .bad
          | _ => .bad
        | _, _ => .bad
      | none => .bad
    | .arr n e => match T e with
      | some ei => match ev mem fr x, ev mem fr ix with
        | .c (.ptr i off), .c (.v (.int _ k)) => .ret (0 ≤ k ∧ k < n) (.c (.ptr i (off + k.toNat * ei.size)))
        | _, _ => .bad
      | none => .bad
    | _ => .bad) := by
  have h1 := rep_ev hI hf x
  have h2 := rep_ev hI hf ix
  generalize ev mem fr x = dx at h1
  generalize ev mem fr ix = di at h2
  split
  · rename_i e ht
    split
    · rename_i ei he
      split
      · rename_i sz n get kk i
        split
        · rename_i hsz
          refine EffOk.ret_same fun hi => ?_
          have h3 := rep_int h2
          simp only [D.rep, D.rep0, C.rep] at h1
          obtain ⟨A, c, hu, hc, hn⟩ := h1
          obtain ⟨b, hA, hM, hb, hcell⟩ := hn (by omega)
          subst hA
          obtain ⟨hl, hcl⟩ := hcell i.toNat (by omega)
          refine ⟨.pointer (some (b.add (i.toNat * ei.size))), ?_, ?_⟩
          · unfold execOp
            simp [hx, hu, h3, Instr.indexAt, asIntOf, run_underlying (und_slice hT ht), hi.1, hi.2, run_sizeOf_ hT he]
          · simp only [D.rep, D.rep0, C.rep]
            refine ⟨b.add (i.toNat * ei.size), by simp [Addr.add], by rw [Addr.block_add]; exact hM, by rw [Addr.block_add]; exact hb, ?_⟩
            have key : ∀ (l : List Value) (q : Nat), (∀ j y, l[j]? = some y → w.cell? (b.add (i.toNat * ei.size + (q + j))) = some y ∧ y.oneCell' = true) → C.at_ w (Mut X g (look mem)) g (l.map C.v) (b.add (i.toNat * ei.size)) q := by
              intro l
              induction l with
              | nil => intro q _; simp [C.at_]
              | cons y r ih =>
                intro q hq
                simp only [List.map_cons, C.at_]
                have h0 := hq 0 y (by simp)
                refine ⟨⟨y, ?_, h0.2, by simp [C.rep, h0.2]⟩, ih (q + 1) fun j z hz => ?_⟩
                · rw [Addr.add_add]; simpa using h0.1
                · have := hq (j + 1) z (by simpa using hz)
                  rwa [show q + (j + 1) = q + 1 + j from by omega] at this
            refine key _ 0 fun j y hy => ?_
            have := hcl j y hy
            rw [hsz] at this
            simpa using this
        · trivial
      · rename_i k kk i
        split
        · rename_i e' sz xs hl
          split
          · rename_i hsz
            refine EffOk.ret_same fun hi => ?_
            have h3 := rep_int h2
            rw [xs.lenA_std] at hi
            obtain ⟨_, hr1, hr2⟩ := hI.row k e' sz xs hl
            rcases hr1.2 with ⟨_, e2⟩ | ⟨b', cap, cur, e1, _⟩
            · rw [xs.len_eq, e2] at hi; omega
            · refine ⟨.pointer (some ((⟨b', 0, none⟩ : Addr).add (i.toNat * ei.size))), ?_, h1.1, ⟨b', 0, none⟩, xs.list.length, cap, e1, by rw [← xs.len_eq]; omega, by rw [hsz, Nat.add_zero]⟩
              have hu : a.eval x = .slice (some ⟨b', 0, none⟩) xs.list.length cap := h1.2.trans e1
              have hi2 : i < (xs.list.length : Int) := by rw [← xs.len_eq]; exact hi.2
              unfold execOp
              simp [hx, hu, h3, Instr.indexAt, asIntOf, run_underlying (und_slice hT ht), hi.1, hi2, run_sizeOf_ hT he]
          · trivial
        · trivial
      · trivial
    · trivial
  · rename_i n e ht
    split
    · rename_i ei he
      split
      · rename_i i off kk k
        refine EffOk.ret_same fun hi => ?_
        have h3 := rep_int h2
        simp only [D.rep, D.rep0, C.rep] at h1
        refine ⟨.pointer (some ((⟨g.β i, off, none⟩ : Addr).add (k.toNat * ei.size))), ?_, ?_⟩
        · unfold execOp
          simp [hx, h1.2, h3, Instr.indexAt, Instr.sureAddr, asIntOf, run_underlying (und_arr hT ht), hi.1, hi.2, run_sizeOf_ hT he]
        · simp only [D.rep, D.rep0, C.rep]
          refine ⟨h1.1, ?_⟩
          rw [← addr_add0, Addr.add_add, addr_add0]
      · trivial
    · trivial
  · trivial

theorem eff_index (hT : TabOk P T) (hI : Inv w0 X g (look mem) w) (hf : FrRep w (Mut X g (look mem)) g fr a) (t : TypeId) (x ix : Operand) (hx : o.op = .index t x ix) :
    EffOk P o a w0 w X g (look mem) K Q (match descOf T t with
    | .str => match ev mem fr x, ev mem fr ix with
      | .c (.v (.string s)), .c (.v (.int _ i)) => .ret (0 ≤ i ∧ i < s.size) (.c (.v (.int .u8 (s.data.toList.getD i.toNat 0).toNat)))
      | _, _ => .bad
    | .arr n e => match T e, ev mem fr x, ev mem fr ix with
      | some ei, .agg cs, .c (.v (.int _ i)) => match ei.agg, cs[i.toNat * ei.size]? with
        | false, some c => .ret (0 ≤ i ∧ i < n) (.c c)
        | _, _ => .bad
      | _, _, _ => .bad
    | _ => .bad) := by
  have h1 := rep_ev hI hf x
  have h2 := rep_ev hI hf ix
  generalize ev mem fr x = dx at h1
  generalize ev mem fr ix = di at h2
  split
  · rename_i ht
    split
    · rename_i s kk i
      refine EffOk.ret_same fun hi => ⟨_, ?_, of_int⟩
      have hlt : i.toNat < s.size := by omega
      have hb : s[i.toNat]? = some (s.data.toList.getD i.toNat 0) := by
        rw [getElem?_pos s i.toNat hlt]
        have h0 : i.toNat < s.data.size := hlt
        have h1 : s.data.toList.getD i.toNat 0 = s.data[i.toNat] := by simp [List.getD]; rw [Array.getElem?_eq_getElem h0]; rfl
        rw [h1]
        rfl
      unfold execOp
      simp [hx, rep_v h1, rep_int h2, Instr.index, asIntOf, run_underlying (und_str hT ht), hi.1, hb]
    · trivial
  · rename_i n e ht
    split
    · rename_i ei cs kk i he
      split
      · rename_i c hag hc
        refine EffOk.ret_same fun hi => ?_
        simp only [D.rep, D.rep0] at h1
        obtain ⟨us, hu, hr, h1'⟩ := h1
        obtain ⟨u, hu1, hu2⟩ := C.reps_get _ _ hr _ _ hc
        refine ⟨u, ?_, D.of_C hu2⟩
        have hag' : (isAgg e).run P w = .ok false w := by rw [run_isAgg_ hT he, hag]
        unfold execOp
        simp [hx, hu, rep_int h2, Instr.index, asIntOf, run_underlying (und_arr hT ht), hi.1, hi.2, run_sizeOf_ hT he, Go.part, hag', hu1]
      · trivial
    · trivial
  · trivial


theorem sliceBound_ok {k : IntKind} {i : Int} {y : Nat} {code : BoundsCode} (h : 0 ≤ i ∧ i ≤ y) (w : World) : (Instr.sliceBound (.int k i) y code).run P w = .ok i.toNat w := by
  simp [Instr.sliceBound, asIntOf, h.1, h.2]

theorem rep_cut {M : Nat → Prop} {sz n c : Nat} {get : Nat → List Value} {A : Option Addr} (hc : n ≤ c) (hn : 0 < n → ∃ a : Addr, A = some a ∧ ¬ M a.block ∧ a.block < w.heap.size ∧
      ∀ j, j < n → (get j).length = sz ∧ ∀ o x, (get j)[o]? = some x → w.cell? (a.add (j * sz + o)) = some x ∧ x.oneCell' = true) (l h : Nat) (hlh : l ≤ h) (hh : h ≤ n) :
    C.rep w M g (.sl sz (h - l) (fun j => get (j + l))) (.slice (if c = l then A else A.map (·.add (l * sz))) (h - l) (c - l)) := by
  simp only [C.rep]
  refine ⟨_, _, rfl, by omega, fun h0 => ?_⟩
  obtain ⟨b, hA, hM, hb, hcell⟩ := hn (by omega)
  subst hA
  rw [if_neg (by omega)]
  refine ⟨b.add (l * sz), rfl, by rw [Addr.block_add]; exact hM, by rw [Addr.block_add]; exact hb, fun j hj => ?_⟩
  obtain ⟨h1, h2⟩ := hcell (j + l) (by omega)
  refine ⟨h1, fun o x hx => ?_⟩
  rw [Addr.add_add]
  have := h2 o x hx
  rwa [show l * sz + (j * sz + o) = (j + l) * sz + o from by rw [Nat.add_mul]; omega]

theorem eff_slice (hT : TabOk P T) (hI : Inv w0 X g (look mem) w) (hf : FrRep w (Mut X g (look mem)) g fr a) (t : TypeId) (x : Operand) (lo hi : Option Operand) (hx : o.op = .slice t x lo hi none) :
    EffOk P o a w0 w X g (look mem) K Q (match descOf T t with
    | .slice e => match T e, ev mem fr x with
      | some ei, .c (.sl sz n get) => if sz = ei.size then
          (match lo.map (ev mem fr), hi.map (ev mem fr) with
          | none, none => .ret True (.c (.sl sz n get))
          | some (.c (.v (.int _ l))), none => .ret (0 ≤ l ∧ l ≤ n) (.c (.sl sz (n - l.toNat) (fun j => get (j + l.toNat))))
          | none, some (.c (.v (.int _ h))) => .ret (0 ≤ h ∧ h ≤ n) (.c (.sl sz h.toNat get))
          | some (.c (.v (.int _ l))), some (.c (.v (.int _ h))) => .ret (0 ≤ l ∧ l ≤ h ∧ h ≤ n) (.c (.sl sz (h.toNat - l.toNat) (fun j => get (j + l.toNat))))
          | _, _ => .bad) else .bad
      | some ei, .c (.own k) => match (generalizing := false) look mem k, lo.map (ev mem fr), hi with
        | some (.row _ sz xs), some (.c (.v (.int _ l))), none => if sz = ei.size then .ret (0 ≤ l ∧ l < xs.lenA Ar.std) (.c (.rsl k l.toNat sz)) else .bad
        | _, _, _ => .bad
      | _, _ => .bad
    | .arr n e => match (generalizing := false) T e, ev mem fr x, lo, hi with
      | some ei, .c (.ptr i 0), none, none => match look mem i with
        | some (.box t' cs) => match cvals cs with
          | some vs => if vs.length = n * ei.size ∧ 0 < ei.size ∧ n ≤ 1000 then .arr i t' ei.size (.lit (chunks ei.size n vs)) else .bad
          | none => .bad
        | _ => .bad
      | _, _, _, _ => .bad
    | _ => .bad) := by
  have h1 := rep_ev hI hf x
  generalize ev mem fr x = dx at h1
  split
  · rename_i e hd
    split
    · rename_i ei sz n get he
      split
      · rename_i hsz
        simp only [D.rep, D.rep0, C.rep] at h1
        obtain ⟨A, c, hu, hc, hn⟩ := h1
        have hrun : ∀ (l h : Nat), l ≤ h → h ≤ n → (Instr.sliceBounds true n c (lo.map a.eval) (hi.map a.eval) none).run P w = .ok (l, h, c) w →
            (execOp a.eval o).run P w = .ok (.value (.slice (if c = l then A else A.map (·.add (l * sz))) (h - l) (c - l))) w := by
          intro l h _ _ hb
          unfold execOp
          simp [hx, hu, Instr.sliceAt, Instr.slice, run_underlying (und_slice hT hd), hb, run_sizeOf_ hT he, hsz]
        split
        · rename_i hlo hhi
          cases lo with
          | some _ => cases hlo
          | none =>
            cases hi with
            | some _ => cases hhi
            | none =>
              refine EffOk.ret_same fun _ => ⟨_, hrun 0 n (by omega) (by omega) (by simp [Instr.sliceBounds]), ?_⟩
              exact D.of_C (by simpa using rep_cut hc hn 0 n (by omega) (by omega))
        · rename_i kk l hlo hhi
          cases lo with
          | none => cases hlo
          | some q =>
            cases hi with
            | some _ => cases hhi
            | none =>
              refine EffOk.ret_same fun hp => ⟨_, hrun l.toNat n (by omega) (by omega) ?_, ?_⟩
              · have hq := rep_ev hI hf q
                have e1 : ev mem fr q = .c (.v (.int kk l)) := by simpa using hlo
                rw [e1] at hq
                simp [Instr.sliceBounds, rep_int hq, sliceBound_ok (P := P) hp]
              · exact D.of_C (by simpa using rep_cut hc hn l.toNat n (by omega) (by omega))
        · rename_i kk h hlo hhi
          cases lo with
          | some _ => cases hlo
          | none =>
            cases hi with
            | none => cases hhi
            | some q =>
              refine EffOk.ret_same fun hp => ⟨_, hrun 0 h.toNat (by omega) (by omega) ?_, ?_⟩
              · have hq := rep_ev hI hf q
                have e1 : ev mem fr q = .c (.v (.int kk h)) := by simpa using hhi
                rw [e1] at hq
                have hcap : 0 ≤ h ∧ h ≤ (c : Int) := by omega
                simp [Instr.sliceBounds, rep_int hq, sliceBound_ok (P := P) hcap]
              · exact D.of_C (by simpa using rep_cut hc hn 0 h.toNat (by omega) (by omega))
        · rename_i kk l kk' h hlo hhi
          cases lo with
          | none => cases hlo
          | some q =>
            cases hi with
            | none => cases hhi
            | some q' =>
              refine EffOk.ret_same fun hp => ⟨_, hrun l.toNat h.toNat (by omega) (by omega) ?_, ?_⟩
              · have hq := rep_ev hI hf q
                have e1 : ev mem fr q = .c (.v (.int kk l)) := by simpa using hlo
                rw [e1] at hq
                have hq' := rep_ev hI hf q'
                have e2 : ev mem fr q' = .c (.v (.int kk' h)) := by simpa using hhi
                rw [e2] at hq'
                have hcap : 0 ≤ h ∧ h ≤ (c : Int) := by omega
                have hcap2 : 0 ≤ l ∧ l ≤ (h.toNat : Int) := by omega
                simp [Instr.sliceBounds, rep_int hq, rep_int hq', sliceBound_ok (P := P) hcap, sliceBound_ok (P := P) hcap2]
              · exact D.of_C (by simpa using rep_cut hc hn l.toNat h.toNat (by omega) (by omega))
        · trivial
      · trivial
    · rename_i ei k he
      split
      · have hx2 := hx
        rename_i e' sz xs kk l hk hlo
        split
        · rename_i hsz
          refine EffOk.ret_same fun hp => ?_
          rw [Rx.lenA_std, xs.len_eq] at hp
          cases lo with
          | none => cases hlo
          | some q =>
            have hq := rep_ev hI hf q
            have e1 : ev mem fr q = .c (.v (.int kk l)) := by simpa using hlo
            rw [e1] at hq
            obtain ⟨hdom, hu⟩ := h1
            obtain ⟨_, hr, _⟩ := hI.row k e' sz xs hk
            rcases hr.2 with ⟨_, h0⟩ | ⟨b, cap, cur, hv, _, _, hnc, _⟩
            · omega
            · have hcap : 0 ≤ l ∧ l ≤ (xs.list.length : Int) := by omega
              refine ⟨.slice (some ((⟨b, 0, none⟩ : Addr).add (l.toNat * sz))) (xs.list.length - l.toNat) (cap - l.toNat), ?_, hdom, ⟨b, 0, none⟩, _, _, hv, by omega, rfl⟩
              unfold execOp
              have hne : ¬ cap = l.toNat := by omega
              simp [hx2, hu, hv, Instr.sliceAt, Instr.slice, run_underlying (und_slice hT hd), Instr.sliceBounds, rep_int hq, sliceBound_ok (P := P) hcap, run_sizeOf_ hT he, hsz, hne]
        · trivial
      · trivial
    · trivial
  · rename_i n e hd
    split
    · have hx2 := hx
      rename_i ei i he
      split
      · rename_i t' cs hl
        split
        · rename_i vs hvs
          split
          · rename_i hc
            intro hK
            simp only [D.rep, D.rep0, C.rep] at h1
            obtain ⟨e0, e1, us, e2, e3, e4⟩ := hI.box i t' cs hl
            have hvu : us = vs ∧ ∀ x ∈ vs, x.oneCell' = true := by
              have : ∀ (cs : List C) (xs us : List Value), cvals cs = some xs → C.repsB w (Mut X g (look mem)) g cs us → us = xs ∧ ∀ x ∈ xs, x.oneCell' = true := by
                intro cs xs us h h'
                exact rep_cvals _ _ _ h (C.reps_ofB _ _ (fun k hk => by
                  have : ∀ (cs : List C) (xs : List Value), cvals cs = some xs → C.own k ∉ cs := by
                    intro cs
                    induction cs with
                    | nil => intro xs _ hm; cases hm
                    | cons c r ih =>
                      intro xs hx hm
                      simp only [cvals] at hx
                      rcases List.mem_cons.1 hm with hm | hm
                      · subst hm; simp [cval] at hx
                      · split at hx
                        · rename_i h2; exact ih _ h2 hm
                        · cases hx
                  exact this cs xs h hk) h')
              exact this _ _ _ hvs e3
            obtain ⟨rfl, hv1⟩ := hvu
            have hlen : (chunks ei.size n us).length = n := by simp [chunks]
            have hro : rowOk ei.size (chunks ei.size n us) := by
              intro x hx
              obtain ⟨j, hj, rfl⟩ := List.mem_map.1 hx
              have hj := List.mem_range.1 hj
              refine ⟨?_, fun y hy => hv1 y (List.mem_of_mem_drop (List.mem_of_mem_take hy))⟩
              have : (j + 1) * ei.size ≤ n * ei.size := Nat.mul_le_mul_right _ hj
              rw [Nat.add_mul] at this
              simp only [List.length_take, List.length_drop]; omega
            have hfl : (chunks ei.size n us).flatten = us := by
              have : ∀ m, m ≤ n → (chunks ei.size m us).flatten = us.take (m * ei.size) := by
                intro m
                induction m with
                | zero => intro _; simp [chunks]
                | succ m ih =>
                  intro hm
                  have h5 : chunks ei.size (m + 1) us = chunks ei.size m us ++ [(us.drop (m * ei.size)).take ei.size] := by simp [chunks, List.range_succ]
                  rw [h5, List.flatten_append, ih (by omega), Nat.add_mul, Nat.one_mul, List.take_add]
                  simp
              rw [this n (Nat.le_refl _), ← hc.1, List.take_length]
            refine wp_value ?_ (hK (.slice (some ⟨g.β i, 0, none⟩) n n) ?_ hro ⟨cs, hl⟩ rfl)
            · unfold execOp
              have : (⟨g.β i, 0, none⟩ : Addr).add 0 = ⟨g.β i, 0, none⟩ := addr_add0 _ _
              simp [hx2, h1.2, Instr.sliceAt, Instr.sureAddr, run_underlying (und_arr hT hd), Instr.sliceBounds, run_sizeOf_ hT he, this]
            · show World.ownsRow _ _ _ _ _ (chunks ei.size n us).length (chunks ei.size n us).flatten
              rw [hlen, hfl]
              refine ⟨hc.1, Or.inr ⟨g.β i, n, us.toArray, rfl, e1, e2, Nat.le_refl _, by unfold maxLen; omega, by simpa using hc.1, ?_⟩⟩
              rw [← hc.1]; simp
          · trivial
        · trivial
      · trivial
    · trivial
  · trivial


theorem run_builtin {c : Call} {b : Builtin} (hx : o.op = .call c) (hb : c.callee = .builtin b) : (execOp a.eval o).run P w = (builtin b c.argTypes o.type (c.args.map fun | .const _ => true | _ => false) (c.args.map a.eval)).run P w := by
  unfold execOp
  simp only [hx, resolve, hb, Sem.run_bind, Sem.run_pure, Result.andThen_ok, invoke]
  rfl

theorem flat_get (sz : Nat) : ∀ (xs : List (List Value)), (∀ x ∈ xs, x.length = sz) → ∀ (j : Nat) (u : Value), xs.flatten[j]? = some u → ∃ (i o : Nat) (x : List Value), j = i * sz + o ∧ xs[i]? = some x ∧ x[o]? = some u
  | [], _, j, u, h => by simp at h
  | x :: r, hl, j, u, h => by
    have h0 : x.length = sz := hl x (by simp)
    rw [List.flatten_cons] at h
    by_cases hj : j < x.length
    · rw [List.getElem?_append_left hj] at h
      exact ⟨0, j, x, by simp, by simp, h⟩
    · rw [List.getElem?_append_right (by omega)] at h
      obtain ⟨i, o, y, h1, h2, h3⟩ := flat_get sz r (fun z hz => hl z (by simp [hz])) _ u h
      refine ⟨i + 1, o, y, ?_, by simpa using h2, h3⟩
      rw [Nat.add_mul]; omega

/-- A value that reads as these rows. -/
def SrcOk (w : World) (sz : Nat) (u : Value) (ys : List (List Value)) : Prop :=
  rowOk sz ys ∧ ∃ A c, u = .slice A ys.length c ∧ (0 < ys.length → ∃ b : Addr, A = some b ∧ ∀ (j : Nat) (x : Value), ys.flatten[j]? = some x → w.cell? (b.add j) = some x)

theorem run_append_src (base : Nat) (t ty e : TypeId) (i : TypeInfo) (z : Value) (size bytes : Nat) (ht : P.underlying t = some (.slice e)) (hi : P.info? e = some i) (hz : i.zero = some z)
    (hsize : i.size = size) (hby : i.bytes = bytes) (hzs : z.cells.size = size) (hsz : 0 < size)
    (v : Value) (xs : List (List Value)) (hxs : rowOk size xs) (hown : w.ownsRow base e size v xs.length xs.flatten) (u : Value) (ys : List (List Value)) (hs : SrcOk w size u ys)
    (h63 : xs.length + ys.length ≤ 9223372036854775807) (hbytes : (xs.length + ys.length) * bytes ≤ 140737488355328) (hbase : base ≤ w.heap.size) :
    ∃ v' w', (Builtin.append_ #[t, t] ty #[v, u]).run P w = .ok v' w' ∧ w'.ownsRow base e size v' (xs ++ ys).length (xs ++ ys).flatten ∧ rowOk size (xs ++ ys) ∧ w.grownBy w' v.ownBlock ∧
      (v'.ownBlock = v.ownBlock ∨ v'.ownBlock = some w.heap.size) := by
  obtain ⟨hy, A, c, rfl, hsrc⟩ := hs
  have hall : rowOk size (xs ++ ys) := fun x hx => by
    rcases List.mem_append.1 hx with hx | hx
    · exact hxs x hx
    · exact hy x hx
  have hlen : ys.flatten.length = ys.length * size := flat_len size ys fun x hx => (hy x hx).1
  cases A with
  | none =>
    have h0 : ys.length = 0 := by
      rcases Nat.eq_zero_or_pos ys.length with h0 | h0
      · exact h0
      · obtain ⟨b, hb, _⟩ := hsrc h0; cases hb
    have hn : ys = [] := List.eq_nil_of_length_eq_zero h0
    subst hn
    refine ⟨v, w, ?_, by simpa using hown, hall, World.grownBy.refl w _, .inl rfl⟩
    rcases hown.2 with ⟨rfl, hx0⟩ | ⟨g', cap, cur, rfl, _, _, hnc, _⟩
    · simp [Builtin.append_, run_underlying ht, sizeOf, typeInfo, hi, Builtin.lenOf, Builtin.firstCells]
    · simp [Builtin.append_, run_underlying ht, sizeOf, typeInfo, hi, Builtin.lenOf, Builtin.firstCells, hnc, storeCells]
  | some b =>
    have hcells : ∀ (j : Nat) (x : Value), ys.flatten[j]? = some x → w.cell? (b.add j) = some x := by
      intro j x hx
      rcases Nat.eq_zero_or_pos ys.length with h0 | h0
      · have hn : ys = [] := List.eq_nil_of_length_eq_zero h0
        subst hn
        simp at hx
      · obtain ⟨b', hb, hc⟩ := hsrc h0
        injection hb with hb
        subst hb
        exact hc j x hx
    have h1 : ∀ x ∈ ys.flatten, x.oneCell' = true := fun x hx => by
      obtain ⟨y, hy1, hy2⟩ := List.mem_flatten.1 hx
      exact (hy y hy1).2 x hy2
    obtain ⟨v', w', hrun, h2, h3, _, h5⟩ := run_append_own_at (P := P) w base t ty e i z size bytes ht hi hz hsize hby hzs hsz v xs.length xs.flatten hown b ys.length c ys.flatten hlen hcells h1 (by simpa [maxLen] using h63) hbytes hbase
    exact ⟨v', w', hrun, by simpa using h2, hall, h3, h5⟩

theorem src_sl {M : Nat → Prop} {sz n : Nat} {get : Nat → List Value} {u : Value} (h : C.rep w M g (.sl sz n get) u) : SrcOk w sz u ((List.range n).map get) := by
  simp only [C.rep] at h
  obtain ⟨A, c, hu, hc, hn⟩ := h
  have hrow : rowOk sz ((List.range n).map get) := fun x hx => by
    obtain ⟨j, hj, rfl⟩ := List.mem_map.1 hx
    have hj' := List.mem_range.1 hj
    obtain ⟨b, _, _, _, hcell⟩ := hn (by omega)
    refine ⟨(hcell j hj').1, fun y hy => ?_⟩
    obtain ⟨o, ho, hy⟩ := List.mem_iff_getElem.1 hy
    exact ((hcell j hj').2 o y (by rw [List.getElem?_eq_getElem ho, hy])).2
  refine ⟨hrow, A, c, by simpa using hu, fun h0 => ?_⟩
  obtain ⟨b, hA, _, _, hcell⟩ := hn (by simpa using h0)
  refine ⟨b, hA, fun j x hx => ?_⟩
  obtain ⟨i, o, y, h1, h2, h3⟩ := flat_get sz _ (fun z hz => (hrow z hz).1) j x hx
  have hi : i < n := by
    have := (List.getElem?_eq_some_iff.1 h2).1
    simpa using this
  have hy : get i = y := by simpa [hi] using h2
  subst hy
  rw [h1]
  exact ((hcell i hi).2 o x h3).1

theorem src_row {base e sz : Nat} {v : Value} {xs : List (List Value)} (h : w.ownsRow base e sz v xs.length xs.flatten) (hr : rowOk sz xs) : SrcOk w sz v xs := by
  refine ⟨hr, ?_⟩
  rcases h.2 with ⟨rfl, h0⟩ | ⟨g', cap, cur, rfl, _, hh, hnc, _, hsz, htk⟩
  · exact ⟨none, 0, by rw [h0], fun h1 => by omega⟩
  · exact ⟨some ⟨g', 0, none⟩, cap, rfl, fun _ => ⟨_, rfl, h.cells (g := g') rfl⟩⟩

theorem src_nil {sz : Nat} : SrcOk w sz (.slice none 0 0) [] := ⟨fun x hx => by simp at hx, none, 0, rfl, fun h => by simp at h⟩

theorem map_one {ys : Array Operand} {f : Operand → D} {d : D} (h : ys.toList.map f = [d]) : ∃ x, ys = #[x] ∧ f x = d := by
  obtain ⟨l⟩ := ys
  match l, h with
  | [x], h => exact ⟨x, rfl, by simpa using h⟩
theorem map_two {ys : Array Operand} {f : Operand → D} {d d' : D} (h : ys.toList.map f = [d, d']) : ∃ x y, ys = #[x, y] ∧ f x = d ∧ f y = d' := by
  obtain ⟨l⟩ := ys
  match l, h with
  | [x, y], h => exact ⟨x, y, rfl, by simpa using h⟩
theorem arr_one {ys : Array Nat} {t : Nat} (h : ys.toList = [t]) : ys = #[t] := by
  obtain ⟨l⟩ := ys; simpa using h
theorem arr_two {ys : Array Nat} {t t' : Nat} (h : ys.toList = [t, t']) : ys = #[t, t'] := by
  obtain ⟨l⟩ := ys; simpa using h

theorem src_ev {M : Nat → Prop} (hM : M = Mut X g (look mem)) (hI : Inv w0 X g (look mem) w) {k : Nat} {d : D} {u : Value} {sz : Nat} {ys : Rx} (h : D.rep w M g d u) (hs : srcRows mem k sz d = some ys) : SrcOk w sz u ys.list := by
  subst hM
  unfold srcRows at hs
  split at hs
  · split at hs
    · rename_i hz
      injection hs with hs
      subst hs hz
      simp only [D.rep, D.rep0] at h
      exact src_sl h
    · cases hs
  · injection hs with hs
    subst hs
    have := rep_v h
    subst this
    exact src_nil
  · rename_i j
    split at hs
    · cases hs
    · split at hs
      · split at hs
        · rename_i e sz' xs hj hz
          injection hs with hs
          subst hs hz
          simp only [D.rep] at h
          obtain ⟨_, h2, h3⟩ := hI.row j _ _ _ hj
          rw [h.2]
          exact src_row h2 h3
        · cases hs
      · cases hs
  · cases hs
theorem srcN_eq {d : D} {sz : Nat} {z : Rx} (hs : srcRowsN mem sz d = some z) : ∃ k, srcRows mem k sz d = some z := by
  unfold srcRowsN at hs
  split at hs
  · exact ⟨0, by simpa [srcRows] using hs⟩
  · exact ⟨0, hs⟩
  · rename_i j
    refine ⟨j + 1, ?_⟩
    unfold srcRows
    simp only [show ¬ j = j + 1 by omega, if_false]
    exact hs
  · cases hs

theorem run_len_ {c : Call} (hx : o.op = .call c) (hb : c.callee = .builtin .len) {t : Nat} {x : Operand} (ht : c.argTypes = #[t]) (ha : c.args = #[x]) {v : Value} (h : (Builtin.len_ #[t] o.type #[a.eval x]).run P w = .ok v w) :
    (execOp a.eval o).run P w = .ok (.value v) w := by
  rw [run_builtin hx hb, ht, ha]
  simp only [builtin, List.map_toArray, List.map_cons, List.map_nil, Sem.run_bind, h, Result.andThen_ok]
  rfl

theorem zero_at (z : Array Value) (hz : 0 < z.size) (n : Nat) : (Builtin.zeroCells z n).toList = (List.replicate n z.toList).flatten := by
  have hall : ∀ x ∈ List.replicate n z.toList, x.length = z.size := fun x hx => by rw [(List.mem_replicate.1 hx).2]; simp
  have hlen : (List.replicate n z.toList).flatten.length = n * z.size := by rw [flat_len z.size _ hall]; simp
  have hl2 : (Builtin.zeroCells z n).toList.length = n * z.size := by simp [Builtin.zeroCells]
  apply List.ext_getElem?
  intro i
  rcases Nat.lt_or_ge i (n * z.size) with hi | hi
  · have hq : i / z.size < n := by rw [Nat.div_lt_iff_lt_mul hz]; exact hi
    have hm : i % z.size < z.size := Nat.mod_lt _ hz
    have h1 := flat_at z.size (i % z.size) (z[i % z.size]) (List.replicate n z.toList) (i / z.size) z.toList hall (by simp [hq]) (by simp [hm])
    rw [Nat.mul_comm, Nat.div_add_mod] at h1
    rw [h1]
    simp [Builtin.zeroCells, hi, hm]
  · rw [List.getElem?_eq_none (by omega), List.getElem?_eq_none (by omega)]
theorem eff_clear (hT : TabOk P T) (hI : Inv w0 X g (look mem) w) {c : Call} (hx : o.op = .call c) (hb : c.callee = .builtin .clear) {t : Nat} {x : Operand} (ht : c.argTypes = #[t]) (ha : c.args = #[x])
    {e e' sz sz' k lo : Nat} {xs : Rx} {ei : TI} (hd : descOf T t = .slice e) (he : T e = some ei) (hk : look mem k = some (.row e' sz' xs)) (hc : sz = sz' ∧ sz = ei.size ∧ 0 < sz) (h3 : D.rep w (Mut X g (look mem)) g (.c (.rsl k lo sz)) (a.eval x)) :
    EffOk P o a w0 w X g (look mem) K Q (.rset k e' sz' (clrRow Ar.std xs lo ei.zero)) := by
  obtain ⟨rfl, hsz, hpos⟩ := hc
  intro hK
  obtain ⟨hdom, b, n, cap, hρ, hlo, hu⟩ := h3
  obtain ⟨_, h1, h2⟩ := hI.row k e' _ xs hk
  rw [hρ] at h1
  have hrow := h1
  obtain ⟨hlen0, h1'⟩ := h1
  rcases h1' with ⟨h3, _⟩ | ⟨b', cap', cur, h3, hb', hh, hnc, hcm, hcs, htk⟩
  · cases h3
  injection h3 with h3 hn3 hc3
  injection h3 with h3
  subst h3 hn3 hc3
  obtain ⟨i, z, i1, i2, i3, i4, i5, i6, i7⟩ := tab_info hT he
  have hz : (zeroValue e).run P w = .ok z w := by
    obtain ⟨z', hz1, hz2⟩ := run_zero_ hT he w
    have : (zeroValue e).run P w = .ok z w := by simp [zeroValue, typeInfo, i1, i4]
    exact this
  have hzs : z.cells.size = sz := by rw [i7, hsz]
  generalize hL : xs.list.length = L at *
  have hadd : (⟨b', 0, none⟩ : Addr).add (lo * sz) = ⟨b', lo * sz, none⟩ := by unfold Addr.add; split <;> simp_all
  have hzl := zero_at z.cells (by omega) (L - lo)
  have hzlen : (Builtin.zeroCells z.cells (L - lo)).toList.length = (L - lo) * sz := by simp [Builtin.zeroCells, hzs]
  have hmul : lo * sz + (L - lo) * sz = L * sz := by rw [← Nat.add_mul]; congr 1; omega
  have hcap : L * sz ≤ cap * sz := Nat.mul_le_mul_right sz hnc
  have hone : ∀ v ∈ (Builtin.zeroCells z.cells (L - lo)).toList, v.oneCell' = true := by
    intro v hv
    rw [hzl] at hv
    obtain ⟨l, hl1, hl2⟩ := List.mem_flatten.1 hv
    rw [(List.mem_replicate.1 hl1).2, i5] at hl2
    exact i6 v hl2
  have hst := run_storeCells_at P b' (lo * sz) e' (Builtin.zeroCells z.cells (L - lo)).toList 0 cur w hh (by rw [hzlen]; omega) hone
  simp only [Nat.add_zero] at hst
  generalize hcur : (cur.toList.take (lo * sz) ++ (Builtin.zeroCells z.cells (L - lo)).toList ++ cur.toList.drop (lo * sz + (Builtin.zeroCells z.cells (L - lo)).toList.length)).toArray = cur' at hst
  have hcur' : cur'.size = cap * sz := by
    rw [← hcur]; simp only [List.size_toArray, List.length_append, List.length_take, List.length_drop, hzlen, Array.length_toList]; omega
  have hheap : (w.setRow b' cur').heap[b']? = some (.cells cur' e' (0, 0)) := setRow_heap w _ _ _ _ _ hh
  have hlist : (clrRow Ar.std xs lo ei.zero).list = xs.list.take lo ++ List.replicate (L - lo) ei.zero := by
    have hll := xs.len_eq
    simp only [clrRow, Rx.list, Rx.lenA_std, Rx.getA_std]
    congr 1
    · apply List.ext_getElem?
      intro j
      rcases Nat.lt_or_ge j lo with hj | hj
      · simp only [List.getElem?_map, List.getElem?_range hj, Option.map_some, List.getElem?_take, if_pos hj]
        rw [xs.get_eq j (by omega)]
        simp [List.getD, show j < xs.list.length by omega]
      · simp [List.getElem?_take, show ¬ j < lo by omega]
    · have : Ar.std.nsub xs.len lo = L - lo := by show xs.len - lo = _; omega
      rw [this]
      apply List.ext_getElem?
      intro j
      by_cases hj : j < L - lo
      · simp [hj]
      · simp [hj]
  have hro : rowOk sz (clrRow Ar.std xs lo ei.zero).list := by
    rw [hlist]
    intro y hy
    rcases List.mem_append.1 hy with hy | hy
    · exact h2 y (List.mem_of_mem_take hy)
    · rw [(List.mem_replicate.1 hy).2]
      exact ⟨by rw [← i5]; simpa using hzs, i6⟩
  have hfl : (clrRow Ar.std xs lo ei.zero).list.flatten = xs.list.flatten.take (lo * sz) ++ (Builtin.zeroCells z.cells (L - lo)).toList := by
    rw [hlist, List.flatten_append, hzl, i5]
    congr 1
    have e1 : xs.list = xs.list.take lo ++ xs.list.drop lo := (List.take_append_drop _ _).symm
    have e2 : (xs.list.take lo).flatten.length = lo * sz := by
      rw [flat_len sz _ fun y hy => (h2 y (List.mem_of_mem_take hy)).1]; simp only [List.length_take]; congr 1; omega
    conv => rhs; rw [e1, List.flatten_append]
    rw [← e2, List.take_left']
    rfl
  refine wp_value (v := .tuple #[]) (w' := w.setRow b' cur') ?_ (hK (.tuple #[]) _ ?_ hro ⟨xs, hk⟩ ⟨rfl, rfl, rfl, by simp, fun k hk hne => setRow_other w _ _ _ (fun e => hne (by rw [hρ]; exact congrArg some e))⟩)
  · rw [run_builtin hx hb, ha, ht]
    have hn0 : ∃ m, L - lo = m + 1 := ⟨L - lo - 1, by omega⟩
    obtain ⟨m, hm⟩ := hn0
    simp only [hadd] at hu
    rw [hm] at hu hst
    simp [builtin, Builtin.clear_, hu, run_underlying (und_slice hT hd), hz, hst]
  · rw [hρ]
    have hl : (clrRow Ar.std xs lo ei.zero).list.length = L := by rw [hlist]; simp; omega
    rw [hl, hfl]
    refine ⟨?_, Or.inr ⟨b', cap, cur', rfl, hb', hheap, hnc, hcm, hcur', ?_⟩⟩
    · simp only [List.length_append, List.length_take, hzlen, hlen0]; omega
    · rw [← hcur, ← htk]
      rw [List.take_append_of_le_length (by simp only [List.length_append, List.length_take, hzlen, Array.length_toList]; omega)]
      rw [List.take_of_length_le (by simp only [List.length_append, List.length_take, hzlen, Array.length_toList]; omega)]
      rw [List.take_take, Nat.min_eq_left (by omega)]
theorem eff_builtin (hT : TabOk P T) (hI : Inv w0 X g (look mem) w) (hf : FrRep w (Mut X g (look mem)) g fr a) (c : Call) (b : Builtin) (hx : o.op = .call c) (hb : c.callee = .builtin b) :
    EffOk P o a w0 w X g (look mem) K Q (builtinEff Ar.std T mem b c.argTypes.toList (c.args.toList.map (ev mem fr))) := by
  generalize hts : c.argTypes.toList = ts
  generalize has : c.args.toList.map (ev mem fr) = ds
  unfold builtinEff
  split
  · obtain ⟨x, h1, h2⟩ := map_one has
    have h3 := rep_ev hI hf x
    rw [h2] at h3
    split
    · rename_i e hd
      refine EffOk.ret_same fun _ => ⟨_, run_len_ hx hb (arr_one hts) h1 ?_, of_int⟩
      simp only [D.rep, D.rep0, C.rep] at h3
      obtain ⟨A, cc, hu, _⟩ := h3
      simp [Builtin.len_, hu, run_underlying (und_slice hT hd), goInt, Ar.std]
    · trivial
  · obtain ⟨x, h1, h2⟩ := map_one has
    have h3 := rep_ev hI hf x
    rw [h2] at h3
    split
    · rename_i e hd
      refine EffOk.ret_same fun _ => ⟨_, run_len_ hx hb (arr_one hts) h1 ?_, of_int⟩
      simp [Builtin.len_, rep_v h3, run_underlying (und_slice hT hd), goInt]
    · trivial
  · obtain ⟨x, h1, h2⟩ := map_one has
    have h3 := rep_ev hI hf x
    rw [h2] at h3
    split
    · rename_i hd
      refine EffOk.ret_same fun _ => ⟨_, run_len_ hx hb (arr_one hts) h1 ?_, of_int⟩
      simp [Builtin.len_, rep_v h3, run_underlying (und_str hT hd), goInt, Ar.std]
    · trivial
  · obtain ⟨x, h1, h2⟩ := map_one has
    have h3 := rep_ev hI hf x
    rw [h2] at h3
    split
    · rename_i xs hd hk
      refine EffOk.ret_same fun _ => ⟨_, run_len_ hx hb (arr_one hts) h1 ?_, of_int⟩
      simp only [D.rep] at h3
      obtain ⟨_, hr, _⟩ := hI.row _ _ _ _ hk
      rw [h3.2]
      rcases hr.2 with ⟨e1, e2⟩ | ⟨_, _, _, e1, _⟩
      · rw [xs.lenA_std, xs.len_eq]; simp [Builtin.len_, e1, e2, run_underlying (und_slice hT hd), goInt, Ar.std]
      · rw [xs.lenA_std, xs.len_eq]; simp [Builtin.len_, e1, run_underlying (und_slice hT hd), goInt, Ar.std]
    · trivial
  · obtain ⟨x, h1, h2⟩ := map_one has
    have h3 := rep_ev hI hf x
    rw [h2] at h3
    split
    · rename_i e e' sz' xs hd hk
      split
      · rename_i ei he
        split
        · rename_i hc
          exact eff_clear hT hI hx hb (arr_one hts) h1 hd he hk hc h3
        · trivial
      · trivial
    · trivial
  · split
    · rename_i hk
      subst hk
      obtain ⟨x, y, h1, h2, h3⟩ := map_two has
      have e1 := rep_ev hI hf x
      rw [h2] at e1
      have e2 := rep_ev hI hf y
      rw [h3] at e2
      refine EffOk.ret_same fun _ => ⟨_, ?_, of_int⟩
      rw [run_builtin hx hb, h1]
      simp [builtin, Builtin.min_, rep_int e1, rep_int e2, Builtin.min2, Ar.std]
    · trivial
  · split
    · rename_i hk
      subst hk
      obtain ⟨x, y, h1, h2, h3⟩ := map_two has
      have e1 := rep_ev hI hf x
      rw [h2] at e1
      have e2 := rep_ev hI hf y
      rw [h3] at e2
      refine EffOk.ret_same fun _ => ⟨_, ?_, of_int⟩
      rw [run_builtin hx hb, h1]
      simp [builtin, Builtin.max_, rep_int e1, rep_int e2, Builtin.max2, Ar.std]
    · trivial
  · split
    · rename_i e e' sz xs hd hk
      split
      · rename_i ei ys he hs
        split
        · rename_i hc
          obtain ⟨rfl, rfl, hsz, hpos⟩ := hc
          intro hp hK
          have hp : xs.len + ys.len ≤ 9223372036854775807 ∧ (xs.len + ys.len) * ei.bytes ≤ 140737488355328 := by
            simp only [Rx.lenA_std] at hp; exact hp
          obtain ⟨x, y, h1, h2, h3⟩ := map_two has
          have e1 := rep_ev hI hf x
          rw [h2] at e1
          have e2 := rep_ev hI hf y
          rw [h3] at e2
          simp only [D.rep] at e1
          obtain ⟨_, hr, hro⟩ := hI.row _ _ _ _ hk
          obtain ⟨i, z, i1, i2, i3, i4, i5, i6, i7⟩ := tab_info hT he
          obtain ⟨v', w', hrun, r1, r2, r3, r4⟩ := run_append_src (P := P) w0.heap.size _ o.type e i z sz ei.bytes (und_slice hT hd) i1 i4 (by omega) i3 (by omega) hpos _ xs.list hro hr _ ys.list (src_ev rfl hI e2 hs) (by rw [← xs.len_eq, ← ys.len_eq]; exact hp.1) (by rw [← xs.len_eq, ← ys.len_eq]; exact hp.2) hI.below.size
          refine wp_value ?_ (hK v' w' r1 r2 ⟨xs, hk⟩ r3 r4)
          rw [run_builtin hx hb, h1, arr_two hts]
          simp only [builtin, List.map_toArray, List.map_cons, List.map_nil, Sem.run_bind, e1.2, hrun, Result.andThen_ok]
          rfl
        · trivial
      · trivial
    · trivial
  · split
    · rename_i e hd
      split
      · rename_i ei he
        split
        · rename_i ys hs
          split
          · rename_i hc
            obtain ⟨rfl, hpos⟩ := hc
            intro hp hK
            have hp : 0 + ys.len ≤ 9223372036854775807 ∧ (0 + ys.len) * ei.bytes ≤ 140737488355328 := by
              simp only [Rx.lenA_std] at hp; exact hp
            obtain ⟨x, y, h1, h2, h3⟩ := map_two has
            have e1 := rep_ev hI hf x
            rw [h2] at e1
            have e2 := rep_ev hI hf y
            rw [h3] at e2
            obtain ⟨k, hs'⟩ := srcN_eq hs
            obtain ⟨i, z, i1, i2, i3, i4, i5, i6, i7⟩ := tab_info hT he
            obtain ⟨v', w', hrun, r1, r2, r3, r4⟩ := run_append_src (P := P) w.heap.size _ o.type e i z ei.size ei.bytes (und_slice hT hd) i1 i4 i2 i3 (by omega) hpos _ [] (fun x hx => by simp at hx) (World.ownsRow_nil w w.heap.size e ei.size) _ ys.list (src_ev rfl hI e2 hs') (by simpa [← ys.len_eq] using hp.1) (by simpa [← ys.len_eq] using hp.2) (Nat.le_refl _)
            refine wp_value ?_ (hK v' w' ⟨r3.os, r3.tape, r3.output, r3.size, fun k hk => r3.block k hk (by simp [Value.ownBlock])⟩ (by simpa using r1) (by simpa using r2))
            rw [run_builtin hx hb, h1, arr_two hts]
            simp only [builtin, List.map_toArray, List.map_cons, List.map_nil, Sem.run_bind, rep_v e1, hrun, Result.andThen_ok]
            rfl
          · trivial
        · trivial
      · trivial
    · trivial
  · trivial

/-! ### Functions -/
def D.repsT (w : World) (M : Nat → Prop) (g : Gh) : List D → List Value → Prop
  | [], us => us = []
  | d :: r, us => ∃ x xs, us = x :: xs ∧ D.rep w M g d x ∧ D.repsT w M g r xs
theorem D.repsT_append {M : Nat → Prop} : ∀ (cs : List D) (us : List Value) (cs' : List D) (us' : List Value), D.repsT w M g cs us → D.repsT w M g cs' us' → D.repsT w M g (cs ++ cs') (us ++ us')
  | [], _, cs', us', h, h' => by simp only [D.repsT] at h; simpa [h] using h'
  | d :: r, _, cs', us', h, h' => by
    simp only [D.repsT] at h
    obtain ⟨x, xs, rfl, hc, h⟩ := h
    simp only [List.cons_append, D.repsT]
    exact ⟨x, xs ++ us', rfl, hc, D.repsT_append r xs cs' us' h h'⟩
theorem D.repsT_of {M : Nat → Prop} : ∀ (ds : List D) (us : List Value), D.reps w M g ds us → D.repsT w M g ds us
  | [], _, h => by simp only [D.reps] at h; simp [h, D.repsT]
  | d :: r, _, h => by
    simp only [D.reps] at h
    obtain ⟨x, xs, rfl, hc, h⟩ := h
    simp only [D.repsT]
    exact ⟨x, xs, rfl, D.of0 hc, D.repsT_of r xs h⟩
theorem reps_map {M : Nat → Prop} (f : Operand → D) (hf : ∀ x, D.rep w M g (f x) (a.eval x)) : ∀ l : List Operand, D.repsT w M g (l.map f) (l.map a.eval)
  | [] => by simp [D.repsT]
  | x :: r => by
    simp only [List.map_cons, D.repsT]
    exact ⟨_, _, rfl, hf x, reps_map f hf r⟩

theorem cvalsOf_rep {M : Nat → Prop} : ∀ (ds : List D) (cs : List C) (us : List Value), cvalsOf ds = some cs → D.repsT w M g ds us → C.reps w M g cs us
  | [], cs, us, h, hr => by
    simp only [cvalsOf, Option.some.injEq] at h
    subst h
    simp only [D.repsT] at hr
    simp [hr, C.reps]
  | .c x :: r, cs, us, h, hr => by
    simp only [cvalsOf] at h
    split at h
    · rename_i cs' hs h'
      injection h with h
      subst h
      simp only [D.repsT] at hr
      obtain ⟨u, vs, rfl, h1, h2⟩ := hr
      simp only [C.reps]
      exact ⟨u, vs, rfl, D.to_C hs h1, cvalsOf_rep r cs' vs h' h2⟩
    · cases h
  | .agg _ :: _, _, _, h, _ => by simp [cvalsOf] at h
  | .tup _ :: _, _, _, h, _ => by simp [cvalsOf] at h
  | .rowv _ _ _ :: _, _, _, h, _ => by simp [cvalsOf] at h

theorem eff_makeFunc (hI : Inv w0 X g (look mem) w) (hf : FrRep w (Mut X g (look mem)) g fr a) (f : Nat) (first captured : Array Operand) (hx : o.op = .makeFunc (.func f) first captured) :
    EffOk P o a w0 w X g (look mem) K Q (if first.size = 0 then (match cvalsOf (captured.toList.map (ev mem fr)) with
    | some cs => .ret True (.c (.fn f cs))
    | none => .bad) else .bad) := by
  split
  · rename_i h0
    split
    · rename_i cs hc
      refine EffOk.ret_same fun _ => ⟨.func (.func f) #[] (captured.map a.eval), ?_, ?_⟩
      · have : first = #[] := by simpa using h0
        unfold execOp
        simp [hx, Instr.makeFunc, this]
      · simp only [D.rep, D.rep0, C.rep]
        refine ⟨captured.toList.map a.eval, by rw [← Array.toList_map], cvalsOf_rep _ _ _ hc (reps_map _ (rep_ev hI hf) _)⟩
    · trivial
  · trivial

mutual
theorem C.rep_pure {M : Nat → Prop} {g' : Gh} : ∀ (c : C) (u : Value), c.pure = true → C.rep w M g c u → C.rep w M g' c u
  | .v _, _, _, hr => by simp only [C.rep] at hr ⊢; exact hr
  | .b _, _, _, hr => by simp only [C.rep] at hr ⊢; exact hr
  | .sl _ _ _, _, _, hr => by simp only [C.rep] at hr ⊢; exact hr
  | .own _, _, hp, _ => by simp [C.pure] at hp
  | .ptr _ _, _, hp, _ => by simp [C.pure] at hp
  | .rp cells _, _, hp, hr => by
    simp only [C.pure] at hp
    simp only [C.rep] at hr ⊢
    obtain ⟨b, h1, h2, h3, h4⟩ := hr
    exact ⟨b, h1, h2, h3, C.at_pure cells b 0 hp h4⟩
  | .fn _ caps, _, hp, hr => by
    simp only [C.pure] at hp
    simp only [C.rep] at hr ⊢
    obtain ⟨us, h1, h2⟩ := hr
    exact ⟨us, h1, C.reps_pure caps us hp h2⟩
  | .any, _, _, _ => by simp only [C.rep]
theorem C.at_pure {M : Nat → Prop} {g' : Gh} : ∀ (cs : List C) (b : Addr) (o : Nat), C.pures cs = true → C.at_ w M g cs b o → C.at_ w M g' cs b o
  | [], _, _, _, _ => by simp only [C.at_]
  | c :: r, q, o, hp, hr => by
    simp only [C.pures, Bool.and_eq_true] at hp
    simp only [C.at_] at hr ⊢
    obtain ⟨⟨x, h1, h2, h3⟩, h4⟩ := hr
    exact ⟨⟨x, h1, h2, C.rep_pure c x hp.1 h3⟩, C.at_pure r q (o + 1) hp.2 h4⟩
theorem C.reps_pure {M : Nat → Prop} {g' : Gh} : ∀ (cs : List C) (us : List Value), C.pures cs = true → C.reps w M g cs us → C.reps w M g' cs us
  | [], _, _, hr => by simp only [C.reps] at hr ⊢; exact hr
  | c :: r, _, hp, hr => by
    simp only [C.pures, Bool.and_eq_true] at hp
    simp only [C.reps] at hr ⊢
    obtain ⟨x, xs, h1, h2, h3⟩ := hr
    exact ⟨x, xs, h1, C.rep_pure c x hp.1 h2, C.reps_pure r xs hp.2 h3⟩
end
theorem D.rep_pure {M : Nat → Prop} {g' : Gh} (d : D) (u : Value) (hp : d.pure = true) (hr : D.rep w M g d u) : D.rep0 w M g' d u := by
  cases d with
  | c x =>
    simp only [D.rep0, D.pure] at *
    cases x with
    | own k => simp [C.pure] at hp
    | rpt k i sz off => simp [C.pure] at hp
    | rsl k lo sz => simp [C.pure] at hp
    | _ => exact C.rep_pure (g := g) _ u hp hr
  | agg xs =>
    simp only [D.rep, D.rep0, D.pure] at *
    obtain ⟨us, h1, h2, h3⟩ := hr
    exact ⟨us, h1, C.reps_pure xs us hp h2, h3⟩
  | tup _ => cases hp
  | rowv _ _ _ => cases hp
theorem D.reps_pure {M : Nat → Prop} {g' : Gh} : ∀ (ds : List D) (us : List Value), ds.all D.pure = true → D.repsT w M g ds us → D.reps w M g' ds us
  | [], _, _, hr => by simp only [D.repsT] at hr; simp only [D.reps]; exact hr
  | d :: r, _, hp, hr => by
    simp only [List.all_cons, Bool.and_eq_true] at hp
    simp only [D.repsT] at hr
    simp only [D.reps]
    obtain ⟨x, xs, h1, h2, h3⟩ := hr
    exact ⟨x, xs, h1, D.rep_pure d x hp.1 h2, D.reps_pure r xs hp.2 h3⟩

theorem row_sl {M : Nat → Prop} {w' : World} {e sz : Nat} {u : Value} {xs : List (List Value)} (hr : w'.ownsRow w.heap.size e sz u xs.length xs.flatten) (ho : rowOk sz xs) (hM : ∀ b, M b → b < w.heap.size) :
    C.rep w' M g (.sl sz xs.length (fun i => xs.getD i [])) u := by
  simp only [C.rep]
  rcases hr.2 with ⟨rfl, h0⟩ | ⟨b, cap, cur, hu, hb, hh, hnc, _, hsz, htk⟩
  · exact ⟨none, 0, by rw [h0], by omega, fun h => by omega⟩
  · refine ⟨_, cap, hu, hnc, fun h => ⟨⟨b, 0, none⟩, rfl, fun hm => ?_, heap_lt hh, fun j hj => ?_⟩⟩
    · have := hM _ hm
      simp only at this
      omega
    · have hx : xs[j]? = some xs[j] := List.getElem?_eq_getElem hj
      have hg : xs.getD j [] = xs[j] := by simp [List.getD, hx]
      rw [hg]
      obtain ⟨h1, h2⟩ := ho xs[j] (List.getElem_mem hj)
      refine ⟨h1, fun o x hox => ⟨?_, h2 x (List.mem_of_getElem? hox)⟩⟩
      exact hr.cells (g := b) (by rw [hu]; rfl) _ _ (flat_at sz o x xs j xs[j] (fun z hz => (ho z hz).1) hx hox)

theorem row_slR {M : Nat → Prop} {w' : World} {e sz : Nat} {u : Value} {xs : Rx} (hr : w'.ownsRow w.heap.size e sz u xs.list.length xs.list.flatten) (ho : rowOk sz xs.list) (hM : ∀ b, M b → b < w.heap.size) :
    C.rep w' M g (.sl sz xs.len xs.get) u :=
  sl_congr xs.len_eq.symm (fun j hj => (xs.get_eq j (by rw [xs.len_eq]; exact hj)).symm) (row_sl hr ho hM)

theorem none_keeps {M : Nat → Prop} {w' : World} : Keeps w' w' M M Gh.none g := ⟨Nat.le_refl _, fun _ _ _ => rfl, fun _ _ hm => hm, fun _ h => h.elim⟩
theorem res_adopt {M : Nat → Prop} {w' : World} (hM : ∀ b, M b → b < w.heap.size) (d : D) (u : Value) (h : D.res' w w' M d u) : D.rep0 w' M g (d.adopt Ar.std) u := by
  cases d with
  | rowv e sz xs => simp only [D.res'] at h; simp only [D.adopt, D.rep0, Rx.lenA_std, Rx.getA_std]; exact row_slR h.1 h.2 hM
  | c x => simp only [D.res'] at h; simp only [D.adopt]; exact D.rep0_keep none_keeps _ _ h
  | agg x => simp only [D.res'] at h; simp only [D.adopt]; exact D.rep0_keep none_keeps _ _ h
  | tup x => simp only [D.res'] at h; simp only [D.adopt]; exact D.rep0_keep none_keeps _ _ h
theorem ress_adopt {M : Nat → Prop} {w' : World} (hM : ∀ b, M b → b < w.heap.size) : ∀ (ds : List D) (us : List Value), D.ress w w' M ds us → D.reps w' M g (adopts Ar.std ds) us
  | [], _, h => by simp only [D.ress] at h; simp [h, adopts, D.reps]
  | d :: r, _, h => by
    simp only [D.ress] at h
    obtain ⟨x, xs, rfl, h1, h2⟩ := h
    simp only [adopts, D.reps]
    exact ⟨x, xs, rfl, res_adopt hM d x h1, ress_adopt hM r xs h2⟩

theorem run_call {c : Call} {fo : Operand} {f : Nat} {caps : List Value} {fn : Func} (hx : o.op = .call c) (hb : c.callee = .value fo) (hv : a.eval fo = .func (.func f) #[] caps.toArray) (h1 : P.funcs[f]? = some fn) (h2 : (fn.name == "runtime.NumGoroutine") = false) (h3 : fn.body.isNone = false) :
    (execOp a.eval o).run P w = .ok (.enter f (c.args.toList.map a.eval ++ caps).toArray) w := by
  unfold execOp
  simp only [hx, resolve, hb, hv, Deferred.ofValue, Sem.run_bind, Sem.run_pure, Result.andThen_ok, invoke, callFunc, run_program, h1, h2, h3, Bool.false_eq_true, if_false]
  have e : (#[] ++ Array.map a.eval c.args ++ caps.toArray) = (c.args.toList.map a.eval ++ caps).toArray := by
    apply Array.ext'
    simp
  rw [e]

theorem eff_plain (hE : EnvOk P env) (hI : Inv w0 X g (look mem) w) (c : Call) (fo : Operand) (hx : o.op = .call c) (hb : c.callee = .value fo) {f : Nat} {cs : List Value} (hv : a.eval fo = .func (.func f) #[] cs.toArray) (ds : List D)
    (hargs : D.repsT w (Mut X g (look mem)) g ds (c.args.toList.map a.eval ++ cs)) : EffOk P o a w0 w X g (look mem) K Q (callPlain Ar.std env f ds) := by
  unfold callPlain
  split
  · rename_i hp
    have hargs' := D.reps_pure (g' := Gh.none) _ _ hp hargs
    have hMlt : ∀ b, Mut X g (look mem) b → b < w.heap.size := fun b hb => hI.mut_lt hb
    have hcall : ∀ (p : Prop) (d : D), env.calls f ds = some (p, d) → p → (∀ v w', Below w.heap.size w w' → D.gives w w' (Mut X g (look mem)) d v → K (a.put o.dst v) w') → o.wp P a w K Q := by
      intro p d he hpp hK
      obtain ⟨⟨fn, h1, h2, h3⟩, hc⟩ := hE.calls f ds p d he hpp
      refine wp_enter_ (run_call hx hb hv h1 h2 h3) ((hc w _ _ hMlt hargs').mono ?_)
      rintro e w' ⟨u, rfl, h4, h5⟩
      exact ⟨u, rfl, hK u w' h4 h5⟩
    split
    · rename_i p e sz xs he
      intro hpp hK
      refine hcall p _ he hpp fun v w' h4 h5 => ?_
      simp only [D.gives, D.res'] at h5
      exact hK v w' h4 h5.1 h5.2
    · rename_i p ds' he
      intro hpp hK
      refine hcall p _ he hpp fun v w' h4 h5 => ?_
      simp only [D.gives] at h5
      obtain ⟨us, h6, h7⟩ := h5
      refine hK v w' h4 ?_
      simp only [D.rep, D.rep0]
      exact ⟨us, h6, ress_adopt hMlt _ _ h7⟩
    · rename_i p d hn1 hn2 he
      intro hpp hK
      refine hcall p _ he hpp fun v w' h4 h5 => hK v w' h4 ?_
      have h6 : D.res' w w' (Mut X g (look mem)) d v := by
        cases d with
        | tup ds' => exact absurd rfl (hn2 ds')
        | _ => exact h5
      have h7 := res_adopt (g := g) hMlt d v h6
      cases d with
      | rowv e sz xs => exact absurd rfl (hn1 e sz xs)
      | _ => exact D.of0 h7
    · intro d hd
      have hdoes : (∀ v w', Below w.heap.size w w' → D.gives w w' (Mut X g (look mem)) d v → K (a.put o.dst v) w') → o.wp P a w K Q := by
        intro hK
        obtain ⟨⟨fn, h1, h2, h3⟩, hc⟩ := hE.does f ds d hd
        refine wp_enter_ (run_call hx hb hv h1 h2 h3) ((hc w _ _ hMlt hargs').mono ?_)
        rintro e w' ⟨u, rfl, h4, h5⟩
        exact ⟨u, rfl, hK u w' h4 h5⟩
      cases d with
      | rowv e sz xs =>
        intro _ hK
        refine hdoes fun v w' h4 h5 => ?_
        simp only [D.gives, D.res'] at h5
        exact hK v w' h4 h5.1 h5.2
      | tup ds' =>
        intro _ hK
        refine hdoes fun v w' h4 h5 => ?_
        simp only [D.gives] at h5
        obtain ⟨us, h6, h7⟩ := h5
        refine hK v w' h4 ?_
        simp only [D.rep, D.rep0]
        exact ⟨us, h6, ress_adopt hMlt _ _ h7⟩
      | c x =>
        intro _ hK
        exact hdoes fun v w' h4 h5 => hK v w' h4 (D.of0 (res_adopt (g := g) hMlt (.c x) v h5))
      | agg x =>
        intro _ hK
        exact hdoes fun v w' h4 h5 => hK v w' h4 (D.of0 (res_adopt (g := g) hMlt (.agg x) v h5))
  · trivial

theorem eff_call (hE : EnvOk P env) (hI : Inv w0 X g (look mem) w) (hf : FrRep w (Mut X g (look mem)) g fr a) (c : Call) (fo : Operand) (hx : o.op = .call c) (hb : c.callee = .value fo) :
    EffOk P o a w0 w X g (look mem) K Q (match ev mem fr fo with
    | .c (.fn f caps) => callEff Ar.std env mem f (c.args.toList.map (ev mem fr) ++ caps.map D.c)
    | _ => .bad) := by
  have hfo := rep_ev hI hf fo
  generalize ev mem fr fo = dfo at hfo
  split
  · rename_i f caps
    simp only [D.rep, D.rep0, C.rep] at hfo
    obtain ⟨cs, hv, hcs⟩ := hfo
    have hargs : D.repsT w (Mut X g (look mem)) g (c.args.toList.map (ev mem fr) ++ caps.map D.c) (c.args.toList.map a.eval ++ cs) :=
      D.repsT_append _ _ _ _ (reps_map _ (rep_ev hI hf) _) (D.repsT_of _ _ (C.reps_ofC _ _ hcs))
    generalize c.args.toList.map (ev mem fr) ++ caps.map D.c = ds at hargs
    unfold callEff
    split
    · rename_i h k rest heat
      split
      · rename_i e sz xs hk
        split
        · rename_i hp
          split
          · rename_i p ys hh
            intro hpp hK
            obtain ⟨⟨fn, h1, h2, h3⟩, hc⟩ := hE.eats f h heat e sz xs rest p ys hh hpp
            simp only [D.repsT] at hargs
            obtain ⟨v, vs, hvs, hv1, hv2⟩ := hargs
            obtain ⟨_, hr, hro⟩ := hI.row k e sz xs hk
            have hv3 : v = g.ρ k := hv1.2
            have hbm : ∀ b, v.ownBlock = some b → Mut X g (look mem) b := fun b hb => .inr ⟨k, by rw [hk]; rw [hv3] at hb; exact hb⟩
            have hrest := D.reps_keep (w' := w) (M' := fun b => v.ownBlock = some b) (g' := Gh.none) ⟨Nat.le_refl _, fun _ _ _ => rfl, fun b _ hm => hbm b hm, fun _ h => ⟨h, rfl⟩⟩ _ _ (D.reps_pure (g' := Gh.none) _ _ hp hv2)
            refine wp_enter_ (run_call hx hb hv h1 h2 h3) ?_
            rw [hvs]
            refine (hc w w0.heap.size v vs hI.below.size (by rw [hv3]; exact hr) hro hrest).mono ?_
            rintro e' w' ⟨u, rfl, r1, r2, r3, r4⟩
            rw [hv3] at r3 r4
            exact ⟨u, rfl, hK u w' r1 r2 ⟨xs, hk⟩ r3 r4⟩
          · trivial
        · trivial
      · trivial
    · exact eff_plain hE hI c fo hx hb hv _ hargs
  · trivial

/-! ### Literals -/
theorem foldl_arr : ∀ (vs us : List Value) (off i : Nat), ((vs.zipIdx i).foldl (fun (cs : Array Value) (p : Value × Nat) => cs.setIfInBounds (off + p.2) p.1) us.toArray) = ((vs.zipIdx i).foldl (fun l (p : Value × Nat) => l.set (off + p.2) p.1) us).toArray
  | [], us, off, i => rfl
  | v :: r, us, off, i => by
    simp only [List.zipIdx_cons, List.foldl_cons, List.setIfInBounds_toArray]
    exact foldl_arr r _ off (i + 1)

def PartsRep (w : World) (M : Nat → Prop) (g : Gh) : List (Nat × D) → List (Nat × Value) → Prop
  | [], vs => vs = []
  | (i, d) :: r, vs => ∃ v ws, vs = (i, v) :: ws ∧ D.rep w M g d v ∧ PartsRep w M g r ws

theorem partsRep_map {M : Nat → Prop} (f : Operand → D) (hf : ∀ x, D.rep w M g (f x) (a.eval x)) : ∀ l : List (Nat × Operand), PartsRep w M g (l.map fun (i, x) => (i, f x)) (l.map fun (i, x) => (i, a.eval x))
  | [] => by simp [PartsRep]
  | (i, x) :: r => by
    simp only [List.map_cons, PartsRep]
    exact ⟨_, _, rfl, hf x, partsRep_map f hf r⟩

theorem fillD_ok {M : Nat → Prop} (place : Nat → Option (Nat × Nat)) : ∀ (ps : List (Nat × D)) (vs : List (Nat × Value)) (cs cs' : List C) (us : List Value), PartsRep w M g ps vs → fillD place cs ps = some cs' → C.reps w M g cs us → (∀ x ∈ us, x.oneCell' = true) →
    ∃ us' : List Value, Instr.fill place us.toArray vs = some us'.toArray ∧ C.reps w M g cs' us' ∧ ∀ x ∈ us', x.oneCell' = true
  | [], vs, cs, cs', us, hp, h, hr, h1 => by
    simp only [PartsRep] at hp
    subst hp
    simp only [fillD, Option.some.injEq] at h
    subst h
    exact ⟨us, rfl, hr, h1⟩
  | (i, d) :: r, vs, cs, cs', us, hp, h, hr, h1 => by
    simp only [PartsRep] at hp
    obtain ⟨v, ws, rfl, hd, hp⟩ := hp
    simp only [fillD] at h
    split at h
    · rename_i off sz xs hpl hc
      split at h
      · rename_i hl
        obtain ⟨h2, h3⟩ := rep_cellsOf hc hd
        have hlen := C.reps_length _ _ h2
        have hul := C.reps_length _ _ hr
        have hseg := reps_segC cs xs us _ off hr h2 (by omega)
        have hfold := foldl_set_seg v.cells.toList us off 0 (by omega)
        simp only [Nat.add_zero] at hfold
        obtain ⟨us', h4, h5, h6⟩ := fillD_ok place r ws _ cs' _ hp h hseg (fun x hx => by
          simp only [List.mem_append] at hx
          rcases hx with (hx | hx) | hx
          · exact h1 x (List.mem_of_mem_take hx)
          · exact h3 x hx
          · exact h1 x (List.mem_of_mem_drop hx))
        refine ⟨us', ?_, h5, h6⟩
        have hsz : v.cells.size = sz := by rw [← hl.1, ← hlen]; simp
        simp only [Instr.fill, hpl, hsz, ne_eq, not_true_eq_false, decide_false, Bool.false_or, List.size_toArray]
        rw [if_neg (by simp; omega)]
        have e : Array.foldl (fun (cs : Array Value) (x : Value × Nat) => cs.setIfInBounds (off + x.2) x.1) us.toArray v.cells.zipIdx = (us.take off ++ v.cells.toList ++ us.drop (off + v.cells.toList.length)).toArray := by
          rw [← hfold, ← foldl_arr, ← Array.foldl_toList, Array.toList_zipIdx]
        rw [← h4, ← e]
      · cases h
    · cases h

theorem eff_build (hT : TabOk P T) (hI : Inv w0 X g (look mem) w) (hf : FrRep w (Mut X g (look mem)) g fr a) (t : TypeId) (parts : Array (Nat × Operand)) (hx : o.op = .build t parts) :
    EffOk P o a w0 w X g (look mem) K Q (match T t, descOf T t with
    | some ti, .struct fs => match fillD (fun i => fs[i]?) (ti.zero.map C.v) (parts.toList.map fun (i, x) => (i, ev mem fr x)) with
      | some cs => .ret True (.agg cs)
      | none => .bad
    | some ti, .arr _ e => match T e with
      | some ei => match fillD (fun i => some (i * ei.size, ei.size)) (ti.zero.map C.v) (parts.toList.map fun (i, x) => (i, ev mem fr x)) with
        | some cs => .ret True (.agg cs)
        | none => .bad
      | none => .bad
    | _, _ => .bad) := by
  have hp := partsRep_map (ev mem fr) (rep_ev hI hf) parts.toList
  have hrun : ∀ us : List Value, P.built t (parts.map fun (i, x) => (i, a.eval x)).toList = some us.toArray → (execOp a.eval o).run P w = .ok (.value (.agg us.toArray)) w := by
    intro us hb
    unfold execOp
    simp only [hx, Sem.run_bind, run_build w t _ _ hb, Result.andThen_ok]
    rfl
  split
  · rename_i ti fs ht hd
    obtain ⟨i, z, i1, i2, i3, i4, i5, i6, i7⟩ := tab_info hT ht
    obtain ⟨fa, hu, hfl, hfa⟩ := und_struct hT hd
    split
    · rename_i cs hc
      obtain ⟨us', h4, h5, h6⟩ := fillD_ok _ _ _ _ cs ti.zero hp hc (reps_zero _ i6) i6
      refine EffOk.ret_same fun _ => ⟨.agg us'.toArray, hrun us' ?_, by simp only [D.rep, D.rep0]; exact ⟨us', rfl, h5, h6⟩⟩
      have hpl : fa.toList.mapM (fun f => (P.info? f.type).map fun i => (f.offset, i.size)) = some fs := by
        have key : ∀ (k : Nat) (l : List Field) (q : List (Nat × Nat)), q.length = l.length → (∀ (j : Nat) (p : Nat × Nat), q[j]? = some p → ∃ (f : Field) (i : TypeInfo), l[j]? = some f ∧ f.offset = p.1 ∧ P.info? f.type = some i ∧ i.size = p.2) → l.mapM (fun f => (P.info? f.type).map fun i => (f.offset, i.size)) = some q := by
          intro k l
          induction l with
          | nil => intro q hl _; have : q = [] := List.eq_nil_of_length_eq_zero hl; subst this; rfl
          | cons f r ih =>
            intro q hl hq
            match q, hl with
            | p :: q, hl =>
              obtain ⟨f', i, e1, e2, e3, e4⟩ := hq 0 p (by simp)
              simp only [List.getElem?_cons_zero, Option.some.injEq] at e1
              subst e1
              have := ih q (by simpa using hl) fun j p hj => by simpa using hq (j + 1) p (by simpa using hj)
              simp [List.mapM_cons, e3, this, e2, e4]
        refine key 0 _ fs (by simpa using hfl) fun j p hj => ?_
        obtain ⟨f, i, e1, e2, e3, e4, _⟩ := hfa j p.1 p.2 hj
        exact ⟨f, i, by simpa using e1, e2, e3, e4⟩
      unfold Program.built
      simp only [i1, hu, i4, hpl]
      have hz : z.cells = ti.zero.toArray := by apply Array.ext'; simpa using i5
      rw [hz, Array.toList_map]
      simpa using h4
    · trivial
  · rename_i ti n e ht hd
    obtain ⟨i, z, i1, i2, i3, i4, i5, i6, i7⟩ := tab_info hT ht
    split
    · rename_i ei he
      obtain ⟨ie, ze, j1, j2, _⟩ := tab_info hT he
      split
      · rename_i cs hc
        obtain ⟨us', h4, h5, h6⟩ := fillD_ok _ _ _ _ cs ti.zero hp hc (reps_zero _ i6) i6
        refine EffOk.ret_same fun _ => ⟨.agg us'.toArray, hrun us' ?_, by simp only [D.rep, D.rep0]; exact ⟨us', rfl, h5, h6⟩⟩
        unfold Program.built
        simp only [i1, und_arr hT hd, i4, j1, j2]
        have hz : z.cells = ti.zero.toArray := by apply Array.ext'; simpa using i5
        rw [hz, Array.toList_map]
        exact h4
      · trivial
    · trivial
  · trivial

theorem partRows_ok {M : Nat → Prop} : ∀ (ps : List (Nat × D)) (vs : List (Nat × Value)) (xs : List (List Value)), PartsRep w M g ps vs → partRows ps = some xs → vs.map (fun p => p.2.cells.toList) = xs ∧ vs.map (·.1) = ps.map (·.1) ∧ ∀ x ∈ xs, ∀ y ∈ x, y.oneCell' = true
  | [], vs, xs, hp, h => by
    simp only [PartsRep] at hp
    subst hp
    simp only [partRows, Option.some.injEq] at h
    subst h
    simp
  | (i, d) :: r, vs, xs, hp, h => by
    simp only [PartsRep] at hp
    obtain ⟨v, ws, rfl, hd, hp⟩ := hp
    simp only [partRows] at h
    split at h
    · rename_i cs hc
      split at h
      · rename_i x ys h1 h2
        injection h with h
        subst h
        obtain ⟨h3, h4⟩ := rep_cellsOf hc hd
        obtain ⟨h5, h6⟩ := rep_cvals _ _ _ h1 h3
        obtain ⟨e1, e2, e3⟩ := partRows_ok r ws ys hp h2
        refine ⟨by simp [h5, e1], by simp [e2], ?_⟩
        intro z hz
        rcases List.mem_cons.1 hz with rfl | hz
        · exact h6
        · exact e3 z hz
      · cases h
    · cases h

theorem eff_buildSlice (hT : TabOk P T) (hI : Inv w0 X g (look mem) w) (hf : FrRep w (Mut X g (look mem)) g fr a) (t n : Nat) (parts : Array (Nat × Operand)) (hx : o.op = .buildSlice t n parts) :
    EffOk P o a w0 w X g (look mem) K Q (match descOf T t with
    | .slice e => match T e, partRows (parts.toList.map fun (i, x) => (i, ev mem fr x)) with
      | some ei, some xs => if nums (parts.toList.map fun (i, x) => (i, ev mem fr x)) n && n * ei.size ≤ 1000 && xs.all (fun x => x.length == ei.size) && decide (0 < ei.size) then .row True e ei.size (.lit xs) else .bad
      | _, _ => .bad
    | _ => .bad) := by
  have hp := partsRep_map (ev mem fr) (rep_ev hI hf) parts.toList
  split
  · rename_i e hd
    split
    · rename_i ei xs he hx2
      split
      · rename_i hc
        simp only [Bool.and_eq_true, decide_eq_true_eq] at hc
        obtain ⟨⟨⟨c1, c2⟩, c3⟩, c4⟩ := hc
        intro _ hK
        obtain ⟨e1, e2, e3⟩ := partRows_ok _ _ _ hp hx2
        obtain ⟨i, z, i1, i2, i3, i4, i5, i6, i7⟩ := tab_info hT he
        have hnum : (parts.toList.map fun (i, x) => (i, a.eval x)).map (·.1) = List.range n := by
          rw [e2]; simpa [nums] using c1
        have hrow : rowOk ei.size xs := fun x hx => ⟨by simpa using List.all_eq_true.1 c3 x hx, e3 x hx⟩
        generalize hvs : (parts.toList.map fun (i, x) => (i, a.eval x)) = vs at e1 hnum
        have hvn : vs.length = n := by have := congrArg List.length hnum; simpa using this
        have hxn : xs.length = n := by rw [← e1]; simpa using hvn
        have hvz : vs = (vs.map (·.2)).zipIdx.map fun p => (p.2, p.1) := by
          apply List.ext_getElem?
          intro j
          simp only [List.getElem?_map, List.getElem?_zipIdx]
          cases hj : vs[j]? with
          | none => simp
          | some p =>
            have h1 := congrArg (fun l => l[j]?) hnum
            have hjn : j < n := by rw [← hvn]; exact (List.getElem?_eq_some_iff.1 hj).1
            simp only [List.getElem?_map, hj, Option.map_some, List.getElem?_range hjn, Option.some.injEq] at h1
            simp [← h1]
        have hflat : ((vs.map (·.2)).flatMap fun v => v.cells.toList) = xs.flatten := by
          rw [← e1, List.flatMap_map]; rfl
        have hcs : ∀ v ∈ vs.map (·.2), v.cells.size = ei.size := by
          intro v hv
          obtain ⟨p, hp1, rfl⟩ := List.mem_map.1 hv
          have : p.2.cells.toList ∈ xs := by rw [← e1]; exact List.mem_map.2 ⟨p, hp1, rfl⟩
          simpa using (hrow _ this).1
        have hrun : (execOp a.eval o).run P w = .ok (.value (.slice (some ⟨w.heap.size, 0, none⟩) n n)) (w.alloc (.cells xs.flatten.toArray e)) := by
          by_cases hn : n = 0
          · subst hn
            have hx0 : xs = [] := List.eq_nil_of_length_eq_zero hxn
            have hv0 : vs = [] := List.eq_nil_of_length_eq_zero hvn
            have hpe : parts = #[] := by
              have : parts.toList = [] := by rw [hv0] at hvs; simpa using hvs
              simpa using this
            subst hx0
            unfold execOp
            simp [hx, hpe, Instr.buildSlice, run_underlying (und_slice hT hd), run_sizeOf_ hT he, Instr.fill, newRow]
            have e5 : ∀ f : Nat → Value, Array.map f (Array.range 0) = #[] := fun f => by apply Array.ext' ; simp
            rw [e5]
          · have := run_buildSlice (P := P) w t e n (parts.map fun (i, x) => (i, a.eval x)) xs.flatten.toArray i z (und_slice hT hd) i1 i4 (by rw [i2]; have : n * ei.size ≤ 1000 := c2; omega) (by rw [i2]; intro h; rcases Nat.mul_eq_zero.1 h with h | h <;> omega) (by
              rw [Array.toList_map]
              have e4 : List.map (fun (x : Nat × Operand) => (x.1, a.eval x.2)) parts.toList = vs := hvs
              have hw := Great.fill_whole (s := ei.size) c4 (vs.map (·.2)) ((Array.range (n * i.size)).map (z.cells[· % z.cells.size]!)) hcs (by rw [i2]; simp [hvn])
              rw [e4, hvz, i2]
              rw [hflat] at hw
              simpa [i2] using hw)
            unfold execOp
            simp only [hx, Sem.run_bind, this, Result.andThen_ok]
            rfl
        refine wp_value hrun (hK _ _ ((Below.refl _ _).alloc (Nat.le_refl _) _) ?_ hrow)
        have hfl : xs.flatten.length = n * ei.size := by rw [flat_len ei.size xs fun x hx => (hrow x hx).1, hxn]
        have := World.ownsRow_lit (base := w.heap.size) (e := e) (size := ei.size) w xs.flatten.toArray n (Nat.le_refl _) (by simp only [maxLen]; have : n * ei.size ≤ 1000 := c2; have : n ≤ n * ei.size := Nat.le_mul_of_pos_right n c4; omega) (by simpa using hfl)
        simpa [hxn, Rx.list] using this
      · trivial
    · trivial
  · trivial

/-- **Every operation does what is said of it.** -/
theorem gop_ok (hT : TabOk P T) (hE : EnvOk P env) (hI : Inv w0 X g (look mem) w) (hf : FrRep w (Mut X g (look mem)) g fr a) : EffOk P o a w0 w X g (look mem) K Q (gop Ar.std T env mem fr o) := by
  cases hx : o.op with
  | move x => simp only [gop, hx]; exact eff_move hI hf x (by unfold execOp; simp only [hx])
  | assign x => simp only [gop, hx]; exact eff_move hI hf x (by unfold execOp; simp only [hx])
  | pick c x y => simp only [gop, hx]; exact eff_pick hI hf c x y hx
  | alloc t => simp only [gop, hx]; exact eff_alloc hT t hx
  | box t x => simp only [gop, hx]; exact eff_box hI hf t x hx
  | build t parts => simp only [gop, hx]; exact eff_build hT hI hf t parts hx
  | buildSlice t n parts => simp only [gop, hx]; exact eff_buildSlice hT hI hf t n parts hx
  | load t x => simp only [gop, hx]; exact eff_load hT hI hf t x hx
  | store t q x => simp only [gop, hx]; exact eff_store hT hI hf t q x hx
  | nilCheck x => simp only [gop, hx]; exact eff_nilCheck hI hf x hx
  | binOp op t x y t' => simp only [gop, hx]; exact eff_binOp hT hI hf op t t' x y hx
  | unOp op t x =>
    cases op with
    | not => simp only [gop, hx]; exact eff_not hI hf t x hx
    | neg => simp only [gop, hx]; exact eff_neg hI hf t x hx
    | xor => simp only [gop, hx]; trivial
    | plus => simp only [gop, hx]; trivial
  | fieldAddr t x f => simp only [gop, hx]; exact eff_fieldAddr hT hI hf t x f hx
  | indexAddr t x ix => simp only [gop, hx]; exact eff_indexAddr hT hI hf t x ix hx
  | index t x ix => simp only [gop, hx]; exact eff_index hT hI hf t x ix hx
  | slice t x lo hi mx =>
    cases mx with
    | none => simp only [gop, hx]; exact eff_slice hT hI hf t x lo hi hx
    | some m => simp only [gop, hx]; trivial
  | extract x i => simp only [gop, hx]; exact eff_extract hI hf x i hx
  | makeFunc fn first captured =>
    cases fn with
    | func f => simp only [gop, hx]; exact eff_makeFunc hI hf f first captured hx
    | _ => simp only [gop, hx]; trivial
  | call c =>
    obtain ⟨callee, args, tys⟩ := c
    cases callee with
    | builtin b => simp only [gop, hx]; exact eff_builtin hT hI hf ⟨.builtin b, args, tys⟩ b hx rfl
    | value fo => simp only [gop, hx]; exact eff_call hE hI hf ⟨.value fo, args, tys⟩ fo hx rfl
    | invoke r m => simp only [gop, hx]; trivial
  | _ => simp only [gop, hx]; trivial
end

end Go.Proofs.Ytoocihhnlhehlaa.Den
