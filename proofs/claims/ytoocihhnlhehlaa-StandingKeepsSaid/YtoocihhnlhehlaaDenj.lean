/- Loops by what their slots hold; ends. (Part 10) -/
import Derived.Test.YtoocihhnlhehlaaDeni
import Derived.IntWalk
namespace Go.Proofs.Ytoocihhnlhehlaa.Den
open Go Go.RowKit

def updFr : List D → List (Nat × D) → List D
  | fr, [] => fr
  | fr, (i, d) :: r => updFr (fr.set i d) r

/-- What a loop's round must do. -/
def Round (A : Ar) (T : Tab) (env : Env) (c : Code) (Q : Exit → AS → Prop) (keep : List Nat) (N : Nat) (fr : List D) (ks : List D) {ι : Type} (inv : ι → Prop) (meas : ι → Nat) (slots : ι → List (Nat × D)) (mem : ι → List (Nat × Blk)) (i : ι) : Prop :=
  awp A T env c ⟨updFr fr (slots i), mem i, N, ks⟩ (fun e s'' => match e with
    | .normal => okF (forget keep N s'') = true ∧ ∃ m, m < meas i ∧ ∃ s3, Weak (forget keep N s'') s3 ∧ ∃ j, inv j ∧ meas j = m ∧ s3 = ⟨updFr fr (slots j), mem j, N, ks⟩
    | e => Q e s'')
theorem awp_loop {A : Ar} {T : Tab} {env : Env} {c : Code} {s : AS} {Q : Exit → AS → Prop} (keep : List Nat) {ι : Type} (inv : ι → Prop) (meas : ι → Nat) (slots : ι → List (Nat × D)) (mem : ι → List (Nat × Blk)) (i0 : ι)
    (h0 : inv i0) (hok : okF (forget keep s.nxt s) = true) (hs : Sim (forget keep s.nxt s) ⟨updFr (keepFr keep 0 s.fr) (slots i0), mem i0, s.nxt, s.ks⟩)
    (round : ∀ i, inv i → Round A T env c Q keep s.nxt (keepFr keep 0 s.fr) s.ks inv meas slots mem i) : awp A T env (.loop c) s Q := by
  refine ⟨keep, fun n s' => ∃ i, inv i ∧ meas i = n ∧ s' = ⟨updFr (keepFr keep 0 s.fr) (slots i), mem i, s.nxt, s.ks⟩, meas i0, hok, ⟨_, hs.weak, i0, h0, rfl, rfl⟩, ?_⟩
  rintro n s' ⟨i, hi, rfl, rfl⟩
  exact round i hi

/-- The slots that code writes. -/
def wrO : List Oper → List Nat
  | [] => []
  | o :: r => match o.dst with
    | some t => t :: wrO r
    | none => wrO r
def wrC : Code → List Nat
  | .region _ ops _ => wrO ops.toList
  | .seq x y => wrC x ++ wrC y
  | .cond _ x y => wrC x ++ wrC y
  | .block _ c => wrC c
  | .loop c => wrC c
  | _ => []
def keepOf (c : Code) (n : Nat) (sl : List (Nat × D)) : List Nat :=
  (List.range n).filter fun t => sl.any (fun p => p.1 == t) || !(wrC c).contains t
theorem awp_for {A : Ar} {T : Tab} {env : Env} {c : Code} {s : AS} {Q : Exit → AS → Prop} {ι : Type} (inv : ι → Prop) (meas : ι → Nat) (slots : ι → List (Nat × D)) (mem : ι → List (Nat × Blk)) (i0 : ι)
    (h0 : inv i0) (hok : okF (forget (keepOf c s.fr.length (slots i0)) s.nxt s) = true)
    (hs : Sim (forget (keepOf c s.fr.length (slots i0)) s.nxt s) ⟨updFr (keepFr (keepOf c s.fr.length (slots i0)) 0 s.fr) (slots i0), mem i0, s.nxt, s.ks⟩)
    (round : ∀ i, inv i → Round A T env c Q (keepOf c s.fr.length (slots i0)) s.nxt (keepFr (keepOf c s.fr.length (slots i0)) 0 s.fr) s.ks inv meas slots mem i) : awp A T env (.loop c) s Q :=
  awp_loop _ inv meas slots mem i0 h0 hok hs round

theorem awp_fors {A : Ar} {T : Tab} {env : Env} {c : Code} {s : AS} {Q : Exit → AS → Prop} {ι : Type} (inv : ι → Prop) (meas : ι → Nat) (slots : ι → List (Nat × D)) (i0 : ι)
    (h0 : inv i0) (hok : okF (forget (keepOf c s.fr.length (slots i0)) s.nxt s) = true)
    (hs : Sim (forget (keepOf c s.fr.length (slots i0)) s.nxt s) ⟨updFr (keepFr (keepOf c s.fr.length (slots i0)) 0 s.fr) (slots i0), s.mem, s.nxt, s.ks⟩)
    (round : ∀ i, inv i → Round A T env c Q (keepOf c s.fr.length (slots i0)) s.nxt (keepFr (keepOf c s.fr.length (slots i0)) 0 s.fr) s.ks inv meas slots (fun _ => s.mem) i) : awp A T env (.loop c) s Q :=
  awp_loop _ inv meas slots (fun _ => s.mem) i0 h0 hok hs round

/-! ### Contracts -/
def envR (R : Nat → List D → D → Prop) : Env := { calls := fun _ _ => none, does := R }
theorem envR_ok (P : Program) : EnvOK P (envR (Does P)) where
  ok := { calls := fun f args p d h => (by cases h), eats := fun f h h' => (by cases h'), does := fun f args d h => h }
  inl := fun f I h => by cases h
/-- A function's contract: its answer's form, and what fills it. -/
def Con (P : Program) (f : Nat) (args : List D) {α : Type} (mk : α → D) (v : α) : Prop := Does P f args (mk v)
theorem Con_of {P : Program} {T : Tab} (hm : P.follows .mixedOrders = true) (hT : TabOk P T)
    {f : Nat} {fn : Func} {c : Code} {rs : List ResultVar} {n : Nat} (h1 : P.funcs[f]? = some fn) (h2 : (fn.name == "runtime.NumGoroutine") = false) (h3 : fn.body = some c) (h4 : fn.results.toList = rs) (h5 : fn.ntmps = n) (h6 : drawsOk c = true)
    {args : List D} {α : Type} {mk : α → D} {v : α} (h : ∀ A R v', A = Ar.std → R = Does P → v' = v → awp A T (envR R) c ⟨args ++ List.replicate (n - args.length) (.c .any), [], 0, []⟩ (Fin T rs (mk v'))) : Con P f args mk v :=
  Does_of hm hT (envR_ok P) h1 h2 h3 h4 h5 h6 (fun _ _ h => fin_ends h) (h _ _ _ rfl rfl rfl)
theorem call_c {P : Program} {R : Nat → List D → D → Prop} (hR : R = Does P) {f : Nat} {args : List D} {α : Type} {mk : α → D} {v : α} {K : D → Prop} (h : Con P f args mk v) (k : ∀ x, x = v → K (mk x)) : ∃ d, R f args d ∧ K d :=
  ⟨_, by rw [hR]; exact h, k v rfl⟩

/-- .. where what fills it lies open. -/
theorem call_d {P : Program} {R : Nat → List D → D → Prop} (hR : R = Does P) {f : Nat} {args : List D} {α : Type} {mk : α → D} {v : α} {K : D → Prop} (h : Con P f args mk v) (k : K (mk v)) : ∃ d, R f args d ∧ K d :=
  ⟨_, by rw [hR]; exact h, k⟩

/-- A row that came in may be told in other words. -/
theorem Con.sl {P : Program} {f sz n : Nat} {get get' : Nat → List Value} {rest : List D} {α : Type} {mk : α → D} {v : α} (h : Con P f (.c (.sl sz n get') :: rest) mk v) (hg : ∀ j, j < n → get j = get' j) : Con P f (.c (.sl sz n get) :: rest) mk v :=
  ⟨h.1, fun w X us hX hus => h.2 w X us hX (by
    simp only [D.reps] at hus ⊢
    obtain ⟨x, xs, hu, h1, h2⟩ := hus
    refine ⟨x, xs, hu, ?_, h2⟩
    simp only [D.rep0] at h1 ⊢
    exact sl_congr rfl hg h1)⟩
abbrev ci (n : Int) : C := .v (.int .i64 n)
abbrev di (n : Int) : D := .c (.v (.int .i64 n))
abbrev cb (b : Bool) : C := .b b
abbrev db (b : Bool) : D := .c (.b b)
abbrev vi (n : Int) : Value := .int .i64 n
abbrev ds (s : ByteArray) : D := .c (.v (.string s))
abbrev w64 (n : Int) : Int := IntKind.i64.wrap n

/-! ### Ends -/
theorem Le.of_eq {d d' : D} (h : d = d') : Le d d' := ⟨h ▸ DLe.rfl_ d⟩
theorem Le.vb {b t : Bool} (h : t = b) : Le (.c (.v (.bool b))) (.c (.b t)) := ⟨fun w w' X u _ h' => by
  subst h
  simp only [D.gives, D.res', D.rep0, C.rep] at h' ⊢
  exact h'.1⟩
theorem Le.bb {b t : Bool} (h : t = b) : Le (.c (.b b)) (.c (.b t)) := .of_eq (by rw [h])
theorem Le.vi {k : IntKind} {b t : Int} (h : t = b) : Le (.c (.v (.int k b))) (.c (.v (.int k t))) := .of_eq (by rw [h])
theorem Le.row {e sz : Nat} {xs ys : Rx} (h : ys.list = xs.list) : Le (.rowv e sz xs) (.rowv e sz ys) := ⟨fun w w' X u _ h' => by
  simp only [D.gives, D.res'] at h' ⊢
  rw [h]; exact h'⟩
theorem Le.nil {e sz : Nat} {ys : Rx} (h : ys.list = []) : Le (.c (.v (.slice none 0 0))) (.rowv e sz ys) := ⟨fun w w' X u _ h' => by
  simp only [D.gives, D.res', D.rep0, C.rep] at h' ⊢
  rw [h, h'.1]
  exact ⟨⟨by simp, .inl ⟨rfl, rfl⟩⟩, fun x hx => by simp at hx⟩⟩
theorem Le.sl {sz n n' : Nat} {get get' : Nat → List Value} (hn : n = n') (h : ∀ j, j < n → get j = get' j) : Le (.c (.sl sz n get)) (.c (.sl sz n' get')) := ⟨fun w w' X u _ h' => by
  simp only [D.gives, D.res', D.rep0] at h' ⊢
  exact sl_congr hn h h'⟩
theorem Le.row_sl {e sz n' : Nat} {xs : Rx} {get' : Nat → List Value} (hn : xs.len = n') (h : ∀ j, j < xs.len → xs.get j = get' j) : Le (.rowv e sz xs) (.c (.sl sz n' get')) := ⟨fun w w' X u hX h' => by
  simp only [D.gives, D.res', D.rep0] at h' ⊢
  exact sl_congr hn h (row_slR h'.1 h'.2 hX)⟩
theorem loop_nx {ι : Type} {inv : ι → Prop} {meas : ι → Nat} {M : Nat} {s : AS} {f : ι → AS} (j : ι) (h1 : inv j) (h2 : meas j < M) (h3 : s = f j) :
    ∃ m, m < M ∧ ∃ s3, Weak s s3 ∧ ∃ j, inv j ∧ meas j = m ∧ s3 = f j := ⟨_, h2, _, Weak.refl _, j, h1, rfl, h3⟩
theorem loop_nxS {ι : Type} {inv : ι → Prop} {meas : ι → Nat} {M : Nat} {s : AS} {f : ι → AS} (j : ι) (h1 : inv j) (h2 : meas j < M) (h3 : Sim s (f j)) :
    ∃ m, m < M ∧ ∃ s3, Weak s s3 ∧ ∃ j, inv j ∧ meas j = m ∧ s3 = f j := ⟨_, h2, _, h3.weak, j, h1, rfl, rfl⟩
theorem sim_eq {s s' : AS} (h : s = s') : Sim s s' := h ▸ Sim.refl s
theorem wrap_id {n : Int} (h1 : -9223372036854775808 ≤ n) (h2 : n ≤ 9223372036854775807) : IntKind.i64.wrap n = n := IntWalk.i64_in n ⟨h1, h2⟩
end Go.Proofs.Ytoocihhnlhehlaa.Den
