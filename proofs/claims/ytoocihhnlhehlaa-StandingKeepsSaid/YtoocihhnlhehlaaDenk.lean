/- Calls that only look at a row of the caller's own; functions read in place. (Part 11) -/
import Derived.Test.YtoocihhnlhehlaaDenj
namespace Go.Proofs.Ytoocihhnlhehlaa.Den
open Go Go.RowKit

def view (A : Ar) (mem : List (Nat × Blk)) : D → D
  | .c (.own k) => match look mem k with
    | some (.row _ sz xs) => .c (.sl sz (xs.lenA A) (xs.getA A))
    | _ => .c (.own k)
  | d => d
def views (A : Ar) (mem : List (Nat × Blk)) : List D → List D
  | [] => []
  | d :: r => view A mem d :: views A mem r
def scal : D → (D → Prop) → Prop
  | .c (.v x), K => K (.c (.v x))
  | .c (.b t), K => K (.c (.b t))
  | _, _ => False
def borrowE (A : Ar) (R : Nat → List D → D → Prop) (f : Nat) (args : List D) (s : AS) (K : D → AS → Prop) : Prop :=
  (views A s.mem args).all D.pure = true ∧ ∃ d, R f (views A s.mem args) d ∧ scal d (fun d => K d s)

theorem view_reps {w w0 : World} {X : Nat → Prop} {g : Gh} {mem : List (Nat × Blk)} (hI : Inv w0 X g (look mem) w) : ∀ (ds : List D) (us : List Value), (views Ar.std mem ds).all D.pure = true → D.repsT w (Mut X g (look mem)) g ds us → D.reps w (fun _ => False) Gh.none (views Ar.std mem ds) us
  | [], _, _, h => by simp only [D.repsT] at h; simp [h, views, D.reps]
  | d :: r, _, hp, h => by
    simp only [views, List.all_cons, Bool.and_eq_true] at hp
    simp only [D.repsT] at h
    obtain ⟨x, xs, rfl, h1, h2⟩ := h
    simp only [views, D.reps]
    refine ⟨x, xs, rfl, ?_, view_reps hI r xs hp.2 h2⟩
    have weak : ∀ d u, d.pure = true → D.rep w (Mut X g (look mem)) g d u → D.rep0 w (fun _ => False) Gh.none d u := fun d u hp h =>
      D.rep0_keep (g := Gh.none) (g' := Gh.none) (M := Mut X g (look mem)) (w := w) ⟨Nat.le_refl _, fun _ _ _ => rfl, fun b _ hb => hb.elim, fun _ h => h.elim⟩ _ _ (D.rep_pure (g' := Gh.none) d u hp h)
    have hp1 := hp.1
    unfold view at hp1 ⊢
    split at hp1
    · rename_i k
      split at hp1
      · rename_i e sz rows hk
        obtain ⟨_, hr, hro⟩ := hI.row k e sz rows hk
        rw [h1.2]
        simp only [Rx.lenA_std, Rx.getA_std, D.rep0]
        exact row_slR' hr hro fun _ _ h => h
      · simp [D.pure, C.pure] at hp1
    · exact weak _ _ hp1 h1

theorem Inl_borrow {P : Program} {f : Nat} (hf : ∃ fn : Func, P.funcs[f]? = some fn ∧ (fn.name == "runtime.NumGoroutine") = false ∧ fn.body.isNone = false) : InlOk P f (borrowE Ar.std (Does P) f) := by
  refine ⟨hf, fun args s K us w0 w X a b g hI hfr hsz hn hb hargs h => ?_⟩
  obtain ⟨hp, d, hd, hk⟩ := h
  have hr := view_reps hI args us hp hargs
  refine (hd.2 w (fun _ => False) us (fun _ h => h.elim) hr).mono ?_
  rintro e w' ⟨u, rfl, hw, hu⟩
  have hI' := hI.grow hw
  have hf' := frRep_keep hfr (keeps_grow (X := X) (g := g) (lk := look s.mem) hw) fun k _ hk => ⟨hk, rfl⟩
  have hb' := frRep_keep hb (keeps_grow (X := X) (g := g) (lk := look s.mem) hw) fun k _ hk => ⟨hk, rfl⟩
  unfold scal at hk
  split at hk
  · rename_i K' x
    refine ⟨u, .c (.v x), s, g, rfl, hk, hI', hf', hsz, hn, hb', ?_⟩
    simp only [D.gives, D.res', D.rep0, C.rep] at hu
    simp only [D.rep, D.rep0, C.rep]; exact hu
  · rename_i K' t
    refine ⟨u, .c (.b t), s, g, rfl, hk, hI', hf', hsz, hn, hb', ?_⟩
    simp only [D.gives, D.res', D.rep0, C.rep] at hu
    simp only [D.rep, D.rep0, C.rep]; exact hu
  · exact hk.elim

/-! ### An environment with functions that are read in place -/
def bodyOf (fn : Func) : Code := match fn.body with
  | some c => c
  | none => .skip
def envI (R : Nat → List D → D → Prop) (inl : Nat → Option (List D → AS → (D → AS → Prop) → Prop)) (raw : Bool) (hard : List Nat := []) : Env := { calls := fun _ _ => none, does := R, inl := inl, raw := raw, hard := hard }
theorem envI_ok {P : Program} {inl : Nat → Option (List D → AS → (D → AS → Prop) → Prop)} {raw : Bool} {hard : List Nat} (h : ∀ f I, inl f = some I → InlOk P f I) : EnvOK P (envI (Does P) inl raw hard) where
  ok := { calls := fun f args p d h => (by cases h), eats := fun f h h' => (by cases h'), does := fun f args d h => h }
  inl := h
theorem Con_in {P : Program} {T : Tab} (hm : P.follows .mixedOrders = true) (hT : TabOk P T) {inl : Ar → (Nat → List D → D → Prop) → Nat → Option (List D → AS → (D → AS → Prop) → Prop)} (hi : ∀ f I, inl Ar.std (Does P) f = some I → InlOk P f I)
    {f : Nat} {fn : Func} {c : Code} {rs : List ResultVar} {n : Nat} (h1 : P.funcs[f]? = some fn) (h2 : (fn.name == "runtime.NumGoroutine") = false) (h3 : fn.body = some c) (h4 : fn.results.toList = rs) (h5 : fn.ntmps = n) (h6 : drawsOk c = true)
    {args : List D} {α : Type} {mk : α → D} {v : α} (h : ∀ A R v', A = Ar.std → R = Does P → v' = v → awp A T (envI R (inl A R) false) c ⟨args ++ List.replicate (n - args.length) (.c .any), [], 0, []⟩ (Fin T rs (mk v'))) : Con P f args mk v :=
  Does_of hm hT (envI_ok hi) h1 h2 h3 h4 h5 h6 (fun _ _ h => fin_ends h) (h _ _ _ rfl rfl rfl)
/-- .. with regions that are read in every order, a cut behind each. -/
theorem Con_hd {P : Program} {T : Tab} (hard : List Nat) (hm : P.follows .mixedOrders = true) (hT : TabOk P T) {inl : Ar → (Nat → List D → D → Prop) → Nat → Option (List D → AS → (D → AS → Prop) → Prop)} (hi : ∀ f I, inl Ar.std (Does P) f = some I → InlOk P f I)
    {f : Nat} {fn : Func} {c : Code} {rs : List ResultVar} {n : Nat} (h1 : P.funcs[f]? = some fn) (h2 : (fn.name == "runtime.NumGoroutine") = false) (h3 : fn.body = some c) (h4 : fn.results.toList = rs) (h5 : fn.ntmps = n) (h6 : drawsOkX hard c = true)
    {args : List D} {α : Type} {mk : α → D} {v : α} (h : ∀ A R v', A = Ar.std → R = Does P → v' = v → awp A T (envI R (inl A R) false hard) c ⟨args ++ List.replicate (n - args.length) (.c .any), [], 0, []⟩ (Fin T rs (mk v'))) : Con P f args mk v :=
  Does_of hm hT (envI_ok hi) h1 h2 h3 h4 h5 h6 (fun _ _ h => fin_ends h) (h _ _ _ rfl rfl rfl)

/-- slices.DeleteFunc (d, with its search ix) is read in place. -/
def inlDel (T : Tab) (d ix : Nat) (fn : Func) (A : Ar) (R : Nat → List D → D → Prop) : Nat → Option (List D → AS → (D → AS → Prop) → Prop) := fun f =>
  if f = d then some (inlE A T (envI R (fun f => if f = ix then some (borrowE A R ix) else none) true) (bodyOf fn) fn.results.toList fn.ntmps) else none
theorem inlDel_ok {P : Program} {T : Tab} (hm : P.follows .mixedOrders = true) (hT : TabOk P T) {d ix : Nat} {fn : Func} (h1 : P.funcs[d]? = some fn) (h2 : (fn.name == "runtime.NumGoroutine") = false) (h3 : fn.body = some (bodyOf fn)) (h6 : drawsOk (bodyOf fn) = true)
    (hf : ∃ fn : Func, P.funcs[ix]? = some fn ∧ (fn.name == "runtime.NumGoroutine") = false ∧ fn.body.isNone = false) : ∀ f I, inlDel T d ix fn Ar.std (Does P) f = some I → InlOk P f I := by
  intro f I h
  unfold inlDel at h
  split at h
  · rename_i e
    injection h with h
    subst e h
    refine Inl_of hm hT (envI_ok ?_) h1 h2 h3 rfl rfl h6
    intro f I h
    split at h
    · rename_i e
      injection h with h
      subst e h
      exact Inl_borrow hf
    · cases h
  · cases h
end Go.Proofs.Ytoocihhnlhehlaa.Den
