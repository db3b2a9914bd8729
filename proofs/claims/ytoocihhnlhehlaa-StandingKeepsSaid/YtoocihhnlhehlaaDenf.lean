/- The end of a function's run; functions that are read in place. (Part 6) -/
import Derived.Test.YtoocihhnlhehlaaDene
namespace Go.Proofs.Ytoocihhnlhehlaa.Den
open Go Go.RowKit

/-- The end of a function's run, to be reckoned out. -/
structure Le (d d' : D) : Prop where
  le : DLe d d'
def Fin (T : Tab) (rs : List ResultVar) (d : D) (e : Exit) (s : AS) : Prop :=
  match e with
  | .normal | .ret => match outs T s rs with
    | some ds => Le (single ds) d
    | none => False
  | _ => False
theorem fin_ends {T : Tab} {rs : List ResultVar} {d : D} {e : Exit} {s : AS} (h : Fin T rs d e s) : Ends T rs d e s := by
  unfold Fin at h
  have go : ∀ h : (match outs T s rs with | some ds => Le (single ds) d | none => False), ∃ ds, outs T s rs = some ds ∧ DLe (single ds) d := by
    intro h
    cases ho : outs T s rs with
    | none => rw [ho] at h; exact h.elim
    | some ds => rw [ho] at h; exact ⟨ds, rfl, h.le⟩
  cases e with
  | normal => exact ⟨.inl rfl, go h⟩
  | ret => exact ⟨.inr rfl, go h⟩
  | _ => exact h.elim


/-! ### A function that is read in place -/
def outI (s : AS) : List ResultVar → Option D
  | [] => some (.tup [])
  | [.tmp t] => some (s.fr.getD t (.c .any))
  | _ => none
def FinI (rs : List ResultVar) (m : Nat) (K : D → AS → Prop) (e : Exit) (s : AS) : Prop :=
  match e with
  | .normal | .ret => match outI s rs with
    | some d => m ≤ s.ks.length ∧ K d ⟨s.ks.take m, s.mem, s.nxt, s.ks.drop m⟩
    | none => False
  | _ => False
def inlE (A : Ar) (T : Tab) (env : Env) (c : Code) (rs : List ResultVar) (n : Nat) (args : List D) (s : AS) (K : D → AS → Prop) : Prop :=
  awp A T env c ⟨args ++ List.replicate (n - args.length) (.c .any), s.mem, s.nxt, s.fr ++ s.ks⟩ (FinI rs s.fr.length K)

theorem repsT_init {w : World} {M : Nat → Prop} {g : Gh} : ∀ (args : List D) (us : List Value), D.repsT w M g args us → us.length = args.length ∧ ∀ t, D.rep w M g (args.getD t (.c .any)) (us.getD t undef)
  | [], _, h => by simp only [D.repsT] at h; simp [h, D.rep, D.rep0, C.rep]
  | d :: r, _, h => by
    simp only [D.repsT] at h
    obtain ⟨x, xs, rfl, h1, h2⟩ := h
    obtain ⟨h3, h4⟩ := repsT_init r xs h2
    refine ⟨by simp [h3], fun t => ?_⟩
    cases t with
    | zero => exact h1
    | succ t => simpa using h4 t

theorem Inl_of {P : Program} {T : Tab} {env : Env} (hm : P.follows .mixedOrders = true) (hT : TabOk P T) (hE : EnvOK P env)
    {f : Nat} {fn : Func} {c : Code} {rs : List ResultVar} {n : Nat} (h1 : P.funcs[f]? = some fn) (h2 : (fn.name == "runtime.NumGoroutine") = false) (h3 : fn.body = some c) (h4 : fn.results.toList = rs) (h5 : fn.ntmps = n) (h6 : drawsOkX env.hard c = true) :
    InlOk P f (inlE Ar.std T env c rs n) := by
  refine ⟨⟨fn, h1, h2, by rw [h3]; rfl⟩, fun args s K us w0 w X a b g hI hf hsz hn hb hargs h => ?_⟩
  obtain ⟨hul, hur⟩ := repsT_init args us hargs
  refine calls_of_wp h1 h3 (awp_ok (w0 := w0) (X := X) (b₀ := { tmps := a.tmps ++ b.tmps, defers := [] }) hm hT hE c _ _ _ _ w h6 h ?_ ?_)
  · refine ⟨g, hI, ?_, ?_, rfl, hn, ?_⟩
    · intro t
      have e1 : (args ++ List.replicate (n - args.length) (D.c .any)).getD t (.c .any) = args.getD t (.c .any) := by
        simp only [List.getD, List.getElem?_append]
        split
        · rfl
        · rename_i hge
          rw [List.getElem?_replicate, List.getElem?_eq_none (by omega)]
          split <;> rfl
      have e2 : (us.toArray ++ Array.replicate (fn.ntmps - us.toArray.size) undef).getD t undef = us.getD t undef := by
        simp only [Array.getD_eq_getD_getElem?, List.getD, Array.getElem?_append, List.size_toArray]
        split
        · simp
        · rename_i hge
          rw [Array.getElem?_replicate, List.getElem?_eq_none (by omega)]
          split <;> rfl
      rw [e1, e2]
      exact hur t
    · simp only [Array.size_append, List.size_toArray, Array.size_replicate, List.length_append, List.length_replicate, hul, h5]
    · intro t
      by_cases ht : t < s.fr.length
      · have e1 : (s.fr ++ s.ks).getD t (.c .any) = s.fr.getD t (.c .any) := by simp only [List.getD, List.getElem?_append, if_pos ht]
        have e2 : (a.tmps ++ b.tmps).getD t undef = a.tmps.getD t undef := by
          simp only [Array.getD_eq_getD_getElem?, Array.getElem?_append]
          rw [if_pos (by omega)]
        show D.rep _ _ _ _ ((a.tmps ++ b.tmps).getD t undef)
        rw [e1, e2]; exact hf t
      · have e1 : (s.fr ++ s.ks).getD t (.c .any) = s.ks.getD (t - s.fr.length) (.c .any) := by simp only [List.getD, List.getElem?_append, if_neg ht]
        have e2 : (a.tmps ++ b.tmps).getD t undef = b.tmps.getD (t - s.fr.length) undef := by
          simp only [Array.getD_eq_getD_getElem?, Array.getElem?_append]
          rw [if_neg (by omega), hsz]
        show D.rep _ _ _ _ ((a.tmps ++ b.tmps).getD t undef)
        rw [e1, e2]; exact hb _
  · rintro e s' a' w' hs hq
    have he : (e = .normal ∨ e = .ret) ∧ ∃ d, outI s' rs = some d ∧ s.fr.length ≤ s'.ks.length ∧ K d ⟨s'.ks.take s.fr.length, s'.mem, s'.nxt, s'.ks.drop s.fr.length⟩ := by
      unfold FinI at hq
      cases ho : outI s' rs with
      | none => rw [ho] at hq; cases e <;> exact hq.elim
      | some d =>
        rw [ho] at hq
        cases e with
        | normal => exact ⟨.inl rfl, d, rfl, hq⟩
        | ret => exact ⟨.inr rfl, d, rfl, hq⟩
        | _ => exact hq.elim
    obtain ⟨he, d, hd, hlen, hk⟩ := he
    obtain ⟨g', hI', hf', hsz', hdf, hn', hks⟩ := hs
    have hfin : a'.defers = [] ∧ ∃ v, (results fn a'.tmps).run P w' = .ok v w' ∧ (fun (e : Ending) w' => ∃ u d s' g', e = .returned u ∧ K d s' ∧ Inv w0 X g' (look s'.mem) w' ∧ FrRep w' (Mut X g' (look s'.mem)) g' s'.fr a ∧ a.tmps.size = s'.fr.length ∧ (∀ i, s'.nxt ≤ i → ¬ g'.dom i) ∧ FrRep w' (Mut X g' (look s'.mem)) g' s'.ks b ∧ D.rep w' (Mut X g' (look s'.mem)) g' d u) (.returned v) w' := by
      have hv : ∃ v, (results fn a'.tmps).run P w' = .ok v w' ∧ D.rep w' (Mut X g' (look s'.mem)) g' d v := by
        have hl : (fn.results.mapM (rvRun a'.tmps)) = (List.toArray <$> rs.mapM (rvRun a'.tmps)) := by rw [Array.mapM_eq_mapM_toList, h4]
        rw [results_eq, hl]
        match rs, hd with
        | [], hd =>
          simp only [outI, Option.some.injEq] at hd
          subst hd
          refine ⟨.tuple #[], by simp, ?_⟩
          simp [D.rep, D.rep0, D.reps]
        | [.tmp t], hd =>
          simp only [outI, Option.some.injEq] at hd
          subst hd
          exact ⟨a'.tmps.getD t undef, by simp [rvRun], hf' t⟩
      obtain ⟨v, hv1, hv2⟩ := hv
      refine ⟨hdf, v, hv1, v, d, _, g', rfl, hk, hI', ?_, ?_, hn', ?_, hv2⟩
      · intro t
        by_cases ht : t < s.fr.length
        · have := hks t
          have e1 : (s'.ks.take s.fr.length).getD t (.c .any) = s'.ks.getD t (.c .any) := by simp only [List.getD, List.getElem?_take, if_pos ht]
          have e2 : (a.tmps ++ b.tmps).getD t undef = a.tmps.getD t undef := by
            simp only [Array.getD_eq_getD_getElem?, Array.getElem?_append]
            rw [if_pos (by omega)]
          rw [e1, ← e2]; exact this
        · have e1 : (s'.ks.take s.fr.length).getD t (.c .any) = .c .any := by simp only [List.getD, List.getElem?_take, if_neg ht, Option.getD_none]
          rw [e1]; simp [D.rep, D.rep0, C.rep]
      · simp only [List.length_take]; omega
      · intro t
        have := hks (s.fr.length + t)
        have e1 : (s'.ks.drop s.fr.length).getD t (.c .any) = s'.ks.getD (s.fr.length + t) (.c .any) := by simp only [List.getD, List.getElem?_drop]
        have e2 : (a.tmps ++ b.tmps).getD (s.fr.length + t) undef = b.tmps.getD t undef := by
          simp only [Array.getD_eq_getD_getElem?, Array.getElem?_append]
          rw [if_neg (by omega), hsz]
          simp
        rw [e1, ← e2]; exact this
    rcases he with rfl | rfl <;> exact hfin
end Go.Proofs.Ytoocihhnlhehlaa.Den
