/- A row that is only read from now on; loops behind such a turn. -/
import Derived.Test.YtoocihhnlhehlaaDenl
namespace Go.Proofs.Ytoocihhnlhehlaa.Den
open Go Go.RowKit
set_option linter.unusedVariables false
theorem Weak.slot {s : AS} (t : Nat) (d : D) (m : List (Nat × Blk))
    (h : ∀ (w0 : World) (X : Nat → Prop) (g : Gh) (w : World) (u : Value), Inv w0 X g (look s.mem) w → Inv w0 X g (look m) w ∧ Keeps w w (Mut X g (look s.mem)) (Mut X g (look m)) g g ∧ (D.rep w (Mut X g (look m)) g (s.fr.getD t (.c .any)) u → D.rep w (Mut X g (look m)) g d u)) :
    Weak s { s with fr := s.fr.set t d, mem := m } := by
  rintro w0 X b a w ⟨g, hI, hf, hsz, hd, hn, hks⟩
  obtain ⟨hI', hkp, _⟩ := h w0 X g w undef hI
  have hf' := frRep_keep hf hkp fun k _ hk => ⟨hk, rfl⟩
  have hb' := frRep_keep hks hkp fun k _ hk => ⟨hk, rfl⟩
  refine ⟨g, hI', fun t' => ?_, by simpa using hsz, hd, hn, hb'⟩
  by_cases ht : t' = t
  · subst ht
    have h0 := (h w0 X g w (a.tmps.getD t' undef) hI).2.2 (hf' t')
    by_cases hl : t' < s.fr.length
    · show D.rep _ _ _ ((s.fr.set t' d).getD t' (.c .any)) _
      rw [show (s.fr.set t' d).getD t' (.c .any) = d by simp [List.getD, List.getElem?_set_self hl]]
      exact h0
    · show D.rep _ _ _ ((s.fr.set t' d).getD t' (.c .any)) _
      rw [show (s.fr.set t' d).getD t' (.c .any) = .c .any by rw [List.getD, List.getElem?_eq_none (by simp; omega)]; rfl]
      simp only [D.rep, D.rep0, C.rep]
  · show D.rep _ _ _ ((s.fr.set t d).getD t' (.c .any)) _
    rw [show (s.fr.set t d).getD t' (.c .any) = s.fr.getD t' (.c .any) by simp [List.getD, List.getElem?_set_ne (Ne.symm ht)]]
    exact hf' t'
/-- A slot's own row is only read from now on. -/
theorem Weak.sl {s : AS} (t k sz n : Nat) (get get' : Nat → List Value) (h : s.fr.getD t (.c .any) = .c (.own k)) (hk : look (frz1 Ar.std s.mem k) k = some (.fsl sz n get)) (hg : ∀ j, j < n → get j = get' j) :
    Weak s { s with fr := s.fr.set t (.c (.sl sz n get')), mem := frz1 Ar.std s.mem k } := by
  refine Weak.slot t _ _ fun w0 X g w u hI => ?_
  obtain ⟨hI', hkp⟩ := hI.frz1 k
  refine ⟨hI', hkp, fun hr => ?_⟩
  rw [h] at hr
  obtain ⟨_, hr⟩ := hr
  rw [hr]
  exact D.of_C (sl_congr rfl hg (hI'.fsl k sz n get hk).2)
theorem awp_loopW {A : Ar} {T : Tab} {env : Env} {c : Code} {s : AS} {Q : Exit → AS → Prop} (keep : List Nat) {ι : Type} (inv : ι → Prop) (meas : ι → Nat) (slots : ι → List (Nat × D)) (mem : ι → List (Nat × Blk)) (i0 : ι)
    (h0 : inv i0) (hok : okF (forget keep s.nxt s) = true) (hs : Weak (forget keep s.nxt s) ⟨updFr (keepFr keep 0 s.fr) (slots i0), mem i0, s.nxt, s.ks⟩)
    (round : ∀ i, inv i → Round A T env c Q keep s.nxt (keepFr keep 0 s.fr) s.ks inv meas slots mem i) : awp A T env (.loop c) s Q := by
  refine ⟨keep, fun n s' => ∃ i, inv i ∧ meas i = n ∧ s' = ⟨updFr (keepFr keep 0 s.fr) (slots i), mem i, s.nxt, s.ks⟩, meas i0, hok, ⟨_, hs, i0, h0, rfl, rfl⟩, ?_⟩
  rintro n s' ⟨i, hi, rfl, rfl⟩
  exact round i hi
theorem awp_forW {A : Ar} {T : Tab} {env : Env} {c : Code} {s : AS} {Q : Exit → AS → Prop} {ι : Type} (inv : ι → Prop) (meas : ι → Nat) (slots : ι → List (Nat × D)) (mem : ι → List (Nat × Blk)) (i0 : ι)
    (h0 : inv i0) (hok : okF (forget (keepOf c s.fr.length (slots i0)) s.nxt s) = true)
    (hs : Weak (forget (keepOf c s.fr.length (slots i0)) s.nxt s) ⟨updFr (keepFr (keepOf c s.fr.length (slots i0)) 0 s.fr) (slots i0), mem i0, s.nxt, s.ks⟩)
    (round : ∀ i, inv i → Round A T env c Q (keepOf c s.fr.length (slots i0)) s.nxt (keepFr (keepOf c s.fr.length (slots i0)) 0 s.fr) s.ks inv meas slots mem i) : awp A T env (.loop c) s Q :=
  awp_loopW _ inv meas slots mem i0 h0 hok hs round
end Go.Proofs.Ytoocihhnlhehlaa.Den
