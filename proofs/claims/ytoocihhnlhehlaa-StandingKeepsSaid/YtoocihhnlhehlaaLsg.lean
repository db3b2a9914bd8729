/- Standing orders: the law's own functions: short. -/
import Derived.Test.YtoocihhnlhehlaaLse
namespace Go.Proofs.Ytoocihhnlhehlaa
open Go Go.Proofs.Ytoocihhnlhehlaa.Den
set_option linter.unusedSimpArgs false
set_option linter.unusedVariables false
set_option maxRecDepth 100000
def badAct (a : Sl Act) (j : Nat) : Bool := decide ((j : Int) < 60) && decide (((a.at' j).o.tx.size : Int) > 200)
def shortS (a : Sl Act) : Bool := !(anyTo (badAct a) a.n) && decide ((a.n : Int) ≤ 60)
theorem shortS_of {a : Sl Act} (h : shortS a = true) : a.n ≤ 60 ∧ ∀ j, j < a.n → (a.at' j).o.tx.size ≤ 200 := by
  unfold shortS at h
  simp only [Bool.and_eq_true, Bool.not_eq_true', decide_eq_true_eq] at h
  have hn : a.n ≤ 60 := by omega
  refine ⟨hn, fun j hj => ?_⟩
  have := anyTo_of h.1 j hj
  simp only [badAct, Bool.and_eq_false_iff, decide_eq_false_iff_not] at this
  omega
theorem short_ok (a_n : Nat) (a_kd a_id a_day : Nat → Int) (a_ok : Nat → Bool) (a_o_id a_o_fr a_o_to a_o_am a_o_day a_o_ev a_o_an a_o_un a_o_tr : Nat → Int) (a_o_tx : Nat → ByteArray) (h : a_n ≤ 9223372036854775807) : Con Try.prog 32 [.c (.sl 14 a_n (fun j => [.int .i64 (a_kd j), .int .i64 (a_id j), .int .i64 (a_day j), .bool (a_ok j), .int .i64 (a_o_id j), .int .i64 (a_o_fr j), .int .i64 (a_o_to j), .int .i64 (a_o_am j), .int .i64 (a_o_day j), .int .i64 (a_o_ev j), .int .i64 (a_o_an j), .int .i64 (a_o_un j), .int .i64 (a_o_tr j), .string (a_o_tx j)]))] db (shortS ⟨a_n, fun j => ⟨a_kd j, a_id j, a_day j, a_ok j, ⟨a_o_id j, a_o_fr j, a_o_to j, a_o_am j, a_o_day j, a_o_ev j, a_o_an j, a_o_un j, a_o_tr j, a_o_tx j⟩⟩⟩) := by
  refine Con_of mixed tabOk Try.func32 (by decide) rfl rfl rfl (by decide) ?_; intro A R v' hA hR hv
  cbv
  refine awp_fors (fun i : Int => 0 ≤ i ∧ i ≤ a_n ∧ i ≤ 60 ∧ ∀ j, j < i.toNat → badAct ⟨a_n, fun j => ⟨a_kd j, a_id j, a_day j, a_ok j, ⟨a_o_id j, a_o_fr j, a_o_to j, a_o_am j, a_o_day j, a_o_ev j, a_o_an j, a_o_un j, a_o_tr j, a_o_tx j⟩⟩⟩ j = false) (fun i => (a_n - i).toNat) (fun i => [(3, di i)]) 0 ⟨by omega, by omega, by omega, fun j h => absurd h (Nat.not_lt_zero j)⟩ (by cbv) (sim_eq rfl) ?_
  rintro i ⟨h0, h1, h3, h2'⟩
  have hall : ∀ j, j < i.toNat → badAct ⟨a_n, fun j => ⟨a_kd j, a_id j, a_day j, a_ok j, ⟨a_o_id j, a_o_fr j, a_o_to j, a_o_am j, a_o_day j, a_o_ev j, a_o_an j, a_o_un j, a_o_tr j, a_o_tx j⟩⟩⟩ j = false := h2'
  replace h1 : i ≤ (a_n : Int) := h1
  clear h2'
  have hout : ((a_n : Int) ≤ i ∨ 60 ≤ i) → shortS ⟨a_n, fun j => ⟨a_kd j, a_id j, a_day j, a_ok j, ⟨a_o_id j, a_o_fr j, a_o_to j, a_o_am j, a_o_day j, a_o_ev j, a_o_an j, a_o_un j, a_o_tr j, a_o_tx j⟩⟩⟩ = decide ((a_n : Int) ≤ 60) := by
    intro hh
    unfold shortS
    rw [anyTo_no]
    · rfl
    · intro k hk
      have hk : k < a_n := hk
      rcases Nat.lt_or_ge k i.toNat with h4 | h4
      · exact hall k h4
      · have h5 : ¬ (k : Int) < 60 := by
          have h1 : i ≤ (a_n : Int) := h1
          rcases hh with hh | hh
          · have hh : (a_n : Int) ≤ i := hh
            omega
          · omega
        simp [badAct, h5]
  cbv
  repeat' (first | (refine And.intro (fun _ => ?_) (fun _ => ?_) <;> cbv) | (refine And.intro ?_ ?_; rotate_left; cbv) | (intro (_ : Bool) _; cbv))
  all_goals first
    | (rename_i e1 e2 e3
       have hlt : i < (a_n : Int) := by subst hA; simpa [Ar.std] using e1
       have hlt2 : i < 60 := by subst hA; simpa [Ar.std] using e2
       have e3 : decide (((a_o_tx i.toNat).size : Int) > 200) = true := by subst hA; exact e3
       rw [hv, shortS, anyTo_yes (k := i.toNat) (by unfold badAct; rw [show ((i.toNat : Nat) : Int) = i by omega, decide_eq_true hlt2, Bool.true_and]; exact e3) _ (by show i.toNat < a_n; omega)]
       first | exact Le.vb rfl | exact Le.bb rfl)
    | (rename_i e1 e2 e3
       have hlt : i < (a_n : Int) := by subst hA; simpa [Ar.std] using e1
       have hlt2 : i < 60 := by subst hA; simpa [Ar.std] using e2
       have e3 : decide (((a_o_tx i.toNat).size : Int) > 200) = false := by subst hA; exact e3
       have q1 : A.add .i64 i 1 = i + 1 := by subst hA; exact wrap_id (by omega) (by omega)
       refine loop_nx (A.add .i64 i 1) ?_ (by rw [q1]; show ((a_n : Int) - (i + 1)).toNat < ((a_n : Int) - i).toNat; omega) rfl
       show 0 ≤ A.add .i64 i 1 ∧ A.add .i64 i 1 ≤ (a_n : Int) ∧ A.add .i64 i 1 ≤ 60 ∧ ∀ j, j < (A.add .i64 i 1).toNat → badAct ⟨a_n, fun j => ⟨a_kd j, a_id j, a_day j, a_ok j, ⟨a_o_id j, a_o_fr j, a_o_to j, a_o_am j, a_o_day j, a_o_ev j, a_o_an j, a_o_un j, a_o_tr j, a_o_tx j⟩⟩⟩ j = false
       rw [q1]
       refine ⟨by omega, by omega, by omega, fun j hj => ?_⟩
       rcases Nat.lt_or_ge j i.toNat with h | h
       · exact hall j h
       · have : j = i.toNat := by omega
         subst this
         show (decide (((i.toNat : Nat) : Int) < 60) && decide (((a_o_tx i.toNat).size : Int) > 200)) = false
         rw [e3, Bool.and_false])
    | (rename_i e1 e2
       have hlt : i < (a_n : Int) := by subst hA; simpa [Ar.std] using e1
       subst hA; exact ⟨h0, hlt⟩)
    | (rename_i e1 e2
       have hge : 60 ≤ i := by subst hA; simpa [Ar.std] using e2
       rw [hv, hout (.inr hge)]
       subst hA
       first | exact Le.bb rfl | exact Le.vb rfl)
    | (rename_i e1
       have hge : (a_n : Int) ≤ i := by subst hA; simpa [Ar.std] using e1
       rw [hv, hout (.inl hge)]
       subst hA
       first | exact Le.bb rfl | exact Le.vb rfl)
end Go.Proofs.Ytoocihhnlhehlaa
