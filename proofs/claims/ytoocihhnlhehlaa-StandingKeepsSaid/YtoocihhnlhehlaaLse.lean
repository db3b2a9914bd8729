/- Standing orders: the law's own functions: Great, short, right, others. -/
import Derived.Test.YtoocihhnlhehlaaLsa
import Derived.Test.YtoocihhnlhehlaaPlo
import Derived.Test.YtoocihhnlhehlaaWks
namespace Go.Proofs.Ytoocihhnlhehlaa
open Go Go.Proofs.Ytoocihhnlhehlaa.Den
set_option linter.unusedSimpArgs false
set_option linter.unusedVariables false
set_option maxRecDepth 100000
theorem loop_nxW {ι : Type} {inv : ι → Prop} {meas : ι → Nat} {M : Nat} {s : AS} {f : ι → AS} (j : ι) (h1 : inv j) (h2 : meas j < M) (h3 : Weak s (f j)) :
    ∃ m, m < M ∧ ∃ s3, Weak s s3 ∧ ∃ j, inv j ∧ meas j = m ∧ s3 = f j := ⟨_, h2, _, h3, j, h1, rfl, rfl⟩
/-- Rows that statements ask of. -/
structure SmallO (l : Sl Order) : Prop where
  n : l.n ≤ 100
  tx : ∀ j, j < l.n → (l.at' j).tx.size ≤ 200
def greatO (l : Sl Order) : Bool := decide ((l.n : Int) > 100) || anyTo (fun j => decide (((l.at' j).tx.size : Int) > 200)) l.n
theorem anyTo_no {p : Nat → Bool} : ∀ n, (∀ k, k < n → p k = false) → anyTo p n = false
  | 0, _ => rfl
  | n + 1, h => by simp only [anyTo, anyTo_no n fun k hk => h k (by omega), h n (by omega), Bool.or_self]
theorem anyTo_of {p : Nat → Bool} : ∀ {n : Nat}, anyTo p n = false → ∀ k, k < n → p k = false
  | n + 1, h, k, hk => by
    simp only [anyTo, Bool.or_eq_false_iff] at h
    by_cases e : k = n
    · subst e; exact h.2
    · exact anyTo_of h.1 k (by omega)
theorem greatO_of {l : Sl Order} (h : greatO l = false) : SmallO l := by
  unfold greatO at h
  simp only [Bool.or_eq_false_iff, decide_eq_false_iff_not] at h
  refine ⟨by omega, fun j hj => ?_⟩
  have := anyTo_of h.2 j hj
  simp only [decide_eq_false_iff_not] at this
  omega
theorem ogreat_ok (l_n : Nat) (l_id l_fr l_to l_am l_day l_ev l_an l_un l_tr : Nat → Int) (l_tx : Nat → ByteArray) (h : l_n ≤ 9223372036854775807) : Con Try.prog 31 [.c (.sl 10 l_n (fun j => [.int .i64 (l_id j), .int .i64 (l_fr j), .int .i64 (l_to j), .int .i64 (l_am j), .int .i64 (l_day j), .int .i64 (l_ev j), .int .i64 (l_an j), .int .i64 (l_un j), .int .i64 (l_tr j), .string (l_tx j)]))] db (greatO ⟨l_n, fun j => ⟨l_id j, l_fr j, l_to j, l_am j, l_day j, l_ev j, l_an j, l_un j, l_tr j, l_tx j⟩⟩) := by
  refine Con_of mixed tabOk Try.func31 (by decide) rfl rfl rfl (by decide) ?_; intro A R v' hA hR hv
  cbv
  refine And.intro (fun e => ?_) (fun e => ?_) <;> cbv
  · have e : (100 : Int) < (l_n : Int) := by subst hA; simpa [Ar.std] using e
    rw [hv, greatO, decide_eq_true (show ((l_n : Nat) : Int) > 100 from e), Bool.true_or]
    first | exact Le.vb rfl | exact Le.bb rfl
  have e : ¬ (100 : Int) < (l_n : Int) := by subst hA; simpa [Ar.std] using e
  have hv : v' = anyTo (fun j => decide (((l_tx j).size : Int) > 200)) l_n := by
    rw [hv, greatO, decide_eq_false (show ¬ ((l_n : Nat) : Int) > 100 from e), Bool.false_or]
  clear e
  refine awp_fors (fun i : Int => 0 ≤ i ∧ i ≤ l_n ∧ ∀ j, j < i.toNat → (fun j => decide (((l_tx j).size : Int) > 200)) j = false) (fun i => (l_n - i).toNat) (fun i => [(3, di i)]) 0 ⟨by omega, by omega, fun j h => absurd h (Nat.not_lt_zero j)⟩ (by cbv) (sim_eq rfl) ?_
  rintro i ⟨h0, h1, h2⟩
  replace h1 : i ≤ (l_n : Int) := h1
  have hv2 := hv
  clear hv
  cbv
  refine And.intro (fun e => ?_) (fun e => ?_) <;> cbv
  · have hlt : i < (l_n : Int) := by subst hA; simpa [Ar.std] using e
    have q1 : A.add .i64 i 1 = i + 1 := by have hlt : i < (l_n : Int) := hlt; subst hA; exact wrap_id (by omega) (by omega)
    have hb : A.inb i l_n := by subst hA; exact ⟨h0, hlt⟩
    refine And.intro hb ?_
    refine And.intro (fun e => ?_) (fun e => ?_) <;> cbv
    · have e : decide (((l_tx i.toNat).size : Int) > 200) = true := by subst hA; exact e
      replace hlt : i < (l_n : Int) := hlt
      rw [hv2, anyTo_yes (k := i.toNat) e _ (by omega)]
      first | exact Le.vb rfl | exact Le.bb rfl
    · have e : decide (((l_tx i.toNat).size : Int) > 200) = false := by subst hA; exact e
      replace hlt : i < (l_n : Int) := hlt
      refine loop_nx (A.add .i64 i 1) ?_ (by rw [q1]; show ((l_n : Int) - (i + 1)).toNat < ((l_n : Int) - i).toNat; omega) rfl
      show 0 ≤ A.add .i64 i 1 ∧ A.add .i64 i 1 ≤ (l_n : Int) ∧ ∀ j, j < (A.add .i64 i 1).toNat → decide (((l_tx j).size : Int) > 200) = false
      rw [q1]
      refine ⟨by omega, by omega, fun j hj => ?_⟩
      rcases Nat.lt_or_ge j i.toNat with h | h
      · exact h2 j h
      · have : j = i.toNat := by omega
        subst this; exact e
  · have hge : (l_n : Int) ≤ i := by subst hA; simpa [Ar.std] using e
    rw [hv2, anyTo_no _ fun j hj => h2 j (by omega)]
    first | exact Le.vb rfl | exact Le.bb rfl
theorem right_ok (l_n : Nat) (l_id l_fr l_to l_am l_day l_ev l_an l_un l_tr : Nat → Int) (l_tx : Nat → ByteArray) (h : l_n ≤ 9223372036854775807) (ht : ∀ j, j < l_n → (l_tx j).size ≤ 9223372036854775807) : Con Try.prog 33 [.c (.sl 10 l_n (fun j => [.int .i64 (l_id j), .int .i64 (l_fr j), .int .i64 (l_to j), .int .i64 (l_am j), .int .i64 (l_day j), .int .i64 (l_ev j), .int .i64 (l_an j), .int .i64 (l_un j), .int .i64 (l_tr j), .string (l_tx j)]))] db (rightS ⟨l_n, fun j => ⟨l_id j, l_fr j, l_to j, l_am j, l_day j, l_ev j, l_an j, l_un j, l_tr j, l_tx j⟩⟩) := by
  refine Con_of mixed tabOk Try.func33 (by decide) rfl rfl rfl (by decide) ?_; intro A R v' hA hR hv
  cbv
  refine awp_fors (fun i : Int => 0 ≤ i ∧ i ≤ l_n ∧ ∀ j, j < i.toNat → okAt ⟨l_n, fun j => ⟨l_id j, l_fr j, l_to j, l_am j, l_day j, l_ev j, l_an j, l_un j, l_tr j, l_tx j⟩⟩ j = true) (fun i => (l_n - i).toNat) (fun i => [(3, di i)]) 0 ⟨by omega, by omega, fun j h => absurd h (Nat.not_lt_zero j)⟩ (by cbv) (sim_eq rfl) ?_
  rintro i ⟨h0, h1, h2'⟩
  have h2 : ∀ j, j < i.toNat → okAt ⟨l_n, fun j => ⟨l_id j, l_fr j, l_to j, l_am j, l_day j, l_ev j, l_an j, l_un j, l_tr j, l_tx j⟩⟩ j = true := h2'
  replace h1 : i ≤ (l_n : Int) := h1
  clear h2'
  cbv
  refine And.intro (fun e => ?_) (fun e => ?_) <;> cbv
  · have hlt : i < (l_n : Int) := by subst hA; simpa [Ar.std] using e
    have q1 : A.add .i64 i 1 = i + 1 := by have hlt : i < (l_n : Int) := hlt; subst hA; exact wrap_id (by omega) (by omega)
    have q2 : 0 < i → A.sub .i64 i 1 = i - 1 := fun _ => by have hlt : i < (l_n : Int) := hlt; subst hA; exact wrap_id (by omega) (by omega)
    have hb : A.inb i l_n := by subst hA; exact ⟨h0, hlt⟩
    have ni : A.nat i = i.toNat := by subst hA; rfl
    have hb2 : A.gt i 0 = true → A.inb (A.sub .i64 i 1) l_n := fun e1 => by
      have e1 : 0 < i := by subst hA; simpa [Ar.std] using e1
      have hlt : i < (l_n : Int) := hlt
      rw [q2 e1]; subst hA; exact ⟨by omega, by show i - 1 < (l_n : Int); omega⟩
    have htx : (l_tx (A.nat i)).size ≤ 9223372036854775807 := by
      have hlt : i < (l_n : Int) := hlt
      exact ht _ (by rw [ni]; omega)
    -- what one element comes to
    have key : ∀ x : Int, x = checkO ⟨l_id (A.nat i), l_fr (A.nat i), l_to (A.nat i), l_am (A.nat i), l_day (A.nat i), l_ev (A.nat i), l_an (A.nat i), l_un (A.nat i), l_tr (A.nat i), l_tx (A.nat i)⟩ →
        okAt ⟨l_n, fun j => ⟨l_id j, l_fr j, l_to j, l_am j, l_day j, l_ev j, l_an j, l_un j, l_tr j, l_tx j⟩⟩ i.toNat = (!(A.ne x 0) && !(A.gt i 0 && A.le (l_id (A.nat i)) (l_id (A.nat (A.sub .i64 i 1))))) := by
      intro x hx
      rw [hx, ni]
      unfold okAt
      by_cases e1 : 0 < i
      · rw [q2 e1]; subst hA
        have e2 : (i.toNat : Int) = i := by omega
        have e3 : Ar.std.nat (i - 1) = i.toNat - 1 := by show (i - 1).toNat = _; omega
        rw [e3, e2]
        simp [Ar.std, bne]
      · have e4 : i = 0 := by omega
        subst e4
        subst hA
        simp [Ar.std, bne]
    repeat' (first | (refine And.intro (fun _ => ?_) (fun _ => ?_) <;> cbv) | (refine call_c hR (checkO_ok (h := htx) ..) ?_; intro _ _; cbv) | (refine And.intro ?_ ?_; rotate_left; cbv) | (intro (_ : Bool) _; cbv))
    all_goals replace hlt : i < (l_n : Int) := hlt
    all_goals first
      | exact hb
      | exact hb2 (by assumption)
      | (rename_i x hx e1
         have hk := key x hx
         have e1 : A.ne x 0 = true := e1
         rw [e1] at hk
         rw [hv, rightS, allTo_not (k := i.toNat) (by show i.toNat < l_n; omega) hk, Bool.false_and]
         first | exact Le.vb rfl | exact Le.bb rfl)
      | (rename_i x hx e1 e2 e3
         have hk := key x hx
         have e1 : A.ne x 0 = false := e1
         have e2 : A.gt i 0 = true := e2
         have e3 : A.le (l_id (A.nat i)) (l_id (A.nat (A.sub .i64 i 1))) = true := e3
         rw [e1, e2, e3] at hk
         rw [hv, rightS, allTo_not (k := i.toNat) (by show i.toNat < l_n; omega) hk, Bool.false_and]
         first | exact Le.vb rfl | exact Le.bb rfl)
      | (have hk : okAt ⟨l_n, fun j => ⟨l_id j, l_fr j, l_to j, l_am j, l_day j, l_ev j, l_an j, l_un j, l_tr j, l_tx j⟩⟩ i.toNat = true := by
           first
             | (rename_i x hx e1 e2 e3
                have hk := key x hx
                have e1 : A.ne x 0 = false := e1
                have e3 : A.le (l_id (A.nat i)) (l_id (A.nat (A.sub .i64 i 1))) = false := e3
                rw [e1, e3, Bool.and_false] at hk
                exact hk)
             | (rename_i x hx e1 e2
                have hk := key x hx
                have e1 : A.ne x 0 = false := e1
                have e2 : A.gt i 0 = false := e2
                rw [e1, e2, Bool.false_and] at hk
                exact hk)
         refine loop_nx (A.add .i64 i 1) ?_ (by rw [q1]; show ((l_n : Int) - (i + 1)).toNat < ((l_n : Int) - i).toNat; omega) rfl
         show 0 ≤ A.add .i64 i 1 ∧ A.add .i64 i 1 ≤ (l_n : Int) ∧ ∀ j, j < (A.add .i64 i 1).toNat → okAt ⟨l_n, fun j => ⟨l_id j, l_fr j, l_to j, l_am j, l_day j, l_ev j, l_an j, l_un j, l_tr j, l_tx j⟩⟩ j = true
         rw [q1]
         refine ⟨by omega, by omega, fun j hj => ?_⟩
         rcases Nat.lt_or_ge j i.toNat with h | h
         · exact h2 j h
         · have : j = i.toNat := by omega
           subst this; exact hk)
  · have hge : (l_n : Int) ≤ i := by subst hA; simpa [Ar.std] using e
    rw [hv, rightS, allTo_yes fun j hj => h2 j (by have hj : j < l_n := hj; omega), Bool.true_and]
    subst hA
    first | exact Le.bb rfl | exact Le.vb rfl
end Go.Proofs.Ytoocihhnlhehlaa
