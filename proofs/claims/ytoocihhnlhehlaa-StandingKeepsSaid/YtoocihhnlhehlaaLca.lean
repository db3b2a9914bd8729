/- Calendars: the search in a row; open days; both sides. -/
import Derived.Test.YtoocihhnlhehlaaLdb
import Derived.Test.YtoocihhnlhehlaaSpf
namespace Go.Proofs.Ytoocihhnlhehlaa
open Go Go.Proofs.Ytoocihhnlhehlaa.Den
set_option linter.unusedSimpArgs false
set_option linter.unusedVariables false
set_option maxRecDepth 100000
theorem index_ok (l_n : Nat) (l : Nat → Int) (n : Int) (h : l_n ≤ 9223372036854775807) : Con Try.prog 91 [.c (.sl 1 l_n (fun j => [.int .i64 (l j)])), di n] di (idx (fun j => l j == n) l_n 0) := by
  have key : ∀ q : Nat → Bool, (∀ j, q j = (l j == n)) → Con Try.prog 91 [.c (.sl 1 l_n (fun j => [.int .i64 (l j)])), di n] di (idx q l_n 0) := by
    intro q hq
    refine Con_of mixed tabOk Try.func91 (by decide) rfl rfl rfl (by decide) ?_; intro A R v' hA hR hv
    cbv
    refine awp_for (fun i : Int => 0 ≤ i ∧ i ≤ l_n ∧ ∀ j, j < i.toNat → q j = false) (fun i => (l_n - i).toNat) (fun i => [(8, di i)]) (fun _ => []) 0 ⟨by omega, by omega, fun j h => absurd h (Nat.not_lt_zero j)⟩ (by cbv) (sim_eq rfl) ?_
    rintro i ⟨h0, h1, h2⟩
    replace h1 : i ≤ (l_n : Int) := h1
    cbv
    refine And.intro (fun e => ?_) (fun e => ?_) <;> cbv
    · have hlt : i < l_n := by subst hA; simpa [Ar.std] using e
      have i1 : A.inb i l_n := by subst hA; exact ⟨h0, hlt⟩
      refine And.intro i1 ?_
      refine And.intro (fun e => ?_) (fun e => ?_) <;> cbv
      · have e : q i.toNat = true := by
          rw [hq]; subst hA
          have e : (n == l i.toNat) = true := e
          rw [eq_of_beq e]; exact beq_self_eq_true _
        replace hlt : i < (l_n : Int) := hlt
        rw [hv, idx_at q l_n i.toNat (by omega) e h2]
        exact Le.vi (by omega)
      · have e : q i.toNat = false := by
          rw [hq]; subst hA
          have e : (n == l i.toNat) = false := e
          exact beq_eq_false_iff_ne.2 fun h => beq_eq_false_iff_ne.1 e h.symm
        have q1 : A.add .i64 i 1 = i + 1 := by have hlt : i < (l_n : Int) := hlt; subst hA; exact wrap_id (by omega) (by omega)
        replace hlt : i < (l_n : Int) := hlt
        refine loop_nx (A.add .i64 i 1) ?_ (by rw [q1]; show ((l_n : Int) - (i + 1)).toNat < ((l_n : Int) - i).toNat; omega) rfl
        show 0 ≤ A.add .i64 i 1 ∧ A.add .i64 i 1 ≤ (l_n : Int) ∧ ∀ j, j < (A.add .i64 i 1).toNat → q j = false
        rw [q1]
        refine ⟨by omega, by omega, fun j hj => ?_⟩
        rcases Nat.lt_or_ge j i.toNat with h | h
        · exact h2 j h
        · have : j = i.toNat := by omega
          subst this; exact e
    · have hge : (l_n : Int) ≤ i := by subst hA; simpa [Ar.std] using e
      rw [hv, idx_no q l_n (fun j hj => h2 j (by omega))]
      exact Le.vi rfl
  exact key _ fun _ => rfl
theorem contains_ok (l_n : Nat) (l : Nat → Int) (n : Int) (h : l_n ≤ 9223372036854775807) : Con Try.prog 65 [.c (.sl 1 l_n (fun j => [.int .i64 (l j)])), di n] db (hasB ⟨l_n, l⟩ n) := by
  refine Con_of mixed tabOk Try.func65 (by decide) rfl rfl rfl (by decide) ?_; intro A R v' hA hR hv
  cbv
  refine call_c hR (index_ok (h := h) ..) ?_
  intro x hx
  cbv
  refine Le.bb ?_
  rw [hv, hasB]; subst hA
  show _ = decide (x ≥ 0)
  rw [hx]
theorem rhas_ok (l_n : Nat) (l : Nat → Int) (n : Int) (h : l_n ≤ 9223372036854775807) : Con Try.prog 112 [.c (.sl 1 l_n (fun j => [.int .i64 (l j)])), di n] db (hasB ⟨l_n, l⟩ n) := by
  have key : ∀ q : Nat → Bool, (∀ j, q j = (l j == n)) → Con Try.prog 112 [.c (.sl 1 l_n (fun j => [.int .i64 (l j)])), di n] db (decide (0 ≤ idx q l_n 0)) := by
    intro q hq
    refine Con_of mixed tabOk Try.func112 (by decide) rfl rfl rfl (by decide) ?_; intro A R v' hA hR hv
    cbv
    refine awp_for (fun i : Int => 0 ≤ i ∧ i ≤ l_n ∧ ∀ j, j < i.toNat → q j = false) (fun i => (l_n - i).toNat) (fun i => [(5, di i)]) (fun _ => []) 0 ⟨by omega, by omega, fun j h => absurd h (Nat.not_lt_zero j)⟩ (by cbv) (sim_eq rfl) ?_
    rintro i ⟨h0, h1, h2⟩
    replace h1 : i ≤ (l_n : Int) := h1
    cbv
    refine And.intro (fun e => ?_) (fun e => ?_) <;> cbv
    · have hlt : i < l_n := by subst hA; simpa [Ar.std] using e
      have i1 : A.inb i l_n := by subst hA; exact ⟨h0, hlt⟩
      refine And.intro i1 ?_
      refine And.intro (fun e => ?_) (fun e => ?_) <;> cbv
      · have e : q i.toNat = true := by
          rw [hq]; subst hA; exact e
        replace hlt : i < (l_n : Int) := hlt
        rw [hv, idx_at q l_n i.toNat (by omega) e h2]
        exact Le.vb (by simp; omega)
      · have e : q i.toNat = false := by
          rw [hq]; subst hA; exact e
        have q1 : A.add .i64 i 1 = i + 1 := by have hlt : i < (l_n : Int) := hlt; subst hA; exact wrap_id (by omega) (by omega)
        replace hlt : i < (l_n : Int) := hlt
        refine loop_nx (A.add .i64 i 1) ?_ (by rw [q1]; show ((l_n : Int) - (i + 1)).toNat < ((l_n : Int) - i).toNat; omega) rfl
        show 0 ≤ A.add .i64 i 1 ∧ A.add .i64 i 1 ≤ (l_n : Int) ∧ ∀ j, j < (A.add .i64 i 1).toNat → q j = false
        rw [q1]
        refine ⟨by omega, by omega, fun j hj => ?_⟩
        rcases Nat.lt_or_ge j i.toNat with h | h
        · exact h2 j h
        · have : j = i.toNat := by omega
          subst this; exact e
    · have hge : (l_n : Int) ≤ i := by subst hA; simpa [Ar.std] using e
      rw [hv, idx_no q l_n (fun j hj => h2 j (by omega))]
      exact Le.vb (by simp)
  exact key _ fun _ => rfl
theorem open_ok (c_na : ByteArray) (c_we_n : Nat) (c_we : Nat → Int) (c_ho_n : Nat) (c_ho : Nat → Int) (n : Int) (h1 : c_we_n ≤ 9223372036854775807) (h2 : c_ho_n ≤ 9223372036854775807) : Con Try.prog 110 [.agg [.v (.string (c_na)), .sl 1 c_we_n (fun j => [.int .i64 (c_we j)]), .sl 1 c_ho_n (fun j => [.int .i64 (c_ho j)])], di n] db (openB ⟨c_we_n, c_we⟩ ⟨c_ho_n, c_ho⟩ n) := by
  refine Con_of mixed tabOk Try.func110 (by decide) rfl rfl rfl (by decide) ?_; intro A R v' hA hR hv
  cbv
  repeat' (first | (refine And.intro (fun _ => ?_) (fun _ => ?_) <;> cbv) | (refine call_c hR (dvalid_ok _) ?_; intro _ _; cbv) | (refine call_c hR (dweek_ok _) ?_; intro _ _; cbv) | (refine call_c hR (contains_ok (h := h1) ..) ?_; intro _ _; cbv) | (refine call_c hR (contains_ok (h := h2) ..) ?_; intro _ _; cbv) | (refine And.intro ?_ ?_; rotate_left; cbv) | (intro (_ : Bool) _; cbv))
  all_goals subst hA hR hv
  all_goals try dsimp only [Ar.std] at *
  all_goals first | exact Le.vb (by simp_all [openB]) | exact Le.bb (by simp_all [openB])
theorem ropen_ok (c_na : ByteArray) (c_we_n : Nat) (c_we : Nat → Int) (c_ho_n : Nat) (c_ho : Nat → Int) (n : Int) (h1 : c_we_n ≤ 9223372036854775807) (h2 : c_ho_n ≤ 9223372036854775807) : Con Try.prog 107 [.agg [.v (.string (c_na)), .sl 1 c_we_n (fun j => [.int .i64 (c_we j)]), .sl 1 c_ho_n (fun j => [.int .i64 (c_ho j)])], di n] db (openB ⟨c_we_n, c_we⟩ ⟨c_ho_n, c_ho⟩ n) := by
  refine Con_of mixed tabOk Try.func107 (by decide) rfl rfl rfl (by decide) ?_; intro A R v' hA hR hv
  cbv
  repeat' (first | (refine And.intro (fun _ => ?_) (fun _ => ?_) <;> cbv) | (refine call_c hR (rvalid_ok _) ?_; intro _ _; cbv) | (refine call_c hR (rweek_ok _) ?_; intro _ _; cbv) | (refine call_c hR (rhas_ok (h := h1) ..) ?_; intro _ _; cbv) | (refine call_c hR (rhas_ok (h := h2) ..) ?_; intro _ _; cbv) | (refine And.intro ?_ ?_; rotate_left; cbv) | (intro (_ : Bool) _; cbv))
  all_goals subst hA hR hv
  all_goals try dsimp only [Ar.std] at *
  all_goals first | exact Le.vb (by simp_all [openB]) | exact Le.bb (by simp_all [openB])
end Go.Proofs.Ytoocihhnlhehlaa
