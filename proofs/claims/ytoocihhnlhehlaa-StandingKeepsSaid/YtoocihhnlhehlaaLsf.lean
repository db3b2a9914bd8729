/- Standing orders: the law's own functions: others, short. -/
import Derived.Test.YtoocihhnlhehlaaLse
namespace Go.Proofs.Ytoocihhnlhehlaa
open Go Go.Proofs.Ytoocihhnlhehlaa.Den
set_option linter.unusedSimpArgs false
set_option linter.unusedVariables false
set_option maxRecDepth 100000
set_option maxHeartbeats 2000000 in
theorem others_ok (l_n : Nat) (l_id l_fr l_to l_am l_day l_ev l_an l_un l_tr : Nat → Int) (l_tx : Nat → ByteArray) (m_n : Nat) (m_id m_fr m_to m_am m_day m_ev m_an m_un m_tr : Nat → Int) (m_tx : Nat → ByteArray) (id : Int) (h : l_n ≤ 9223372036854775807) (h2 : m_n ≤ 9223372036854775807) : Con Try.prog 37 [.c (.sl 10 l_n (fun j => [.int .i64 (l_id j), .int .i64 (l_fr j), .int .i64 (l_to j), .int .i64 (l_am j), .int .i64 (l_day j), .int .i64 (l_ev j), .int .i64 (l_an j), .int .i64 (l_un j), .int .i64 (l_tr j), .string (l_tx j)])), .c (.sl 10 m_n (fun j => [.int .i64 (m_id j), .int .i64 (m_fr j), .int .i64 (m_to j), .int .i64 (m_am j), .int .i64 (m_day j), .int .i64 (m_ev j), .int .i64 (m_an j), .int .i64 (m_un j), .int .i64 (m_tr j), .string (m_tx j)])), di id] db (othersS ⟨l_n, fun j => ⟨l_id j, l_fr j, l_to j, l_am j, l_day j, l_ev j, l_an j, l_un j, l_tr j, l_tx j⟩⟩ ⟨m_n, fun j => ⟨m_id j, m_fr j, m_to j, m_am j, m_day j, m_ev j, m_an j, m_un j, m_tr j, m_tx j⟩⟩ id) := by
  refine Con_hd [8] mixed tabOk (inl := fun _ _ _ => none) (fun f I h => by cases h) Try.func37 (by decide) rfl rfl rfl (by decide) ?_
  intro A R v' hA hR hv
  cbv
  refine awp_loop [0, 1, 2, 7] (fun i : Int => 0 ≤ i ∧ i ≤ l_n ∧ ∀ j, j < i.toNat → othersAt ⟨l_n, fun j => ⟨l_id j, l_fr j, l_to j, l_am j, l_day j, l_ev j, l_an j, l_un j, l_tr j, l_tx j⟩⟩ ⟨m_n, fun j => ⟨m_id j, m_fr j, m_to j, m_am j, m_day j, m_ev j, m_an j, m_un j, m_tr j, m_tx j⟩⟩ id j = true) (fun i => (l_n - i).toNat) (fun i => [(7, di i)]) (fun _ => []) 0 ⟨by omega, by omega, fun j h => absurd h (Nat.not_lt_zero j)⟩ (by cbv) (sim_eq rfl) ?_
  rintro i ⟨h0, h1, h2'⟩
  have hall : ∀ j, j < i.toNat → othersAt ⟨l_n, fun j => ⟨l_id j, l_fr j, l_to j, l_am j, l_day j, l_ev j, l_an j, l_un j, l_tr j, l_tx j⟩⟩ ⟨m_n, fun j => ⟨m_id j, m_fr j, m_to j, m_am j, m_day j, m_ev j, m_an j, m_un j, m_tr j, m_tx j⟩⟩ id j = true := h2'
  replace h1 : i ≤ (l_n : Int) := h1
  clear h2'
  cbv
  refine And.intro (fun e => ?_) (fun e => ?_) <;> cbv
  rotate_left
  · have hge : (l_n : Int) ≤ i := by subst hA; simpa [Ar.std] using e
    rw [hv, othersS, allTo_yes fun j hj => hall j (by have hj : j < l_n := hj; omega)]
    first | exact Le.bb rfl | exact Le.vb rfl
  have hlt : i < (l_n : Int) := by subst hA; simpa [Ar.std] using e
  have hb : A.inb i l_n := by subst hA; exact ⟨h0, hlt⟩
  have ni : A.nat i = i.toNat := by subst hA; rfl
  have q1 : A.add .i64 i 1 = i + 1 := by have hlt : i < (l_n : Int) := hlt; subst hA; exact wrap_id (by omega) (by omega)
  obtain ⟨p, hp⟩ : ∃ p : Nat → Bool, p = fun k => ordEq (Sl.at' ⟨m_n, fun j => ⟨m_id j, m_fr j, m_to j, m_am j, m_day j, m_ev j, m_an j, m_un j, m_tr j, m_tx j⟩⟩ k) (Sl.at' ⟨l_n, fun j => ⟨l_id j, l_fr j, l_to j, l_am j, l_day j, l_ev j, l_an j, l_un j, l_tr j, l_tx j⟩⟩ i.toNat) := ⟨_, rfl⟩
  have hat : othersAt ⟨l_n, fun j => ⟨l_id j, l_fr j, l_to j, l_am j, l_day j, l_ev j, l_an j, l_un j, l_tr j, l_tx j⟩⟩ ⟨m_n, fun j => ⟨m_id j, m_fr j, m_to j, m_am j, m_day j, m_ev j, m_an j, m_un j, m_tr j, m_tx j⟩⟩ id i.toNat = ((l_id i.toNat == id) || anyTo p m_n) := by rw [hp]; rfl
  have hid : A.eq (l_id (A.nat i)) id = (l_id i.toNat == id) := by rw [ni]; subst hA; rfl
  refine And.intro hb ?_
  refine awp_loop [0, 1, 2, 7, 8, 9] (fun z : Int × Bool => 0 ≤ z.1 ∧ z.1 ≤ m_n ∧ z.2 = ((l_id i.toNat == id) || anyTo p z.1.toNat)) (fun z => (m_n - z.1).toNat) (fun z => [(9, di z.1), (8, db z.2)]) (fun _ => []) (0, A.eq (l_id (A.nat i)) id) ⟨by dsimp only; omega, by dsimp only; omega, by dsimp only; rw [hid]; simp [anyTo]⟩ (by cbv) (sim_eq rfl) ?_
  rintro ⟨k, b⟩ ⟨g0, g1, g2⟩
  replace g0 : 0 ≤ k := g0
  replace g1 : k ≤ (m_n : Int) := g1
  replace g2 : b = ((l_id i.toNat == id) || anyTo p k.toNat) := g2
  cbv
  refine And.intro (fun e => ?_) (fun e => ?_) <;> cbv
  · have hkt : k < (m_n : Int) := by subst hA; simpa [Ar.std] using e
    have hbk : A.inb k m_n := by subst hA; exact ⟨g0, hkt⟩
    have nk : A.nat k = k.toNat := by subst hA; rfl
    have q2 : A.add .i64 k 1 = k + 1 := by have hkt : k < (m_n : Int) := hkt; subst hA; exact wrap_id (by omega) (by omega)
    have hsucc : anyTo p (k + 1).toNat = (anyTo p k.toNat || p k.toNat) := by
      replace g0 : 0 ≤ k := g0
      rw [show (k + 1).toNat = k.toNat + 1 by omega]; rfl
    have hpk : ordEq (Sl.at' ⟨m_n, fun j => ⟨m_id j, m_fr j, m_to j, m_am j, m_day j, m_ev j, m_an j, m_un j, m_tr j, m_tx j⟩⟩ k.toNat) (Sl.at' ⟨l_n, fun j => ⟨l_id j, l_fr j, l_to j, l_am j, l_day j, l_ev j, l_an j, l_un j, l_tr j, l_tx j⟩⟩ i.toNat) = p k.toNat := by rw [hp]
    refine hard_z [0, 1, 2, 7, 8, 9] 0 (fun c : Bool => c = (b || p k.toNat)) (fun c => ⟨updFr (List.replicate 43 (.c .any)) [(0, .c (.sl 10 l_n (fun j => [.int .i64 (l_id j), .int .i64 (l_fr j), .int .i64 (l_to j), .int .i64 (l_am j), .int .i64 (l_day j), .int .i64 (l_ev j), .int .i64 (l_an j), .int .i64 (l_un j), .int .i64 (l_tr j), .string (l_tx j)]))), (1, .c (.sl 10 m_n (fun j => [.int .i64 (m_id j), .int .i64 (m_fr j), .int .i64 (m_to j), .int .i64 (m_am j), .int .i64 (m_day j), .int .i64 (m_ev j), .int .i64 (m_an j), .int .i64 (m_un j), .int .i64 (m_tr j), .string (m_tx j)]))), (2, di id), (7, di i), (8, db c), (9, di k)], [], 0, []⟩) ?_ ?_
    · cbv
      repeat' (first | (refine And.intro (fun _ => ?_) (fun _ => ?_) <;> cbv) | (refine And.intro ?_ ?_; rotate_left; cbv) | (intro (_ : Bool) _; cbv))
      all_goals first
        | exact hb
        | exact hbk
        | (rename_i e; exact lf_w true (by rw [e]; rfl) (Weak.lit 8 true rfl) ⟨rfl, trivial, rfl, rfl⟩)
        | (rename_i e
           refine lf_z _ ?_ ⟨rfl, trivial, rfl, rfl⟩
           rw [e, Bool.false_or, hp]
           subst hA; rfl)
    · intro c hc
      cbv
      have hkt : k < (m_n : Int) := hkt
      refine loop_nx (A.add .i64 k 1, c) ?_ (by dsimp only; rw [q2]; show ((m_n : Int) - (k + 1)).toNat < ((m_n : Int) - k).toNat; omega) rfl
      show 0 ≤ A.add .i64 k 1 ∧ A.add .i64 k 1 ≤ (m_n : Int) ∧ c = ((l_id i.toNat == id) || anyTo p (A.add .i64 k 1).toNat)
      replace hkt : k < (m_n : Int) := hkt
      rw [q2, hsucc, ← Bool.or_assoc, ← g2, hc]
      exact ⟨by omega, by omega, rfl⟩
  · have hge : (m_n : Int) ≤ k := by subst hA; simpa [Ar.std] using e
    have hbv : b = othersAt ⟨l_n, fun j => ⟨l_id j, l_fr j, l_to j, l_am j, l_day j, l_ev j, l_an j, l_un j, l_tr j, l_tx j⟩⟩ ⟨m_n, fun j => ⟨m_id j, m_fr j, m_to j, m_am j, m_day j, m_ev j, m_an j, m_un j, m_tr j, m_tx j⟩⟩ id i.toNat := by
      have g1 : k ≤ (m_n : Int) := g1
      have hge : (m_n : Int) ≤ k := hge
      rw [hat, g2, show k.toNat = m_n by omega]
    refine And.intro (fun e => ?_) (fun e => ?_) <;> cbv
    · have e : b = false := by subst hA; simpa [Ar.std] using e
      rw [hv, othersS, allTo_not (k := i.toNat) (by show i.toNat < l_n; have hlt : i < (l_n : Int) := hlt; omega) (by rw [← hbv]; exact e)]
      first | exact Le.bb rfl | exact Le.vb rfl
    · have e : b = true := by subst hA; simpa [Ar.std] using e
      refine loop_nx (A.add .i64 i 1) ?_ (by rw [q1]; show ((l_n : Int) - (i + 1)).toNat < ((l_n : Int) - i).toNat; have hlt : i < (l_n : Int) := hlt; omega) rfl
      show 0 ≤ A.add .i64 i 1 ∧ A.add .i64 i 1 ≤ (l_n : Int) ∧ ∀ j, j < (A.add .i64 i 1).toNat → othersAt ⟨l_n, fun j => ⟨l_id j, l_fr j, l_to j, l_am j, l_day j, l_ev j, l_an j, l_un j, l_tr j, l_tx j⟩⟩ ⟨m_n, fun j => ⟨m_id j, m_fr j, m_to j, m_am j, m_day j, m_ev j, m_an j, m_un j, m_tr j, m_tx j⟩⟩ id j = true
      rw [q1]
      have hlt : i < (l_n : Int) := hlt
      refine ⟨by omega, by omega, fun j hj => ?_⟩
      rcases Nat.lt_or_ge j i.toNat with h | h
      · exact hall j h
      · have : j = i.toNat := by omega
        subst this; rw [← hbv]; exact e
end Go.Proofs.Ytoocihhnlhehlaa
