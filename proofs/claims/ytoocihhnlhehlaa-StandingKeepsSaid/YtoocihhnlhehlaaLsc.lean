/- Standing orders: Due, of the program. -/
import Derived.Test.YtoocihhnlhehlaaLsb
namespace Go.Proofs.Ytoocihhnlhehlaa
open Go Go.Proofs.Ytoocihhnlhehlaa.Den
set_option linter.unusedSimpArgs false
set_option linter.unusedVariables false
set_option maxRecDepth 100000
theorem odue_ok (l_n : Nat) (l_id l_fr l_to l_am l_day l_ev l_an l_un l_tr : Nat → Int) (l_tx : Nat → ByteArray) (on : Int) (h : l_n * 88 ≤ 140737488355328) : Con Try.prog 39 [.c (.sl 10 l_n (fun j => [.int .i64 (l_id j), .int .i64 (l_fr j), .int .i64 (l_to j), .int .i64 (l_am j), .int .i64 (l_day j), .int .i64 (l_ev j), .int .i64 (l_an j), .int .i64 (l_un j), .int .i64 (l_tr j), .string (l_tx j)])), di on] (fun x : Sl Order => .c (.sl 10 x.n fun j => [.int .i64 ((x.at' j).id), .int .i64 ((x.at' j).fr), .int .i64 ((x.at' j).to), .int .i64 ((x.at' j).am), .int .i64 ((x.at' j).day), .int .i64 ((x.at' j).ev), .int .i64 ((x.at' j).an), .int .i64 ((x.at' j).un), .int .i64 ((x.at' j).tr), .string ((x.at' j).tx)])) (Sl.of noOrder ((Sl.list ⟨l_n, fun j => ⟨l_id j, l_fr j, l_to j, l_am j, l_day j, l_ev j, l_an j, l_un j, l_tr j, l_tx j⟩⟩).filter fun d => decide (d.day ≤ on))) := by
  refine Con_in mixed tabOk (inl := inlDel T 75 92 Try.f75)
    (inlDel_ok mixed tabOk Try.func75 (by decide) rfl (by decide) ⟨_, Try.func92, by decide, rfl⟩) Try.func39 (by decide) rfl rfl rfl (by decide) ?_
  intro A R v' hA hR hv
  cbv
  refine call_d hR (cloneOrder_ok (h := by assumption) ..) ?_
  cbv
  refine call_c hR (ixOrder_ok _ [.rp [ci on] 0] (.inr ⟨on, rfl⟩) (fun _ _ _ _ b _ _ _ _ _ => decide (on < b)) (fun _ _ _ _ _ _ _ _ _ _ => due1_ok_ _ _ _ _ _ _ _ _ _ _ on) (h := by show l_n ≤ _; omega) ..) ?_
  intro i hi
  cbv
  generalize hf : (fun j => (⟨l_id j, l_fr j, l_to j, l_am j, l_day j, l_ev j, l_an j, l_un j, l_tr j, l_tx j⟩ : Order)) = f at hv
  have hlist : Sl.list ⟨l_n, f⟩ = (List.range l_n).map f := rfl
  have hkk : ((Sl.list ⟨l_n, f⟩).filter fun d => decide (d.day ≤ on)) = kept (fun d => decide (d.day ≤ on)) f l_n := rfl
  rw [hkk] at hv
  rcases idx_spec (fun j => decide (on < l_day j)) l_n 0 with ⟨h1, h2⟩ | ⟨k, _, hk1, h1, h2, h3⟩
  · have hi1 : i = -1 := hi.trans h1
    have hall := kept_all (fun d : Order => decide (d.day ≤ on)) f l_n (fun m hm => by have := h2 m (by omega) (by omega); rw [← hf]; simp at this ⊢; exact this)
    subst hi1
    refine And.intro (fun _ => ?_) (fun e => ?_) <;> cbv
    · subst hA hR hv
      refine Le.row_sl ?_ ?_
      · rw [hall]; simp [Rx.len, Sl.of]
      · intro j hj
        have hj : j < l_n := hj
        rw [hall]
        simp [Rx.get, Sl.of, hj, ← hf]
    · subst hA; simp [Ar.std] at e
  · have hik : i = (k : Int) := hi.trans h1
    subst hik
    refine And.intro (fun e => ?_) (fun _ => ?_) <;> cbv
    · subst hA; simp [Ar.std] at e
    · refine awp_for (fun z : Nat × Nat × (Nat → Order) => Thin (fun d => decide (d.day ≤ on)) f z.2.2 l_n z.1 z.2.1) (fun z => l_n - z.2.1) (fun z => [(5, di (A.int z.1)), (6, di (A.int z.2.1))])
        (fun z => [(1, .row 48 10 (.of l_n fun m => [vi (z.2.2 m).id, vi (z.2.2 m).fr, vi (z.2.2 m).to, vi (z.2.2 m).am, vi (z.2.2 m).day, vi (z.2.2 m).ev, vi (z.2.2 m).an, vi (z.2.2 m).un, vi (z.2.2 m).tr, .string (z.2.2 m).tx])), (0, .fbx [ci on])]) (k, k + 1, f) (Thin.start (by omega) (by rw [← hf]; simpa using h2) (fun m hm => by have := h3 m (by omega) hm; rw [← hf]; simp at this ⊢; exact this)) (by cbv) ?_ ?_
      · subst hA
        refine sim_eq ?_
        simp [forget, keepFr, dropMem, updFr, Ar.std, keepOf, ← hf]
        exact wrap_id (by omega) (by omega)
      · rintro ⟨a, b, c⟩ ht
        cbv
        repeat' (first | (refine And.intro (fun _ => ?_) (fun _ => ?_) <;> cbv) | (refine call_c hR (due1_ok_ _ _ _ _ _ _ _ _ _ _ _) ?_; intro _ _; cbv) | (refine And.intro ?_ ?_; rotate_left; cbv) | (intro (_ : Bool) _; cbv))
        all_goals subst hA hR hv
        all_goals dsimp only [Ar.std] at *
        all_goals have hbt : c b = f b := ht.tail b (Nat.le_refl _)
        all_goals have hab : a < b := ht.lt
        all_goals have hbn : b ≤ l_n := ht.le
        · have hj : b < l_n := by simp_all
          have hp : decide ((f b).day ≤ on) = true := by simp_all
          refine loop_nxS (a + 1, b + 1, fun m => if m = a then f b else c m) (ht.keep hj hp) (by simp; omega) ⟨?_, ?_, rfl, rfl⟩
          · simp [forget, keepFr, updFr]
            exact ⟨(wrap_id (by omega) (by omega)).symm, (wrap_id (by omega) (by omega)).symm⟩
          · refine ⟨rfl, ⟨rfl, rfl, ?_⟩, rfl, rfl, trivial⟩
            simp only [Int.toNat_natCast]
            rw [set_of _ _ _ _ (by omega) (by simp)]
            simp only [Rx.list]
            apply List.map_congr_left
            intro m hm
            by_cases e : m = a <;> simp [e, hbt]
        · exact ⟨by omega, by omega⟩
        · have hj : b < l_n := by simp_all
          have hp : decide ((f b).day ≤ on) = false := by simp_all
          refine loop_nx (a, b + 1, c) (ht.drop hj hp) (by simp; omega) ?_
          simp [forget, keepFr, dropMem, updFr]
          exact wrap_id (by omega) (by omega)
        · exact ⟨by omega, by simp_all⟩
        · have : b = l_n := by simp_all; omega
          subst this
          refine Le.sl ?_ ?_
          · simp [Sl.of, ht.len]
          · intro m hm
            simp only [Int.toNat_natCast] at hm
            have := ht.head m (by simpa using hm)
            simp [Sl.of, hm, List.getD, this]
        · simp; omega
        · exact ⟨by omega, by omega⟩
end Go.Proofs.Ytoocihhnlhehlaa
