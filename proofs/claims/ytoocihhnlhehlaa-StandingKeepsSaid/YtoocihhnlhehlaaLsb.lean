/- Standing orders: the lists, of the program. -/
import Derived.Test.YtoocihhnlhehlaaLsa
import Derived.Test.YtoocihhnlhehlaaDlu
namespace Go.Proofs.Ytoocihhnlhehlaa
open Go Go.Proofs.Ytoocihhnlhehlaa.Den
set_option linter.unusedSimpArgs false
set_option linter.unusedVariables false
set_option maxRecDepth 100000
def envE (A : Ar) (R : Nat → List D → D → Prop) : Env := { calls := fun _ _ => none, does := R, eats := fun f => if f = 72 then some (delH A) else none }
theorem envE_ok : EnvOK Try.prog (envE Ar.std (Does Try.prog)) where
  ok := { calls := fun f args p d h => (by cases h), eats := fun f h h' e sz xs rest p ys hh hp => (by
            unfold envE at h'
            simp only at h'
            split at h'
            · rename_i e'
              subst e'
              injection h' with h'
              subst h'
              exact del_eats e sz xs rest p ys hh hp
            · cases h'), does := fun f args d h => h }
  inl := fun f I h => by cases h
theorem Con_ea {f : Nat} {fn : Func} {c : Code} {rs : List ResultVar} {n : Nat} (h1 : Try.prog.funcs[f]? = some fn) (h2 : (fn.name == "runtime.NumGoroutine") = false) (h3 : fn.body = some c) (h4 : fn.results.toList = rs) (h5 : fn.ntmps = n) (h6 : drawsOk c = true)
    {args : List D} {α : Type} {mk : α → D} {v : α} (h : ∀ A R v', A = Ar.std → R = Does Try.prog → v' = v → awp A T (envE A R) c ⟨args ++ List.replicate (n - args.length) (.c .any), [], 0, []⟩ (Fin T rs (mk v'))) : Con Try.prog f args mk v :=
  Does_of mixed tabOk envE_ok h1 h2 h3 h4 h5 h6 (fun _ _ h => fin_ends h) (h _ _ _ rfl rfl rfl)
theorem ixOrder_ok (g : Nat) (caps : List C) (hc : caps = [] ∨ ∃ on, caps = [.rp [ci on] 0]) (p : Int → Int → Int → Int → Int → Int → Int → Int → Int → ByteArray → Bool) (hp : ∀ (d_id d_fr d_to d_am d_day d_ev d_an d_un d_tr : Int) (d_tx : ByteArray), Con Try.prog g (.agg [.v (.int .i64 (d_id)), .v (.int .i64 (d_fr)), .v (.int .i64 (d_to)), .v (.int .i64 (d_am)), .v (.int .i64 (d_day)), .v (.int .i64 (d_ev)), .v (.int .i64 (d_an)), .v (.int .i64 (d_un)), .v (.int .i64 (d_tr)), .v (.string (d_tx))] :: caps.map D.c) db (p d_id d_fr d_to d_am d_day d_ev d_an d_un d_tr d_tx)) (l_n : Nat) (l_id l_fr l_to l_am l_day l_ev l_an l_un l_tr : Nat → Int) (l_tx : Nat → ByteArray) (h : l_n ≤ 9223372036854775807) :
    Con Try.prog 92 [.c (.sl 10 l_n (fun j => [.int .i64 (l_id j), .int .i64 (l_fr j), .int .i64 (l_to j), .int .i64 (l_am j), .int .i64 (l_day j), .int .i64 (l_ev j), .int .i64 (l_an j), .int .i64 (l_un j), .int .i64 (l_tr j), .string (l_tx j)])), .c (.fn g caps)] di (idx (fun j => p (l_id j) (l_fr j) (l_to j) (l_am j) (l_day j) (l_ev j) (l_an j) (l_un j) (l_tr j) (l_tx j)) l_n 0) := by
  have key : ∀ (q : Nat → Bool), q = (fun j => p (l_id j) (l_fr j) (l_to j) (l_am j) (l_day j) (l_ev j) (l_an j) (l_un j) (l_tr j) (l_tx j)) → Con Try.prog 92 [.c (.sl 10 l_n (fun j => [.int .i64 (l_id j), .int .i64 (l_fr j), .int .i64 (l_to j), .int .i64 (l_am j), .int .i64 (l_day j), .int .i64 (l_ev j), .int .i64 (l_an j), .int .i64 (l_un j), .int .i64 (l_tr j), .string (l_tx j)])), .c (.fn g caps)] di (idx q l_n 0) := by
    intro q hq
    rcases hc with rfl | ⟨on, rfl⟩
    all_goals
      refine Con_of mixed tabOk Try.func92 (by decide) rfl rfl rfl (by decide) ?_; intro A R v' hA hR hv
      cbv
      refine awp_for (fun k : Nat => k ≤ l_n ∧ ∀ j, j < k → q j = false) (fun k => l_n - k) (fun k => [(8, di (A.int k))]) (fun _ => []) 0 ⟨Nat.zero_le _, fun j h => absurd h (Nat.not_lt_zero j)⟩ (by cbv) ?_ ?_
      · subst hA; exact sim_eq rfl
      · rintro k ⟨hk, hk2⟩
        cbv
        repeat' (first | (refine And.intro (fun _ => ?_) (fun _ => ?_) <;> cbv) | (refine call_c hR (hp _ _ _ _ _ _ _ _ _ _) ?_; intro _ _; cbv) | (refine And.intro ?_ ?_; rotate_left; cbv) | (intro (_ : Bool) _; cbv))
        all_goals subst hA hR hv
        all_goals dsimp only [Ar.std] at *
        · exact Le.vi (idx_at q l_n k (by simp_all) (by simp_all) hk2)
        · have e : q k = false := by simp_all
          have hlt : k < l_n := by simp_all
          refine loop_nx (k + 1) ⟨by omega, fun j hj => ?_⟩ (by omega) ?_
          · rcases Nat.lt_or_ge j k with h | h
            · exact hk2 j h
            · have : j = k := by omega
              subst this; exact e
          · simp [forget, keepFr, dropMem, updFr]
            exact wrap_id (by omega) (by omega)
        · exact ⟨by omega, by simp_all⟩
        · have : k = l_n := by simp_all; omega
          subst this
          exact Le.vi (idx_no q k hk2)
  exact key _ rfl
theorem cloneOrder_ok (l_n : Nat) (l_id l_fr l_to l_am l_day l_ev l_an l_un l_tr : Nat → Int) (l_tx : Nat → ByteArray) (h : l_n * 88 ≤ 140737488355328) : Con Try.prog 70 [.c (.sl 10 l_n (fun j => [.int .i64 (l_id j), .int .i64 (l_fr j), .int .i64 (l_to j), .int .i64 (l_am j), .int .i64 (l_day j), .int .i64 (l_ev j), .int .i64 (l_an j), .int .i64 (l_un j), .int .i64 (l_tr j), .string (l_tx j)]))] (fun _ : Unit => .rowv 48 10 (.of l_n fun j => [.int .i64 (l_id j), .int .i64 (l_fr j), .int .i64 (l_to j), .int .i64 (l_am j), .int .i64 (l_day j), .int .i64 (l_ev j), .int .i64 (l_an j), .int .i64 (l_un j), .int .i64 (l_tr j), .string (l_tx j)])) () := by
  refine Con_of mixed tabOk Try.func70 (by decide) rfl rfl rfl (by decide) ?_; intro A R v' hA hR hv
  cbv
  repeat' (first | (refine And.intro (fun _ => ?_) (fun _ => ?_) <;> cbv) | (refine And.intro ?_ ?_; rotate_left; cbv) | (intro (_ : Bool) _; cbv))
  all_goals subst hA hR hv
  all_goals try dsimp only [Ar.std] at *
  · rename_i t ht h1
    exact Le.nil (by simp [Rx.list, ht h1])
  · exact Le.row (by simp [Rx.list])
  · exact ⟨by omega, by omega⟩
theorem index1_ok (d_id d_fr d_to d_am d_day d_ev d_an d_un d_tr : Int) (d_tx : ByteArray) (id : Int) : Con Try.prog 93 [.agg [.v (.int .i64 (d_id)), .v (.int .i64 (d_fr)), .v (.int .i64 (d_to)), .v (.int .i64 (d_am)), .v (.int .i64 (d_day)), .v (.int .i64 (d_ev)), .v (.int .i64 (d_an)), .v (.int .i64 (d_un)), .v (.int .i64 (d_tr)), .v (.string (d_tx))], .c (.rp [ci id] 0)] db (d_id == id) := by
  refine Con_of mixed tabOk Try.func93 (by decide) rfl rfl rfl (by decide) ?_; intro A R v' hA hR hv
  cbv
  repeat' (first | (refine And.intro (fun _ => ?_) (fun _ => ?_) <;> cbv) | (refine And.intro ?_ ?_; rotate_left; cbv) | (intro (_ : Bool) _; cbv))
  all_goals subst hA hR hv
  all_goals dsimp only [Ar.std] at *
  all_goals first | exact Le.vb rfl | exact Le.bb rfl
theorem oindex_ok (l_n : Nat) (l_id l_fr l_to l_am l_day l_ev l_an l_un l_tr : Nat → Int) (l_tx : Nat → ByteArray) (id : Int) (h : l_n ≤ 9223372036854775807) : Con Try.prog 71 [.c (.sl 10 l_n (fun j => [.int .i64 (l_id j), .int .i64 (l_fr j), .int .i64 (l_to j), .int .i64 (l_am j), .int .i64 (l_day j), .int .i64 (l_ev j), .int .i64 (l_an j), .int .i64 (l_un j), .int .i64 (l_tr j), .string (l_tx j)])), di id] di (ixO ⟨l_n, fun j => ⟨l_id j, l_fr j, l_to j, l_am j, l_day j, l_ev j, l_an j, l_un j, l_tr j, l_tx j⟩⟩ id) := by
  refine Con_of mixed tabOk Try.func71 (by decide) rfl rfl rfl (by decide) ?_; intro A R v' hA hR hv
  cbv
  refine call_c hR (ixOrder_ok _ _ (.inr ⟨_, rfl⟩) (fun a _ _ _ _ _ _ _ _ _ => a == id) (fun a _ _ _ _ _ _ _ _ _ => index1_ok _ _ _ _ _ _ _ _ _ _ _) (h := h) ..) ?_
  intro x hx
  cbv
  exact Le.vi (by rw [hv, hx]; rfl)
theorem onil_le (e : Int) : Le (.tup [.c (.v (.slice none 0 0)), di e]) (.tup [.c (.sl 10 noOrders.n fun j => [.int .i64 ((noOrders.at' j).id), .int .i64 ((noOrders.at' j).fr), .int .i64 ((noOrders.at' j).to), .int .i64 ((noOrders.at' j).am), .int .i64 ((noOrders.at' j).day), .int .i64 ((noOrders.at' j).ev), .int .i64 ((noOrders.at' j).an), .int .i64 ((noOrders.at' j).un), .int .i64 ((noOrders.at' j).tr), .string ((noOrders.at' j).tx)]), di e]) :=
  Le.tup (.cons (.c (CLe.nil rfl)) (.cons (.refl _) .nil))
theorem ix_in {l : Sl Order} {id : Int} (h : ¬ ixO l id < 0) : 0 ≤ ixO l id ∧ ixO l id < l.n := by
  rcases idx_spec (fun j => (l.at' j).id == id) l.n 0 with ⟨h1, _⟩ | ⟨i, _, h1, h2, _, _⟩
  · exact absurd h1 (by intro e; exact h (by show idx _ _ _ < 0; omega))
  · have : ixO l id = (i : Int) := h2
    omega
theorem cut_le {A : Ar} (hA : A = Ar.std) {e : Nat} (l d : Sl Order) (i : Int) (hd : d = delO l i.toNat) (i1 : 0 ≤ i) (i2 : i < l.n) (hb : l.n ≤ 9223372036854775807) :
    RLe (.rowv e 10 (.cat (.of (A.nat i) (fun j => [.int .i64 ((l.at' j).id), .int .i64 ((l.at' j).fr), .int .i64 ((l.at' j).to), .int .i64 ((l.at' j).am), .int .i64 ((l.at' j).day), .int .i64 ((l.at' j).ev), .int .i64 ((l.at' j).an), .int .i64 ((l.at' j).un), .int .i64 ((l.at' j).tr), .string ((l.at' j).tx)])) (.of (A.nsub l.n (A.nat (A.add .i64 i 1))) (A.from_ (fun j => [.int .i64 ((l.at' j).id), .int .i64 ((l.at' j).fr), .int .i64 ((l.at' j).to), .int .i64 ((l.at' j).am), .int .i64 ((l.at' j).day), .int .i64 ((l.at' j).ev), .int .i64 ((l.at' j).an), .int .i64 ((l.at' j).un), .int .i64 ((l.at' j).tr), .string ((l.at' j).tx)]) (A.nat (A.add .i64 i 1)))))) (.c (.sl 10 d.n fun j => [.int .i64 ((d.at' j).id), .int .i64 ((d.at' j).fr), .int .i64 ((d.at' j).to), .int .i64 ((d.at' j).am), .int .i64 ((d.at' j).day), .int .i64 ((d.at' j).ev), .int .i64 ((d.at' j).an), .int .i64 ((d.at' j).un), .int .i64 ((d.at' j).tr), .string ((d.at' j).tx)])) := by
  subst hA hd
  have q1 : Ar.std.nat (Ar.std.add .i64 i 1) = i.toNat + 1 := by
    show (IntKind.i64.wrap (i + 1)).toNat = _
    rw [wrap_id (by omega) (by omega)]; omega
  have q2 : Ar.std.nat i = i.toNat := rfl
  rw [q1, q2]
  refine RLe.row_sl ?_ fun j hj => ?_
  · show i.toNat + (l.n - (i.toNat + 1)) = l.n - 1
    omega
  · simp only [Rx.get, Rx.len]
    by_cases hj2 : j < i.toNat
    · simp only [hj2, if_true, delO]
    · simp only [hj2, if_false, delO, Ar.std]
      rw [show j - i.toNat + (i.toNat + 1) = j + 1 by omega]
theorem tries_le {A : Ar} (hA : A = Ar.std) {e : Nat} (l d : Sl Order) (i : Int) (hd : d = setO l i.toNat { l.at' i.toNat with tr := w64 ((l.at' i.toNat).tr + 1) }) :
    RLe (.rowv e 10 (.set (.of l.n (fun j => [.int .i64 ((l.at' j).id), .int .i64 ((l.at' j).fr), .int .i64 ((l.at' j).to), .int .i64 ((l.at' j).am), .int .i64 ((l.at' j).day), .int .i64 ((l.at' j).ev), .int .i64 ((l.at' j).an), .int .i64 ((l.at' j).un), .int .i64 ((l.at' j).tr), .string ((l.at' j).tx)])) (A.nat i) 8 [vi (A.add .i64 (l.at' (A.nat i)).tr 1)])) (.c (.sl 10 d.n fun j => [.int .i64 ((d.at' j).id), .int .i64 ((d.at' j).fr), .int .i64 ((d.at' j).to), .int .i64 ((d.at' j).am), .int .i64 ((d.at' j).day), .int .i64 ((d.at' j).ev), .int .i64 ((d.at' j).an), .int .i64 ((d.at' j).un), .int .i64 ((d.at' j).tr), .string ((d.at' j).tx)])) := by
  subst hA hd
  refine RLe.row_sl rfl fun j hj => ?_
  simp only [Rx.get, setO]
  by_cases hj2 : j = i.toNat
  · subst hj2
    simp [Ar.std]
  · simp [Ar.std, hj2]
theorem moved_le {A : Ar} (hA : A = Ar.std) {e : Nat} (l d : Sl Order) (i x : Int) (hd : d = setO l i.toNat { l.at' i.toNat with tr := 0, day := x }) :
    RLe (.rowv e 10 (.set (.set (.of l.n (fun j => [.int .i64 ((l.at' j).id), .int .i64 ((l.at' j).fr), .int .i64 ((l.at' j).to), .int .i64 ((l.at' j).am), .int .i64 ((l.at' j).day), .int .i64 ((l.at' j).ev), .int .i64 ((l.at' j).an), .int .i64 ((l.at' j).un), .int .i64 ((l.at' j).tr), .string ((l.at' j).tx)])) (A.nat i) 8 [vi 0]) (A.nat i) 4 [vi x])) (.c (.sl 10 d.n fun j => [.int .i64 ((d.at' j).id), .int .i64 ((d.at' j).fr), .int .i64 ((d.at' j).to), .int .i64 ((d.at' j).am), .int .i64 ((d.at' j).day), .int .i64 ((d.at' j).ev), .int .i64 ((d.at' j).an), .int .i64 ((d.at' j).un), .int .i64 ((d.at' j).tr), .string ((d.at' j).tx)])) := by
  subst hA hd
  refine RLe.row_sl rfl fun j hj => ?_
  simp only [Rx.get, setO]
  by_cases hj2 : j = i.toNat
  · subst hj2
    simp [Ar.std]
  · simp [Ar.std, hj2]
theorem cancel_ok (l_n : Nat) (l_id l_fr l_to l_am l_day l_ev l_an l_un l_tr : Nat → Int) (l_tx : Nat → ByteArray) (id : Int) (h : l_n * 88 ≤ 140737488355328) : Con Try.prog 35 [.c (.sl 10 l_n (fun j => [.int .i64 (l_id j), .int .i64 (l_fr j), .int .i64 (l_to j), .int .i64 (l_am j), .int .i64 (l_day j), .int .i64 (l_ev j), .int .i64 (l_an j), .int .i64 (l_un j), .int .i64 (l_tr j), .string (l_tx j)])), di id] (fun x : Sl Order × Int => .tup [.c (.sl 10 x.1.n fun j => [.int .i64 ((x.1.at' j).id), .int .i64 ((x.1.at' j).fr), .int .i64 ((x.1.at' j).to), .int .i64 ((x.1.at' j).am), .int .i64 ((x.1.at' j).day), .int .i64 ((x.1.at' j).ev), .int .i64 ((x.1.at' j).an), .int .i64 ((x.1.at' j).un), .int .i64 ((x.1.at' j).tr), .string ((x.1.at' j).tx)]), di x.2]) (cancelS ⟨l_n, fun j => ⟨l_id j, l_fr j, l_to j, l_am j, l_day j, l_ev j, l_an j, l_un j, l_tr j, l_tx j⟩⟩ id) := by
  refine Con_ea Try.func35 (by decide) rfl rfl rfl (by decide) ?_; intro A R v' hA hR hv
  cbv
  refine call_c hR (oindex_ok (h := by omega) ..) ?_
  intro i hi
  cbv
  refine And.intro (fun e => ?_) (fun e => ?_) <;> cbv
  · have e : i < 0 := by subst hA; simpa [Ar.std] using e
    rw [hv, cancelS, if_pos (by rw [← hi]; exact e)]
    exact onil_le 11
  · have e : ¬ i < 0 := by subst hA; simpa [Ar.std] using e
    have hin := ix_in (l := ⟨l_n, fun j => ⟨l_id j, l_fr j, l_to j, l_am j, l_day j, l_ev j, l_an j, l_un j, l_tr j, l_tx j⟩⟩) (id := id) (by rw [← hi]; exact e)
    rw [← hi] at hin
    obtain ⟨i1, i2⟩ := hin
    have i2 : i < (l_n : Int) := i2
    refine call_c hR (cloneOrder_ok (h := h) ..) ?_
    rintro _ _
    cbv
    rw [hv, cancelS, if_neg (by rw [← hi]; exact e), ← hi]
    have q1 : A.add .i64 i 1 = i + 1 := by have i2 : i < (l_n : Int) := i2; subst hA; exact wrap_id (by omega) (by omega)
    have i2 : i < (l_n : Int) := i2
    refine And.intro ⟨?_, ?_, fun m _ => ?_⟩ ?_
    · show A.bnd2 i (A.add .i64 i 1) l_n
      rw [q1]; subst hA
      exact ⟨i1, by omega, by show i + 1 ≤ (l_n : Int); omega⟩
    · show A.lt i (A.add .i64 i 1) = true
      rw [q1]; subst hA
      exact decide_eq_true (by omega)
    · subst hA; rfl
    · exact Le.tup (.cons (cut_le hA ⟨l_n, fun j => ⟨l_id j, l_fr j, l_to j, l_am j, l_day j, l_ev j, l_an j, l_un j, l_tr j, l_tx j⟩⟩ _ i rfl i1 i2 (by show l_n ≤ _; omega)) (.cons (.refl _) .nil))
theorem done_del {α : Type} {v X Y : α} {x nx : Int × Int} {A : Ar} (hA : A = Ar.std) (hv : v = if (nx.2 != 0) = true then X else Y) (hx : x = nx) (e : A.ne x.2 0 = true) : v = X := by
  subst hA hx
  have e : (x.2 != 0) = true := e
  rw [hv, if_pos e]
theorem done_set {α : Type} {v X Y : α} {x nx : Int × Int} {A : Ar} (hA : A = Ar.std) (hv : v = if (nx.2 != 0) = true then X else Y) (hx : x = nx) (e : A.ne x.2 0 = false) : v = Y := by
  subst hA hx
  have e : (x.2 != 0) = false := e
  rw [hv, if_neg (by rw [e]; exact Bool.false_ne_true)]
theorem done_ok (l_n : Nat) (l_id l_fr l_to l_am l_day l_ev l_an l_un l_tr : Nat → Int) (l_tx : Nat → ByteArray) (id day : Int) (ok : Bool) (c_na : ByteArray) (c_we_n : Nat) (c_we : Nat → Int) (c_ho_n : Nat) (c_ho : Nat → Int) (h : l_n * 88 ≤ 140737488355328) (ht : ∀ j, j < l_n → (l_tx j).size ≤ 9223372036854775807) (h1 : c_we_n ≤ 9223372036854775807) (h2 : c_ho_n ≤ 9223372036854775807) :
    Con Try.prog 36 [.c (.sl 10 l_n (fun j => [.int .i64 (l_id j), .int .i64 (l_fr j), .int .i64 (l_to j), .int .i64 (l_am j), .int .i64 (l_day j), .int .i64 (l_ev j), .int .i64 (l_an j), .int .i64 (l_un j), .int .i64 (l_tr j), .string (l_tx j)])), di id, di day, db ok, .agg [.v (.string (c_na)), .sl 1 c_we_n (fun j => [.int .i64 (c_we j)]), .sl 1 c_ho_n (fun j => [.int .i64 (c_ho j)])]] (fun x : Sl Order × Int => .tup [.c (.sl 10 x.1.n fun j => [.int .i64 ((x.1.at' j).id), .int .i64 ((x.1.at' j).fr), .int .i64 ((x.1.at' j).to), .int .i64 ((x.1.at' j).am), .int .i64 ((x.1.at' j).day), .int .i64 ((x.1.at' j).ev), .int .i64 ((x.1.at' j).an), .int .i64 ((x.1.at' j).un), .int .i64 ((x.1.at' j).tr), .string ((x.1.at' j).tx)]), di x.2]) (doneS ⟨c_we_n, c_we⟩ ⟨c_ho_n, c_ho⟩ ⟨l_n, fun j => ⟨l_id j, l_fr j, l_to j, l_am j, l_day j, l_ev j, l_an j, l_un j, l_tr j, l_tx j⟩⟩ id day ok) := by
  refine Con_ea Try.func36 (by decide) rfl rfl rfl (by decide) ?_; intro A R v' hA hR hv
  cbv
  refine call_c hR (oindex_ok (h := by omega) ..) ?_
  intro i hi
  cbv
  refine And.intro (fun e => ?_) (fun e => ?_) <;> cbv
  · have e : i < 0 := by subst hA; simpa [Ar.std] using e
    rw [hv, doneS, if_pos (by rw [← hi]; exact e)]
    exact onil_le 11
  have e : ¬ i < 0 := by subst hA; simpa [Ar.std] using e
  have hin := ix_in (l := ⟨l_n, fun j => ⟨l_id j, l_fr j, l_to j, l_am j, l_day j, l_ev j, l_an j, l_un j, l_tr j, l_tx j⟩⟩) (id := id) (by rw [← hi]; exact e)
  rw [← hi] at hin
  obtain ⟨i1, i2⟩ := hin
  have i2 : i < (l_n : Int) := i2
  have hni : A.nat i = i.toNat := by subst hA; rfl
  have hb : A.inb i l_n := by subst hA; exact ⟨i1, i2⟩
  rw [doneS, if_neg (by rw [← hi]; exact e), ← hi] at hv
  refine And.intro hb ?_
  refine And.intro (fun e => ?_) (fun e => ?_) <;> cbv
  · have e : day < l_day i.toNat := by rw [← hni]; subst hA; simpa [Ar.std] using e
    rw [hv, if_pos (by simpa using e)]
    exact onil_le 17
  have e : ¬ day < l_day i.toNat := by rw [← hni]; subst hA; simpa [Ar.std] using e
  rw [if_neg (by simpa using e)] at hv
  clear e
  have i2 : i < (l_n : Int) := i2
  have hni' : i.toNat < l_n := by omega
  have htx : (l_tx (A.nat i)).size ≤ 9223372036854775807 := ht _ (by rw [hni]; exact hni')
  have p1 : A.bnd2 i (A.add .i64 i 1) l_n ∧ A.lt i (A.add .i64 i 1) = true := by
    have q1 : A.add .i64 i 1 = i + 1 := by subst hA; exact wrap_id (by omega) (by omega)
    rw [q1]; subst hA
    exact ⟨⟨i1, by omega, by show i + 1 ≤ (l_n : Int); omega⟩, decide_eq_true (by omega)⟩
  refine call_c hR (cloneOrder_ok (h := h) ..) ?_
  rintro _ _
  cbv
  cases hok : (!ok && decide (l_tr i.toNat < 2)) with
  | true =>
    have hok2 : ok = false ∧ l_tr i.toNat < 2 := by simpa using hok
    rw [if_pos hok] at hv
    repeat' (first | (refine And.intro (fun _ => ?_) (fun _ => ?_) <;> cbv) | (refine call_c hR (nextO_ok (h := htx) (h1 := h1) (h2 := h2) ..) ?_; intro _ _; cbv) | (refine And.intro ?_ ?_; rotate_left; cbv) | (intro (_ : Bool) _; cbv))
    all_goals first
      | exact hb
      | exact p1.1
      | exact p1.2
      | (exfalso; obtain ⟨g1, g2⟩ := hok2; subst hA; simp_all [Ar.std] <;> omega)
      | (rw [hv]; exact Le.tup (.cons (tries_le hA ⟨l_n, fun j => ⟨l_id j, l_fr j, l_to j, l_am j, l_day j, l_ev j, l_an j, l_un j, l_tr j, l_tx j⟩⟩ _ i rfl) (.cons (.refl _) .nil)))
      | skip
  | false =>
    have hok2 : ok = true ∨ 2 ≤ l_tr i.toNat := by
      cases ok with
      | true => exact .inl rfl
      | false => exact .inr (by simpa using hok)
    rw [if_neg (by rw [hok]; exact Bool.false_ne_true)] at hv
    repeat' (first | (refine And.intro (fun _ => ?_) (fun _ => ?_) <;> cbv) | (refine call_c hR (nextO_ok (h := htx) (h1 := h1) (h2 := h2) ..) ?_; intro _ _; cbv) | (refine And.intro ?_ ?_; rotate_left; cbv) | (intro (_ : Bool) _; cbv))
    all_goals first
      | exact hb
      | exact p1.1
      | exact p1.2
      | (intro m _; subst hA; rfl)
      | (rename_i x hx e
         have hx2 : x = nextO ⟨c_we_n, c_we⟩ ⟨c_ho_n, c_ho⟩ ⟨l_id i.toNat, l_fr i.toNat, l_to i.toNat, l_am i.toNat, l_day i.toNat, l_ev i.toNat, l_an i.toNat, l_un i.toNat, l_tr i.toNat, l_tx i.toNat⟩ := by rw [hx]; subst hA; rfl
         have hv2 := done_del hA hv hx2 e
         rw [hv2]
         exact Le.tup (.cons (cut_le hA ⟨l_n, fun j => ⟨l_id j, l_fr j, l_to j, l_am j, l_day j, l_ev j, l_an j, l_un j, l_tr j, l_tx j⟩⟩ _ i rfl i1 i2 (by show l_n ≤ _; omega)) (.cons (.refl _) .nil)))
      | (rename_i x hx e
         have hx2 : x = nextO ⟨c_we_n, c_we⟩ ⟨c_ho_n, c_ho⟩ ⟨l_id i.toNat, l_fr i.toNat, l_to i.toNat, l_am i.toNat, l_day i.toNat, l_ev i.toNat, l_an i.toNat, l_un i.toNat, l_tr i.toNat, l_tx i.toNat⟩ := by rw [hx]; subst hA; rfl
         have hv2 := done_set hA hv hx2 e
         rw [hv2]
         exact Le.tup (.cons (moved_le hA ⟨l_n, fun j => ⟨l_id j, l_fr j, l_to j, l_am j, l_day j, l_ev j, l_an j, l_un j, l_tr j, l_tx j⟩⟩ _ i x.1 (by rw [hx2]) ) (.cons (.refl _) .nil)))
      | (exfalso
         rename_i e1 e2
         have g1 : (!ok) = true := by subst hA; exact e1
         have g2 : decide (l_tr i.toNat < 2) = true := by rw [← hni]; subst hA; exact e2
         rw [g1, g2] at hok
         cases hok)
theorem due1_ok_ (d_id d_fr d_to d_am d_day d_ev d_an d_un d_tr : Int) (d_tx : ByteArray) (on : Int) : Con Try.prog 76 [.agg [.v (.int .i64 (d_id)), .v (.int .i64 (d_fr)), .v (.int .i64 (d_to)), .v (.int .i64 (d_am)), .v (.int .i64 (d_day)), .v (.int .i64 (d_ev)), .v (.int .i64 (d_an)), .v (.int .i64 (d_un)), .v (.int .i64 (d_tr)), .v (.string (d_tx))], .c (.rp [ci on] 0)] db (decide (on < d_day)) := by
  refine Con_of mixed tabOk Try.func76 (by decide) rfl rfl rfl (by decide) ?_; intro A R v' hA hR hv
  cbv
  repeat' (first | (refine And.intro (fun _ => ?_) (fun _ => ?_) <;> cbv) | (refine And.intro ?_ ?_; rotate_left; cbv) | (intro (_ : Bool) _; cbv))
  all_goals subst hA hR hv
  all_goals dsimp only [Ar.std] at *
  all_goals first | exact Le.vb (by simp_all <;> omega) | exact Le.bb (by simp_all <;> omega)
theorem append_le {A : Ar} (hA : A = Ar.std) {e : Nat} (l d : Sl Order) (o_id o_fr o_to o_am o_day o_ev o_an o_un o_tr : Int) (o_tx : ByteArray) (hd : d = pushO l ⟨o_id, o_fr, o_to, o_am, o_day, o_ev, o_an, o_un, o_tr, o_tx⟩) :
    RLe (.rowv e 10 (.cat (.of l.n (fun j => [.int .i64 ((l.at' j).id), .int .i64 ((l.at' j).fr), .int .i64 ((l.at' j).to), .int .i64 ((l.at' j).am), .int .i64 ((l.at' j).day), .int .i64 ((l.at' j).ev), .int .i64 ((l.at' j).an), .int .i64 ((l.at' j).un), .int .i64 ((l.at' j).tr), .string ((l.at' j).tx)])) (.lit [[vi o_id, vi o_fr, vi o_to, vi o_am, vi o_day, vi o_ev, vi o_an, vi o_un, vi o_tr, .string o_tx]]))) (.c (.sl 10 d.n fun j => [.int .i64 ((d.at' j).id), .int .i64 ((d.at' j).fr), .int .i64 ((d.at' j).to), .int .i64 ((d.at' j).am), .int .i64 ((d.at' j).day), .int .i64 ((d.at' j).ev), .int .i64 ((d.at' j).an), .int .i64 ((d.at' j).un), .int .i64 ((d.at' j).tr), .string ((d.at' j).tx)])) := by
  subst hA hd
  refine RLe.row_sl rfl fun j hj => ?_
  simp only [Rx.get, Rx.len, pushO, List.length_cons, List.length_nil] at hj ⊢
  by_cases hj2 : j < l.n
  · simp [hj2]
  · simp only [hj2, if_false]
    rw [show j - l.n = 0 by omega]; rfl
theorem add_ok (l_n : Nat) (l_id l_fr l_to l_am l_day l_ev l_an l_un l_tr : Nat → Int) (l_tx : Nat → ByteArray) (o_id o_fr o_to o_am o_day o_ev o_an o_un o_tr : Int) (o_tx : ByteArray) (h : l_n * 88 ≤ 140737488355000) (ht : o_tx.size ≤ 9223372036854775807) : Con Try.prog 34 [.c (.sl 10 l_n (fun j => [.int .i64 (l_id j), .int .i64 (l_fr j), .int .i64 (l_to j), .int .i64 (l_am j), .int .i64 (l_day j), .int .i64 (l_ev j), .int .i64 (l_an j), .int .i64 (l_un j), .int .i64 (l_tr j), .string (l_tx j)])), .agg [.v (.int .i64 (o_id)), .v (.int .i64 (o_fr)), .v (.int .i64 (o_to)), .v (.int .i64 (o_am)), .v (.int .i64 (o_day)), .v (.int .i64 (o_ev)), .v (.int .i64 (o_an)), .v (.int .i64 (o_un)), .v (.int .i64 (o_tr)), .v (.string (o_tx))]] (fun x : Sl Order × Int => .tup [.c (.sl 10 x.1.n fun j => [.int .i64 ((x.1.at' j).id), .int .i64 ((x.1.at' j).fr), .int .i64 ((x.1.at' j).to), .int .i64 ((x.1.at' j).am), .int .i64 ((x.1.at' j).day), .int .i64 ((x.1.at' j).ev), .int .i64 ((x.1.at' j).an), .int .i64 ((x.1.at' j).un), .int .i64 ((x.1.at' j).tr), .string ((x.1.at' j).tx)]), di x.2]) (addS ⟨l_n, fun j => ⟨l_id j, l_fr j, l_to j, l_am j, l_day j, l_ev j, l_an j, l_un j, l_tr j, l_tx j⟩⟩ ⟨o_id, o_fr, o_to, o_am, o_day, o_ev, o_an, o_un, o_tr, o_tx⟩) := by
  refine Con_hd [8] mixed tabOk (inl := fun _ _ _ => none) (fun f I h => by cases h) Try.func34 (by decide) rfl rfl rfl (by decide) ?_
  intro A R v' hA hR hv
  cbv
  have hn1 : 0 < l_n → A.inb (A.sub .i64 (A.int l_n) 1) l_n ∧ A.nat (A.sub .i64 (A.int l_n) 1) = l_n - 1 := by
    intro h0; subst hA
    show (0 ≤ IntKind.i64.wrap ((l_n : Int) - 1) ∧ IntKind.i64.wrap ((l_n : Int) - 1) < l_n) ∧ (IntKind.i64.wrap ((l_n : Int) - 1)).toNat = _
    rw [wrap_id (by omega) (by omega)]
    omega
  have hgt : A.gt (A.int l_n) 0 = decide ((l_n : Int) > 0) := by subst hA; rfl
  have hge : A.ge (A.int l_n) 64 = decide ((l_n : Int) ≥ 64) := by subst hA; rfl
  have hle : 0 < l_n → A.le o_id (l_id (A.nat (A.sub .i64 (A.int l_n) 1))) = decide (o_id ≤ l_id (l_n - 1)) := by
    intro h0; rw [(hn1 h0).2]; subst hA; rfl
  have hv : v' = if decide ((l_n : Int) > 0) && decide (o_id ≤ l_id (l_n - 1)) then (noOrders, 10) else if decide ((l_n : Int) ≥ 64) then (noOrders, 5) else if checkO ⟨o_id, o_fr, o_to, o_am, o_day, o_ev, o_an, o_un, o_tr, o_tx⟩ != 0 then (noOrders, checkO ⟨o_id, o_fr, o_to, o_am, o_day, o_ev, o_an, o_un, o_tr, o_tx⟩) else (pushO ⟨l_n, fun j => ⟨l_id j, l_fr j, l_to j, l_am j, l_day j, l_ev j, l_an j, l_un j, l_tr j, l_tx j⟩⟩ ⟨o_id, o_fr, o_to, o_am, o_day, o_ev, o_an, o_un, o_tr, o_tx⟩, 0) := hv
  repeat' (first | (refine And.intro (fun _ => ?_) (fun _ => ?_) <;> cbv) | (refine call_c hR (checkO_ok (h := ht) ..) ?_; intro _ _; cbv) | (refine And.intro ?_ ?_; rotate_left; cbv) | (intro (_ : Bool) _; cbv))
  all_goals first
    | (refine (hn1 ?_).1; rename_i e1; have e1 := hgt.symm.trans e1; simpa using e1)
    | (rename_i e1 e2
       have e1 := hgt.symm.trans e1
       have h0 : 0 < l_n := by simpa using e1
       have e2 := (hle h0).symm.trans e2
       rw [e1, e2] at hv
       rw [hv]
       exact onil_le 10)
    | (rename_i e1 e2 e3
       have e1 := hgt.symm.trans e1
       have h0 : 0 < l_n := by simpa using e1
       have e2 := (hle h0).symm.trans e2
       have e3 := hge.symm.trans e3
       rw [e1, e2, e3] at hv
       rw [hv]
       exact onil_le 5)
    | (rename_i e1 e3
       have e1 := hgt.symm.trans e1
       have e3 := hge.symm.trans e3
       rw [e1, e3] at hv
       rw [hv]
       exact onil_le 5)
    | (rename_i e1 e2 e3 x hx e4
       have e1 := hgt.symm.trans e1
       have h0 : 0 < l_n := by simpa using e1
       have e2 := (hle h0).symm.trans e2
       have e3 := hge.symm.trans e3
       have e4 : (x != 0) = true := by subst hA; exact e4
       rw [e1, e2, e3, ← hx, e4] at hv
       rw [hv]
       exact onil_le x)
    | (rename_i e1 e3 x hx e4
       have e1 := hgt.symm.trans e1
       have e3 := hge.symm.trans e3
       have e4 : (x != 0) = true := by subst hA; exact e4
       rw [e1, e3, ← hx, e4] at hv
       rw [hv]
       exact onil_le x)
    | (rename_i e1 e2 e3 x hx e4
       have e1 := hgt.symm.trans e1
       have h0 : 0 < l_n := by simpa using e1
       have e2 := (hle h0).symm.trans e2
       have e3 := hge.symm.trans e3
       have e4 : (x != 0) = false := by subst hA; exact e4
       rw [e1, e2, e3, ← hx, e4] at hv
       clear e1 e2 e3 hx e4)
    | (rename_i e1 e3 x hx e4
       have e1 := hgt.symm.trans e1
       have e3 := hge.symm.trans e3
       have e4 : (x != 0) = false := by subst hA; exact e4
       rw [e1, e3, ← hx, e4] at hv
       clear e1 e3 hx e4)
  all_goals
    refine hard_z [4, 5] 3 (fun _ : Bool => True) (fun b => match b with
      | true => ⟨updFr (List.replicate 37 (.c .any)) [(4, .c (.own 1)), (5, di 0)], [(2, .row 48 10 (.lit [[.int .i64 (o_id), .int .i64 (o_fr), .int .i64 (o_to), .int .i64 (o_am), .int .i64 (o_day), .int .i64 (o_ev), .int .i64 (o_an), .int .i64 (o_un), .int .i64 (o_tr), .string (o_tx)]])), (1, .row 48 10 (.cat (.of l_n fun j => [.int .i64 (l_id j), .int .i64 (l_fr j), .int .i64 (l_to j), .int .i64 (l_am j), .int .i64 (l_day j), .int .i64 (l_ev j), .int .i64 (l_an j), .int .i64 (l_un j), .int .i64 (l_tr j), .string (l_tx j)]) (.lit [[.int .i64 (o_id), .int .i64 (o_fr), .int .i64 (o_to), .int .i64 (o_am), .int .i64 (o_day), .int .i64 (o_ev), .int .i64 (o_an), .int .i64 (o_un), .int .i64 (o_tr), .string (o_tx)]]))), (0, .box 48 [.v (.int .i64 (o_id)), .v (.int .i64 (o_fr)), .v (.int .i64 (o_to)), .v (.int .i64 (o_am)), .v (.int .i64 (o_day)), .v (.int .i64 (o_ev)), .v (.int .i64 (o_an)), .v (.int .i64 (o_un)), .v (.int .i64 (o_tr)), .v (.string (o_tx))])], 3, []⟩
      | false => ⟨updFr (List.replicate 37 (.c .any)) [(4, .c (.own 2)), (5, di 0)], [(2, .row 48 10 (.cat (.of l_n fun j => [.int .i64 (l_id j), .int .i64 (l_fr j), .int .i64 (l_to j), .int .i64 (l_am j), .int .i64 (l_day j), .int .i64 (l_ev j), .int .i64 (l_an j), .int .i64 (l_un j), .int .i64 (l_tr j), .string (l_tx j)]) (.lit [[.int .i64 (o_id), .int .i64 (o_fr), .int .i64 (o_to), .int .i64 (o_am), .int .i64 (o_day), .int .i64 (o_ev), .int .i64 (o_an), .int .i64 (o_un), .int .i64 (o_tr), .string (o_tx)]]))), (1, .row 48 10 (.lit [[.int .i64 (o_id), .int .i64 (o_fr), .int .i64 (o_to), .int .i64 (o_am), .int .i64 (o_day), .int .i64 (o_ev), .int .i64 (o_an), .int .i64 (o_un), .int .i64 (o_tr), .string (o_tx)]])), (0, .box 48 [.v (.int .i64 (o_id)), .v (.int .i64 (o_fr)), .v (.int .i64 (o_to)), .v (.int .i64 (o_am)), .v (.int .i64 (o_day)), .v (.int .i64 (o_ev)), .v (.int .i64 (o_an)), .v (.int .i64 (o_un)), .v (.int .i64 (o_tr)), .v (.string (o_tx))])], 3, []⟩) ?_ ?_
    · cbv
      repeat' (first | (refine And.intro (fun _ => ?_) (fun _ => ?_) <;> cbv) | (refine call_c hR (cloneOrder_ok (h := by omega) ..) ?_; intro _ _; cbv) | (refine And.intro ?_ ?_; rotate_left; cbv) | (intro (_ : Bool) _; cbv))
      all_goals first
        | (subst hA; exact ⟨by show l_n + 1 ≤ _; omega, by show (l_n + 1) * 88 ≤ _; omega⟩)
        | exact lf_z true trivial ⟨rfl, ⟨rfl, ⟨rfl, rfl, rfl⟩, rfl, ⟨rfl, rfl, rfl⟩, rfl, rfl, trivial⟩, rfl, rfl⟩
        | exact lf_z false trivial ⟨rfl, ⟨rfl, ⟨rfl, rfl, rfl⟩, rfl, ⟨rfl, rfl, rfl⟩, rfl, rfl, trivial⟩, rfl, rfl⟩
    · intro b _
      cases b <;> cbv
      all_goals rw [hv]
      all_goals exact Le.tup (.cons (append_le hA ⟨l_n, fun j => ⟨l_id j, l_fr j, l_to j, l_am j, l_day j, l_ev j, l_an j, l_un j, l_tr j, l_tx j⟩⟩ _ (hd := rfl) ..) (.cons (.refl _) .nil))
end Go.Proofs.Ytoocihhnlhehlaa
