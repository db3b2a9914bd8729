/- Calendars: next and last open days, the rule 'modified following'; both sides. -/
import Derived.Test.YtoocihhnlhehlaaLca
namespace Go.Proofs.Ytoocihhnlhehlaa
open Go Go.Proofs.Ytoocihhnlhehlaa.Den
set_option linter.unusedSimpArgs false
set_option linter.unusedVariables false
set_option maxRecDepth 100000
theorem next1_ok (c_na : ByteArray) (c_we_n : Nat) (c_we : Nat → Int) (c_ho_n : Nat) (c_ho : Nat → Int) (n : Int) (h1 : c_we_n ≤ 9223372036854775807) (h2 : c_ho_n ≤ 9223372036854775807) : Con Try.prog 109 [di n, .c (.rp [.v (.string (c_na)), .sl 1 c_we_n (fun j => [.int .i64 (c_we j)]), .sl 1 c_ho_n (fun j => [.int .i64 (c_ho j)])] 0)] db (openB ⟨c_we_n, c_we⟩ ⟨c_ho_n, c_ho⟩ n) := by
  refine Con_of mixed tabOk Try.func109 (by decide) rfl rfl rfl (by decide) ?_; intro A R v' hA hR hv
  cbv
  refine call_c hR (open_ok (h1 := h1) (h2 := h2) ..) ?_
  intro x hx
  cbv
  exact Le.bb (by rw [hv, hx])
theorem prev1_ok (c_na : ByteArray) (c_we_n : Nat) (c_we : Nat → Int) (c_ho_n : Nat) (c_ho : Nat → Int) (n : Int) (h1 : c_we_n ≤ 9223372036854775807) (h2 : c_ho_n ≤ 9223372036854775807) : Con Try.prog 111 [di n, .c (.rp [.v (.string (c_na)), .sl 1 c_we_n (fun j => [.int .i64 (c_we j)]), .sl 1 c_ho_n (fun j => [.int .i64 (c_ho j)])] 0)] db (openB ⟨c_we_n, c_we⟩ ⟨c_ho_n, c_ho⟩ n) := by
  refine Con_of mixed tabOk Try.func111 (by decide) rfl rfl rfl (by decide) ?_; intro A R v' hA hR hv
  cbv
  refine call_c hR (open_ok (h1 := h1) (h2 := h2) ..) ?_
  intro x hx
  cbv
  exact Le.bb (by rw [hv, hx])
theorem searchN_ok (c_na : ByteArray) (c_we_n : Nat) (c_we : Nat → Int) (c_ho_n : Nat) (c_ho : Nat → Int) (day : Int) (h1 : c_we_n ≤ 9223372036854775807) (h2 : c_ho_n ≤ 9223372036854775807) : Con Try.prog 108 [di day, di 1, .c (.fn 109 [.rp [.v (.string (c_na)), .sl 1 c_we_n (fun j => [.int .i64 (c_we j)]), .sl 1 c_ho_n (fun j => [.int .i64 (c_ho j)])] 0])] (fun x : Int × Int => .tup [di x.1, di x.2]) (nextS ⟨c_we_n, c_we⟩ ⟨c_ho_n, c_ho⟩ day) := by
  refine Con_of mixed tabOk Try.func108 (by decide) rfl rfl rfl (by decide) ?_; intro A R v' hA hR hv
  cbv
  refine call_c hR (dvalid_ok _) ?_
  intro b hb
  cbv
  refine And.intro (fun e => ?_) (fun e => ?_) <;> cbv
  · have hd : dayB day = false := by
      subst hA; dsimp only [Ar.std] at e; rw [hb] at e; simpa using e
    rw [hv, nextS, if_neg (by simp [hd])]
    exact .of_eq rfl
  · have hd : dayB day = true := by
      subst hA; dsimp only [Ar.std] at e; rw [hb] at e; simpa using e
    have hd' : 0 ≤ day ∧ day ≤ 73048 := by simpa [dayB] using hd
    refine awp_for (fun d : Int => day ≤ d ∧ d ≤ 73049 ∧ ∀ x, day ≤ x → x < d → openB ⟨c_we_n, c_we⟩ ⟨c_ho_n, c_ho⟩ x = false) (fun d => (73049 - d).toNat) (fun d => [(0, di d)]) (fun _ => []) day ⟨by omega, by omega, fun x h1 h2 => by omega⟩ (by cbv) (sim_eq rfl) ?_
    rintro d ⟨h0, h3, h2'⟩
    have h2 := h2'
    cbv
    refine call_c hR (dvalid_ok _) ?_
    intro b2 hb2
    cbv
    refine And.intro (fun e => ?_) (fun e => ?_) <;> cbv
    · have hd2 : dayB d = true := by rw [← hb2]; exact e
      have hd3 : 0 ≤ d ∧ d ≤ 73048 := by simpa [dayB] using hd2
      refine call_c hR (next1_ok (h1 := h1) (h2 := by assumption) ..) ?_
      intro o ho
      cbv
      refine And.intro (fun e => ?_) (fun e => ?_) <;> cbv
      · have ho : openB ⟨c_we_n, c_we⟩ ⟨c_ho_n, c_ho⟩ d = true := by rw [← ho]; exact e
        rw [hv, nextS_at hd h0 hd3.2 ho h2]
        exact .of_eq rfl
      · have ho : openB ⟨c_we_n, c_we⟩ ⟨c_ho_n, c_ho⟩ d = false := by rw [← ho]; simpa using e
        have q1 : A.add .i64 d 1 = d + 1 := by subst hA; exact wrap_id (by omega) (by omega)
        refine loop_nx (A.add .i64 d 1) ?_ (by rw [q1]; omega) rfl
        show day ≤ A.add .i64 d 1 ∧ A.add .i64 d 1 ≤ 73049 ∧ ∀ x, day ≤ x → x < A.add .i64 d 1 → openB ⟨c_we_n, c_we⟩ ⟨c_ho_n, c_ho⟩ x = false
        rw [q1]
        refine ⟨by omega, by omega, fun x hx1 hx2 => ?_⟩
        rcases Int.lt_or_le x d with h | h
        · exact h2 x hx1 h
        · have : x = d := by omega
          subst this; exact ho
    · have hd2 : dayB d = false := by rw [← hb2]; simpa using e
      have hd3 : ¬ (0 ≤ d ∧ d ≤ 73048) := fun h => by
        have : dayB d = true := by simpa [dayB] using h
        rw [hd2] at this; cases this
      rw [hv, nextS_no hd fun x hx1 hx2 => h2 x hx1 (by omega)]
      exact .of_eq rfl
theorem searchP_ok (c_na : ByteArray) (c_we_n : Nat) (c_we : Nat → Int) (c_ho_n : Nat) (c_ho : Nat → Int) (day : Int) (h1 : c_we_n ≤ 9223372036854775807) (h2 : c_ho_n ≤ 9223372036854775807) : Con Try.prog 108 [di day, di (-1), .c (.fn 111 [.rp [.v (.string (c_na)), .sl 1 c_we_n (fun j => [.int .i64 (c_we j)]), .sl 1 c_ho_n (fun j => [.int .i64 (c_ho j)])] 0])] (fun x : Int × Int => .tup [di x.1, di x.2]) (prevS ⟨c_we_n, c_we⟩ ⟨c_ho_n, c_ho⟩ day) := by
  refine Con_of mixed tabOk Try.func108 (by decide) rfl rfl rfl (by decide) ?_; intro A R v' hA hR hv
  cbv
  refine call_c hR (dvalid_ok _) ?_
  intro b hb
  cbv
  refine And.intro (fun e => ?_) (fun e => ?_) <;> cbv
  · have hd : dayB day = false := by
      subst hA; dsimp only [Ar.std] at e; rw [hb] at e; simpa using e
    rw [hv, prevS, if_neg (by simp [hd])]
    exact .of_eq rfl
  · have hd : dayB day = true := by
      subst hA; dsimp only [Ar.std] at e; rw [hb] at e; simpa using e
    have hd' : 0 ≤ day ∧ day ≤ 73048 := by simpa [dayB] using hd
    refine awp_for (fun d : Int => 0 ≤ d + 1 ∧ d ≤ day ∧ ∀ x, d < x → x ≤ day → openB ⟨c_we_n, c_we⟩ ⟨c_ho_n, c_ho⟩ x = false) (fun d => (d + 1).toNat) (fun d => [(0, di d)]) (fun _ => []) day ⟨by omega, by omega, fun x h1 h2 => by omega⟩ (by cbv) (sim_eq rfl) ?_
    rintro d ⟨h0, h3, h2'⟩
    have h2 := h2'
    cbv
    refine call_c hR (dvalid_ok _) ?_
    intro b2 hb2
    cbv
    refine And.intro (fun e => ?_) (fun e => ?_) <;> cbv
    · have hd2 : dayB d = true := by rw [← hb2]; exact e
      have hd3 : 0 ≤ d ∧ d ≤ 73048 := by simpa [dayB] using hd2
      refine call_c hR (prev1_ok (h1 := h1) (h2 := by assumption) ..) ?_
      intro o ho
      cbv
      refine And.intro (fun e => ?_) (fun e => ?_) <;> cbv
      · have ho : openB ⟨c_we_n, c_we⟩ ⟨c_ho_n, c_ho⟩ d = true := by rw [← ho]; exact e
        rw [hv, prevS_at hd h3 hd3.1 ho h2]
        exact .of_eq rfl
      · have ho : openB ⟨c_we_n, c_we⟩ ⟨c_ho_n, c_ho⟩ d = false := by rw [← ho]; simpa using e
        have q1 : A.add .i64 d (-1) = d - 1 := by subst hA; exact wrap_id (by omega) (by omega)
        refine loop_nx (A.add .i64 d (-1)) ?_ (by rw [q1]; omega) rfl
        show 0 ≤ A.add .i64 d (-1) + 1 ∧ A.add .i64 d (-1) ≤ day ∧ ∀ x, A.add .i64 d (-1) < x → x ≤ day → openB ⟨c_we_n, c_we⟩ ⟨c_ho_n, c_ho⟩ x = false
        rw [q1]
        refine ⟨by omega, by omega, fun x hx1 hx2 => ?_⟩
        rcases Int.lt_or_le d x with h | h
        · exact h2 x h hx2
        · have : x = d := by omega
          subst this; exact ho
    · have hd2 : dayB d = false := by rw [← hb2]; simpa using e
      have hd3 : ¬ (0 ≤ d ∧ d ≤ 73048) := fun h => by
        have : dayB d = true := by simpa [dayB] using h
        rw [hd2] at this; cases this
      rw [hv, prevS_no hd fun x hx1 hx2 => h2 x (by omega) hx2]
      exact .of_eq rfl
theorem next_ok (c_na : ByteArray) (c_we_n : Nat) (c_we : Nat → Int) (c_ho_n : Nat) (c_ho : Nat → Int) (n : Int) (h1 : c_we_n ≤ 9223372036854775807) (h2 : c_ho_n ≤ 9223372036854775807) : Con Try.prog 105 [.agg [.v (.string (c_na)), .sl 1 c_we_n (fun j => [.int .i64 (c_we j)]), .sl 1 c_ho_n (fun j => [.int .i64 (c_ho j)])], di n] (fun x : Int × Int => .tup [di x.1, di x.2]) (nextS ⟨c_we_n, c_we⟩ ⟨c_ho_n, c_ho⟩ n) := by
  refine Con_of mixed tabOk Try.func105 (by decide) rfl rfl rfl (by decide) ?_; intro A R v' hA hR hv
  cbv
  refine call_c hR (searchN_ok (h1 := h1) (h2 := h2) ..) ?_
  intro x hx
  cbv
  exact .of_eq (by rw [hv, ← hx])
theorem prev_ok (c_na : ByteArray) (c_we_n : Nat) (c_we : Nat → Int) (c_ho_n : Nat) (c_ho : Nat → Int) (n : Int) (h1 : c_we_n ≤ 9223372036854775807) (h2 : c_ho_n ≤ 9223372036854775807) : Con Try.prog 106 [.agg [.v (.string (c_na)), .sl 1 c_we_n (fun j => [.int .i64 (c_we j)]), .sl 1 c_ho_n (fun j => [.int .i64 (c_ho j)])], di n] (fun x : Int × Int => .tup [di x.1, di x.2]) (prevS ⟨c_we_n, c_we⟩ ⟨c_ho_n, c_ho⟩ n) := by
  refine Con_of mixed tabOk Try.func106 (by decide) rfl rfl rfl (by decide) ?_; intro A R v' hA hR hv
  cbv
  refine call_c hR (searchP_ok (h1 := h1) (h2 := h2) ..) ?_
  intro x hx
  cbv
  exact .of_eq (by rw [hv, ← hx])
theorem adjS_no {we ho : Sl Int} {n : Int} (h : dayB n = false) : adjS we ho n = (0, 1) := by simp [adjS, h]
theorem adjS_y {we ho : Sl Int} {n : Int} (h : dayB n = true) (h1 : (nextS we ho n).2 = 0) (h2 : (nextS we ho n).1 ≤ monthEnd n) : adjS we ho n = ((nextS we ho n).1, 0) := by simp [adjS, h, h1, h2]
theorem adjS_n {we ho : Sl Int} {n : Int} (h : dayB n = true) (h1 : ¬ ((nextS we ho n).2 = 0 ∧ (nextS we ho n).1 ≤ monthEnd n)) : adjS we ho n = prevS we ho n := by
  rw [adjS, if_pos h, if_neg (by simpa using h1)]
theorem adj_a {we ho : Sl Int} {n : Int} {v : Int × Int} (hv : v = adjS we ho n) (h : dayB n = false) : Le (.tup [di 0, di 1]) (.tup [di v.1, di v.2]) := by
  rw [hv, adjS_no h]; exact .of_eq rfl
theorem adj_b {we ho : Sl Int} {n e : Int} {x v : Int × Int} (hv : v = adjS we ho n) (h : dayB n = true) (hx : x = nextS we ho n) (he : e = monthEnd n) (h1 : x.2 = 0) (h2 : x.1 ≤ e) : Le (.tup [di x.1, di 0]) (.tup [di v.1, di v.2]) := by
  rw [hv, adjS_y h (by rw [← hx]; exact h1) (by rw [← hx, ← he]; exact h2), hx]; exact .of_eq rfl
theorem adj_c {we ho : Sl Int} {n e : Int} {x y v : Int × Int} (hv : v = adjS we ho n) (h : dayB n = true) (hx : x = nextS we ho n) (he : e = monthEnd n) (hy : y = prevS we ho n) (h1 : e < x.1) : Le (.tup [di y.1, di y.2]) (.tup [di v.1, di v.2]) := by
  rw [hv, adjS_n h (by rw [← hx, ← he]; omega), hy]; exact .of_eq rfl
theorem adj_d {we ho : Sl Int} {n : Int} {x y v : Int × Int} (hv : v = adjS we ho n) (h : dayB n = true) (hx : x = nextS we ho n) (hy : y = prevS we ho n) (h1 : x.2 ≠ 0) : Le (.tup [di y.1, di y.2]) (.tup [di v.1, di v.2]) := by
  rw [hv, adjS_n h (by rw [← hx]; exact fun h => h1 h.1), hy]; exact .of_eq rfl
theorem adj_ok (c_na : ByteArray) (c_we_n : Nat) (c_we : Nat → Int) (c_ho_n : Nat) (c_ho : Nat → Int) (n : Int) (h1 : c_we_n ≤ 9223372036854775807) (h2 : c_ho_n ≤ 9223372036854775807) : Con Try.prog 99 [.agg [.v (.string (c_na)), .sl 1 c_we_n (fun j => [.int .i64 (c_we j)]), .sl 1 c_ho_n (fun j => [.int .i64 (c_ho j)])], di n, di 2] (fun x : Int × Int => .tup [di x.1, di x.2]) (adjS ⟨c_we_n, c_we⟩ ⟨c_ho_n, c_ho⟩ n) := by
  refine Con_of mixed tabOk Try.func99 (by decide) rfl rfl rfl (by decide) ?_; intro A R v' hA hR hv
  cbv
  repeat' (first | (refine And.intro (fun _ => ?_) (fun _ => ?_) <;> cbv) | (refine call_c hR (dvalid_ok _) ?_; intro _ _; cbv) | (refine call_c hR (next_ok (h1 := h1) (h2 := h2) ..) ?_; intro _ _; cbv) | (refine call_c hR (prev_ok (h1 := h1) (h2 := h2) ..) ?_; intro _ _; cbv) | (refine call_c hR (dend_ok _) ?_; intro _ _; cbv) | (refine And.intro ?_ ?_; rotate_left; cbv) | (intro (_ : Bool) _; cbv))
  all_goals subst hA
  all_goals try dsimp only [Ar.std] at *
  all_goals first
    | (exfalso; simp_all <;> fail)
    | (refine adj_a hv ?_ <;> simp_all <;> fail)
    | (refine adj_b hv ?_ (by assumption) (by assumption) ?_ ?_ <;> simp_all <;> fail)
    | (refine adj_c hv ?_ (by assumption) (by assumption) (by assumption) ?_ <;> simp_all <;> fail)
    | (refine adj_d hv ?_ (by assumption) (by assumption) ?_ <;> simp_all <;> fail)
theorem rnext_ok (c_na : ByteArray) (c_we_n : Nat) (c_we : Nat → Int) (c_ho_n : Nat) (c_ho : Nat → Int) (day : Int) (h1 : c_we_n ≤ 9223372036854775807) (h2 : c_ho_n ≤ 9223372036854775807) : Con Try.prog 102 [.agg [.v (.string (c_na)), .sl 1 c_we_n (fun j => [.int .i64 (c_we j)]), .sl 1 c_ho_n (fun j => [.int .i64 (c_ho j)])], di day] (fun x : Int × Int => .tup [di x.1, di x.2]) (nextS ⟨c_we_n, c_we⟩ ⟨c_ho_n, c_ho⟩ day) := by
  refine Con_of mixed tabOk Try.func102 (by decide) rfl rfl rfl (by decide) ?_; intro A R v' hA hR hv
  cbv
  refine call_c hR (rvalid_ok _) ?_
  intro b hb
  cbv
  refine And.intro (fun e => ?_) (fun e => ?_) <;> cbv
  · have hd : dayB day = false := by
      subst hA; dsimp only [Ar.std] at e; rw [hb] at e; simpa using e
    rw [hv, nextS, if_neg (by simp [hd])]
    exact .of_eq rfl
  · have hd : dayB day = true := by
      subst hA; dsimp only [Ar.std] at e; rw [hb] at e; simpa using e
    have hd' : 0 ≤ day ∧ day ≤ 73048 := by simpa [dayB] using hd
    refine awp_fors (fun d : Int => day ≤ d ∧ d ≤ 73049 ∧ ∀ x, day ≤ x → x < d → openB ⟨c_we_n, c_we⟩ ⟨c_ho_n, c_ho⟩ x = false) (fun d => (73049 - d).toNat) (fun d => [(6, di d)]) day ⟨by omega, by omega, fun x h1 h2 => by omega⟩ (by cbv) (sim_eq rfl) ?_
    rintro d ⟨h0, h3, h2'⟩
    have h2 := h2'
    cbv
    refine And.intro (fun e => ?_) (fun e => ?_) <;> cbv
    · have hd3 : d ≤ 73048 := by subst hA; simpa [Ar.std] using e
      refine call_c hR (ropen_ok (h1 := h1) (h2 := by assumption) ..) ?_
      intro o ho
      cbv
      refine And.intro (fun e => ?_) (fun e => ?_) <;> cbv
      · have ho : openB ⟨c_we_n, c_we⟩ ⟨c_ho_n, c_ho⟩ d = true := by rw [← ho]; exact e
        rw [hv, nextS_at hd h0 hd3 ho h2]
        exact .of_eq rfl
      · have ho : openB ⟨c_we_n, c_we⟩ ⟨c_ho_n, c_ho⟩ d = false := by rw [← ho]; simpa using e
        have q1 : A.add .i64 d 1 = d + 1 := by subst hA; exact wrap_id (by omega) (by omega)
        refine loop_nx (A.add .i64 d 1) ?_ (by rw [q1]; omega) rfl
        show day ≤ A.add .i64 d 1 ∧ A.add .i64 d 1 ≤ 73049 ∧ ∀ x, day ≤ x → x < A.add .i64 d 1 → openB ⟨c_we_n, c_we⟩ ⟨c_ho_n, c_ho⟩ x = false
        rw [q1]
        refine ⟨by omega, by omega, fun x hx1 hx2 => ?_⟩
        rcases Int.lt_or_le x d with h | h
        · exact h2 x hx1 h
        · have : x = d := by omega
          subst this; exact ho
    · have hd3 : 73048 < d := by subst hA; simpa [Ar.std] using e
      rw [hv, nextS_no hd fun x hx1 hx2 => h2 x hx1 (by omega)]
      exact .of_eq rfl
theorem rprev_ok (c_na : ByteArray) (c_we_n : Nat) (c_we : Nat → Int) (c_ho_n : Nat) (c_ho : Nat → Int) (day : Int) (h1 : c_we_n ≤ 9223372036854775807) (h2 : c_ho_n ≤ 9223372036854775807) : Con Try.prog 101 [.agg [.v (.string (c_na)), .sl 1 c_we_n (fun j => [.int .i64 (c_we j)]), .sl 1 c_ho_n (fun j => [.int .i64 (c_ho j)])], di day] (fun x : Int × Int => .tup [di x.1, di x.2]) (prevS ⟨c_we_n, c_we⟩ ⟨c_ho_n, c_ho⟩ day) := by
  refine Con_of mixed tabOk Try.func101 (by decide) rfl rfl rfl (by decide) ?_; intro A R v' hA hR hv
  cbv
  refine call_c hR (rvalid_ok _) ?_
  intro b hb
  cbv
  refine And.intro (fun e => ?_) (fun e => ?_) <;> cbv
  · have hd : dayB day = false := by
      subst hA; dsimp only [Ar.std] at e; rw [hb] at e; simpa using e
    rw [hv, prevS, if_neg (by simp [hd])]
    exact .of_eq rfl
  · have hd : dayB day = true := by
      subst hA; dsimp only [Ar.std] at e; rw [hb] at e; simpa using e
    have hd' : 0 ≤ day ∧ day ≤ 73048 := by simpa [dayB] using hd
    refine awp_fors (fun d : Int => 0 ≤ d + 1 ∧ d ≤ day ∧ ∀ x, d < x → x ≤ day → openB ⟨c_we_n, c_we⟩ ⟨c_ho_n, c_ho⟩ x = false) (fun d => (d + 1).toNat) (fun d => [(6, di d)]) day ⟨by omega, by omega, fun x h1 h2 => by omega⟩ (by cbv) (sim_eq rfl) ?_
    rintro d ⟨h0, h3, h2'⟩
    have h2 := h2'
    cbv
    refine And.intro (fun e => ?_) (fun e => ?_) <;> cbv
    · have hd3 : 0 ≤ d := by subst hA; simpa [Ar.std] using e
      refine call_c hR (ropen_ok (h1 := h1) (h2 := by assumption) ..) ?_
      intro o ho
      cbv
      refine And.intro (fun e => ?_) (fun e => ?_) <;> cbv
      · have ho : openB ⟨c_we_n, c_we⟩ ⟨c_ho_n, c_ho⟩ d = true := by rw [← ho]; exact e
        rw [hv, prevS_at hd h3 hd3 ho h2]
        exact .of_eq rfl
      · have ho : openB ⟨c_we_n, c_we⟩ ⟨c_ho_n, c_ho⟩ d = false := by rw [← ho]; simpa using e
        have q1 : A.sub .i64 d 1 = d - 1 := by subst hA; exact wrap_id (by omega) (by omega)
        refine loop_nx (A.sub .i64 d 1) ?_ (by rw [q1]; omega) rfl
        show 0 ≤ A.sub .i64 d 1 + 1 ∧ A.sub .i64 d 1 ≤ day ∧ ∀ x, A.sub .i64 d 1 < x → x ≤ day → openB ⟨c_we_n, c_we⟩ ⟨c_ho_n, c_ho⟩ x = false
        rw [q1]
        refine ⟨by omega, by omega, fun x hx1 hx2 => ?_⟩
        rcases Int.lt_or_le d x with h | h
        · exact h2 x h hx2
        · have : x = d := by omega
          subst this; exact ho
    · have hd3 : d < 0 := by subst hA; simpa [Ar.std] using e
      rw [hv, prevS_no hd fun x hx1 hx2 => h2 x (by omega) hx2]
      exact .of_eq rfl
theorem radj_ok (c_na : ByteArray) (c_we_n : Nat) (c_we : Nat → Int) (c_ho_n : Nat) (c_ho : Nat → Int) (n : Int) (h1 : c_we_n ≤ 9223372036854775807) (h2 : c_ho_n ≤ 9223372036854775807) : Con Try.prog 89 [.agg [.v (.string (c_na)), .sl 1 c_we_n (fun j => [.int .i64 (c_we j)]), .sl 1 c_ho_n (fun j => [.int .i64 (c_ho j)])], di n, di 2] (fun x : Int × Int => .tup [di x.1, di x.2]) (adjS ⟨c_we_n, c_we⟩ ⟨c_ho_n, c_ho⟩ n) := by
  refine Con_of mixed tabOk Try.func89 (by decide) rfl rfl rfl (by decide) ?_; intro A R v' hA hR hv
  cbv
  repeat' (first | (refine And.intro (fun _ => ?_) (fun _ => ?_) <;> cbv) | (refine call_c hR (rvalid_ok _) ?_; intro _ _; cbv) | (refine call_c hR (rnext_ok (h1 := h1) (h2 := h2) ..) ?_; intro _ _; cbv) | (refine call_c hR (rprev_ok (h1 := h1) (h2 := h2) ..) ?_; intro _ _; cbv) | (refine call_c hR (rend_ok _) ?_; intro _ _; cbv) | (refine And.intro ?_ ?_; rotate_left; cbv) | (intro (_ : Bool) _; cbv))
  all_goals subst hA
  all_goals try dsimp only [Ar.std] at *
  all_goals first
    | (exfalso; simp_all <;> fail)
    | (refine adj_a hv ?_ <;> simp_all <;> fail)
    | (refine adj_b hv ?_ (by assumption) (by assumption) ?_ ?_ <;> simp_all <;> fail)
    | (refine adj_c hv ?_ (by assumption) (by assumption) (by assumption) ?_ <;> simp_all <;> fail)
    | (refine adj_d hv ?_ (by assumption) (by assumption) ?_ <;> simp_all <;> fail)
end Go.Proofs.Ytoocihhnlhehlaa
