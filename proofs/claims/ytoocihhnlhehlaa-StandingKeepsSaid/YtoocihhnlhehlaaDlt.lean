/- slices.Delete over a row of the call's own. -/
import Derived.Test.YtoocihhnlhehlaaTab
import Derived.Test.YtoocihhnlhehlaaDenl
import Derived.WalkKit
import Derived.Deep.RegionLaw
import Derived.Lib.SliceRun
namespace Go.Proofs.Ytoocihhnlhehlaa
open Go Go.Proofs.Ytoocihhnlhehlaa.Den Go.RowKit
set_option linter.unusedSimpArgs false
set_option linter.unusedVariables false
set_option maxRecDepth 100000
/-- What cells that are set one by one leave of a block. -/
structure Set1 (w w' : World) (b e : Nat) (cur cur' : Array Value) : Prop where
  os : w'.os = w.os
  tape : w'.tape = w.tape
  output : w'.output = w.output
  size : w'.heap.size = w.heap.size
  at' : w'.heap[b]? = some (.cells cur' e (0, 0))
  block : ∀ k, k ≠ b → w'.heap[k]? = w.heap[k]?
theorem setCell_1 {w : World} {b e o : Nat} {cur : Array Value} {v : Value} (h : w.heap[b]? = some (.cells cur e (0, 0))) : Set1 w (w.setCell ⟨b, o, none⟩ v) b e cur (cur.setIfInBounds o v) := by
  have hb : b < w.heap.size := heap_lt h
  have hb' : w.heap[b] = .cells cur e (0, 0) := by rw [Array.getElem?_eq_getElem hb] at h; exact Option.some.inj h
  refine ⟨rfl, rfl, rfl, by simp [World.setCell], ?_, fun k hk => ?_⟩
  · simp only [World.setCell, Array.getElem?_modify, if_true, h, Option.map_some, Option.isSome_none, Bool.false_eq_true, if_false]
  · simp only [World.setCell, Array.getElem?_modify, if_neg (Ne.symm hk)]
theorem setCells_1 {b e : Nat} : ∀ (vs : List Value) (o : Nat) (w : World) (cur : Array Value), w.heap[b]? = some (.cells cur e (0, 0)) → o + vs.length ≤ cur.size →
    ∃ cur' : Array Value, Set1 w (w.setCells b o vs) b e cur cur' ∧ cur'.toList = cur.toList.take o ++ vs ++ cur.toList.drop (o + vs.length)
  | [], o, w, cur, h, _ => ⟨cur, ⟨rfl, rfl, rfl, rfl, h, fun _ _ => rfl⟩, by simp⟩
  | v :: r, o, w, cur, h, hl => by
    have h1 := setCell_1 (o := o) (v := v) h
    obtain ⟨cur', h2, h3⟩ := setCells_1 r (o + 1) (w.setCell ⟨b, o, none⟩ v) (cur.setIfInBounds o v) h1.at' (by simp at hl ⊢; omega)
    refine ⟨cur', ⟨h2.os.trans h1.os, h2.tape.trans h1.tape, h2.output.trans h1.output, h2.size.trans h1.size, h2.at', fun k hk => (h2.block k hk).trans (h1.block k hk)⟩, ?_⟩
    rw [h3]
    simp only [List.length_cons] at hl
    have ho : o < cur.toList.length := by simp; omega
    simp only [Array.toList_setIfInBounds, List.length_cons]
    rw [List.set_eq_take_append_cons_drop, if_pos ho]
    rw [List.take_append, List.drop_append]
    have e1 : (cur.toList.take o).length = o := by simp at ho ⊢; omega
    rw [e1, show o + 1 - o = 1 by omega, List.take_of_length_le (l := cur.toList.take o) (by omega), List.drop_of_length_le (l := cur.toList.take o) (by omega), show o + 1 + r.length - o = r.length + 1 by omega]
    simp [List.append_assoc, show o + 1 + r.length = o + (r.length + 1) by omega, Nat.add_comm, Nat.add_left_comm]
theorem clear_row {P : Program} (w : World) (t e sz : Nat) (z : Value) (ht : P.underlying t = some (.slice e)) (hv : ∀ w, (zeroValue e).run P w = .ok z w) (hz : z.cells.size = sz) (hp : 0 < sz) (h1 : ∀ x ∈ z.cells.toList, x.oneCell' = true) (b o n c : Nat) (hn : 0 < n)
    (hc : ∀ j, j < n * sz → (w.cell? ⟨b, o + j, none⟩).isSome = true) (hf : ∀ j, j < n * sz → w.frozen? ⟨b, o + j, none⟩ = false) (ty : TypeId) :
    (Builtin.clear_ #[t] ty #[.slice (some ⟨b, o, none⟩) n c]).run P w = .ok (.tuple #[]) (w.setCells b o (List.replicate n z.cells.toList).flatten) := by
  have hlen : (List.replicate n z.cells.toList).flatten.length = n * sz := by
    rw [flat_len sz _ fun x hx => by rw [(List.mem_replicate.1 hx).2]; simpa using hz]; simp
  have hzl := zero_at z.cells (by omega) n
  have hst := run_storeCells_cells (P := P) b o (List.replicate n z.cells.toList).flatten 0 w (by rw [hlen]; simpa using hc) (by rw [hlen]; simpa using hf) (by
    intro v hv'
    obtain ⟨l, hl1, hl2⟩ := List.mem_flatten.1 hv'
    rw [(List.mem_replicate.1 hl1).2] at hl2
    exact h1 v hl2)
  simp only [Nat.add_zero] at hst
  rw [← hzl] at hst ⊢
  obtain ⟨m, rfl⟩ : ∃ m, n = m + 1 := ⟨n - 1, by omega⟩
  simp [Builtin.clear_, run_underlying ht, hv, hst]
set_option maxHeartbeats 4000000 in
theorem del_walk (b e n cap i j : Nat) (w : World) (cur : Array Value) (hij : i < j) (hjn : j ≤ n) (hnc : n ≤ cap) (hm : cap ≤ 9223372036854775807) (hcs : cur.size = cap * 10) (hh : w.heap[b]? = some (.cells cur e (0, 0)))
    (ho : ∀ x ∈ (cur.toList.take (n * 10)).drop (j * 10), x.oneCell' = true) :
    Calls Try.prog 72 #[.slice (some ⟨b, 0, none⟩) n cap, .int .i64 i, .int .i64 j] w fun e' w' => e' = .returned (.slice (some ⟨b, 0, none⟩) (i + (n - j)) cap) ∧ ∃ z : List Value,
      w' = (w.drew.setCells b (i * 10) ((cur.toList.take (n * 10)).drop (j * 10))).setCells b ((i + (n - j)) * 10) z ∧ z.length = (j - i) * 10 := by
  obtain ⟨news, hnews⟩ : ∃ news, news = (cur.toList.take (n * 10)).drop (j * 10) := ⟨_, rfl⟩
  rw [← hnews] at ho ⊢
  have hlen : news.length = (n - j) * 10 := by rw [hnews]; simp; omega
  have hget : ∀ t, t < (n - j) * 10 → news[t]? = cur[j * 10 + t]? := by
    intro t ht
    rw [hnews, List.getElem?_drop, List.getElem?_take, if_pos (by omega), Array.getElem?_toList]
  have hcell : ∀ q, w.drew.cell? ⟨b, q, none⟩ = cur[q]? := by
    intro q
    show w.cell? _ = _
    simp [World.cell?, hh]
  have hfrz : ∀ q, w.drew.frozen? ⟨b, q, none⟩ = false := by
    intro q
    show w.frozen? _ = _
    simp [World.frozen?, hh]
  have hsome : ∀ q, q < cap * 10 → (cur[q]?).isSome = true := by
    intro q hq
    simp [show q < cur.size by omega]
  obtain ⟨i0, z, hi0, hz1, hz2, hz3, hz4, hz5, hz6⟩ := tab_info tabOk (t := 48) rfl
  have hz1 : i0.size = 10 := hz1
  have hz6 : z.cells.size = 10 := hz6
  have hv : ∀ w, (zeroValue 48).run Try.prog w = .ok z w := fun w => by simp [zeroValue, typeInfo, hi0, hz3]
  obtain ⟨A, hA, hsrc⟩ : ∃ A : Addr, (if cap = j then (some ⟨b, 0, none⟩ : Option Addr) else some ⟨b, j * 10, none⟩) = some A ∧ Hid (∀ t u, news[t]? = some u → w.drew.cell? (A.add t) = some u) := by
    by_cases h : cap = j
    · refine ⟨⟨b, 0, none⟩, by simp [h], fun t u hu => ?_⟩
      have h0 : news.length = 0 := by rw [hlen]; omega
      rw [List.length_eq_zero_iff.1 h0] at hu
      simp at hu
    · refine ⟨⟨b, j * 10, none⟩, by simp [h], fun t u hu => ?_⟩
      have ht : t < (n - j) * 10 := by
        have := (List.getElem?_eq_some_iff.1 hu).1
        rwa [hlen] at this
      rw [hget t ht] at hu
      rw [Addr.add_lit, hcell]; exact hu
  have s1 : Hid (news.length = (n - j) * 10) := hlen
  have s2 : Hid (∀ u ∈ news, u.oneCell' = true) := ho
  have s3 : Hid (∀ t, t < news.length → (w.drew.cell? ⟨b, 0 + i * 10 + t, none⟩).isSome = true ∧ w.drew.frozen? ⟨b, 0 + i * 10 + t, none⟩ = false) := by
    intro t ht
    rw [hlen] at ht
    exact ⟨by rw [hcell]; exact hsome _ (by omega), hfrz _⟩
  obtain ⟨W1, hW1⟩ : ∃ W1, W1 = w.drew.setCells b (0 + i * 10) news := ⟨_, rfl⟩
  obtain ⟨cur1, k1, k2⟩ := setCells_1 (b := b) (e := e) news (0 + i * 10) w.drew cur hh (by rw [hlen]; omega)
  rw [← hW1] at k1
  have hcs1 : cur1.size = cap * 10 := by
    have := congrArg List.length k2
    simp [hlen] at this
    omega
  obtain ⟨Z, hZ⟩ : ∃ Z, Z = (List.replicate (n - (i + (n - j))) z.cells.toList).flatten := ⟨_, rfl⟩
  have hZl : Z.length = (j - i) * 10 := by
    rw [hZ, flat_len 10 _ fun x hx => by rw [(List.mem_replicate.1 hx).2]; simpa using hz6]
    simp; omega
  have hcl : ∀ ty, (Builtin.clear_ #[57] ty #[.slice (some ⟨b, (i + (n - j)) * 10, none⟩) (n - (i + (n - j))) (cap - (i + (n - j)))]).run Try.prog W1 = .ok (.tuple #[]) (W1.setCells b ((i + (n - j)) * 10) Z) :=
    fun ty => by
      rw [hZ]
      exact clear_row W1 _ 48 10 z Try.underlying57 hv hz6 (by omega) (by rw [hz4]; exact hz5) b _ _ _ (by omega) (fun q hq => by
        simp only [World.cell?, k1.at', Option.isSome_none, Bool.false_eq_true, if_false]
        simp [show (i + (n - j)) * 10 + q < cur1.size by omega]) (fun q hq => by simp [World.frozen?, k1.at']) ty
  have hW : Hid (W1 = w.drew.setCells b (0 + i * 10) news) := hW1
  have hY : Hid (Z.length = (j - i) * 10) := hZl
  have hic : i ≤ cap := by omega
  have hjc : j ≤ cap := by omega
  clear hW1 k1 k2 hcs1 hcell hfrz hsome hget hnews hlen hz2 hz3 hz4 hz5 hz6 hh hcs ho hv hZ hZl
  go_enter Try.func72, Try.ntmps72
  go_wp2_with fail
  go_region_law (refine step_append_room rfl (.tmp 22) (.tmp 25) 57 rfl 48 i0 10 Try.underlying57 hi0 hz1 b 0 i cap (by simp [Act.eval, Act.put]) A (n - j) (cap - j) news (by simp [Act.eval, Act.put]) s1.out hsrc.out s2.out (by omega) s3.out ?_; rw [← hW.out])
  go_wp2
  go_ret
  exact ⟨rfl, Z, by rw [hW.out, Nat.zero_add], hY.out⟩
end Go.Proofs.Ytoocihhnlhehlaa
