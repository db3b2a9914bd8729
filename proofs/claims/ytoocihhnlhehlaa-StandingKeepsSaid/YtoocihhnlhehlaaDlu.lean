/- slices.Delete takes a row of the call's own and hands back what is left. -/
import Derived.Test.YtoocihhnlhehlaaDlt
namespace Go.Proofs.Ytoocihhnlhehlaa
open Go Go.Proofs.Ytoocihhnlhehlaa.Den Go.RowKit
set_option linter.unusedSimpArgs false
set_option linter.unusedVariables false
set_option maxRecDepth 100000
theorem flat_take (sz : Nat) : ∀ (L : List (List Value)) (i : Nat), (∀ x ∈ L, x.length = sz) → (L.take i).flatten = L.flatten.take (i * sz)
  | [], i, _ => by simp
  | x :: r, 0, _ => by simp
  | x :: r, i + 1, h => by
    have hx := h x (by simp)
    rw [List.take_succ_cons, List.flatten_cons, flat_take sz r i (fun y hy => h y (by simp [hy])), List.flatten_cons, List.take_append, hx]
    rw [List.take_of_length_le (l := x) (by rw [hx, Nat.add_mul]; omega), show (i + 1) * sz - sz = i * sz by rw [Nat.add_mul]; omega]
theorem flat_drop (sz : Nat) : ∀ (L : List (List Value)) (i : Nat), (∀ x ∈ L, x.length = sz) → (L.drop i).flatten = L.flatten.drop (i * sz)
  | [], i, _ => by simp
  | x :: r, 0, _ => by simp
  | x :: r, i + 1, h => by
    have hx := h x (by simp)
    rw [List.drop_succ_cons, flat_drop sz r i (fun y hy => h y (by simp [hy])), List.flatten_cons, List.drop_append, hx]
    rw [List.drop_of_length_le (l := x) (by rw [hx, Nat.add_mul]; omega), show (i + 1) * sz - sz = i * sz by rw [Nat.add_mul]; omega, List.nil_append]
def cutRow (A : Ar) (xs : Rx) (i j : Int) : Rx := .cat (.of (A.nat i) (xs.getA A)) (.of (A.nsub (xs.lenA A) (A.nat j)) (A.from_ (xs.getA A) (A.nat j)))
def delH (A : Ar) (xs : Rx) (rest : List D) : Option (Prop × Rx) :=
  match rest with
  | [.c (.v (.int .i64 i)), .c (.v (.int .i64 j))] => some (A.bnd2 i j (xs.lenA A) ∧ A.lt i j = true ∧ (∀ m, m < xs.lenA A → (xs.getA A m).length = 10), cutRow A xs i j)
  | _ => none
theorem cut_list (xs : Rx) (i j : Int) (h0 : 0 ≤ i) (h1 : i ≤ j) (h2 : j ≤ xs.len) : (cutRow Ar.std xs i j).list = xs.list.take i.toNat ++ xs.list.drop j.toNat := by
  have hl := xs.len_eq
  simp only [cutRow, Rx.list, Rx.lenA_std, Rx.getA_std]
  congr 1
  · apply List.ext_getElem?
    intro m
    show ((List.range i.toNat).map xs.get)[m]? = _
    rcases Nat.lt_or_ge m i.toNat with hm | hm
    · rw [List.getElem?_map, List.getElem?_range hm, Option.map_some, List.getElem?_take, if_pos hm, xs.get_eq m (by omega)]
      simp [List.getD, show m < xs.list.length by omega]
    · simp [List.getElem?_take, show ¬ m < i.toNat by omega]
  · apply List.ext_getElem?
    intro m
    show ((List.range (xs.len - j.toNat)).map fun k => xs.get (k + j.toNat))[m]? = _
    rcases Nat.lt_or_ge m (xs.len - j.toNat) with hm | hm
    · rw [List.getElem?_map, List.getElem?_range hm, Option.map_some, List.getElem?_drop, xs.get_eq _ (by omega)]
      simp [List.getD, show m + j.toNat < xs.list.length by omega, Nat.add_comm]
    · rw [List.getElem?_eq_none (by simp; omega), List.getElem?_eq_none (by simp; omega)]
theorem del_eats (e sz : Nat) (xs : Rx) (rest : List D) (p : Prop) (ys : Rx) (h : delH Ar.std xs rest = some (p, ys)) (hp : p) : Eats Try.prog 72 e sz xs rest ys := by
  unfold delH at h
  split at h
  · rename_i i j
    simp only [Option.some.injEq, Prod.mk.injEq] at h
    obtain ⟨rfl, rfl⟩ := h
    rw [Rx.lenA_std, Rx.getA_std] at hp
    obtain ⟨⟨b0, b1, b2⟩, hlt, hrow⟩ := hp
    have hlt : i < j := by simpa [Ar.std] using hlt
    refine ⟨⟨_, Try.func72, by decide, rfl⟩, fun w base v us hbase hown hro hrep => ?_⟩
    simp only [D.reps, D.rep0, C.rep] at hrep
    obtain ⟨_, _, rfl, ⟨rfl, _⟩, _, _, rfl, ⟨rfl, _⟩, rfl⟩ := hrep
    have hl := xs.len_eq
    have hsz : sz = 10 := by
      have h1 := hrow 0 (by omega)
      rw [xs.get_eq 0 (by omega)] at h1
      have h2 := hro (xs.list.getD 0 []) (by
        have : xs.list.getD 0 [] = xs.list[0]'(by omega) := by simp [List.getD, show 0 < xs.list.length by omega]
        rw [this]; exact List.getElem_mem _)
      omega
    subst hsz
    have hcl := cut_list xs i j b0 b1 b2
    obtain ⟨hlen, hv⟩ := hown
    rcases hv with ⟨_, h0⟩ | ⟨b, cap, cur, rfl, hb, hh, hnc, hcm, hcs, htk⟩
    · omega
    have hwalk := del_walk b e xs.list.length cap i.toNat j.toNat w cur (by omega) (by omega) hnc hcm hcs hh (by
      intro x hx
      rw [htk] at hx
      obtain ⟨l, hl1, hl2⟩ := List.mem_flatten.1 (List.mem_of_mem_drop hx)
      exact (hro l hl1).2 x hl2)
    rw [show ((i.toNat : Nat) : Int) = i by omega, show ((j.toNat : Nat) : Int) = j by omega] at hwalk
    refine hwalk.mono ?_
    rintro e' w' ⟨rfl, Z, rfl, hZ⟩
    rw [htk]
    obtain ⟨cur1, k1, k2⟩ := setCells_1 (b := b) (e := e) (xs.list.flatten.drop (j.toNat * 10)) (i.toNat * 10) w.drew cur hh (by simp [hlen]; omega)
    have hd : (xs.list.flatten.drop (j.toNat * 10)).length = (xs.list.length - j.toNat) * 10 := by simp [hlen]; omega
    have hcs1 : cur1.size = cap * 10 := by
      have := congrArg List.length k2
      simp [hlen] at this
      omega
    obtain ⟨cur2, g1, g2⟩ := setCells_1 (b := b) (e := e) Z ((i.toNat + (xs.list.length - j.toNat)) * 10) _ cur1 k1.at' (by rw [hZ]; omega)
    have hcs2 : cur2.size = cap * 10 := by
      have := congrArg List.length g2
      simp [hZ] at this
      omega
    have hylen : (cutRow Ar.std xs i j).list.length = i.toNat + (xs.list.length - j.toNat) := by rw [hcl]; simp; omega
    have hrows : ∀ x ∈ xs.list, x.length = 10 := fun x hx => (hro x hx).1
    have hflat : (cutRow Ar.std xs i j).list.flatten = xs.list.flatten.take (i.toNat * 10) ++ xs.list.flatten.drop (j.toNat * 10) := by
      rw [hcl, List.flatten_append, flat_take 10 _ _ hrows, flat_drop 10 _ _ hrows]
    refine ⟨_, rfl, ⟨?_, .inr ⟨b, cap, cur2, ?_, hb, g1.at', ?_, hcm, hcs2, ?_⟩⟩, ?_, ⟨?_, ?_, ?_, ?_, ?_⟩, .inl rfl⟩
    · rw [hflat, hylen]; simp [hlen]; omega
    · rw [hylen]
    · rw [hylen]; omega
    · rw [hylen, hflat, g2, List.append_assoc, List.take_append_of_le_length (by simp; omega), List.take_take, Nat.min_self, k2]
      rw [List.take_append_of_le_length (by simp [hd]; omega)]
      rw [List.take_of_length_le (by simp [hd]; omega)]
      congr 1
      rw [← htk, List.take_take, Nat.min_eq_left (by omega)]
    · intro x hx
      rw [hcl] at hx
      rcases List.mem_append.1 hx with hx | hx
      · exact hro x (List.mem_of_mem_take hx)
      · exact hro x (List.mem_of_mem_drop hx)
    · exact g1.os.trans k1.os
    · exact g1.tape.trans k1.tape
    · exact g1.output.trans k1.output
    · exact Nat.le_of_eq (g1.size.trans k1.size).symm
    · intro k hk hne
      have : k ≠ b := fun e => hne (by rw [e]; rfl)
      exact (g1.block k this).trans (k1.block k this)
  · cases h
end Go.Proofs.Ytoocihhnlhehlaa
