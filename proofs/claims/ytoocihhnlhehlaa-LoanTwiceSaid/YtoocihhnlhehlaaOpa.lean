/- A pair of numbers that comes in. -/
import Derived.Test.YtoocihhnlhehlaaOpn
import Derived.Below
namespace Go.Proofs.Ytoocihhnlhehlaa
open Go Go.Proofs.Ytoocihhnlhehlaa.Den
open Go.ChangeShapes Go.WideShapes
theorem open_pair {P : Program} {w : World} {H : Type} {enc : TypeId × Value → H} {sp : Nat → Bool} {held : Bool} {t e base : Nat} {v : Value} {d : DataW H} {ps : List MemPlace}
    (ht : P.underlying t = some (.array 2 e)) (he : P.underlying e = some (.int .i64)) (hc : P.cellsOf e = 1) (hct : P.cellsOf t = 2) (hval : Value.okWide P w .any base t v) (h : DataW.Trod enc P w 0 sp held t v d ps) :
    ∃ a b : Int, v = .agg #[.int .i64 a, .int .i64 b] ∧ In a ∧ In b := by
  obtain ⟨m, h⟩ := h
  unfold Value.okWide at hval
  rw [ht] at hval
  obtain ⟨cs, rfl, hsz, _⟩ := hval
  cases m with
  | zero => simp [DataW.trod] at h
  | succ m =>
    rw [DataW.trod_step] at h
    unfold DataW.trodStep at h
    simp only [ht, Value.cells] at h
    split at h
    · rename_i hl
      simp only [Option.map_eq_some_iff] at h
      obtain ⟨ys, hy, _⟩ := h
      rw [show List.range 2 = [0, 1] from rfl, List.mapM_cons, List.mapM_cons, hc] at hy
      simp only [bind, Option.bind_eq_some_iff, pure] at hy
      obtain ⟨x0, h0, _, ⟨x1, h1, _⟩, _⟩ := hy
      obtain ⟨a, ea, _, wa⟩ := DataW.trod_int he h0
      obtain ⟨b, eb, _, wb⟩ := DataW.trod_int he h1
      refine ⟨a, b, ?_, in_wf wa, in_wf wb⟩
      rw [hct] at hsz
      obtain ⟨l⟩ := cs
      match l, hsz, ea, eb with
      | [x, y], _, ea, eb =>
        simp at ea eb
        rw [ea, eb]
    · cases h
end Go.Proofs.Ytoocihhnlhehlaa
