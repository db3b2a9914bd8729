/- Orders, calendars and acts that come in. -/
import Derived.Test.YtoocihhnlhehlaaOpn
namespace Go.Proofs.Ytoocihhnlhehlaa
open Go Go.Proofs.Ytoocihhnlhehlaa.Den
set_option maxRecDepth 100000
def ordSh : List CS := [ik, ik, ik, ik, ik, ik, ik, ik, ik, .k .str]
def ordK : List CK := [.int .i64, .int .i64, .int .i64, .int .i64, .int .i64, .int .i64, .int .i64, .int .i64, .int .i64, .str]
def calSh : List CS := [.k .str, .sl 3 [.int .i64], .sl 3 [.int .i64]]
structure OrderIn (o : Order) : Prop where
  id : In o.id
  day : In o.day
  ev : In o.ev
  un : In o.un
  tr : In o.tr
  tx : o.tx.size ≤ maxLen
theorem order_open {xs : List C} (h : Typed ordSh xs) : ∃ o : Order, OrderIn o ∧ CLes xs [.v (.int .i64 (o.id)), .v (.int .i64 (o.fr)), .v (.int .i64 (o.to)), .v (.int .i64 (o.am)), .v (.int .i64 (o.day)), .v (.int .i64 (o.ev)), .v (.int .i64 (o.an)), .v (.int .i64 (o.un)), .v (.int .i64 (o.tr)), .v (.string (o.tx))] := by
  simp only [ordSh, ik, Typed, CTy] at h
  obtain ⟨_, _, rfl, ⟨a0, rfl, h0⟩, _, _, rfl, ⟨a1, rfl, h1⟩, _, _, rfl, ⟨a2, rfl, h2⟩, _, _, rfl, ⟨a3, rfl, h3⟩, _, _, rfl, ⟨a4, rfl, h4⟩, _, _, rfl, ⟨a5, rfl, h5⟩, _, _, rfl, ⟨a6, rfl, h6⟩, _, _, rfl, ⟨a7, rfl, h7⟩, _, _, rfl, ⟨a8, rfl, h8⟩, _, _, rfl, ⟨a9, rfl, h9⟩, rfl⟩ := h
  refine ⟨⟨a0, a1, a2, a3, a4, a5, a6, a7, a8, a9⟩, ⟨in_wf h0, in_wf h4, in_wf h5, in_wf h7, in_wf h8, h9⟩, ?_⟩
  repeat' (first | exact CLes.nil | exact CLe.refl _ | apply CLes.cons)
theorem ints_open {n : Nat} {get : Nat → List Value} (h : ∀ j, j < n → KsOk [.int .i64] (get j)) : ∃ f : Nat → Int, ∀ j, j < n → get j = [vi (f j)] ∧ In (f j) := by
  refine pick_fun (P := fun j (d : Int) => get j = [vi d] ∧ In d) 0 fun j hj => ?_
  have h1 := h j hj
  simp only [KsOk, VTy] at h1
  obtain ⟨_, _, e, ⟨a, rfl, ha⟩, rfl⟩ := h1
  exact ⟨a, e, in_wf ha⟩
theorem cal_open {xs : List C} (h : Typed calSh xs) : ∃ c : Cal, CLes xs [.v (.string (c.na)), .sl 1 c.we.n (fun j => [.int .i64 (c.we.at' j)]), .sl 1 c.ho.n (fun j => [.int .i64 (c.ho.at' j)])] := by
  simp only [calSh, Typed, CTy] at h
  obtain ⟨_, _, rfl, ⟨a0, rfl, h0⟩, _, _, rfl, ⟨n1, g1, rfl, hn1, h1⟩, _, _, rfl, ⟨n2, g2, rfl, hn2, h2⟩, rfl⟩ := h
  obtain ⟨f1, hf1⟩ := ints_open h1
  obtain ⟨f2, hf2⟩ := ints_open h2
  refine ⟨⟨a0, ⟨n1, f1⟩, ⟨n2, f2⟩⟩, ?_⟩
  repeat' (first | exact CLes.nil | exact CLe.refl _ | apply CLes.cons)
  · exact CLe.sl rfl fun j hj => (hf1 j hj).1
  · exact CLe.sl rfl fun j hj => (hf2 j hj).1
theorem orders_open {n : Nat} {get : Nat → List Value} (h : ∀ j, j < n → KsOk ordK (get j)) : ∃ f : Nat → Order, ∀ j, j < n → get j = [.int .i64 ((f j).id), .int .i64 ((f j).fr), .int .i64 ((f j).to), .int .i64 ((f j).am), .int .i64 ((f j).day), .int .i64 ((f j).ev), .int .i64 ((f j).an), .int .i64 ((f j).un), .int .i64 ((f j).tr), .string ((f j).tx)] ∧ OrderIn (f j) := by
  refine pick_fun (P := fun j (o : Order) => get j = [.int .i64 (o.id), .int .i64 (o.fr), .int .i64 (o.to), .int .i64 (o.am), .int .i64 (o.day), .int .i64 (o.ev), .int .i64 (o.an), .int .i64 (o.un), .int .i64 (o.tr), .string (o.tx)] ∧ OrderIn o) ⟨0, 0, 0, 0, 0, 0, 0, 0, 0, ByteArray.empty⟩ fun j hj => ?_
  have h1 := h j hj
  simp only [ordK, KsOk, VTy] at h1
  obtain ⟨_, _, e, ⟨a0, rfl, h0⟩, _, _, rfl, ⟨a1, rfl, h1⟩, _, _, rfl, ⟨a2, rfl, h2⟩, _, _, rfl, ⟨a3, rfl, h3⟩, _, _, rfl, ⟨a4, rfl, h4⟩, _, _, rfl, ⟨a5, rfl, h5⟩, _, _, rfl, ⟨a6, rfl, h6⟩, _, _, rfl, ⟨a7, rfl, h7⟩, _, _, rfl, ⟨a8, rfl, h8⟩, _, _, rfl, ⟨a9, rfl, h9⟩, rfl⟩ := h1
  exact ⟨⟨a0, a1, a2, a3, a4, a5, a6, a7, a8, a9⟩, e, in_wf h0, in_wf h4, in_wf h5, in_wf h7, in_wf h8, h9⟩
def actK : List CK := [.int .i64, .int .i64, .int .i64, .bool, .int .i64, .int .i64, .int .i64, .int .i64, .int .i64, .int .i64, .int .i64, .int .i64, .int .i64, .str]
theorem acts_open {n : Nat} {get : Nat → List Value} (h : ∀ j, j < n → KsOk actK (get j)) : ∃ f : Nat → Act, ∀ j, j < n → get j = [.int .i64 ((f j).kd), .int .i64 ((f j).id), .int .i64 ((f j).day), .bool ((f j).ok), .int .i64 ((f j).o.id), .int .i64 ((f j).o.fr), .int .i64 ((f j).o.to), .int .i64 ((f j).o.am), .int .i64 ((f j).o.day), .int .i64 ((f j).o.ev), .int .i64 ((f j).o.an), .int .i64 ((f j).o.un), .int .i64 ((f j).o.tr), .string ((f j).o.tx)] := by
  refine pick_fun (P := fun j (o : Act) => get j = [.int .i64 (o.kd), .int .i64 (o.id), .int .i64 (o.day), .bool (o.ok), .int .i64 (o.o.id), .int .i64 (o.o.fr), .int .i64 (o.o.to), .int .i64 (o.o.am), .int .i64 (o.o.day), .int .i64 (o.o.ev), .int .i64 (o.o.an), .int .i64 (o.o.un), .int .i64 (o.o.tr), .string (o.o.tx)]) ⟨0, 0, 0, false, ⟨0, 0, 0, 0, 0, 0, 0, 0, 0, ByteArray.empty⟩⟩ fun j hj => ?_
  have h1 := h j hj
  simp only [actK, KsOk, VTy] at h1
  obtain ⟨_, _, e, ⟨b0, rfl, _⟩, _, _, rfl, ⟨b1, rfl, _⟩, _, _, rfl, ⟨b2, rfl, _⟩, _, _, rfl, ⟨b3, rfl⟩, _, _, rfl, ⟨a0, rfl, h0⟩, _, _, rfl, ⟨a1, rfl, h1⟩, _, _, rfl, ⟨a2, rfl, h2⟩, _, _, rfl, ⟨a3, rfl, h3⟩, _, _, rfl, ⟨a4, rfl, h4⟩, _, _, rfl, ⟨a5, rfl, h5⟩, _, _, rfl, ⟨a6, rfl, h6⟩, _, _, rfl, ⟨a7, rfl, h7⟩, _, _, rfl, ⟨a8, rfl, h8⟩, _, _, rfl, ⟨a9, rfl, h9⟩, rfl⟩ := h1
  exact ⟨⟨b0, b1, b2, b3, ⟨a0, a1, a2, a3, a4, a5, a6, a7, a8, a9⟩⟩, e⟩
end Go.Proofs.Ytoocihhnlhehlaa
