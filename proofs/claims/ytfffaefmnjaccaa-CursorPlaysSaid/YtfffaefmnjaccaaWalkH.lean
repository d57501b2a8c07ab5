/- THE WALK of 'live': the chapter's example is told. No condition. -/
import Derived.Test.YtfffaefmnjaccaaWalkG
namespace Go.Proofs.Ytfffaefmnjaccaa
open Go.RowKit
set_option linter.unusedVariables false

def LivePost (w : World) (e : Ending) (w' : World) : Prop := e = .returned (.bool true) ∧ Below w.heap.size w w'

def ex : List Bool := [false, true, false]
theorem ex_rd (w : World) : Rd (w.alloc (.cells #[.bool false, .bool true, .bool false] 4)) (some ⟨w.heap.size, 0, none⟩) (bools ex) := fun _ => by
  refine ⟨_, _, rfl, fun j u hu => ?_⟩
  rw [World.cell?_alloc_new, Nat.zero_add]
  match j, hu with
  | 0, h => exact h
  | 1, h => exact h
  | 2, h => exact h
theorem ex_call (W : World) (A : Option Addr) (h : Rd W A (bools ex)) (hA : A ≠ none) (a k : Int) :
    Calls Try.prog 7 #[.slice A 3 3, .int .i64 a, .agg #[.int .i64 k, .int .i64 0]] W (MvPost W (mv ex a k 0)) :=
  move_any A 3 ex a k 0 W (by decide) h (by decide) (fun e => absurd e hA)
theorem ex1 : mv ex 0 3 0 = (2, 2, 0) := by decide +kernel
theorem ex2 : mv ex 2 3 0 = (3, 3, 0) := by decide +kernel
theorem ex3 : mv ex 3 4 0 = (2, 2, 0) := by decide +kernel

set_option maxHeartbeats 400000 in
theorem live_any (w : World) : Calls Try.prog 6 #[] w (LivePost w) := by
  have H1 : Hid (∀ W : World, Rd W (some ⟨w.heap.size, 0, none⟩) (bools ex) → Calls Try.prog 7 #[.slice (some ⟨w.heap.size, 0, none⟩) 3 3, .int .i64 0, .agg #[.int .i64 3, .int .i64 0]] W (MvPost W (2, 2, 0))) := fun W h => by
    have := ex_call W _ h (by simp) 0 3; rwa [ex1] at this
  have H2 : Hid (∀ W : World, Rd W (some ⟨w.heap.size, 0, none⟩) (bools ex) → Calls Try.prog 7 #[.slice (some ⟨w.heap.size, 0, none⟩) 3 3, .int .i64 2, .agg #[.int .i64 3, .int .i64 0]] W (MvPost W (3, 3, 0))) := fun W h => by
    have := ex_call W _ h (by simp) 2 3; rwa [ex2] at this
  have H3 : Hid (∀ W : World, Rd W (some ⟨w.heap.size, 0, none⟩) (bools ex) → Calls Try.prog 7 #[.slice (some ⟨w.heap.size, 0, none⟩) 3 3, .int .i64 3, .agg #[.int .i64 4, .int .i64 0]] W (MvPost W (2, 2, 0))) := fun W h => by
    have := ex_call W _ h (by simp) 3 4; rwa [ex3] at this
  have hr0 := ex_rd w
  have R0 := Lib.hid hr0
  clear hr0
  go_enter Try.func6, Try.ntmps6
  go_wp2_with fail
  with_reducible (refine Calls.mono (H1.out _ R0.out) ?_)
  rintro e w1 hp
  obtain ⟨rfl, hb1⟩ := hp
  have hr1 := R0.out.below hb1
  have hB1 : Below w.heap.size w w1 := (box_below _ _).trans (hb1.mono (by simp))
  have R1 := Lib.hid hr1
  clear hr1 hb1
  go_wp2_with fail
  with_reducible (refine Calls.mono (H2.out _ R1.out) ?_)
  rintro e w2 hp
  obtain ⟨rfl, hb2⟩ := hp
  have hr2 := R1.out.below hb2
  have hB2 : Below w.heap.size w w2 := hB1.trans (hb2.mono hB1.size)
  have R2 := Lib.hid hr2
  clear hr2 hb2 hB1
  go_wp2_with fail
  with_reducible (refine Calls.mono (H3.out _ R2.out) ?_)
  rintro e w3 hp
  obtain ⟨rfl, hb3⟩ := hp
  have hB3 : Below w.heap.size w w3 := hB2.trans (hb3.mono hB2.size)
  clear hb3 hB2
  go_wp2_with fail
  go_ret
  exact ⟨rfl, hB3⟩
end Go.Proofs.Ytfffaefmnjaccaa
