/- THE WALK of CursorMoves: true, whatever comes in. The slice is nil or holds its bools. -/
import Derived.Test.YtfffaefmnjaccaaWalkH
namespace Go.Proofs.Ytfffaefmnjaccaa
open Go.RowKit
set_option linter.unusedVariables false

section
variable (A : Option Addr) (c : Nat) (hits : List Bool) (a k n : Int) (w : World)

set_option maxHeartbeats 800000 in
theorem moves_walk (hx : Rd w A (bools hits)) (hc : hits.length ≤ c) (hm : c ≤ maxLen) (hA : A = none → c = 0) :
    Calls Try.prog 3 #[.slice A hits.length c, .int .i64 a, .agg #[.int .i64 k, .int .i64 n]] w fun e w' => LivePost w e w' := by
  unfold maxLen at hm
  by_cases h200 : 200 < hits.length
  · go_enter Try.func3, Try.ntmps3
    go_wp2_with fail
    with_reducible (refine Calls.mono (live_any _) ?_)
    rintro e w1 hp
    obtain ⟨rfl, hb1⟩ := hp
    go_wp2_with fail
    go_ret
    exact ⟨rfl, (box_below _ _).trans (hb1.mono (by simp))⟩
  · have H1 := Lib.hid (move_any A c hits a k n _ (by omega) (hx.alloc (.cells #[.int .i64 k, .int .i64 n] 24)) hc hA)
    have H2 := Lib.hid (fun W h => ref_any A c hits a k n W (by omega) h)
    have R0 := Lib.hid (hx.alloc (.cells #[.int .i64 k, .int .i64 n] 24))
    clear hx hA
    generalize mv hits a k n = r at *
    obtain ⟨x, y, z⟩ := r
    go_enter Try.func3, Try.ntmps3
    go_wp2_with fail
    with_reducible (refine Calls.mono H1.out ?_)
    rintro e w1 hp
    obtain ⟨rfl, hb1⟩ := hp
    have hB1 : Below w.heap.size w w1 := (box_below _ _).trans (hb1.mono (by simp))
    have R1 := Lib.hid (R0.out.below hb1)
    obtain ⟨hc1, hf1⟩ := bcell hb1
    have hz1 := hb1.size
    simp only [World.size_alloc] at hc1 hf1 hz1
    clear hb1
    go_wp2_with fail
    with_reducible (refine Calls.mono (H2.out _ R1.out) ?_)
    rintro e w2 hp
    obtain ⟨rfl, hb2⟩ := hp
    have hB2 : Below w.heap.size w w2 := hB1.trans (hb2.mono hB1.size)
    clear hb2 hB1 hc1 hf1
    have hL := Lib.hid (fun W => live_any W)
    go_wp2_with fail
    with_reducible (refine Calls.mono (hL.out _) ?_)
    rintro e w3 hp
    obtain ⟨rfl, hb3⟩ := hp
    go_wp2_with fail
    go_ret
    exact ⟨rfl, (hB2.alloc hB2.size _).trans (hb3.mono (Nat.le_trans hB2.size (by simp)))⟩
end
end Go.Proofs.Ytfffaefmnjaccaa
