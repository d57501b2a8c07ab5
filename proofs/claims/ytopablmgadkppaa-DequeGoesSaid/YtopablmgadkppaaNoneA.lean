/- THE WALKS of a nil Deque. No condition. -/
import Derived.Test.YtopablmgadkppaaLive
import Derived.Test.YtopablmgadkppaaWalkG
namespace Go.Proofs.Ytopablmgadkppaa
open Go.RowKit
set_option linter.unusedVariables false

theorem push_nil (x : Value) (w : World) : Calls Try.prog 9 #[.pointer none, x] w fun e w' => e = .returned (.tuple #[]) ∧ w = w' := by
  go_enter Try.func9, Try.ntmps9
  go_wp2
  refine bodyPost_ret (results_none rfl _ _ _) rfl ?_
  exact ⟨rfl, rfl⟩
theorem shove_nil (x : Value) (w : World) : Calls Try.prog 10 #[.pointer none, x] w fun e w' => e = .returned (.tuple #[]) ∧ w = w' := by
  go_enter Try.func10, Try.ntmps10
  go_wp2
  refine bodyPost_ret (results_none rfl _ _ _) rfl ?_
  exact ⟨rfl, rfl⟩
theorem len_nil (w : World) : Calls Try.prog 19 #[.pointer none] w fun e w' => e = .returned (.int .i64 0) ∧ w = w' := by
  go_enter Try.func19, Try.ntmps19
  go_wp2
  go_ret
  exact ⟨rfl, rfl⟩
theorem at_nil (i : Int) (w : World) : Calls Try.prog 17 #[.pointer none, .int .i64 i] w fun e w' => e = .returned (.tuple #[zero, .bool false]) ∧ w = w' := by
  have K := Lib.hid len_nil
  by_cases h : i < 0
  · go_enter Try.func17, Try.ntmps17
    go_wp2_with (go_at_call 19; refine (K.out _).mono ?_; rintro e w' ⟨rfl, rfl⟩)
    go_ret2
    exact ⟨rfl, rfl⟩
  · have h2 : 0 ≤ i := by omega
    clear h
    go_enter Try.func17, Try.ntmps17
    go_wp2_with (go_at_call 19; refine (K.out _).mono ?_; rintro e w' ⟨rfl, rfl⟩)
    go_ret2
    exact ⟨rfl, rfl⟩
theorem pop_nil (w : World) : Calls Try.prog 12 #[.pointer none] w fun e w' => e = .returned (.tuple #[zero, .bool false]) ∧ w = w' := by
  have K := Lib.hid at_nil
  go_enter Try.func12, Try.ntmps12
  go_wp2_with (go_at_call 17; refine (K.out _ _).mono ?_; rintro e w' ⟨rfl, rfl⟩)
  go_ret2
  exact ⟨rfl, rfl⟩
theorem drop_nil (w : World) : Calls Try.prog 15 #[.pointer none] w fun e w' => e = .returned (.tuple #[zero, .bool false]) ∧ w = w' := by
  have K := Lib.hid at_nil
  have K2 := Lib.hid len_nil
  go_enter Try.func15, Try.ntmps15
  go_wp2_with (first | (go_at_call 17; refine (K.out _ _).mono ?_; rintro e w' ⟨rfl, rfl⟩) | (go_at_call 19; refine (K2.out _).mono ?_; rintro e w' ⟨rfl, rfl⟩))
  go_ret2
  exact ⟨rfl, rfl⟩
theorem all_any (p : Option Addr) (w : World) : Calls Try.prog 20 #[.pointer p] w fun e w' => e = .returned (.func (.func 28) #[] #[.pointer (some ⟨w.heap.size, 0, none⟩)]) ∧ w.alloc (.cells #[.pointer p] 47) = w' := by
  go_enter Try.func20, Try.ntmps20
  go_wp2
  go_ret
  exact ⟨rfl, rfl⟩
end Go.Proofs.Ytopablmgadkppaa
