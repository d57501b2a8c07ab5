/- THE WALKS of the nil ones, and of OracleNone: true, whatever comes in. -/
import Derived.Test.YtbggoelfnolldaaWalkG
namespace Go.Proofs.Ytbggoelfnolldaa
open Go.RowKit
set_option linter.unusedVariables false

set_option maxHeartbeats 400000 in
theorem ask_nil (w : World) (kd n : Int) : Calls Try.prog 12 #[.pointer none, .int .i64 kd, .int .i64 n] w fun e w' => e = .returned (.tuple #[.int .i64 0, .int .i64 9]) ∧ w = w' := by
  go_enter Try.func12, Try.ntmps12
  go_wp2
  go_ret2
  exact ⟨rfl, rfl⟩
set_option maxHeartbeats 400000 in
theorem log_nil (w : World) (kd n : Int) : Calls Try.prog 17 #[.pointer none, .int .i64 kd, .int .i64 n] w fun e w' => e = .returned (.tuple #[.int .i64 0, .int .i64 9]) ∧ w = w' := by
  go_enter Try.func17, Try.ntmps17
  go_wp2
  go_ret2
  exact ⟨rfl, rfl⟩
set_option maxHeartbeats 400000 in
theorem tape_nil (w : World) (kd n : Int) : Calls Try.prog 11 #[.pointer none, .int .i64 kd, .int .i64 n] w fun e w' => e = .returned (.tuple #[.int .i64 0, .int .i64 9]) ∧ w = w' := by
  go_enter Try.func11, Try.ntmps11
  go_wp2
  go_ret2
  exact ⟨rfl, rfl⟩
set_option maxHeartbeats 400000 in
theorem tape_none (w : World) (u : Nat) (kd n : Int) (h : w.cell? ⟨u, 0, none⟩ = some .nilIface) : Calls Try.prog 11 #[.pointer (some ⟨u, 0, none⟩), .int .i64 kd, .int .i64 n] w fun e w' => e = .returned (.tuple #[.int .i64 0, .int .i64 (if n < 1 then 1 else 9)]) ∧ w = w' := by
  by_cases hn : n < 1
  · rw [if_pos hn]
    go_enter Try.func11, Try.ntmps11
    go_wp2
    go_ret2
    exact ⟨rfl, rfl⟩
  · rw [if_neg hn]
    go_enter Try.func11, Try.ntmps11
    go_wp2
    go_ret2
    exact ⟨rfl, rfl⟩
set_option maxHeartbeats 400000 in
theorem record_none (w : World) : Calls Try.prog 8 #[.nilIface] w fun e w' =>
    e = .returned (.pointer (some ⟨w.heap.size, 0, none⟩)) ∧ w' = w.alloc (.cells #[.nilIface, .slice none 0 0] 60) := by
  go_enter Try.func8, Try.ntmps8
  go_wp2
  go_ret
  exact ⟨rfl, rfl⟩
set_option maxHeartbeats 400000 in
theorem left_nil (w : World) : Calls Try.prog 14 #[.pointer none] w fun e w' => e = .returned (.int .i64 0) ∧ w = w' := by
  go_enter Try.func14, Try.ntmps14
  go_wp2
  go_ret
  exact ⟨rfl, rfl⟩
set_option maxHeartbeats 400000 in
theorem read_nil (w : World) : Calls Try.prog 18 #[.pointer none] w fun e w' => e = .returned (.int .i64 0) ∧ w = w' := by
  go_enter Try.func18, Try.ntmps18
  go_wp2
  go_ret
  exact ⟨rfl, rfl⟩
set_option maxHeartbeats 400000 in
theorem events_nil (w : World) : Calls Try.prog 16 #[.pointer none] w fun e w' => e = .returned (.slice none 0 0) ∧ w = w' := by
  go_enter Try.func16, Try.ntmps16
  go_wp2
  go_ret
  exact ⟨rfl, rfl⟩
set_option maxHeartbeats 400000 in
theorem clone_none (w : World) : Calls Try.prog 24 #[.slice none 0 0] w fun e w' => e = .returned (.slice none 0 0) ∧ w = w' := by
  have hnil0 := fun W => Lib.run_eql_slice_nil (P := Try.prog) W 44 64 none 0 0 0 0 Try.underlying44
  go_enter Try.func24, Try.ntmps24
  go_wp2
  go_ret
  exact ⟨rfl, rfl⟩
set_option maxHeartbeats 400000 in
theorem events_none (w : World) (u : Nat) (h : w.cell? ⟨u, 1, none⟩ = some (.slice none 0 0)) : Calls Try.prog 16 #[.pointer (some ⟨u, 0, none⟩)] w fun e w' => e = .returned (.slice none 0 0) ∧ w = w' := by
  have KC := Lib.hid (clone_none w)
  go_enter Try.func16, Try.ntmps16
  go_wp2_with fail
  with_reducible (refine Calls.mono KC.out ?_)
  rintro e w1 hp
  obtain ⟨rfl, rfl⟩ := hp
  go_wp2_with fail
  go_ret
  exact ⟨rfl, rfl⟩

set_option maxRecDepth 100000 in
set_option maxHeartbeats 4000000 in
theorem none_walk (w : World) (kd n : Int) : Calls Try.prog 4 #[.int .i64 kd, .int .i64 n] w (LivePost w) := by
  have KR := Lib.hid (record_none w)
  have K12 := Lib.hid (fun W => ask_nil W kd n)
  have K17 := Lib.hid (fun W => log_nil W kd n)
  have K11 := Lib.hid (fun W => tape_nil W kd n)
  have KT := Lib.hid (fun W u h => tape_none W u kd n h)
  have K14 := Lib.hid left_nil
  have K18 := Lib.hid read_nil
  have K16 := Lib.hid events_nil
  have KE := Lib.hid events_none
  have KL := Lib.hid live_any
  have hb : (w.alloc (.cells #[.nilIface, .slice none 0 0] 60)).cell? ⟨w.heap.size, 0, none⟩ = some .nilIface := by rw [World.cell?_alloc_new]; rfl
  have hb1 : (w.alloc (.cells #[.nilIface, .slice none 0 0] 60)).cell? ⟨w.heap.size, 1, none⟩ = some (.slice none 0 0) := by rw [World.cell?_alloc_new]; rfl
  have hbel : Below w.heap.size w (w.alloc (.cells #[.nilIface, .slice none 0 0] 60)) := (Below.refl _ _).alloc (Nat.le_refl _) _
  have HB := Lib.hid hbel
  have H0 := Lib.hid hb
  have H1 := Lib.hid hb1
  have hle : w.heap.size ≤ (w.alloc (.cells #[.nilIface, .slice none 0 0] 60)).heap.size := hbel.size
  clear hb hb1 hbel
  go_enter Try.func4, Try.ntmps4
  go_wp2_with fail
  with_reducible (refine Calls.mono KR.out ?_)
  rintro e w1 hp
  obtain ⟨rfl, rfl⟩ := hp
  generalize w.alloc (.cells #[.nilIface, .slice none 0 0] 60) = w1 at *
  generalize hu : w.heap.size = u at *
  have HU := Lib.hid hu
  clear hu
  go_wp2_with fail
  with_reducible (refine Calls.mono (K12.out _) ?_)
  rintro e w2 hp
  obtain ⟨rfl, rfl⟩ := hp
  go_wp2_with fail
  with_reducible (refine Calls.mono (K17.out _) ?_)
  rintro e w2 hp
  obtain ⟨rfl, rfl⟩ := hp
  go_wp2_with fail
  with_reducible (refine Calls.mono (K11.out _) ?_)
  rintro e w2 hp
  obtain ⟨rfl, rfl⟩ := hp
  go_wp2_with fail
  with_reducible (refine Calls.mono (KT.out _ _ H0.out) ?_)
  rintro e w2 hp
  obtain ⟨rfl, rfl⟩ := hp
  by_cases hn : n < 1
  · rw [if_pos hn]
    go_wp2_with fail
    with_reducible (refine Calls.mono (K14.out _) ?_)
    rintro e w2 hp
    obtain ⟨rfl, rfl⟩ := hp
    go_wp2_with fail
    with_reducible (refine Calls.mono (K18.out _) ?_)
    rintro e w2 hp
    obtain ⟨rfl, rfl⟩ := hp
    go_wp2_with fail
    with_reducible (refine Calls.mono (K16.out _) ?_)
    rintro e w2 hp
    obtain ⟨rfl, rfl⟩ := hp
    go_wp2_with fail
    with_reducible (refine Calls.mono (KE.out _ _ H1.out) ?_)
    rintro e w2 hp
    obtain ⟨rfl, rfl⟩ := hp
    go_wp2_with fail
    with_reducible (refine Calls.mono (KL.out _) ?_)
    rintro e w2 hp
    obtain ⟨rfl, hb2⟩ := hp
    have HF := Lib.hid (show LivePost w (.returned (.bool true)) w2 from ⟨rfl, by rw [HU.out]; exact HB.out.trans (hb2.mono hle)⟩)
    clear hb2
    go_wp2_with fail
    go_ret
    exact HF.out
  · rw [if_neg hn]
    go_wp2_with fail
    with_reducible (refine Calls.mono (K14.out _) ?_)
    rintro e w2 hp
    obtain ⟨rfl, rfl⟩ := hp
    go_wp2_with fail
    with_reducible (refine Calls.mono (K18.out _) ?_)
    rintro e w2 hp
    obtain ⟨rfl, rfl⟩ := hp
    go_wp2_with fail
    with_reducible (refine Calls.mono (K16.out _) ?_)
    rintro e w2 hp
    obtain ⟨rfl, rfl⟩ := hp
    go_wp2_with fail
    with_reducible (refine Calls.mono (KE.out _ _ H1.out) ?_)
    rintro e w2 hp
    obtain ⟨rfl, rfl⟩ := hp
    go_wp2_with fail
    with_reducible (refine Calls.mono (KL.out _) ?_)
    rintro e w2 hp
    obtain ⟨rfl, hb2⟩ := hp
    have HF := Lib.hid (show LivePost w (.returned (.bool true)) w2 from ⟨rfl, by rw [HU.out]; exact HB.out.trans (hb2.mono hle)⟩)
    clear hb2
    go_wp2_with fail
    go_ret
    exact HF.out
end Go.Proofs.Ytbggoelfnolldaa
