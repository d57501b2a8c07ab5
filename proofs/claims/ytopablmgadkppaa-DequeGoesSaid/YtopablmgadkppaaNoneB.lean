/- THE WALK of DequeNone: the going over a nil Deque. No condition. -/
import Derived.RangeFuncNested
import Derived.RangeFuncBound
import Derived.RangeFuncCalls
import Derived.RangeFuncLeaves
import Derived.RangeFuncFrom
import Derived.Shelf.Abstract
import Derived.Shelf.RegionOpen
import Derived.WalkKit
import Derived.OwnWalkIn
import Derived.TacticsInMore
import Derived.LoopNIn
import Derived.LoopIn
import Derived.Test.YtopablmgadkppaaNoneA
namespace Go.Proofs.Ytopablmgadkppaa
open Go.RowKit Go.Shelf
set_option linter.unusedVariables false
attribute [local go_sem] Oper.semAt_some

theorem run_new0 (W : World) : (Instr.makeSlice 25 (.int .i64 0) (.int .i64 0)).run Try.prog W = .ok (.slice (some ⟨W.heap.size, 0, none⟩) 0 0) (W.alloc (.cells #[] 9)) := by
  have := run_new 0 (by decide) W
  rw [show zeros 0 = #[] from Array.eq_empty_of_size_eq_zero (zeros_size 0)] at this
  exact this

set_option maxRecDepth 100000 in
set_option maxHeartbeats 2000000 in
theorem goes_nil (l Bn : Nat) (W : World) (hBn : W.cell? ⟨Bn, 0, none⟩ = some (.pointer none)) :
    Calls Try.prog 28 #[.func (.yield l) #[] #[], .pointer (some ⟨Bn, 0, none⟩)] W fun e W' => e = .returned (.tuple #[]) ∧ W' = W.alloc (.cells #[] 9) := by
  have K2 := Lib.hid len_nil
  have hmk := run_new0
  have hb : Bn < W.heap.size := World.block_lt_of_cell? W _ hBn
  go_enter Try.func28, Try.ntmps28
  go_wp2_with (go_at_call 19; refine (K2.out _).mono ?_; rintro e w' ⟨rfl, rfl⟩)
  go_loop [3, 12] (fun v i => i = .int .i64 0 ∧ v = .slice (some ⟨W.heap.size, 0, none⟩) 0 0) (fun _ _ => 0)
  case atStart => exact ⟨rfl, rfl⟩
  case round =>
    obtain ⟨rfl, rfl⟩ := hrel
    go_wp2
    go_loop [30] (fun i => i = .int .i64 0) (fun _ => 0)
    case atStart => rfl
    case round =>
      obtain rfl := hrel
      go_wp2
      go_end0
      exact ⟨rfl, rfl⟩

/-- The going over a nil Deque: nothing comes. -/
theorem goes_nil_stops (Bn : Nat) (W0 : World) (hBn : W0.cell? ⟨Bn, 0, none⟩ = some (.pointer none)) (n : Nat) :
    SeqStopsK (α := ByteArray) Fence.wide n Try.prog 28 #[.pointer (some ⟨Bn, 0, none⟩)] (fun x => #[.string x]) (Below W0.heap.size) (fun xs => xs = []) (fun _ => False) 0 W0 := by
  intro l J Jx W hW hJ hJx hY h0
  refine callsIn_wide.2 ?_
  refine (goes_nil l Bn W ((hW.cell (p := ⟨Bn, 0, none⟩) (World.block_lt_of_cell? W0 _ hBn)).trans hBn)).mono ?_
  rintro e W' ⟨rfl, rfl⟩
  refine ⟨⟨_, rfl⟩, .inl ⟨[], rfl, ?_⟩⟩
  exact hJ [] W _ none h0 (World.grownBy_alloc W _ none) (fun r e => (nomatch e))

set_option maxRecDepth 100000 in
set_option maxHeartbeats 4000000 in
theorem none_in (x : ByteArray) (i : Int) (n : Nat) (hn : 3 ≤ n) (w : World) :
    CallsIn Fence.wide n Try.prog 6 #[.string x, .int .i64 i] w (LivePost w) := by
  have h1 : 1 ≤ n := by omega
  have Kpu := Lib.hid push_nil
  have Ksh := Lib.hid shove_nil
  have Kpo := Lib.hid pop_nil
  have Kdr := Lib.hid drop_nil
  have Kat := Lib.hid at_nil
  have Kall := Lib.hid (all_any none)
  have KL := Lib.hid live_any
  have hfn : ∀ (a : Addr) W, Sem.run Try.prog (binOp .eql 44 (.func (.func 28) #[] #[.pointer (some a)]) .nilFunc) W = .ok (.bool false) W := fun a W => by kernel_rfl
  refine callsIn_of_wp_marks Try.func6 rfl trivial ?_ rfl
  simp only [Try.ntmps6, List.size_toArray, List.length_cons, List.length_nil, Nat.reduceAdd, Nat.reduceSub, Array.replicate_succ, Array.replicate_zero, List.push_toArray, List.append_toArray, List.nil_append, List.cons_append]
  gi_wp2_with (refine ⟨trivial, ?_⟩; first
    | (gi_at_call 9; refine (callsIn_wide.2 (Kpu.out _ _)).mono ?_; rintro e w' ⟨rfl, rfl⟩)
    | (gi_at_call 10; refine (callsIn_wide.2 (Ksh.out _ _)).mono ?_; rintro e w' ⟨rfl, rfl⟩)
    | (gi_at_call 12; refine (callsIn_wide.2 (Kpo.out _)).mono ?_; rintro e w' ⟨rfl, rfl⟩)
    | (gi_at_call 15; refine (callsIn_wide.2 (Kdr.out _)).mono ?_; rintro e w' ⟨rfl, rfl⟩)
    | (gi_at_call 17; refine (callsIn_wide.2 (Kat.out _ _)).mono ?_; rintro e w' ⟨rfl, rfl⟩)
    | (gi_at_call 20; refine (callsIn_wide.2 (Kall.out _)).mono ?_; rintro e w' ⟨rfl, rfl⟩)
    | (gi_at_call 8; refine (callsIn_wide.2 (KL.out _)).mono ?_; rintro e w' ⟨rfl, hb'⟩))
  have hB : Below w.heap.size w w' := by
    have := ((Below.refl w.heap.size w).alloc (Nat.le_refl _) (.cells #[.bool false] 4)).alloc (by simp) (.cells #[.pointer none] 47)
    exact this.trans (hb'.mono (by simp; omega))
  have hc : w'.cell? ⟨w.heap.size, 0, none⟩ = some (.bool false) := by
    refine (hb'.cell (p := ⟨w.heap.size, 0, none⟩) (by simp; omega)).trans ?_
    exact ((Blk.new w 4 #[.bool false]).alloc _).cell 0
  have hf : w'.frozen? ⟨w.heap.size, 0, none⟩ = false := by
    refine (hb'.frozen (p := ⟨w.heap.size, 0, none⟩) (by simp; omega)).trans ?_
    exact ((Blk.new w 4 #[.bool false]).alloc _).frozen 0
  have hd : w'.cell? ⟨w.heap.size + 1, 0, none⟩ = some (.pointer none) := by
    refine (hb'.cell (p := ⟨w.heap.size + 1, 0, none⟩) (by simp)).trans ?_
    have := (Blk.new (w.alloc (.cells #[.bool false] 4)) 47 #[.pointer none]).cell 0
    rw [World.size_alloc] at this
    exact this
  have hz := hb'.size
  simp at hz
  clear hb'
  refine wpIn_rangeFunc_ownF rfl h1 (gf := 28) (lb := #[.pointer (some ⟨w.heap.size + 1, 0, none⟩)]) rfl trivial (enters_of Try.func28 (by kernel_rfl) rfl)
    (goes_nil_stops (w.heap.size + 1) w' hd (n - 1)) belowK_t (belowK_b (Nat.le_refl _)) (Below.refl _ _) (fun _ => rfl)
    (fun pre W => (W.cell? ⟨w.heap.size, 0, none⟩ = some (.bool false) ∧ W.frozen? ⟨w.heap.size, 0, none⟩ = false) ∧ Below w.heap.size w W)
    (fun _ _ _ => False)
    (OwnFrom.and (Own.from (fun s A B row hs hg hr => ⟨cell_kept hs.1 hg hr, (frozen_kept hs.1 hg hr).trans hs.2⟩) _) (ownFrom_below (Nat.le_refl _) (by omega)))
    (fun _ _ _ _ _ hs _ _ => hs)
    ⟨⟨hc, hf⟩, hB⟩
    ?a1 ?assign ?body ?done ?stop
  case assign =>
    intro l x W K hK
    gi_wp2
    exact hK
  case body =>
    intro l pre x W _ h
    exact absurd h (Nat.not_lt_zero _)
  case done =>
    rintro D ys W hD rfl ⟨⟨hc, hf⟩, hB⟩ hK
    have Kle := Lib.hid len_nil
    have HS := Lib.hid (show w.heap.size ≤ D by omega)
    have HB := Lib.hid hB
    have HC := Lib.hid hc
    have HZ := Lib.hid hf
    have HK := Lib.hid hK
    clear hB hc hf hd hz
    gi_wp2_with (refine ⟨trivial, ?_⟩; first
      | (gi_at_call 19; refine (callsIn_wide.2 (Kle.out _)).mono ?_; rintro e w' ⟨rfl, rfl⟩)
      | (gi_at_call 8; refine (callsIn_wide.2 (KL.out _)).mono ?_; rintro e w2 ⟨rfl, hb2⟩; have hc2 := (hb2.cell (p := ⟨w.heap.size, 0, none⟩) (World.block_lt_of_cell? W _ HC.out)).trans HC.out; have hf2 := (hb2.frozen (p := ⟨w.heap.size, 0, none⟩) (World.block_lt_of_cell? W _ HC.out)).trans HZ.out))
    have hDl : D < W.heap.size := (Array.getElem?_eq_some_iff.1 HK.out).1
    have hK2 : w2.heap[D]? = some (.deferred (some [])) := (hb2.block D hDl).trans HK.out
    have hK' := (KeepsOthers.setCell w2 ⟨w.heap.size, 0, none⟩ (.bool true)).same D _ hK2 rfl
    have hB2 := (HB.out.trans (hb2.mono HB.out.size)).setCell (p := ⟨w.heap.size, 0, none⟩) (Nat.le_refl _) (.bool true)
    refine ⟨by simp, .inl ⟨_, _, rfl, run_takeDeferred hK', ?_⟩⟩
    have hc5 := cell_kept (World.cell?_setCell_same' w2 ⟨w.heap.size, 0, none⟩ (.bool true) (by rw [hc2]; rfl)) (grownBy_putObj' _ D (.deferred none)) (fun r e => by cases e; exact ⟨_, hK', rfl⟩)
    refine ⟨.bool true, ?_, rfl, hB2.trans (belowK_b (w := w) (Nat.le_refl _) _ D _ _ (by have := HS.out; omega) hK' rfl rfl)⟩
    simp [results, Try.f6, go_sem, hc5]
  case stop =>
    rintro D c pre W _ h
    exact h.elim
end Go.Proofs.Ytopablmgadkppaa
