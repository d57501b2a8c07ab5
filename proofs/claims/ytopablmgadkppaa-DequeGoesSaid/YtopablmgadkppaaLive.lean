/- THE WALK of 'live': the chapter's example is told. No condition. -/
import Derived.Test.YtopablmgadkppaaInts
namespace Go.Proofs.Ytopablmgadkppaa.Ints
open Go.RowKit
set_option linter.unusedVariables false

theorem lands_next {w0 W W' : World} {B g : Nat} {cb : Option Nat} {xs : List El} (hB : Below B w0 W) (hg : B ≤ g) (hc : ∀ b, cb = some b → B ≤ b) (hs : B ≤ W.heap.size) (h : Lands W g cb xs W') :
    ∃ cb', Deq W' g cb' xs ∧ (∀ b, cb' = some b → B ≤ b) ∧ Below B w0 W' ∧ B ≤ W'.heap.size := by
  obtain ⟨cb', hd, ho, hcb⟩ := h
  refine ⟨cb', hd, fun b hb => ?_, hB.trans (ho.below hs (fun i hi => ?_)), Nat.le_trans hs ho.size⟩
  · rcases hcb with rfl | ⟨b', rfl, h'⟩
    · exact hc b hb
    · cases hb; omega
  · rcases hi with rfl | hi
    · exact hg
    · exact hc i hi

theorem deq_new (w : World) : Deq (w.alloc (.cells #[.slice none 0 0, .int .i64 0, .int .i64 0] 51)) w.heap.size none [] :=
  ⟨#[], 0, 0, ⟨Blk.new _ _ _, fun b hb => (nomatch hb), rfl, fun _ => rfl, Nat.le_refl _, .inr ⟨rfl, rfl⟩, by omega⟩, Has.nil_ _ _ _⟩

end Go.Proofs.Ytopablmgadkppaa.Ints
namespace Go.Proofs.Ytopablmgadkppaa
open Go.RowKit
set_option linter.unusedVariables false

def LivePost (w : World) (e : Ending) (w' : World) : Prop := e = .returned (.bool true) ∧ Below w.heap.size w w'

set_option maxHeartbeats 800000 in
theorem live_any (w : World) : Calls Try.prog 8 #[] w (LivePost w) := by
  have hB0 : Below w.heap.size w (w.alloc (.cells #[.slice none 0 0, .int .i64 0, .int .i64 0] 51)) := (Below.refl _ _).alloc (Nat.le_refl _) _
  have hd0 := Lib.hid (Ints.deq_new w)
  have hs0 : w.heap.size ≤ (w.alloc (.cells #[.slice none 0 0, .int .i64 0, .int .i64 0] 51)).heap.size := by simp
  have hc0 : ∀ b, (none : Option Nat) = some b → w.heap.size ≤ b := fun b h => (nomatch h)
  have N0 := Lib.hid (fun W' xs h => Ints.lands_next (W' := W') (xs := xs) hB0 (Nat.le_refl _) hc0 hs0 h)
  clear hB0 hs0 hc0
  have K1 := Lib.hid (Ints.push_any _ _ _ _ hd0.out (by simp) 1)
  go_enter Try.func8, Try.ntmps8
  go_wp2_with fail
  with_reducible (refine Calls.mono K1.out ?_)
  rintro e w1 hp
  obtain ⟨rfl, hl⟩ := hp
  obtain ⟨cb1, hd1, hc1, hB1, hs1⟩ := N0.out _ _ hl
  have K2 := Lib.hid (Ints.push_any _ _ _ _ hd1 (by simp) 2)
  have N1 := Lib.hid (fun W' xs h => Ints.lands_next (W' := W') (xs := xs) hB1 (Nat.le_refl _) hc1 hs1 h)
  clear hl hB1 hs1 hc1 hd1 N0 K1
  go_wp2_with fail
  with_reducible (refine Calls.mono K2.out ?_)
  rintro e w2 hp
  obtain ⟨rfl, hl⟩ := hp
  obtain ⟨cb2, hd2, hc2, hB2, hs2⟩ := N1.out _ _ hl
  have K3 := Lib.hid (Ints.shove_any _ _ _ _ hd2 (by simp) 0)
  have N2 := Lib.hid (fun W' xs h => Ints.lands_next (W' := W') (xs := xs) hB2 (Nat.le_refl _) hc2 hs2 h)
  clear hl hB2 hs2 hc2 hd2 N1 K2
  go_wp2_with fail
  with_reducible (refine Calls.mono K3.out ?_)
  rintro e w3 hp
  obtain ⟨rfl, hl⟩ := hp
  obtain ⟨cb3, hd3, hc3, hB3, hs3⟩ := N2.out _ _ hl
  have K4 := Lib.hid (Ints.pop_some _ _ _ [1, 2] 0 hd3 (by simp))
  have N3 := Lib.hid (fun W' xs h => Ints.lands_next (W' := W') (xs := xs) hB3 (Nat.le_refl _) hc3 hs3 h)
  clear hl hB3 hs3 hc3 hd3 N2 K3
  go_wp2_with fail
  with_reducible (refine Calls.mono K4.out ?_)
  rintro e w4 hp
  obtain ⟨rfl, hl⟩ := hp
  obtain ⟨cb4, hd4, hc4, hB4, hs4⟩ := N3.out _ _ hl
  have K5 := Lib.hid (Ints.drop_some _ _ _ [1] 2 hd4 (by simp))
  have N4 := Lib.hid (fun W' xs h => Ints.lands_next (W' := W') (xs := xs) hB4 (Nat.le_refl _) hc4 hs4 h)
  clear hl hB4 hs4 hc4 hd4 N3 K4
  go_wp2_with fail
  with_reducible (refine Calls.mono K5.out ?_)
  rintro e w5 hp
  obtain ⟨rfl, hl⟩ := hp
  obtain ⟨cb5, hd5, hc5, hB5, hs5⟩ := N4.out _ _ hl
  have K6 := Lib.hid (Ints.len_any w5 w.heap.size 1 (by
    obtain ⟨cur, L, fr, hd, _⟩ := hd5
    have h2 := hd.blk.cell 2
    simpa using h2))
  rw [show ((1 : Nat) : Int) = 1 from rfl] at K6
  clear hl hs5 hc5 hd5 N4 K5
  go_wp2_with fail
  with_reducible (refine Calls.mono K6.out ?_)
  rintro e w6 hp
  obtain ⟨rfl, rfl⟩ := hp
  go_wp2_with fail
  go_ret
  exact ⟨rfl, hB5⟩
end Go.Proofs.Ytopablmgadkppaa
