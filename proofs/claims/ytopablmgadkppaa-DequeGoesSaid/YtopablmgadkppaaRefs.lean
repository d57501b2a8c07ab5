/- THE WALKS of the reference's Ahead, First, Last, At, and of took. At most 10000 are there. -/
import Derived.Test.YtopablmgadkppaaVec
import Derived.Test.YtopablmgadkppaaWalkB
namespace Go.Proofs.Ytopablmgadkppaa
open Go.RowKit
set_option linter.unusedVariables false

def AheadPost (w : World) (n : Nat) (ys : List El) (e : Ending) (w' : World) : Prop :=
  ∃ A cap, e = .returned (.slice A n cap) ∧ Vec w' 9 1 A n cap (vals ys) ∧ Below w.heap.size w w' ∧ ∀ b, In A b → w.heap.size ≤ b

theorem own_below {w w' : World} {B : Nat} {e : TypeId} {size n : Nat} {v : Value} {xs : List Value} (h : w.ownsRow B e size v n xs) (hb : Below w.heap.size w w') : w'.ownsRow B e size v n xs :=
  h.kept (row := none) ⟨hb.os, hb.tape, hb.output, hb.size, fun k hk _ => hb.block k hk⟩ (by cases v.ownBlock <;> simp)

theorem vals_take_succ {ys : List El} {k : Nat} (h : k < ys.length) : vals (ys.take (k + 1)) = vals (ys.take k) ++ [V (ys.getD k default)] := by
  rw [List.take_succ_eq_append_getElem h]
  rw [vals, List.map_append]
  simp [vals, List.getD, h, -List.map_take]

set_option maxHeartbeats 800000 in
theorem ahead_any (w : World) (x : El) (A : Option Addr) (cap : Nat) (ys : List El) (hv : Vec w 9 1 A ys.length cap (vals ys)) (hb : ys.length ≤ 10000) :
    Calls Try.prog 11 #[V x, .slice A ys.length cap] w (AheadPost w (ys.length + 1) (x :: ys)) := by
  obtain ⟨i0, hi, hz0, hz1, hz2⟩ := info_parts el_info
  have hcell : ∀ k, k < ys.length → ∃ b off, A = some ⟨b, off, none⟩ ∧ b < w.heap.size ∧ w.cell? ⟨b, off + k, none⟩ = some (V (ys.getD k default)) := fun k hk => by
    obtain ⟨b, off, hA, hlt, hc⟩ := hv.cell (by omega)
    exact ⟨b, off, hA, hlt, hc k _ (by rw [vals_at hk]; simp [List.getD, hk])⟩
  have HC := Lib.hid hcell
  have HT := Lib.hid (fun k => vals_take_succ (ys := ys) (k := k))
  have HW := Lib.hid (show ys.take ys.length = ys from List.take_length)
  clear hcell hv
  generalize hN : ys.length = n at *
  have HN := Lib.hid hN
  clear hN
  go_enter Try.func11, Try.ntmps11
  go_wp2
  go_loopw [5, 6] (fun v i wr => ∃ k : Nat, k ≤ n ∧ i = .int .i64 k ∧ wr.ownsRow w.heap.size 9 1 v (1 + k) ([V x] ++ vals (ys.take k)) ∧ Below w.heap.size w wr) (fun _ i _ => n - (intOf i).toNat)
  case atStart =>
    refine ⟨0, by omega, rfl, ⟨by simp [vals], .inr ⟨w.heap.size, 1, #[V x], rfl, Nat.le_refl _, heap_alloc_new w _, by omega, by unfold maxLen; omega, rfl, by simp [vals]⟩⟩, (Below.refl _ _).alloc (Nat.le_refl _) _⟩
  case round =>
    obtain ⟨k, hk, rfl, hown, hbel⟩ := hrel
    by_cases hlt : k < n
    · obtain ⟨b, off, rfl, hbl, hc⟩ := HC.out k hlt
      have ht := HT.out k hlt
      have hcr : wr.cell? ⟨b, off + k, none⟩ = some (V (ys.getD k default)) := (hbel.cell (p := ⟨b, off + k, none⟩) hbl).trans hc
      generalize ys.getD k default = y at *
      have HT2 := Lib.hid ht
      clear ht hc
      go_wp2_with (at_builtin; refine wpList_append_own _ rfl _ _ 25 rfl w.heap.size 9 i0 zero 1 16 Try.underlying25 hi hz0 hz1 hz2 rfl (by decide) _ _ _ rfl (hown.alloc _) ⟨wr.heap.size, 0, none⟩ 1 1 [V y] rfl rfl ?c1 ?c2 ?c3 ?c4 ?c5 ?_)
      case c1 => exact cell_one_new _ _ _
      case c2 => intro u hu; simp at hu; subst hu; rfl
      case c3 => unfold maxLen; omega
      case c4 => omega
      case c5 => exact Nat.le_trans hbel.size (by simp)
      intro v' w1 hown1 hgr _
      have hb1 : Below w.heap.size w w1 := (hbel.alloc hbel.size _).grown hgr (Nat.le_trans hbel.size (by simp)) (fun g hg => (hown.lt g hg).1)
      clear hgr hown
      go_wp2
      go_roundw
      case rel => exact ⟨k + 1, by omega, by go_num, by rw [HT2.out, ← List.append_assoc, ← Nat.add_assoc]; exact hown1, hb1⟩
      case measure => simp [intOf]; omega
    · obtain rfl : k = n := by omega
      go_wp2
      go_ret
      rw [← HN.out, List.take_length, HN.out] at hown
      obtain ⟨A', cap', rfl, hv', hA'⟩ := Vec.of_own hown
      rw [Nat.add_comm] at hv'
      refine ⟨A', cap', by rw [Nat.add_comm]; rfl, hv', hbel, fun b hb => ?_⟩
      rcases hA' with rfl | ⟨g, rfl, hge⟩
      · cases hb
      · cases hb; exact hge
end Go.Proofs.Ytopablmgadkppaa
