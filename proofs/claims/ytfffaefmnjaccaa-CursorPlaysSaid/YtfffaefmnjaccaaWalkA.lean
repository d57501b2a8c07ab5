/- THE WALKS of slices.Index at bools and of the reference's 'hit'. No condition but that a length fits. -/
import Derived.Test.YtfffaefmnjaccaaProg
import Derived.Test.YtfffaefmnjaccaaLaw
import Derived.Test.YtfffaefmnjaccaaWords
import Derived.WalkSpells
import Derived.WalkLawsBesides
import Derived.Lib.Hide
import Derived.ProofKit
namespace Go.Proofs.Ytfffaefmnjaccaa
open Go.RowKit

def bools (xs : List Bool) : List Value := xs.map Value.bool
theorem bools_len (xs : List Bool) : (bools xs).length = xs.length := by simp [bools]
theorem bools_at {xs : List Bool} {k : Nat} (h : k < xs.length) : (bools xs)[k]? = some (.bool (xs.getD k false)) := by
  simp [bools, h]

/-- One cell of a run of bools, as the walk spells it. -/
theorem bools_cell {w : World} {xs : List Bool} {b off : Nat} (hc : ∀ j u, (bools xs)[j]? = some u → w.cell? ⟨b, off + j, none⟩ = some u) :
    ∀ k, k < xs.length → w.cell? ⟨b, off + k, none⟩ = some (.bool (xs.getD k false)) := fun k hk => hc k _ (bools_at hk)

def IdxPost (xs : List Bool) (e : Ending) : Prop :=
  ∃ r : Int, e = .returned (.int .i64 r) ∧
    ((r = -1 ∧ ∀ j, j < xs.length → xs.getD j false = false) ∨ ∃ i : Nat, r = i ∧ i < xs.length ∧ xs.getD i false = true ∧ ∀ j, j < i → xs.getD j false = false)

set_option maxHeartbeats 400000 in
theorem index_any (A : Option Addr) (c : Nat) (xs : List Bool) (w : World) (hx : Rd w A (bools xs)) (hn : xs.length ≤ maxLen) :
    Calls Try.prog 10 #[.slice A xs.length c, .bool true] w fun e w' => IdxPost xs e ∧ w = w' := by
  unfold maxLen at hn
  by_cases h0 : xs.length = 0
  · have hl : xs = [] := List.eq_nil_of_length_eq_zero h0
    subst hl
    go_enter Try.func10, Try.ntmps10
    go_wp2
    go_loop [8] (fun i => i = .int .i64 0) (fun _ => 0)
    case atStart => rfl
    case round =>
      subst hrel
      go_wp2
      go_ret
      exact ⟨⟨-1, rfl, .inl ⟨rfl, fun j hj => by simp at hj⟩⟩, rfl⟩
  · obtain ⟨b, off, rfl, hc⟩ := hx (by rw [bools_len]; omega)
    have hcell := Lib.hid (bools_cell hc)
    clear hc hx
    generalize hN : xs.length = n at *
    have HN := Lib.hid hN
    clear hN
    go_enter Try.func10, Try.ntmps10
    go_wp2
    go_loop [8] (fun i => ∃ k : Nat, k ≤ n ∧ i = .int .i64 k ∧ Hid (∀ j, j < k → xs.getD j false = false)) (fun i => n - (intOf i).toNat)
    case atStart => exact ⟨0, by omega, rfl, fun j hj => by omega⟩
    case round =>
      obtain ⟨k, hk, rfl, hpre⟩ := hrel
      by_cases hlt : k < n
      · have hck : w.cell? ⟨b, off + k, none⟩ = some (.bool (xs.getD k false)) := hcell.out k hlt
        cases hb : xs.getD k false with
        | true =>
          rw [hb] at hck
          have HB := Lib.hid hb
          clear hb
          go_wp2
          go_ret
          exact ⟨⟨k, rfl, .inr ⟨k, rfl, by rw [HN.out]; exact hlt, HB.out, hpre.out⟩⟩, rfl⟩
        | false =>
          rw [hb] at hck
          have HB := Lib.hid hb
          clear hb
          go_wp2
          go_round
          case rel => exact ⟨k + 1, by omega, by go_num, fun j hj => by
            rcases Nat.lt_succ_iff_lt_or_eq.1 hj with h | rfl
            · exact hpre.out j h
            · exact HB.out⟩
          case measure => simp [intOf]; omega
      · go_wp2
        go_ret
        exact ⟨⟨-1, rfl, .inl ⟨rfl, fun j hj => hpre.out j (by rw [HN.out] at hj; omega)⟩⟩, rfl⟩
end Go.Proofs.Ytfffaefmnjaccaa
