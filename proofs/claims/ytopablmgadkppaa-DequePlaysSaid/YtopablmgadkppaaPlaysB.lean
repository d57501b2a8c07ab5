/- THE WALK of 'long'. No condition. -/
import Derived.Test.YtopablmgadkppaaPlaysA
namespace Go.Proofs.Ytopablmgadkppaa
open Go.RowKit
set_option linter.unusedVariables false

/-- Acts in memory: a kind, a text, a number. -/
def Acts (w : World) (A : Option Addr) (l : List (Int × El × Int)) : Prop := ∀ k, k < l.length → ∃ b off, A = some ⟨b, off, none⟩ ∧ b < w.heap.size ∧
  w.cell? ⟨b, off + k * 3, none⟩ = some (.int .i64 (l.getD k default).1) ∧ w.cell? ⟨b, off + k * 3 + 1, none⟩ = some (V (l.getD k default).2.1) ∧ w.cell? ⟨b, off + k * 3 + 2, none⟩ = some (.int .i64 (l.getD k default).2.2)

def LongPost (w : World) (m : Nat) (e : Ending) (w' : World) : Prop := ∃ b, e = .returned (.bool b) ∧ (b = false → m ≤ 200) ∧ w = w'

set_option maxRecDepth 100000 in
set_option maxHeartbeats 800000 in
theorem long_any (w : World) (A : Option Addr) (c : Nat) (l : List (Int × El × Int)) (hl : Acts w A l) (hm : l.length ≤ maxLen) :
    Calls Try.prog 7 #[.slice A l.length c] w (LongPost w l.length) := by
  unfold maxLen at hm
  have HL := Lib.hid hl
  clear hl
  unfold Acts at HL
  generalize hn : l.length = m at *
  have HN := Lib.hid hn
  clear hn
  go_enter Try.func7, Try.ntmps7
  go_wp2
  go_loop [3] (fun i => ∃ k : Nat, k ≤ m ∧ k ≤ 200 ∧ i = .int .i64 k) (fun i => m - (intOf i).toNat)
  case atStart => exact ⟨0, by omega, by omega, rfl⟩
  case round =>
    obtain ⟨k, hk, hk2, rfl⟩ := hrel
    by_cases hlt : k < m
    · by_cases hlt2 : k < 200
      · obtain ⟨b, off, rfl, hb, c0, c1, c2⟩ := HL.out k hlt
        generalize (l.getD k default).2.1 = x at *
        clear c0 c2
        by_cases hx : (100 : Int) < (x.size : Int)
        · go_wp2
          go_ret
          exact ⟨true, rfl, fun h => by simp at h, rfl⟩
        · have hx' : decide ((100 : Int) < (x.size : Int)) = false := by simpa using hx
          go_wp2
          go_round
          case rel => exact ⟨k + 1, by omega, by omega, by go_num⟩
          case measure => simp [intOf]; omega
      · have hd : decide ((k : Int) < 200) = false := by simp; omega
        by_cases h200 : (200 : Int) < (m : Int)
        · go_wp2
          go_ret
          exact ⟨true, rfl, fun h => by simp at h, rfl⟩
        · go_wp2
          go_ret
          exact ⟨false, rfl, fun _ => by omega, rfl⟩
    · have hd : decide ((k : Int) < (m : Int)) = false := by simp; omega
      have hmk : m ≤ 200 := by omega
      have hd2 : decide ((200 : Int) < (m : Int)) = false := by simp; omega
      go_wp2
      go_ret
      exact ⟨false, rfl, fun _ => hmk, rfl⟩
end Go.Proofs.Ytopablmgadkppaa
