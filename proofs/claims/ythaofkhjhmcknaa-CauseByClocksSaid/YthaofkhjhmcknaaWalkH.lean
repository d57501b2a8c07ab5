/- THE WALKS of there and Path, in the program. At most 100 steps. -/
import Derived.Test.YthaofkhjhmcknaaWalkG
namespace Go.Proofs.Ythaofkhjhmcknaa
open Go.RowKit
set_option linter.unusedVariables false

theorem there_any (A : Option Addr) (n c : Nat) (a : Int) (w : World) : Calls Try.prog 17 #[.slice A n c, .int .i64 a] w fun e w' => e = .returned (.bool (decide (0 ≤ a ∧ a < n))) ∧ w = w' := by
  have H1 := Lib.hid (fun (h1 : 0 ≤ a) (h2 : a < n) => (show true = decide (0 ≤ a ∧ a < n) by simp [h1, h2]))
  have H2 := Lib.hid (fun (h1 : 0 ≤ a) (h2 : ¬ a < n) => (show false = decide (0 ≤ a ∧ a < n) by simp [h1, h2]))
  have H3 := Lib.hid (fun (h1 : ¬ 0 ≤ a) => (show false = decide (0 ≤ a ∧ a < n) by simp [h1]))
  generalize decide (0 ≤ a ∧ a < n) = r at *
  by_cases h1 : 0 ≤ a
  · by_cases h2 : a < n
    · have H := Lib.hid (H1.out h1 h2)
      clear H1 H2 H3
      go_enter Try.func17, Try.ntmps17
      go_wp2
      go_ret
      exact ⟨ret_bool H.out, rfl⟩
    · have H := Lib.hid (H2.out h1 h2)
      clear H1 H2 H3
      go_enter Try.func17, Try.ntmps17
      go_wp2
      go_ret
      exact ⟨ret_bool H.out, rfl⟩
  · have H := Lib.hid (H3.out h1)
    clear H1 H2 H3
    go_enter Try.func17, Try.ntmps17
    go_wp2
    go_ret
    exact ⟨ret_bool H.out, rfl⟩

/-- One comes from a to b. -/
def Good (l : List Hap) (a b : Int) : Prop := 0 ≤ a ∧ a < b ∧ b < l.length ∧ 0 ≤ far (tl l) a.toNat b.toNat
/-- The path from a to b, or none. -/
def PathOf (l : List Hap) (a b : Int) (L : List Int) : Prop := (Good l a b ∧ Pth (tl l) a.toNat b.toNat L) ∨ (¬ Good l a b ∧ L = [])
theorem PathOf.uniq {l : List Hap} {a b : Int} {L M : List Int} (h : PathOf l a b L) (g : PathOf l a b M) : L = M := by
  rcases h with ⟨h1, h2⟩ | ⟨h1, h2⟩ <;> rcases g with ⟨g1, g2⟩ | ⟨g1, g2⟩
  · exact h2.uniq _ _ g2
  · exact (g1 h1).elim
  · exact (h1 g1).elim
  · rw [h2, g2]
/-- A slice of the call's own that holds the path. -/
def PathPost (w : World) (l : List Hap) (a b : Int) (e : Ending) (w' : World) : Prop := ∃ L, PathOf l a b L ∧ IntsPost w L e w'
theorem pathPost_nil {w w' : World} {l : List Hap} {a b : Int} (h : ¬ Good l a b) (hb : Below w.heap.size w w') : PathPost w l a b (.returned (.slice none 0 0)) w' :=
  ⟨[], .inr ⟨h, rfl⟩, none, 0, rfl, Vec.nil_ _ _ _, fun b h => (nomatch h), hb⟩

set_option maxHeartbeats 1600000 in
theorem path_bad (l : List Hap) (n : Nat) (hl : l.length = n) (A : Option Addr) (c : Nat) (a b : Int) (w : World) (h : ¬ (0 ≤ a ∧ a < b ∧ b < n)) :
    Calls Try.prog 12 #[.slice A n c, .int .i64 a, .int .i64 b] w (PathPost w l a b) := by
  have KT := Lib.hid (there_any A n c)
  have HF := Lib.hid (pathPost_nil (w := w) (w' := w) (l := l) (a := a) (b := b) (fun g => h ⟨g.1, g.2.1, by rw [← hl]; exact g.2.2.1⟩) (Below.refl _ _))
  by_cases h1 : decide (0 ≤ a ∧ a < n) = true
  · by_cases h2 : decide (0 ≤ b ∧ b < n) = true
    · have h3 : decide (b ≤ a) = true := by
        simp only [decide_eq_true_eq] at h1 h2 ⊢; omega
      have h3' : b ≤ a := by simpa using h3
      have K1 := Lib.hid (KT.out a w)
      have K2 := Lib.hid (KT.out b w)
      rw [h1] at K1
      rw [h2] at K2
      clear h h1 h2 hl KT
      go_enter Try.func12, Try.ntmps12
      go_wp2_with fail
      with_reducible (refine Calls.mono K1.out ?_)
      rintro e w' ⟨rfl, rfl⟩
      go_wp2_with fail
      with_reducible (refine Calls.mono K2.out ?_)
      rintro e w' ⟨rfl, rfl⟩
      go_wp2_with fail
      go_ret
      exact HF.out
    · have h2' : decide (0 ≤ b ∧ b < n) = false := by simpa using h2
      have K1 := Lib.hid (KT.out a w)
      have K2 := Lib.hid (KT.out b w)
      rw [h1] at K1
      rw [h2'] at K2
      clear h h1 h2 h2' hl KT
      go_enter Try.func12, Try.ntmps12
      go_wp2_with fail
      with_reducible (refine Calls.mono K1.out ?_)
      rintro e w' ⟨rfl, rfl⟩
      go_wp2_with fail
      with_reducible (refine Calls.mono K2.out ?_)
      rintro e w' ⟨rfl, rfl⟩
      go_wp2_with fail
      go_ret
      exact HF.out
  · have h1' : decide (0 ≤ a ∧ a < n) = false := by simpa using h1
    have K1 := Lib.hid (KT.out a w)
    rw [h1'] at K1
    clear h h1 h1' hl KT
    go_enter Try.func12, Try.ntmps12
    go_wp2_with fail
    with_reducible (refine Calls.mono K1.out ?_)
    rintro e w' ⟨rfl, rfl⟩
    go_wp2_with fail
    go_ret
    exact HF.out
end Go.Proofs.Ythaofkhjhmcknaa
