/- THE WALKS of the reference's Before and Path. At most 100 steps. -/
import Derived.Test.YthaofkhjhmcknaaWalkM
namespace Go.Proofs.Ythaofkhjhmcknaa
open Go.RowKit
set_option linter.unusedVariables false

theorem good_no {l : List Hap} {a b : Int} (h : ¬ (0 ≤ a ∧ a < b ∧ b < l.length)) : good l a b = false := decide_eq_false (fun g => h ⟨g.1, g.2.1, g.2.2.1⟩)
theorem good_yes {l : List Hap} {a b : Nat} (h1 : a < b) (h2 : b < l.length) : good l a b = decide (0 ≤ far (tl l) a b) := by
  unfold good
  rw [Bool.eq_iff_iff, decide_eq_true_eq, decide_eq_true_eq]
  exact ⟨fun g => by simpa using g.2.2.2, fun g => ⟨by omega, by omega, by omega, by simpa using g⟩⟩

set_option maxHeartbeats 1600000 in
theorem refBefore_any (l : List Hap) (n : Nat) (hl : l.length = n) (hn : n ≤ 100) (A : Option Addr) (c : Nat) (a b : Int) (w : World) (h : Hs w A l) :
    Calls Try.prog 8 #[.slice A n c, .int .i64 a, .int .i64 b] w (BoolPost w (good l a b)) := by
  have B0 := Below.refl w.heap.size w
  by_cases hg : 0 ≤ a ∧ a < b ∧ b < n
  · obtain ⟨g1, g2, g3⟩ := hg
    have K := Lib.hid (reach_any l n a.toNat hl hn (by omega) A c w h)
    rw [show ((a.toNat : Nat) : Int) = a by omega] at K
    have hgood := good_yes (l := l) (a := a.toNat) (b := b.toNat) (by omega) (by omega)
    rw [show ((a.toNat : Nat) : Int) = a by omega, show ((b.toNat : Nat) : Int) = b by omega] at hgood
    have HG := Lib.hid hgood
    clear h hl hgood
    have g4 : a < n := by omega
    have g5 : 0 ≤ b := by omega
    obtain ⟨b', rfl⟩ : ∃ b' : Nat, b = b' := ⟨b.toNat, by omega⟩
    have g6 : a.toNat < b' := by omega
    have g7 : b' < n := by omega
    rw [show ((b' : Int)).toNat = b' by simp] at HG
    generalize good l a b' = r at *
    generalize hfar : decide (0 ≤ far (tl l) a.toNat b') = f at *
    have HF := Lib.hid hfar
    clear hfar
    go_enter Try.func8, Try.ntmps8
    go_wp2_with fail
    with_reducible (refine Calls.mono K.out ?_)
    rintro e w1 ⟨g, v, rfl, hs⟩
    have c1 := hs.low g6 g7 g7
    rw [HF.out] at c1
    have HB := Lib.hid hs.bel
    clear hs
    go_wp2_with fail
    go_ret
    exact ⟨ret_bool HG.out.symm, HB.out⟩
  · have hgood := good_no (l := l) (a := a) (b := b) (by rw [hl]; exact hg)
    rw [hgood]
    clear h hl hgood
    by_cases h1 : 0 ≤ a
    · by_cases h2 : 0 ≤ b
      · by_cases h3 : a < n
        · by_cases h4 : b < n
          · have h5 : b ≤ a := by omega
            clear hg
            go_enter Try.func8, Try.ntmps8
            go_wp2_with fail
            go_ret
            exact ⟨rfl, B0⟩
          · clear hg
            go_enter Try.func8, Try.ntmps8
            go_wp2_with fail
            go_ret
            exact ⟨rfl, B0⟩
        · clear hg
          go_enter Try.func8, Try.ntmps8
          go_wp2_with fail
          go_ret
          exact ⟨rfl, B0⟩
      · clear hg
        go_enter Try.func8, Try.ntmps8
        go_wp2_with fail
        go_ret
        exact ⟨rfl, B0⟩
    · clear hg
      go_enter Try.func8, Try.ntmps8
      go_wp2_with fail
      go_ret
      exact ⟨rfl, B0⟩
theorem refBefore_at (l : List Hap) (n : Nat) (hl : l.length = n) (hn : n ≤ 100) (A : Option Addr) (c : Nat) (a b : Int) (w : World) (h : Hs w A l) (W : World) (hW : Below w.heap.size w W) :
    Calls Try.prog 8 #[.slice A n c, .int .i64 a, .int .i64 b] W (BoolPost w (good l a b)) := grown_bool hW (refBefore_any l n hl hn A c a b W (h.below hW))
end Go.Proofs.Ythaofkhjhmcknaa
