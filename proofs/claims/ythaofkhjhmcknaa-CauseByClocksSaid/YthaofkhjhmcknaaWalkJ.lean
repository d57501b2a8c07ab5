/- THE WALKS of Before, Free, and of the example that lives. At most 100 steps. -/
import Derived.Test.YthaofkhjhmcknaaWalkI
namespace Go.Proofs.Ythaofkhjhmcknaa
open Go.RowKit
set_option linter.unusedVariables false

instance (l : List Hap) (a b : Int) : Decidable (Good l a b) := by unfold Good; infer_instance
def good (l : List Hap) (a b : Int) : Bool := decide (Good l a b)
theorem path_any (l : List Hap) (n : Nat) (hl : l.length = n) (hn : n ≤ 100) (A : Option Addr) (c : Nat) (a b : Int) (w : World) (h : Hs w A l) :
    Calls Try.prog 12 #[.slice A n c, .int .i64 a, .int .i64 b] w (PathPost w l a b) := by
  by_cases hg : 0 ≤ a ∧ a < b ∧ b < n
  · have := path_core l n a.toNat b.toNat hl hn (by omega) (by omega) A c w h
    rw [show ((a.toNat : Nat) : Int) = a by omega, show ((b.toNat : Nat) : Int) = b by omega] at this
    exact this
  · exact path_bad l n hl A c a b w hg
theorem PathOf.good {l : List Hap} {a b : Int} {L : List Int} (h : PathOf l a b L) : decide (0 < L.length) = good l a b := by
  rcases h with ⟨h1, h2⟩ | ⟨h1, h2⟩
  · have := h2.pos
    simp [Ythaofkhjhmcknaa.good, h1]; exact h2.pos
  · subst h2
    simp [Ythaofkhjhmcknaa.good, h1]
theorem PathOf.len {l : List Hap} {a b : Int} {L : List Int} (h : PathOf l a b L) : L.length ≤ l.length := by
  rcases h with ⟨h1, h2⟩ | ⟨h1, h2⟩
  · have := h2.le
    have := h1.1; have := h1.2.1; have := h1.2.2.1
    omega
  · subst h2; simp
theorem before_any (l : List Hap) (n : Nat) (hl : l.length = n) (hn : n ≤ 100) (A : Option Addr) (c : Nat) (a b : Int) (w : World) (h : Hs w A l) :
    Calls Try.prog 9 #[.slice A n c, .int .i64 a, .int .i64 b] w (BoolPost w (good l a b)) := by
  have K := Lib.hid (path_any l n hl hn A c a b w h)
  clear h hl
  go_enter Try.func9, Try.ntmps9
  go_wp2_with fail
  with_reducible (refine Calls.mono K.out ?_)
  rintro e w1 ⟨L, hL, A', c', rfl, hv, -, hb⟩
  have HG := Lib.hid hL.good
  clear hL hv
  generalize good l a b = r at *
  generalize L.length = m at *
  go_wp2_with fail
  go_ret
  exact ⟨ret_bool HG.out, hb⟩

/-- A contract, in whatever world comes of w by growth. -/
theorem grown_bool {w W : World} {f : FuncId} {args : Array Value} {r : Bool} (hW : Below w.heap.size w W) (h : Calls Try.prog f args W (BoolPost W r)) : Calls Try.prog f args W (BoolPost w r) :=
  h.mono fun e w' ⟨he, hb⟩ => ⟨he, hW.trans (hb.mono hW.size)⟩
theorem before_at (l : List Hap) (n : Nat) (hl : l.length = n) (hn : n ≤ 100) (A : Option Addr) (c : Nat) (a b : Int) (w : World) (h : Hs w A l) (W : World) (hW : Below w.heap.size w W) :
    Calls Try.prog 9 #[.slice A n c, .int .i64 a, .int .i64 b] W (BoolPost w (good l a b)) := grown_bool hW (before_any l n hl hn A c a b W (h.below hW))

def isIn (n : Nat) (a : Int) : Bool := decide (0 ≤ a ∧ a < n)
def free (l : List Hap) (n : Nat) (a b : Int) : Bool := isIn n a && isIn n b && decide (a ≠ b) && !good l a b && !good l b a
theorem free_symm (l : List Hap) (n : Nat) (a b : Int) : free l n a b = free l n b a := by
  unfold free
  rw [show decide (a ≠ b) = decide (b ≠ a) by simp [eq_comm]]
  cases isIn n a <;> cases isIn n b <;> cases decide (b ≠ a) <;> cases good l a b <;> cases good l b a <;> rfl

set_option maxHeartbeats 1600000 in
theorem free_any (l : List Hap) (n : Nat) (hl : l.length = n) (hn : n ≤ 100) (A : Option Addr) (c : Nat) (a b : Int) (w : World) (h : Hs w A l) :
    Calls Try.prog 10 #[.slice A n c, .int .i64 a, .int .i64 b] w (BoolPost w (free l n a b)) := by
  have K1 := Lib.hid (there_any A n c a)
  have K2 := Lib.hid (there_any A n c b)
  have K3 := Lib.hid (fun W (hW : Below w.heap.size w W) => before_at l n hl hn A c a b w h W hW)
  have K4 := Lib.hid (fun W (hW : Below w.heap.size w W) => before_at l n hl hn A c b a w h W hW)
  have HF := Lib.hid (show free l n a b = (isIn n a && isIn n b && decide (a ≠ b) && !good l a b && !good l b a) from rfl)
  have K1 : Hid (∀ W, Calls Try.prog 17 #[.slice A n c, .int .i64 a] W fun e w' => e = .returned (.bool (isIn n a)) ∧ W = w') := K1
  have K2 : Hid (∀ W, Calls Try.prog 17 #[.slice A n c, .int .i64 b] W fun e w' => e = .returned (.bool (isIn n b)) ∧ W = w') := K2
  have B0 := Below.refl w.heap.size w
  have hne : ∀ r, decide (a ≠ b) = r → (a != b) = r := fun r h => by rw [← h]; by_cases e : a = b <;> simp [e]
  generalize hr : decide (a ≠ b) = ne at *
  have hne2 := hne ne rfl
  clear h hl hne hr
  generalize free l n a b = r at *
  generalize isIn n a = p1 at *
  generalize isIn n b = p2 at *
  generalize good l a b = p3 at *
  generalize good l b a = p4 at *
  cases p1 with
  | false =>
    go_enter Try.func10, Try.ntmps10
    go_wp2_with ((go_at_call 17; first | ((with_reducible refine (K1.out _).mono ?_); rintro e w' ⟨rfl, rfl⟩) | ((with_reducible refine (K2.out _).mono ?_); rintro e w' ⟨rfl, rfl⟩)))
    go_ret
    exact ⟨ret_bool (by rw [HF.out]; rfl), B0⟩
  | true =>
    cases p2 with
    | false =>
      go_enter Try.func10, Try.ntmps10
      go_wp2_with ((go_at_call 17; first | ((with_reducible refine (K1.out _).mono ?_); rintro e w' ⟨rfl, rfl⟩) | ((with_reducible refine (K2.out _).mono ?_); rintro e w' ⟨rfl, rfl⟩)))
      go_ret
      exact ⟨ret_bool (by rw [HF.out]; rfl), B0⟩
    | true =>
      cases ne with
      | false =>
        go_enter Try.func10, Try.ntmps10
        go_wp2_with ((go_at_call 17; first | ((with_reducible refine (K1.out _).mono ?_); rintro e w' ⟨rfl, rfl⟩) | ((with_reducible refine (K2.out _).mono ?_); rintro e w' ⟨rfl, rfl⟩)))
        go_ret
        exact ⟨ret_bool (by rw [HF.out]; rfl), B0⟩
      | true =>
        cases p3 with
        | true =>
          go_enter Try.func10, Try.ntmps10
          go_wp2_with (first | (go_at_call 17; first | ((with_reducible refine (K1.out _).mono ?_); rintro e w' ⟨rfl, rfl⟩) | ((with_reducible refine (K2.out _).mono ?_); rintro e w' ⟨rfl, rfl⟩)) | (go_at_call 9; first | ((with_reducible refine (K3.out _ ?_).mono ?_); assumption; rintro e w' ⟨rfl, hb'⟩) | ((with_reducible refine (K4.out _ ?_).mono ?_); assumption; rintro e w' ⟨rfl, hb'⟩)))
          go_ret
          exact ⟨ret_bool (by rw [HF.out]; rfl), by assumption⟩
        | false =>
          go_enter Try.func10, Try.ntmps10
          go_wp2_with (first | (go_at_call 17; first | ((with_reducible refine (K1.out _).mono ?_); rintro e w' ⟨rfl, rfl⟩) | ((with_reducible refine (K2.out _).mono ?_); rintro e w' ⟨rfl, rfl⟩)) | (go_at_call 9; first | ((with_reducible refine (K3.out _ ?_).mono ?_); assumption; rintro e w' ⟨rfl, hb'⟩) | ((with_reducible refine (K4.out _ ?_).mono ?_); assumption; rintro e w' ⟨rfl, hb'⟩)))
          go_ret
          exact ⟨ret_bool (by rw [HF.out]; simp), by assumption⟩
theorem free_at (l : List Hap) (n : Nat) (hl : l.length = n) (hn : n ≤ 100) (A : Option Addr) (c : Nat) (a b : Int) (w : World) (h : Hs w A l) (W : World) (hW : Below w.heap.size w W) :
    Calls Try.prog 10 #[.slice A n c, .int .i64 a, .int .i64 b] W (BoolPost w (free l n a b)) := grown_bool hW (free_any l n hl hn A c a b W (h.below hW))
end Go.Proofs.Ythaofkhjhmcknaa
