/- THE WALK of CursorTurns: true, whatever comes in. The slice is nil or holds its bools. -/
import Derived.Test.YtfffaefmnjaccaaWalkH
namespace Go.Proofs.Ytfffaefmnjaccaa
open Go.RowKit
set_option linter.unusedVariables false

section
variable (A : Option Addr) (c : Nat) (hits : List Bool) (a k n : Int) (w : World)

theorem mv_e1 (h0 : 0 ≤ a) (h1 : a ≤ hits.length) : ∃ x y, mv hits a 1 0 = (x, y, 0) ∧ 0 ≤ x ∧ x ≤ hits.length ∧ ((a < hits.length ∧ x = a + 1 ∧ y = 1) ∨ (a = hits.length ∧ x = a)) := by
  rw [mv_step (by omega)]
  by_cases h : a < hits.length
  · rw [if_pos h]; exact ⟨_, _, rfl, by omega, by omega, .inl ⟨h, rfl, rfl⟩⟩
  · rw [if_neg h]; exact ⟨_, _, rfl, by omega, by omega, .inr ⟨by omega, by omega⟩⟩
theorem mv_e2 (h0 : 0 ≤ a) (h1 : a ≤ hits.length) : ∃ x y, mv hits a 2 0 = (x, y, 0) ∧ (0 < a → x = a - 1) := by
  rw [mv_back (by omega)]
  by_cases h : 0 < a
  · rw [if_pos h]; exact ⟨_, _, rfl, fun _ => rfl⟩
  · rw [if_neg h]; exact ⟨_, _, rfl, fun h' => absurd h' h⟩
theorem mv_e3 (h0 : 0 ≤ a) (h1 : a ≤ hits.length) : ∃ x y x' y', mv hits a 3 0 = (x, y, 0) ∧ mv hits x 4 0 = (x', y', 0) ∧ a ≤ x ∧ ((y = 2 ∧ x' ≤ a ∧ a < x) ∨ y ≠ 2) := by
  obtain ⟨g1, g2, g3, g4⟩ := mv_held (hits := hits) h0 h1
  refine ⟨(mv hits a 3 0).1, (mv hits a 3 0).2.1, (mv hits (mv hits a 3 0).1 4 0).1, (mv hits (mv hits a 3 0).1 4 0).2.1, Prod.ext rfl (Prod.ext rfl g1), Prod.ext rfl (Prod.ext rfl g3), g2, ?_⟩
  by_cases h : (mv hits a 3 0).2.1 = 2
  · exact .inl ⟨h, (g4 h).2, (g4 h).1⟩
  · exact .inr h

def Mv (A : Option Addr) (n c : Nat) (hits : List Bool) (a k : Int) (r : Int × Int × Int) : Prop :=
  ∀ W : World, Rd W A (bools hits) → Calls Try.prog 7 #[.slice A n c, .int .i64 a, .agg #[.int .i64 k, .int .i64 0]] W (MvPost W r)

theorem Mv.at_ {A : Option Addr} {n c : Nat} {hits : List Bool} {a k : Int} {r : Int × Int × Int} (h : Mv A n c hits a k r) {W : World} (hW : Rd W A (bools hits)) :
    Calls Try.prog 7 #[.slice A n c, .int .i64 a, .agg #[.int .i64 k, .int .i64 0]] W (MvPost W r) := h W hW

set_option maxHeartbeats 800000 in
theorem turns_core (n : Nat) (x1 y1 x2 y2 x3 y3 x4 y4 : Int) (hx : Rd w A (bools hits)) (h200 : n ≤ 200) (h0 : 0 ≤ a) (h1 : a ≤ n)
    (H1 : Mv A n c hits a 1 (x1, y1, 0)) (H2 : Mv A n c hits x1 2 (x2, y2, 0)) (H3 : Mv A n c hits a 3 (x3, y3, 0)) (H4 : Mv A n c hits x3 4 (x4, y4, 0))
    (t1 : (a < n ∧ x2 = a ∧ y1 = 1) ∨ (a = n ∧ x1 = a)) (t2 : a ≤ x3) (t3 : (y3 = 2 ∧ x4 ≤ a ∧ a < x3) ∨ (y3 == 2) = false) :
    Calls Try.prog 4 #[.slice A n c, .int .i64 a] w fun e w' => LivePost w e w' := by
  have R0 := Lib.hid hx
  have K1 := Lib.hid H1
  have K2 := Lib.hid H2
  have K3 := Lib.hid H3
  have K4 := Lib.hid H4
  have KL := Lib.hid live_any
  clear hx H1 H2 H3 H4
  rcases t1 with ⟨ta, tb, tc⟩ | ⟨ta, tb⟩ <;> rcases t3 with ⟨td, te, tf⟩ | td
  case' inl.inl => have tg : (x3 == a) = false := by simp; omega
  case' inr.inl => have tg : (x3 == a) = false := by simp; omega
  case' inl.inl => subst td
  case' inr.inl => subst td
  case' inl.inl => subst tb tc
  case' inl.inr => subst tb tc
  case' inr.inl => subst ta tb
  case' inr.inr => subst ta tb
  all_goals
    go_enter Try.func4, Try.ntmps4
    go_wp2_with fail
    with_reducible (refine Calls.mono (K1.out.at_ R0.out) ?_)
    rintro e w1 hp
    obtain ⟨rfl, hb1⟩ := hp
    have R1 := Lib.hid (R0.out.below hb1)
    go_wp2_with fail
    with_reducible (refine Calls.mono (K2.out.at_ R1.out) ?_)
    rintro e w2 hp
    obtain ⟨rfl, hb2⟩ := hp
    have R2 := Lib.hid (R1.out.below hb2)
    have hB2 : Below w.heap.size w w2 := hb1.trans (hb2.mono hb1.size)
    clear hb1 hb2
    go_wp2_with fail
    with_reducible (refine Calls.mono (K3.out.at_ R2.out) ?_)
    rintro e w3 hp
    obtain ⟨rfl, hb3⟩ := hp
    have R3 := Lib.hid (R2.out.below hb3)
    have hB3 : Below w.heap.size w w3 := hB2.trans (hb3.mono hB2.size)
    clear hB2 hb3
    go_wp2_with fail
    with_reducible (refine Calls.mono (K4.out.at_ R3.out) ?_)
    rintro e w4 hp
    obtain ⟨rfl, hb4⟩ := hp
    have hB4 : Below w.heap.size w w4 := hB3.trans (hb4.mono hB3.size)
    clear hB3 hb4
    go_wp2_with fail
    with_reducible (refine Calls.mono (KL.out _) ?_)
    rintro e w5 hp
    obtain ⟨rfl, hb5⟩ := hp
    go_wp2_with fail
    go_ret
    exact ⟨rfl, hB4.trans (hb5.mono hB4.size)⟩

set_option maxHeartbeats 800000 in
theorem turns_out (n : Nat) (h : 200 < n ∨ a < 0 ∨ (n : Int) < a) (hn : n ≤ maxLen) :
    Calls Try.prog 4 #[.slice A n c, .int .i64 a] w fun e w' => LivePost w e w' := by
  unfold maxLen at hn
  have KL := Lib.hid live_any
  by_cases h1 : 200 < n
  · clear h
    go_enter Try.func4, Try.ntmps4
    go_wp2_with fail
    with_reducible (refine Calls.mono (KL.out _) ?_)
    rintro e w5 hp
    obtain ⟨rfl, hb5⟩ := hp
    go_wp2_with fail
    go_ret
    exact ⟨rfl, hb5⟩
  by_cases h2 : a < 0
  · clear h
    go_enter Try.func4, Try.ntmps4
    go_wp2_with fail
    with_reducible (refine Calls.mono (KL.out _) ?_)
    rintro e w5 hp
    obtain ⟨rfl, hb5⟩ := hp
    go_wp2_with fail
    go_ret
    exact ⟨rfl, hb5⟩
  · have h3 : (n : Int) < a := by omega
    clear h
    go_enter Try.func4, Try.ntmps4
    go_wp2_with fail
    with_reducible (refine Calls.mono (KL.out _) ?_)
    rintro e w5 hp
    obtain ⟨rfl, hb5⟩ := hp
    go_wp2_with fail
    go_ret
    exact ⟨rfl, hb5⟩

theorem turns_walk (hx : Rd w A (bools hits)) (hc : hits.length ≤ c) (hm : c ≤ maxLen) (hA : A = none → c = 0) :
    Calls Try.prog 4 #[.slice A hits.length c, .int .i64 a] w fun e w' => LivePost w e w' := by
  by_cases h : 200 < hits.length ∨ a < 0 ∨ (hits.length : Int) < a
  · exact turns_out A c a w hits.length h (by omega)
  · have M : ∀ a k, Mv A hits.length c hits a k (mv hits a k 0) := fun a k W hW => move_any A c hits a k 0 W (by omega) hW hc hA
    obtain ⟨x1, y1, e1, p1, p2, s1⟩ := mv_e1 hits a (by omega) (by omega)
    obtain ⟨x2, y2, e2, s2⟩ := mv_e2 hits x1 p1 p2
    obtain ⟨x3, y3, x4, y4, e3, e4, s3, s4⟩ := mv_e3 hits a (by omega) (by omega)
    have M1 := M a 1; rw [e1] at M1
    have M2 := M x1 2; rw [e2] at M2
    have M3 := M a 3; rw [e3] at M3
    have M4 := M x3 4; rw [e4] at M4
    refine turns_core A c hits a w hits.length x1 y1 x2 y2 x3 y3 x4 y4 hx (by omega) (by omega) (by omega) M1 M2 M3 M4 ?_ s3 ?_
    · rcases s1 with ⟨g1, g2, g3⟩ | ⟨g1, g2⟩
      · exact .inl ⟨g1, by have := s2 (by omega); omega, g3⟩
      · exact .inr ⟨g1, g2⟩
    · rcases s4 with h | h
      · exact .inl h
      · exact .inr (by simpa using h)
end
end Go.Proofs.Ytfffaefmnjaccaa
