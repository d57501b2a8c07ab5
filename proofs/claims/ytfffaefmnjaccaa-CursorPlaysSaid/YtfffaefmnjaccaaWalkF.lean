/- THE WALKS of the reference's Move, branch by branch. The run has at most 200 steps. -/
import Derived.Test.YtfffaefmnjaccaaWalkE
namespace Go.Proofs.Ytfffaefmnjaccaa
open Go.RowKit
set_option linter.unusedVariables false

def GotPost (w : World) (r : Int × Int × Int) (e : Ending) (w' : World) : Prop :=
  e = .returned (.agg #[.int .i64 r.1, .int .i64 r.2.1, .int .i64 r.2.2]) ∧ Below w.heap.size w w'

theorem gotPost_of {w w' : World} {r : Int × Int × Int} {x y z : Int} (h : r = (x, y, z)) (hb : Below w.heap.size w w') :
    GotPost w r (.returned (.agg #[.int .i64 x, .int .i64 y, .int .i64 z])) w' := by subst h; exact ⟨rfl, hb⟩

theorem bcell {W w1 : World} (hb : Below W.heap.size W w1) : (∀ b o, b < W.heap.size → w1.cell? ⟨b, o, none⟩ = W.cell? ⟨b, o, none⟩) ∧ (∀ b o, b < W.heap.size → w1.frozen? ⟨b, o, none⟩ = W.frozen? ⟨b, o, none⟩) :=
  ⟨fun b o h => hb.cell (p := ⟨b, o, none⟩) h, fun b o h => hb.frozen (p := ⟨b, o, none⟩) h⟩

theorem two_below (w : World) (o o' : Obj) : Below w.heap.size w ((w.alloc o).alloc o') := ((Below.refl _ _).alloc (Nat.le_refl _) _).alloc (by simp) _

section
variable (A : Option Addr) (c : Nat) (hits : List Bool) (a k n : Int) (w : World)

set_option maxHeartbeats 400000 in
theorem ref_out (h : a < 0 ∨ (hits.length : Int) < a) :
    Calls Try.prog 8 #[.slice A hits.length c, .int .i64 a, .agg #[.int .i64 k, .int .i64 n]] w (GotPost w (mv hits a k n)) := by
  have hr := Lib.hid (mv_out (k := k) (n := n) h)
  by_cases h0 : a < 0
  · clear h
    go_enter Try.func8, Try.ntmps8
    go_wp2
    exact bodyPost_ret (v := .agg #[.int .i64 0, .int .i64 0, .int .i64 6]) (by simp [results, Try.results8, go_sem]) rfl (gotPost_of hr.out (two_below _ _ _))
  · have h1 : (hits.length : Int) < a := by omega
    clear h
    go_enter Try.func8, Try.ntmps8
    go_wp2
    exact bodyPost_ret (v := .agg #[.int .i64 0, .int .i64 0, .int .i64 6]) (by simp [results, Try.results8, go_sem]) rfl (gotPost_of hr.out (two_below _ _ _))

set_option maxHeartbeats 400000 in
theorem ref_step (h0 : 0 ≤ a) (h1 : a ≤ hits.length) (hn : hits.length ≤ 200) :
    Calls Try.prog 8 #[.slice A hits.length c, .int .i64 a, .agg #[.int .i64 1, .int .i64 n]] w (GotPost w (mv hits a 1 n)) := by
  have hr0 := mv_step (hits := hits) (a := a) (n := n) (by omega)
  by_cases hl : a < hits.length
  · rw [if_pos hl] at hr0
    have hr := Lib.hid hr0
    clear hr0
    go_enter Try.func8, Try.ntmps8
    go_wp2
    exact bodyPost_ret (v := .agg #[.int .i64 (a + 1), .int .i64 1, .int .i64 0]) (by simp [results, Try.results8, go_sem]) rfl (gotPost_of hr.out (two_below _ _ _))
  · rw [if_neg hl] at hr0
    have hr := Lib.hid hr0
    clear hr0
    go_enter Try.func8, Try.ntmps8
    go_wp2
    exact bodyPost_ret (v := .agg #[.int .i64 hits.length, .int .i64 3, .int .i64 0]) (by simp [results, Try.results8, go_sem]) rfl (gotPost_of hr.out (two_below _ _ _))

set_option maxHeartbeats 400000 in
theorem ref_back (h0 : 0 ≤ a) (h1 : a ≤ hits.length) (hn : hits.length ≤ 200) :
    Calls Try.prog 8 #[.slice A hits.length c, .int .i64 a, .agg #[.int .i64 2, .int .i64 n]] w (GotPost w (mv hits a 2 n)) := by
  have hr0 := mv_back (hits := hits) (a := a) (n := n) (by omega)
  by_cases hl : 0 < a
  · rw [if_pos hl] at hr0
    have hr := Lib.hid hr0
    clear hr0
    go_enter Try.func8, Try.ntmps8
    go_wp2
    exact bodyPost_ret (v := .agg #[.int .i64 (a - 1), .int .i64 1, .int .i64 0]) (by simp [results, Try.results8, go_sem]) rfl (gotPost_of hr.out (two_below _ _ _))
  · rw [if_neg hl] at hr0
    have hr := Lib.hid hr0
    clear hr0
    go_enter Try.func8, Try.ntmps8
    go_wp2
    exact bodyPost_ret (v := .agg #[.int .i64 0, .int .i64 4, .int .i64 0]) (by simp [results, Try.results8, go_sem]) rfl (gotPost_of hr.out (two_below _ _ _))

set_option maxHeartbeats 400000 in
theorem ref_to (h0 : 0 ≤ a) (h1 : a ≤ hits.length) (hn : hits.length ≤ 200) :
    Calls Try.prog 8 #[.slice A hits.length c, .int .i64 a, .agg #[.int .i64 5, .int .i64 n]] w (GotPost w (mv hits a 5 n)) := by
  have hr0 := mv_to (hits := hits) (a := a) (n := n) (by omega)
  by_cases hl : 0 ≤ n ∧ n ≤ hits.length
  · rw [if_pos hl] at hr0
    have hr := Lib.hid hr0
    clear hr0
    obtain ⟨hl1, hl2⟩ := hl
    go_enter Try.func8, Try.ntmps8
    go_wp2
    exact bodyPost_ret (v := .agg #[.int .i64 n, .int .i64 1, .int .i64 0]) (by simp [results, Try.results8, go_sem]) rfl (gotPost_of hr.out (two_below _ _ _))
  · rw [if_neg hl] at hr0
    have hr := Lib.hid hr0
    clear hr0
    by_cases hl1 : n < 0
    · clear hl
      go_enter Try.func8, Try.ntmps8
      go_wp2
      exact bodyPost_ret (v := .agg #[.int .i64 a, .int .i64 0, .int .i64 6]) (by simp [results, Try.results8, go_sem]) rfl (gotPost_of hr.out (two_below _ _ _))
    · have hl2 : (hits.length : Int) < n := by omega
      clear hl
      go_enter Try.func8, Try.ntmps8
      go_wp2
      exact bodyPost_ret (v := .agg #[.int .i64 a, .int .i64 0, .int .i64 6]) (by simp [results, Try.results8, go_sem]) rfl (gotPost_of hr.out (two_below _ _ _))

set_option maxHeartbeats 400000 in
theorem ref_arg (h0 : 0 ≤ a) (h1 : a ≤ hits.length) (hn : hits.length ≤ 200) (k1 : k ≠ 1) (k2 : k ≠ 2) (k3 : k ≠ 3) (k4 : k ≠ 4) (k5 : k ≠ 5) :
    Calls Try.prog 8 #[.slice A hits.length c, .int .i64 a, .agg #[.int .i64 k, .int .i64 n]] w (GotPost w (mv hits a k n)) := by
  have hr := Lib.hid (mv_arg (hits := hits) (a := a) (n := n) (by omega) k1 k2 k3 k4 k5)
  have e1 : (k == 1) = false := by simp [k1]
  have e2 : (k == 2) = false := by simp [k2]
  have e3 : (k == 3) = false := by simp [k3]
  have e4 : (k == 4) = false := by simp [k4]
  have e5 : (k == 5) = false := by simp [k5]
  clear k1 k2 k3 k4 k5
  go_enter Try.func8, Try.ntmps8
  go_wp2
  exact bodyPost_ret (v := .agg #[.int .i64 a, .int .i64 0, .int .i64 1]) (by simp [results, Try.results8, go_sem]) rfl (gotPost_of hr.out (two_below _ _ _))
end
end Go.Proofs.Ytfffaefmnjaccaa
