/- THE WALKS of cursor.Move, on to the next hit and back to the last one. The run has at most 200 steps. -/
import Derived.Test.YtfffaefmnjaccaaWalkC
namespace Go.Proofs.Ytfffaefmnjaccaa
open Go.RowKit
set_option linter.unusedVariables false

section
variable (A : Option Addr) (c : Nat) (hits : List Bool) (a k n : Int) (w : World)

theorem getD_drop (xs : List Bool) (m i : Nat) : (xs.drop m).getD i false = xs.getD (m + i) false := by
  simp [List.getD]

theorem on_none {hits : List Bool} {m : Nat} (hm : m ≤ hits.length) (h : ∀ j, j < (hits.drop m).length → (hits.drop m).getD j false = false) :
    mv hits (m : Int) 3 n = ((hits.length : Int), 3, 0) := by
  rw [mv_on (by omega), Int.toNat_natCast, hl_none]
  · rfl
  · intro j hj
    have := h j (by rw [List.length_drop]; exact hj)
    rw [getD_drop] at this
    rw [show m + 1 + j - 1 = m + j by omega]; exact this
theorem on_some {hits : List Bool} {m i : Nat} (hm : m ≤ hits.length) (hi : i < (hits.drop m).length) (h1 : (hits.drop m).getD i false = true) (h : ∀ j, j < i → (hits.drop m).getD j false = false) :
    mv hits (m : Int) 3 n = ((m : Int) + i + 1, 2, 0) := by
  rw [List.length_drop] at hi
  rw [getD_drop] at h1
  rw [mv_on (by omega), Int.toNat_natCast, hl_first hits (m + 1) (hits.length - m) i hi]
  · simp only [Prod.mk.injEq, and_true]; omega
  · intro j hj
    have := h j hj
    rw [getD_drop] at this
    rw [show m + 1 + j - 1 = m + j by omega]; exact this
  · rw [show m + 1 + i - 1 = m + i by omega]; exact h1

set_option maxHeartbeats 400000 in
theorem move_on (m : Nat) (h1 : m ≤ hits.length) (hn : hits.length ≤ 200) (hx : Rd w A (bools hits)) (hc : hits.length ≤ c) (hA : A = none → c = 0) :
    Calls Try.prog 7 #[.slice A hits.length c, .int .i64 m, .agg #[.int .i64 3, .int .i64 n]] w (MvPost w (mv hits m 3 n)) := by
  have hcut := (hx.alloc (.cells #[.int .i64 3, .int .i64 n] 24)).cut m c (by rw [bools_len]; exact h1) (by rw [bools_len]; exact hc)
  have hdr : (bools hits).drop m = bools (hits.drop m) := by simp [bools]
  have hlen : (hits.drop m).length = hits.length - m := List.length_drop ..
  rw [hdr] at hcut
  have hN := Lib.hid (on_none n h1)
  have hS := fun i => Lib.hid (on_some n (i := i) h1)
  by_cases hcm : c = m
  · subst hcm
    rw [if_pos rfl] at hcut
    have HX := Lib.hid (index_any _ (c - c) (hits.drop c) _ hcut (by unfold maxLen; omega))
    rw [hlen, Nat.sub_self, show hits.length - c = 0 by omega] at HX
    clear hx hcut hdr
    go_enter Try.func7, Try.ntmps7
    go_wp2_with fail
    with_reducible (refine Calls.mono HX.out ?_)
    rintro e w' ⟨hh, rfl⟩
    obtain ⟨r, rfl, hr⟩ := hh
    rcases hr with ⟨rfl, hr⟩ | ⟨i, rfl, hi, ht, hr⟩
    · go_wp2
      go_ret3
      exact mvPost_of (hN.out hr) (box_below _ _)
    · rw [hlen] at hi
      omega
  · rw [if_neg hcm] at hcut
    have HX := Lib.hid (index_any _ (c - m) (hits.drop m) _ hcut (by unfold maxLen; omega))
    rw [hlen] at HX
    clear hx hcut hdr
    go_enter Try.func7, Try.ntmps7
    go_wp2_with fail
    with_reducible (refine Calls.mono HX.out ?_)
    rintro e w' ⟨hh, rfl⟩
    obtain ⟨r, rfl, hr⟩ := hh
    rcases hr with ⟨rfl, hr⟩ | ⟨i, rfl, hi, ht, hr⟩
    · have hfin := Lib.hid (hN.out hr)
      clear hr
      go_wp2
      go_ret3
      exact mvPost_of hfin.out (box_below _ _)
    · have hfin := Lib.hid ((hS i).out hi ht hr)
      rw [hlen] at hi
      clear hr ht
      go_wp2
      go_ret3
      exact mvPost_of hfin.out (box_below _ _)
end
end Go.Proofs.Ytfffaefmnjaccaa
