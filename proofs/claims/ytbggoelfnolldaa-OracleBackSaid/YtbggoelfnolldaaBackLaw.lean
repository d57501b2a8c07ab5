/- WHAT WAS NOTED, AND WHAT WAS ANSWERED: the plain law of OracleBack. No condition. -/
import Derived.Test.YtbggoelfnolldaaLogE
namespace Go.Proofs.Ytbggoelfnolldaa
open Go.RowKit
set_option linter.unusedVariables false

/-- How many of the first i questions may be answered. -/
def cnt (l : List (Int × Int)) : Nat → Nat
  | 0 => 0
  | i + 1 => cnt l i + (if (l.getD i (0, 0)).2 < 1 then 0 else 1)
theorem cnt_le (l : List (Int × Int)) : ∀ i, cnt l i ≤ i
  | 0 => Nat.le_refl _
  | i + 1 => by have := cnt_le l i; unfold cnt; split <;> omega
theorem cnt_low {l : List (Int × Int)} {i : Nat} (h : (l.getD i (0, 0)).2 < 1) : cnt l (i + 1) = cnt l i := by
  show cnt l i + _ = _
  rw [if_pos h, Nat.add_zero]
theorem cnt_up {l : List (Int × Int)} {i : Nat} (h : ¬ (l.getD i (0, 0)).2 < 1) : cnt l (i + 1) = cnt l i + 1 := by
  show cnt l i + _ = _
  rw [if_neg h]
theorem cnt_mono (l : List (Int × Int)) {i : Nat} : ∀ {j : Nat}, i ≤ j → cnt l i ≤ cnt l j
  | 0, h => by have : i = 0 := by omega
               subst this; exact Nat.le_refl _
  | j + 1, h => by
    by_cases e : i = j + 1
    · subst e; exact Nat.le_refl _
    · have := cnt_mono l (i := i) (j := j) (by omega)
      show cnt l i ≤ cnt l j + _
      omega

/-- The answers of the first k questions, and what was noted of them. -/
structure Back (l : List (Int × Int)) (k : Nat) (gl : List Int) (ev : List (Int × Int)) : Prop where
  len : gl.length = k
  evl : ev.length = cnt l k
  at_ : ∀ i, i < k → ¬ (l.getD i (0, 0)).2 < 1 → ev.getD (cnt l i) (0, 0) = ((l.getD i (0, 0)).1, gl.getD i 0) ∧ 0 ≤ gl.getD i 0 ∧ gl.getD i 0 < (l.getD i (0, 0)).2
theorem Back.zero (l : List (Int × Int)) : Back l 0 [] [] := ⟨rfl, rfl, fun i h => by omega⟩

theorem getD_app {α : Type} {a : List α} {x d : α} {i : Nat} (h : i < a.length) : (a ++ [x]).getD i d = a.getD i d := by
  simp [List.getD, List.getElem?_append_left h]
theorem getD_end {α : Type} {a : List α} {x d : α} {i : Nat} (h : i = a.length) : (a ++ [x]).getD i d = x := by
  subst h; simp [List.getD]

theorem Back.next {l : List (Int × Int)} {k : Nat} {gl : List Int} {ev : List (Int × Int)} (h : Back l k gl ev) (ys : List Int) :
    Back l (k + 1) (gl ++ [(ans ys (l.getD k (0, 0)).2).1]) (noted ev (l.getD k (0, 0)).1 (ans ys (l.getD k (0, 0)).2)) := by
  have hl := h.len
  have he := h.evl
  generalize hn : (l.getD k (0, 0)).2 = n at *
  by_cases hlt : n < 1
  · have hr : ans ys n = (0, 1) := by simp [ans, hlt]
    rw [hr, show noted ev (l.getD k (0, 0)).1 (0, 1) = ev by simp [noted]]
    refine ⟨by simp [hl], by rw [he, cnt_low (by rw [hn]; exact hlt)], fun i hi hni => ?_⟩
    have hik : i ≠ k := by rintro rfl; rw [hn] at hni; exact hni hlt
    have := h.at_ i (by omega) hni
    rw [getD_app (a := gl) (by omega)]
    exact this
  · have hr0 : (ans ys n).2 = 0 := by cases ys <;> simp [ans, hlt]
    have hr1 : 0 ≤ (ans ys n).1 ∧ (ans ys n).1 < n := by
      cases ys with
      | nil => simp [ans, hlt]; omega
      | cons y ys => have := md_range y n (by omega); simpa [ans, hlt] using this
    rw [noted, if_pos hr0]
    refine ⟨by simp [hl], by rw [List.length_append, he, cnt_up (by rw [hn]; exact hlt)]; rfl, fun i hi hni => ?_⟩
    by_cases hik : i = k
    · subst hik
      rw [getD_end he.symm, getD_end hl.symm, hn]
      exact ⟨rfl, hr1⟩
    · have h1 := h.at_ i (by omega) hni
      have h2 : cnt l (i + 1) ≤ cnt l k := cnt_mono l (by omega)
      have h3 : cnt l (i + 1) = cnt l i + 1 := by show cnt l i + _ = _; rw [if_neg hni]
      rw [getD_app (a := ev) (by omega), getD_app (a := gl) (by omega)]
      exact h1

/-- What the log answers to the question i. -/
theorem Back.again {l : List (Int × Int)} {m : Nat} {gl : List Int} {ev : List (Int × Int)} (h : Back l m gl ev) {i : Nat} (hi : i < m) (hn : ¬ (l.getD i (0, 0)).2 < 1) :
    lans ev (cnt l i) (l.getD i (0, 0)).1 (l.getD i (0, 0)).2 = (gl.getD i 0, 0) ∧ lrest ev (cnt l i) (l.getD i (0, 0)).1 (l.getD i (0, 0)).2 = cnt l (i + 1) := by
  obtain ⟨h1, h2, h3⟩ := h.at_ i hi hn
  have h4 : cnt l (i + 1) ≤ cnt l m := cnt_mono l (by omega)
  have h5 : cnt l (i + 1) = cnt l i + 1 := by show cnt l i + _ = _; rw [if_neg hn]
  have e : lans ev (cnt l i) (l.getD i (0, 0)).1 (l.getD i (0, 0)).2 = (gl.getD i 0, 0) := by
    rw [lans, if_neg hn, if_pos (by rw [h.evl]; omega), h1, if_pos ⟨rfl, h2, h3⟩]
  exact ⟨e, by rw [lrest, e, if_pos rfl, h5]⟩
theorem Back.low {l : List (Int × Int)} {ev : List (Int × Int)} {i : Nat} (hn : (l.getD i (0, 0)).2 < 1) :
    lans ev (cnt l i) (l.getD i (0, 0)).1 (l.getD i (0, 0)).2 = (0, 1) ∧ lrest ev (cnt l i) (l.getD i (0, 0)).1 (l.getD i (0, 0)).2 = cnt l (i + 1) := by
  have e : lans ev (cnt l i) (l.getD i (0, 0)).1 (l.getD i (0, 0)).2 = (0, 1) := by rw [lans, if_pos hn]
  refine ⟨e, ?_⟩
  rw [lrest, e, if_neg (by decide)]
  show cnt l i = cnt l i + _
  rw [if_pos hn, Nat.add_zero]
theorem Back.end_ {l : List (Int × Int)} {m : Nat} {gl : List Int} {ev : List (Int × Int)} (h : Back l m gl ev) :
    lans ev (cnt l m) 1 1 = (0, 17) ∧ lrest ev (cnt l m) 1 1 = cnt l m := by
  have e : lans ev (cnt l m) 1 1 = (0, 17) := by rw [lans, if_neg (by decide), if_neg (by rw [h.evl]; omega)]
  exact ⟨e, by rw [lrest, e, if_neg (by decide)]⟩
end Go.Proofs.Ytbggoelfnolldaa
