/- HOW THE ARGUMENT THAT IS A SLICE OF MOVES IS OPENED. No condition. -/
import Derived.Test.YtfffaefmnjaccaaOpen
import Derived.Test.YtfffaefmnjaccaaPlaysWalk
import Derived.Deep.SlicePairs
namespace Go.Proofs.Ytfffaefmnjaccaa
open Go.ChangeShapes Go.WideShapes Go.ChangeAt Go.RowKit
set_option linter.unusedVariables false

section
variable {H : Type} {enc : TypeId × Value → H} {W : World} {base : Nat}

theorem mcells_fn (F : Nat → Int × Int) (n j : Nat) (h : j < 2 * n) :
    (mcells ((List.range n).map F))[j]? = some (if j % 2 = 0 then .int .i64 (F (j / 2)).1 else .int .i64 (F (j / 2)).2) := by
  have hk : j / 2 < ((List.range n).map F).length := by simp; omega
  have hg : ((List.range n).map F).getD (j / 2) (0, 0) = F (j / 2) := by
    have : j / 2 < n := by omega
    simp [List.getD, this]
  obtain ⟨h1, h2⟩ := mcells_at hk
  rw [hg] at h1 h2
  by_cases he : j % 2 = 0
  · rw [if_pos he, ← h1]; congr 1; omega
  · rw [if_neg he, ← h2]; congr 1; omega

theorem open_moves {r : Reach} {b0 : Nat} {v : Value} {d : DataW H} {p : List MemPlace} (hv : Value.okWide Try.prog W r b0 34 v) (h : DataW.Trod enc Try.prog W base (fun _ => true) true 34 v d p) :
    ∃ (A : Option Addr) (c : Nat) (l : List (Int × Int)), v = .slice A l.length c ∧ Rd W A (mcells l) ∧ l.length ≤ maxLen := by
  obtain ⟨a0, len0, cap0, rfl⟩ := okWide_slice Try.underlying34 hv
  obtain ⟨fuel, hf⟩ := h
  rcases Deep.open_slice_pairs Try.underlying34 Try.underlying24 (by kernel_rfl) rfl rfl (by kernel_rfl) (by kernel_rfl) hf with ⟨hcs, _⟩ | ⟨a, len, cap, m, n, V0, V1, D0, D1, P0, P1, hcs, _, hl, hm, hmm, _, hcell⟩
  · simp [Value.cells] at hcs
    obtain ⟨rfl, rfl, rfl⟩ := hcs
    exact ⟨none, 0, [], rfl, Rd.nil_, Nat.zero_le _⟩
  · simp [Value.cells] at hcs
    obtain ⟨rfl, rfl, rfl⟩ := hcs
    simp only [if_true] at hmm
    subst hmm
    obtain ⟨F, hF⟩ := Deep.choose_lt (α := Int × Int) (p := fun i q => V0 i = .int .i64 q.1 ∧ V1 i = .int .i64 q.2) (n := m) (fun i hi => by
      obtain ⟨_, _, h0, h1⟩ := hcell i hi
      obtain ⟨x, e0, _, _⟩ := DataW.trod_int Try.underlying3 h0
      obtain ⟨y, e1, _, _⟩ := DataW.trod_int Try.underlying3 h1
      simp at e0 e1
      exact ⟨(x, y), e0, e1⟩)
    refine ⟨some a, m, (List.range len0).map F, by simp, ?_, by simp; omega⟩
    intro hn
    rw [mcells_len, List.length_map, List.length_range] at hn
    obtain ⟨b, off, spot⟩ := a
    have hs : spot = none := by have := World.cell?_spot (hcell 0 (by omega)).1; simpa [Addr.add] using this
    subst hs
    have hadd : ∀ j, ((⟨b, off, none⟩ : Addr).add j) = ⟨b, off + j, none⟩ := fun j => by unfold Addr.add; split <;> simp_all
    refine ⟨b, off, rfl, fun j u hu => ?_⟩
    have hj : j < 2 * len0 := by
      have := (List.getElem?_eq_some_iff.1 hu).1
      rw [mcells_len, List.length_map, List.length_range] at this
      exact this
    rw [mcells_fn F len0 j hj] at hu
    obtain ⟨h0, h1, _, _⟩ := hcell (j / 2) (by omega)
    rw [hadd, (hF (j / 2) (by omega)).1] at h0
    rw [hadd, (hF (j / 2) (by omega)).2] at h1
    by_cases he : j % 2 = 0
    · rw [if_pos he] at hu
      rw [← hu, ← h0, show j / 2 * 2 = j by omega]
    · rw [if_neg he] at hu
      rw [← hu, ← h1, show j / 2 * 2 + 1 = j by omega]
end
end Go.Proofs.Ytfffaefmnjaccaa
