/- HOW THE ARGUMENT THAT IS A SLICE OF TEXTS IS OPENED. No condition. -/
import Derived.Test.YtopablmgadkppaaRows
import Derived.Test.YtopablmgadkppaaOrderWalk
import Derived.ProofKit
import Derived.OpenShut
import Derived.ChangeOld
import Derived.SliceStrings
namespace Go.Proofs.Ytopablmgadkppaa
open Go.ChangeShapes Go.WideShapes Go.ChangeAt Go.RowKit
set_option linter.unusedVariables false

theorem own : ownKnob Try.prog.godebug = none := by kernel_rfl
theorem laidOut : laidOutB Try.prog = true := by kernel_rfl

section
variable {H : Type} {enc : TypeId × Value → H} {W : World} {base : Nat}

theorem open_texts {r : Reach} {b0 : Nat} {v : Value} {d : DataW H} {p : List MemPlace} (hv : Value.okWide Try.prog W r b0 25 v) (h : DataW.Trod enc Try.prog W base (fun _ => true) true 25 v d p) :
    ∃ (A : Option Addr) (c : Nat) (l : List El), v = .slice A l.length c ∧ Texts W A l ∧ l.length ≤ maxLen := by
  obtain ⟨a0, len0, cap0, rfl⟩ := okWide_slice Try.underlying25 hv
  obtain ⟨fuel, hf⟩ := h
  rcases open_strings Try.underlying25 Try.underlying9 (by kernel_rfl) hf with ⟨hcs, _⟩ | ⟨a, len, cap, ss, hcs, _, hl, hm, hz, _, hcell, _⟩
  · simp [Value.cells] at hcs
    obtain ⟨rfl, rfl, rfl⟩ := hcs
    exact ⟨none, 0, [], rfl, fun k hk => by simp at hk, Nat.zero_le _⟩
  · simp [Value.cells] at hcs
    obtain ⟨rfl, rfl, rfl⟩ := hcs
    simp only [if_true] at hz
    have hlen : (ss.take len0).length = len0 := by rw [List.length_take]; omega
    refine ⟨some a, cap0, ss.take len0, by rw [hlen], ?_, by rw [hlen]; omega⟩
    intro k hk
    rw [hlen] at hk
    have h0 := hcell k (by omega)
    obtain ⟨b, off, spot⟩ := a
    have hs : spot = none := by
      have := World.cell?_spot (hcell 0 (by omega)); simpa [Addr.add] using this
    subst hs
    rw [show ((⟨b, off, none⟩ : Addr).add k) = ⟨b, off + k, none⟩ by unfold Addr.add; split <;> simp_all] at h0
    refine ⟨b, off, rfl, World.block_lt_of_cell? W _ h0, ?_⟩
    rw [h0]
    have hks : k < ss.length := by omega
    simp [List.getD, hk, hks]
end
end Go.Proofs.Ytopablmgadkppaa
