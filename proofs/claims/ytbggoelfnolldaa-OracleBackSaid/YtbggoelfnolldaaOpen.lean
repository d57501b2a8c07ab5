/- HOW THE ARGUMENTS ARE OPENED: a slice of ints, a slice of questions. No condition. -/
import Derived.Test.YtbggoelfnolldaaRows
import Derived.Test.YtbggoelfnolldaaScripts
import Derived.ProofKit
import Derived.OpenShut
import Derived.ChangeOld
import Derived.Deep.SlicePairs
import Derived.Lib.SmallJoins
namespace Go.Proofs.Ytbggoelfnolldaa
open Go.ChangeShapes Go.WideShapes Go.ChangeAt Go.RowKit
set_option linter.unusedVariables false

theorem own : ownKnob Try.prog.godebug = none := by kernel_rfl
theorem laidOut : laidOutB Try.prog = true := by kernel_rfl

section
variable {H : Type} {enc : TypeId × Value → H} {W : World} {base : Nat}

theorem in64_of {x : Int} (h : (Lit.int IntKind.i64 x).wf = true) : In64 x := by
  have h1 : (Lit.int IntKind.i64 x).wf = (decide (IntKind.i64.min ≤ x) && decide (x ≤ IntKind.i64.max)) := rfl
  rw [h1, show IntKind.i64.min = -9223372036854775808 by decide, show IntKind.i64.max = 9223372036854775807 by decide] at h
  simp at h
  exact h

theorem open_nums {r : Reach} {b0 : Nat} {v : Value} {d : DataW H} {p : List MemPlace} (hv : Value.okWide Try.prog W r b0 22 v) (h : DataW.Trod enc Try.prog W base (fun _ => true) true 22 v d p) :
    ∃ (A : Option Addr) (c : Nat) (l : List Int), v = .slice A l.length c ∧ Rd W (fun b => b < W.heap.size) A (ints l) ∧ l.length ≤ c ∧ l.length ≤ maxLen ∧ (A = none → l = []) ∧ ∀ x ∈ l, In64 x := by
  obtain ⟨a0, len0, cap0, rfl⟩ := okWide_slice Try.underlying22 hv
  obtain ⟨fuel, hf⟩ := h
  rcases open_ints Try.underlying22 Try.underlying3 (by kernel_rfl) hf with ⟨hcs, _⟩ | ⟨a, len, cap, zs, hcs, _, hl, hm, hz, _, hcell, hwf⟩
  · simp [Value.cells] at hcs
    obtain ⟨rfl, rfl, rfl⟩ := hcs
    exact ⟨none, 0, [], rfl, fun h => by simp [ints] at h, Nat.le_refl _, Nat.zero_le _, fun _ => rfl, fun x h => by simp at h⟩
  · simp [Value.cells] at hcs
    obtain ⟨rfl, rfl, rfl⟩ := hcs
    simp only [if_true] at hz
    have hlen : (zs.take len0).length = len0 := by rw [List.length_take]; omega
    refine ⟨some a, cap0, zs.take len0, by rw [hlen], ?_, by rw [hlen]; omega, by rw [hlen]; omega, (fun e => nomatch e), fun x hx => in64_of (hwf x (List.mem_of_mem_take hx))⟩
    intro hn
    rw [ints_len, hlen] at hn
    obtain ⟨b, off, spot⟩ := a
    have hs : spot = none := by have := World.cell?_spot (hcell 0 (by omega)); simpa [Addr.add] using this
    subst hs
    have hadd : ∀ j, ((⟨b, off, none⟩ : Addr).add j) = ⟨b, off + j, none⟩ := fun j => by unfold Addr.add; split <;> simp_all
    have h0 := hcell 0 (by omega)
    rw [hadd] at h0
    refine ⟨b, off, rfl, World.block_lt_of_cell? W _ h0, World.block_lt_of_cell? W _ h0, fun j u hu => ?_⟩
    have hj : j < len0 := by
      have := (List.getElem?_eq_some_iff.1 hu).1
      rw [ints_len, hlen] at this
      exact this
    have h1 := hcell j (by omega)
    rw [hadd] at h1
    rw [h1, ← hu]
    have hj2 : j < zs.length := by omega
    simp [ints, List.getElem?_take, hj, List.getD, hj2]

theorem open_asks {r : Reach} {b0 : Nat} {v : Value} {d : DataW H} {p : List MemPlace} (hv : Value.okWide Try.prog W r b0 23 v) (h : DataW.Trod enc Try.prog W base (fun _ => true) true 23 v d p) :
    ∃ (A : Option Addr) (c : Nat) (l : List (Int × Int)), v = .slice A l.length c ∧ Asks W A l ∧ l.length ≤ maxLen := by
  obtain ⟨a0, len0, cap0, rfl⟩ := okWide_slice Try.underlying23 hv
  obtain ⟨fuel, hf⟩ := h
  rcases Deep.open_slice_pairs Try.underlying23 Try.underlying35 (by kernel_rfl) rfl rfl (by kernel_rfl) (by kernel_rfl) hf with ⟨hcs, _⟩ | ⟨a, len, cap, m, n, V0, V1, D0, D1, P0, P1, hcs, _, hl, hm, hmm, _, hcell⟩
  · simp [Value.cells] at hcs
    obtain ⟨rfl, rfl, rfl⟩ := hcs
    exact ⟨none, 0, [], rfl, fun k hk => by simp at hk, Nat.zero_le _⟩
  · simp [Value.cells] at hcs
    obtain ⟨rfl, rfl, rfl⟩ := hcs
    simp only [if_true] at hmm
    subst hmm
    obtain ⟨F, hF⟩ := Deep.choose_lt (α := Int × Int) (p := fun i q => W.cell? (a.add (i * 2)) = some (.int .i64 q.1) ∧ W.cell? (a.add (i * 2 + 1)) = some (.int .i64 q.2) ∧ In64 q.2) (n := m) (fun i hi => by
      obtain ⟨h0, h1, t0, t1⟩ := hcell i hi
      obtain ⟨x, e0, _, _⟩ := DataW.trod_int Try.underlying3 t0
      obtain ⟨y, e1, _, hy⟩ := DataW.trod_int Try.underlying3 t1
      simp at e0 e1
      exact ⟨(x, y), by rw [h0, e0], by rw [h1, e1], in64_of hy⟩)
    refine ⟨some a, m, (List.range len0).map F, by simp, ?_, by simp; omega⟩
    intro k hk
    rw [List.length_map, List.length_range] at hk
    obtain ⟨f0, f1, f2⟩ := hF k (by omega)
    obtain ⟨b, off, spot⟩ := a
    have hs : spot = none := by have := World.cell?_spot (hF 0 (by omega)).1; simpa [Addr.add] using this
    subst hs
    have hadd : ∀ j, ((⟨b, off, none⟩ : Addr).add j) = ⟨b, off + j, none⟩ := fun j => by unfold Addr.add; split <;> simp_all
    rw [hadd] at f0 f1
    have hg : ((List.range len0).map F).getD k (0, 0) = F k := by simp [List.getD, hk]
    rw [hg]
    exact ⟨b, off, rfl, World.block_lt_of_cell? W _ f0, f0, by rw [Nat.add_assoc]; exact f1, f2⟩

theorem scripts_walk (w : World) (A A2 : Option Addr) (c c2 : Nat) (xs : List Int) (l : List (Int × Int)) (hx : Rd w (fun b => b < w.heap.size) A (ints xs)) (hc : xs.length ≤ c) (hm : xs.length ≤ maxLen) (hA : A = none → xs = []) (hf : ∀ x ∈ xs, In64 x)
    (hl : Asks w A2 l) (hm2 : l.length ≤ maxLen) : Calls Try.prog 3 #[.slice A xs.length c, .slice A2 l.length c2] w (LivePost w) := by
  by_cases h : 100 < xs.length ∨ 100 < l.length
  · exact scripts_big A A2 c c2 w _ _ h hm hm2
  · exact scripts_core A A2 c c2 xs l w hx hl (by omega) (by omega) hc hA hf
end
end Go.Proofs.Ytbggoelfnolldaa
