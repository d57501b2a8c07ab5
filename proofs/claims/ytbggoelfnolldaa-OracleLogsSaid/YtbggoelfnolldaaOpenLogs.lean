/- HOW THE ARGUMENT THAT IS A SLICE OF EVENTS IS OPENED. No condition. -/
import Derived.Test.YtbggoelfnolldaaOpen
import Derived.Test.YtbggoelfnolldaaLogs
namespace Go.Proofs.Ytbggoelfnolldaa
open Go.ChangeShapes Go.WideShapes Go.ChangeAt Go.RowKit
set_option linter.unusedVariables false

section
variable {H : Type} {enc : TypeId × Value → H} {W : World} {base : Nat}

theorem evs_fn (F : Nat → Int × Int) (n j : Nat) (h : j < 2 * n) :
    (evs ((List.range n).map F))[j]? = some (if j % 2 = 0 then .int .i64 (F (j / 2)).1 else .int .i64 (F (j / 2)).2) := by
  have hk : j / 2 < ((List.range n).map F).length := by simp; omega
  have hg : ((List.range n).map F).getD (j / 2) (0, 0) = F (j / 2) := by
    have : j / 2 < n := by omega
    simp [List.getD, this]
  obtain ⟨h1, h2⟩ := evs_at hk
  rw [hg] at h1 h2
  by_cases he : j % 2 = 0
  · rw [if_pos he, ← h1]; congr 1; omega
  · rw [if_neg he, ← h2]; congr 1; omega

theorem open_events {r : Reach} {b0 : Nat} {v : Value} {d : DataW H} {p : List MemPlace} (hv : Value.okWide Try.prog W r b0 44 v) (h : DataW.Trod enc Try.prog W base (fun _ => true) true 44 v d p) :
    ∃ (A : Option Addr) (c : Nat) (l : List (Int × Int)), v = .slice A l.length c ∧ Rd W (fun b => b < W.heap.size) A (evs l) ∧ l.length ≤ maxLen ∧ (A = none → l = []) := by
  obtain ⟨a0, len0, cap0, rfl⟩ := okWide_slice Try.underlying44 hv
  obtain ⟨fuel, hf⟩ := h
  rcases Deep.open_slice_pairs Try.underlying44 Try.underlying64 (by kernel_rfl) rfl rfl (by kernel_rfl) (by kernel_rfl) hf with ⟨hcs, _⟩ | ⟨a, len, cap, m, n, V0, V1, D0, D1, P0, P1, hcs, _, hl, hm, hmm, _, hcell⟩
  · simp [Value.cells] at hcs
    obtain ⟨rfl, rfl, rfl⟩ := hcs
    exact ⟨none, 0, [], rfl, fun h => by simp [evs] at h, Nat.zero_le _, fun _ => rfl⟩
  · simp [Value.cells] at hcs
    obtain ⟨rfl, rfl, rfl⟩ := hcs
    simp only [if_true] at hmm
    subst hmm
    obtain ⟨F, hF⟩ := Deep.choose_lt (α := Int × Int) (p := fun i q => W.cell? (a.add (i * 2)) = some (.int .i64 q.1) ∧ W.cell? (a.add (i * 2 + 1)) = some (.int .i64 q.2)) (n := m) (fun i hi => by
      obtain ⟨h0, h1, t0, t1⟩ := hcell i hi
      obtain ⟨x, e0, _, _⟩ := DataW.trod_int Try.underlying3 t0
      obtain ⟨y, e1, _, _⟩ := DataW.trod_int Try.underlying3 t1
      simp at e0 e1
      exact ⟨(x, y), by rw [h0, e0], by rw [h1, e1]⟩)
    refine ⟨some a, m, (List.range len0).map F, by simp, ?_, by simp; omega, fun e => nomatch e⟩
    intro hn
    rw [evs_len, List.length_map, List.length_range] at hn
    obtain ⟨b, off, spot⟩ := a
    have hs : spot = none := by have := World.cell?_spot (hF 0 (by omega)).1; simpa [Addr.add] using this
    subst hs
    have hadd : ∀ j, ((⟨b, off, none⟩ : Addr).add j) = ⟨b, off + j, none⟩ := fun j => by unfold Addr.add; split <;> simp_all
    have hb : b < W.heap.size := by
      have f0 := (hF 0 (by omega)).1
      rw [hadd] at f0
      exact World.block_lt_of_cell? W _ f0
    refine ⟨b, off, rfl, hb, hb, fun j u hu => ?_⟩
    have hj : j < 2 * len0 := by
      have := (List.getElem?_eq_some_iff.1 hu).1
      rw [evs_len, List.length_map, List.length_range] at this
      omega
    rw [evs_fn F len0 j hj] at hu
    obtain ⟨f0, f1⟩ := hF (j / 2) (by omega)
    rw [hadd] at f0 f1
    by_cases he : j % 2 = 0
    · rw [if_pos he] at hu
      rw [← hu, ← f0]; congr 2; omega
    · rw [if_neg he] at hu
      rw [← hu, ← f1]; congr 2; omega

theorem logs_walk (w : World) (A A2 : Option Addr) (c c2 : Nat) (gs : List (Int × Int)) (l : List (Int × Int)) (hx : Rd w (fun b => b < w.heap.size) A (evs gs)) (hm : gs.length ≤ maxLen) (hA : A = none → gs = [])
    (hl : Asks w A2 l) (hm2 : l.length ≤ maxLen) : Calls Try.prog 5 #[.slice A gs.length c, .slice A2 l.length c2] w (LivePost w) := by
  by_cases h : 100 < gs.length ∨ 100 < l.length
  · exact logs_big A A2 c c2 w _ _ h hm hm2
  · exact logs_core A A2 c c2 gs l w hx hl (by omega) (by omega) hA
end
end Go.Proofs.Ytbggoelfnolldaa
