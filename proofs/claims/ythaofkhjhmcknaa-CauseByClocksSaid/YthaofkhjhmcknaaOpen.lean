/- HOW THE ARGUMENTS ARE OPENED: a slice of steps, numbers. No condition. -/
import Derived.Test.YthaofkhjhmcknaaRows
import Derived.Test.YthaofkhjhmcknaaWalkK
import Derived.ProofKit
import Derived.OpenShut
import Derived.ChangeOld
import Derived.Deep.Slices
namespace Go.Proofs.Ythaofkhjhmcknaa
open Go.ChangeShapes Go.WideShapes Go.ChangeAt Go.RowKit
set_option linter.unusedVariables false
theorem own : ownKnob Try.prog.godebug = none := by kernel_rfl
theorem laidOut : laidOutB Try.prog = true := by kernel_rfl

section
variable {H : Type} {enc : TypeId × Value → H} {W : World} {base : Nat}
theorem open_number {r : Reach} {b0 : Nat} {v : Value} {d : DataW H} {p : List MemPlace} (hv : Value.okWide Try.prog W r b0 3 v) (h : DataW.Trod enc Try.prog W base (fun _ => true) true 3 v d p) :
    ∃ x : Int, v = .int .i64 x := okWide_int Try.underlying3 hv

instance : Inhabited Hap := ⟨hap0⟩
/-- The five cells of a step. -/
theorem hap_cells {n : Nat} {cs : List Value} {x : DataW H × List MemPlace} (h : DataW.trod enc Try.prog W base (fun _ => true) true n 34 cs = some x) (hl : cs.length = 5) : ∃ q : Hap, cs = q.cs := by
  obtain ⟨xs, k, _, _, _, hxl, hf⟩ := DataW.trod_struct Try.underlying34 h
  have hc3 : Try.prog.cellsOf 3 = 1 := by kernel_rfl
  match xs, hxl, cs, hl with
  | [y0, y1, y2, y3, y4], _, [v0, v1, v2, v3, v4], _ =>
    have g0 := hf 0 _ rfl
    have g1 := hf 1 _ rfl
    have g2 := hf 2 _ rfl
    have g3 := hf 3 _ rfl
    have g4 := hf 4 _ rfl
    simp [hc3] at g0 g1 g2 g3 g4
    obtain ⟨x0, e0, _⟩ := DataW.trod_int Try.underlying3 g0
    obtain ⟨x1, e1, _⟩ := DataW.trod_int Try.underlying3 g1
    obtain ⟨x2, e2, _⟩ := DataW.trod_int Try.underlying3 g2
    obtain ⟨x3, e3, _⟩ := DataW.trod_int Try.underlying3 g3
    obtain ⟨x4, e4, _⟩ := DataW.trod_int Try.underlying3 g4
    simp at e0 e1 e2 e3 e4
    subst e0; subst e1; subst e2; subst e3; subst e4
    exact ⟨⟨x0, x1, x2, x3, x4⟩, rfl⟩

theorem open_haps {r : Reach} {b0 : Nat} {v : Value} {d : DataW H} {p : List MemPlace} (hv : Value.okWide Try.prog W r b0 22 v) (h : DataW.Trod enc Try.prog W base (fun _ => true) true 22 v d p) :
    ∃ (A : Option Addr) (c : Nat) (l : List Hap), v = .slice A l.length c ∧ Hs W A l ∧ l.length ≤ maxLen := by
  obtain ⟨a0, len0, cap0, rfl⟩ := okWide_slice Try.underlying22 hv
  obtain ⟨fuel, hf⟩ := h
  have hc : Try.prog.cellsOf 34 = 5 := by kernel_rfl
  rcases Deep.open_slice Try.underlying22 hf with ⟨hcs, _⟩ | ⟨a, len, cap, m, n, D, Pl, hcs, _, hl, hm, hmm, _, hx⟩
  · simp [Value.cells] at hcs
    obtain ⟨rfl, rfl, rfl⟩ := hcs
    exact ⟨none, 0, [], rfl, fun h => by simp at h, Nat.zero_le _⟩
  · simp [Value.cells] at hcs
    obtain ⟨rfl, rfl, rfl⟩ := hcs
    simp only [if_true] at hmm
    subst hmm
    rw [hc] at hx
    obtain ⟨F, hF⟩ := Deep.choose_lt (α := Hap) (p := fun i q => ∀ j, j < 5 → W.cell? ((a.add (i * 5)).add j) = q.cs[j]?) (n := m) (fun i hi => by
      obtain ⟨cs', h1, h2⟩ := hx i hi
      obtain ⟨_, hlen, hcell⟩ := World.cells?_some h1
      obtain ⟨q, rfl⟩ := hap_cells h2 hlen
      exact ⟨q, hcell⟩)
    refine ⟨some a, m, (List.range len0).map F, by simp, ?_, by simp; omega⟩
    intro hn
    rw [List.length_map, List.length_range] at hn
    obtain ⟨b, off, spot⟩ := a
    have h00 : W.cell? ((⟨b, off, spot⟩ : Addr).add (0 * 5) |>.add 0) = some (.int .i64 (F 0).kd) := hF 0 (by omega) 0 (by decide)
    have hs : spot = none := by have := World.cell?_spot h00; simpa [Addr.add] using this
    subst hs
    have hadd : ∀ j, ((⟨b, off, none⟩ : Addr).add j) = ⟨b, off + j, none⟩ := fun j => by unfold Addr.add; split <;> simp_all
    have hadd2 : ∀ o j, ((⟨b, o, none⟩ : Addr).add j) = ⟨b, o + j, none⟩ := fun o j => by unfold Addr.add; split <;> simp_all
    have hcell : ∀ k, k < len0 → ∀ j, j < 5 → W.cell? ⟨b, off + k * 5 + j, none⟩ = (F k).cs[j]? := fun k hk j hj => by
      have := hF k (by omega) j hj
      rwa [hadd, hadd2] at this
    have hg : ∀ k, k < len0 → ((List.range len0).map F).getD k hap0 = F k := fun k hk => by simp [List.getD, hk]
    rw [hadd, hadd2] at h00
    refine ⟨b, off, rfl, World.block_lt_of_cell? W _ h00, ?_, ?_, ?_, ?_, ?_⟩
    all_goals
      intro k hk
      rw [List.length_map, List.length_range] at hk
      rw [hg k hk]
    · exact hcell k hk 0 (by decide)
    · exact hcell k hk 1 (by decide)
    · exact hcell k hk 2 (by decide)
    · exact hcell k hk 3 (by decide)
    · exact hcell k hk 4 (by decide)

theorem orders_walk (w : World) (A : Option Addr) (c : Nat) (l : List Hap) (a b d : Int) (h : Hs w A l) (hm : l.length ≤ maxLen) : Calls Try.prog 4 #[.slice A l.length c, .int .i64 a, .int .i64 b, .int .i64 d] w (BoolPost w true) := by
  by_cases hb : 40 < l.length
  · exact orders_big A _ c a b d w hb
  · exact orders_core l _ rfl (by omega) A c a b d w h
end
end Go.Proofs.Ythaofkhjhmcknaa
