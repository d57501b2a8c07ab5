/- THE WALKS of slices.Max, slices.Clone, and the reference's Wide; words on rows of numbers as lists. -/
import Derived.Test.YthaofkhjhmcknaaWalkP
import Derived.Test.YthaofkhjhmcknaaClockLaw
namespace Go.Proofs.Ythaofkhjhmcknaa
open Go.RowKit
set_option linter.unusedVariables false

/-- A clock of D numbers. -/
def clk (D : Nat) (F : Int → Int) : List Int := (List.range D).map fun i => F (i : Nat)
theorem clk_len (D : Nat) (F : Int → Int) : (clk D F).length = D := by simp [clk]
theorem clk_at {D i : Nat} (F : Int → Int) (h : i < D) : (ints (clk D F))[i]? = some (.int .i64 (F i)) := by simp [ints, clk, h]
theorem clk_get {D i : Nat} (F : Int → Int) (h : i < D) : (clk D F).getD i 0 = F i := by simp [clk, List.getD, h]
theorem clk_congr {D : Nat} {F G : Int → Int} (h : ∀ i : Nat, i < D → F i = G i) : clk D F = clk D G := by
  unfold clk
  exact List.map_congr_left fun i hi => h i (List.mem_range.1 hi)
theorem clk_set {D : Nat} (F : Int → Int) (k : Nat) (v : Int) : (clk D F).set k v = clk D (fun i => if i = k then v else F i) := by
  refine List.ext_getElem? fun j => ?_
  rw [List.getElem?_set]
  simp only [clk, List.getElem?_map]
  by_cases e : k = j
  · subst e
    by_cases hj : k < D <;> simp [hj]
  · by_cases hj : j < D
    · simp [hj, e]; intro h; omega
    · simp [hj, e]
theorem clk_row (D : Nat) (F : Int → Int) : ints (clk D F) = (row D (fun i => F i)).toList := by simp [ints, clk, row]
theorem vec_row {w : World} {g D : Nat} {F : Nat → Int} {G : Int → Int} (h : Blk w g 3 (row D F)) (hM : D ≤ maxLen) (hF : ∀ i : Nat, i < D → F i = G i) : Vec w 3 1 (some ⟨g, 0, none⟩) D D (ints (clk D G)) := by
  refine ⟨by rw [ints_len, clk_len, Nat.mul_one], Nat.le_refl _, ?_, fun a ha => ?_, fun h => (nomatch h)⟩
  · exact hM
  · cases ha
    refine ⟨g, 0, _, rfl, h, by rw [row_size]; omega, fun j hj => ?_⟩
    rw [Nat.zero_add, row_get F (by omega), clk_at G (by omega), hF j (by omega)]

set_option maxHeartbeats 800000 in
theorem max_any (A : Option Addr) (c : Nat) (xs : List Int) (w : World) (h : Rd w A (ints xs)) (h1 : 1 ≤ xs.length) (hn : xs.length ≤ 10000) :
    Calls Try.prog 24 #[.slice A xs.length c] w fun e w' => ∃ v, e = .returned (.int .i64 v) ∧ v ∈ xs ∧ (∀ x ∈ xs, x ≤ v) ∧ w = w' := by
  obtain ⟨b, off, rfl, hb, hc⟩ := h (by rw [ints_len]; omega)
  have HM0 := Lib.hid (fun (v : Int) (h1 : v ∈ xs) (h2 : ∀ j, j < xs.length → xs.getD j 0 ≤ v) => (⟨v, rfl, h1, fun x hx => by obtain ⟨j, hj, rfl⟩ := List.getElem_of_mem hx; have := h2 j hj; simpa [List.getD, hj] using this, rfl⟩ : ∃ u, Ending.returned (.int .i64 v) = .returned (.int .i64 u) ∧ u ∈ xs ∧ (∀ x ∈ xs, x ≤ u) ∧ w = w))
  have HI := Lib.hid (fun j (hj : j < xs.length) => (show xs.getD j 0 ∈ xs by simp [List.getD, hj]))
  have HC := Lib.hid (fun j (hj : j < xs.length) => hc j _ (ints_at hj))
  generalize hR : (fun (e : Ending) (w' : World) => ∃ v, e = .returned (.int .i64 v) ∧ v ∈ xs ∧ (∀ x ∈ xs, x ≤ v) ∧ w = w') = R
  have HM : Hid (∀ (v : Int), v ∈ xs → (∀ j, j < xs.length → xs.getD j 0 ≤ v) → R (.returned (.int .i64 v)) w) := by subst hR; exact HM0.out
  clear h hc hR HM0
  generalize hN : xs.length = n at *
  have HN := Lib.hid hN
  clear hN
  have c0 := HC.out 0 (by omega)
  rw [Nat.add_zero] at c0
  have i0 : (1 : Int) ≤ (n : Int) := by omega
  have i00 : (0 : Int) < (n : Int) := by omega
  have q1 : decide ((n : Int) < 1) = false := by simp; omega
  have HI0 := Lib.hid (HI.out 0 (by omega))
  have HP : Hid (∀ j, j < 1 → xs.getD j 0 ≤ xs.getD 0 0) := fun j hj => by obtain rfl : j = 0 := by omega
                                                                           exact Int.le_refl _
  generalize xs.getD 0 0 = x0 at HI0 HP c0
  go_enter Try.func24, Try.ntmps24
  go_wp2_with fail
  go_loop [3, 4] (fun m i => ∃ (k : Nat) (v : Int), 1 ≤ k ∧ k ≤ n ∧ i = .int .i64 k ∧ m = .int .i64 v ∧ Hid (v ∈ xs) ∧ Hid (∀ j, j < k → xs.getD j 0 ≤ v)) (fun _ i => n - (intOf i).toNat)
  case atStart => exact ⟨1, x0, Nat.le_refl _, h1, rfl, rfl, HI0, HP⟩
  case round =>
    obtain ⟨k, v, hk1, hk, rfl, rfl, hv, hle⟩ := hrel
    by_cases hlt : k < n
    · have d1 := HC.out k hlt
      have hy := HI.out k hlt
      have j1 : (0 : Int) ≤ (k : Int) := by omega
      have j2 : (k : Int) < (n : Int) := by omega
      have HA : Hid (∀ j, j < k + 1 → xs.getD j 0 ≤ max v (xs.getD k 0)) := fun j hj => by
        by_cases e : j = k
        · subst e; omega
        · have := hle.out j (by omega); omega
      have HB : Hid (max v (xs.getD k 0) ∈ xs) := by
        rcases (show max v (xs.getD k 0) = v ∨ max v (xs.getD k 0) = xs.getD k 0 by omega) with e | e
        · show max v (xs.getD k 0) ∈ xs; rw [e]; exact hv.out
        · show max v (xs.getD k 0) ∈ xs; rw [e]; exact hy
      clear hle hv hy c0
      generalize xs.getD k 0 = y at *
      go_wp2_with fail
      go_round
      case rel => exact ⟨k + 1, max v y, by omega, by omega, by go_num, by rw [show (if v < y then y else v) = max v y by split <;> omega], HB, HA⟩
      case measure => simp [intOf]; omega
    · obtain rfl : n = k := by omega
      clear c0
      go_wp2_with fail
      exact HM.out v hv.out hle.out
theorem max_top {xs : List Int} {v : Int} (h1 : v ∈ xs) (h2 : ∀ x ∈ xs, x ≤ v) (h0 : 0 ≤ v) : v = top id xs :=
  Int.le_antisymm (top_ge id h1) (top_le h0 h2)

theorem empty_vec (w : World) (e : TypeId) (size : Nat) : Vec (w.alloc (.cells #[] e)) e size (some ⟨w.heap.size, 0, none⟩) 0 0 [] :=
  ⟨by simp, Nat.le_refl _, Nat.zero_le _, fun a ha => by cases ha; exact ⟨w.heap.size, 0, #[], rfl, Blk.new _ _ _, by simp, fun j hj => by omega⟩, fun h => (nomatch h)⟩
theorem clone_end {w w1 : World} {xs : List Int} {cap' : Nat} {A' : Addr} (hv : Vec w1 3 1 (some A') xs.length cap' (ints xs)) (ho : Only (In (some ⟨w.heap.size, 0, none⟩)) (w.alloc (.cells #[] 3)) w1)
    (hA : A' = ⟨w.heap.size, 0, none⟩ ∨ ∃ g, A' = ⟨g, 0, none⟩ ∧ w.heap.size + 1 ≤ g) : IntsPost w xs (.returned (.slice (some A') xs.length cap')) w1 := by
  refine ⟨_, _, rfl, hv, fun b hb => ?_, ?_⟩
  · rcases hA with rfl | ⟨g, rfl, hg⟩
    · cases hb; exact Nat.le_refl _
    · cases hb; exact Nat.le_of_succ_le hg
  · have h1 : Only (fun b => b = w.heap.size) w w1 := by
      refine ((Only.refl (fun b => b = w.heap.size) w).alloc _).trans ho (fun i _ h => ?_)
      cases h; rfl
    exact h1.below (Nat.le_refl _) (fun i h => by omega)

set_option maxHeartbeats 800000 in
theorem clone_any (w : World) (a : Addr) (c : Nat) (xs : List Int) (hx : Rd w (some a) (ints xs)) (hn : xs.length ≤ 10000) :
    Calls Try.prog 27 #[.slice (some a) xs.length c] w (IntsPost w xs) := by
  have hnil := fun W => Lib.run_eql_slice_nil (P := Try.prog) W 26 3 (some a) xs.length c 0 0 Try.underlying26
  obtain ⟨i0, hi, hz0, hz1, hz2⟩ := info_parts int_info
  have HX := Lib.hid hx
  clear hx
  go_enter Try.func27, Try.ntmps27
  go_wp2_with (at_builtin; refine wpList_append_vec _ rfl _ _ 26 rfl 3 i0 (.int .i64 0) 1 8 Try.underlying26 hi hz0 hz1 hz2 rfl (by decide) _ _ _ _ rfl (empty_vec w 3 1) a xs.length c (ints xs) rfl (by rw [ints_len, Nat.mul_one]) ?c1 (ints_one xs) ?c0 ?c3 ?c4 ?_)
  case c1 =>
    intro j u hu
    have hl : 0 < (ints xs).length := by have := (List.getElem?_eq_some_iff.1 hu).1; omega
    obtain ⟨b, off, e, hb, hc⟩ := HX.out hl
    cases e
    rw [show ((⟨b, off, none⟩ : Addr).add j) = ⟨b, off + j, none⟩ by unfold Addr.add; split <;> simp_all]
    exact (World.cell?_alloc_lt w _ _ hb).trans (hc j u hu)
  case c0 => intro h; cases h
  case c3 => unfold maxLen; omega
  case c4 => omega
  intro A' cap' w1 hv ho hA'
  have HE := Lib.hid (clone_end hv ho hA')
  clear hv ho hA'
  go_wp2
  go_ret
  exact HE.out
end Go.Proofs.Ythaofkhjhmcknaa
