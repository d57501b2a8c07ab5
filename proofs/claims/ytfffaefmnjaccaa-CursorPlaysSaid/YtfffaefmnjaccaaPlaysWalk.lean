/- THE WALK of CursorPlays: true, whatever comes in. The slices are nil or hold their elements. -/
import Derived.Test.YtfffaefmnjaccaaPlayWalk
namespace Go.Proofs.Ytfffaefmnjaccaa
open Go.RowKit
set_option linter.unusedVariables false

theorem nx_range {hits : List Bool} {a : Int} (m : Int × Int) (h0 : 0 ≤ a) (h1 : a ≤ hits.length) : 0 ≤ nx hits a m ∧ nx hits a m ≤ hits.length := by
  unfold nx
  split
  · exact mv_place _ _ h0 h1
  · exact ⟨h0, h1⟩
theorem st_range {hits : List Bool} {a : Int} (l : List (Int × Int)) (k : Nat) (h0 : 0 ≤ a) (h1 : a ≤ hits.length) : 0 ≤ st hits a l k ∧ st hits a l k ≤ hits.length := by
  unfold st
  generalize l.take k = m
  induction m generalizing a with
  | nil => exact ⟨h0, h1⟩
  | cons x m ih =>
    obtain ⟨g0, g1⟩ := nx_range x h0 h1
    exact ih g0 g1

theorem outs_len (hits : List Bool) (a : Int) (l : List (Int × Int)) (k : Nat) : (outs hits a l k).length = k := by simp [outs]
theorem outs_at {hits : List Bool} {a : Int} {l : List (Int × Int)} {k i : Nat} (h : i < k) : (outs hits a l k)[i]? = some (.int .i64 (st hits a l (i + 1))) := by simp [outs, h]

/-- What is told of the list that came back: its length; each place. -/
theorem out_form {w : World} {B : Nat} {v : Value} {hits : List Bool} {a : Int} {l : List (Int × Int)} {m : Nat} (h : w.ownsRow B 3 1 v m (outs hits a l m)) :
    ∃ A cap, v = .slice A m cap ∧ ∀ k, k < m → ∃ g, A = some ⟨g, 0, none⟩ ∧ g < w.heap.size ∧ w.cell? ⟨g, k, none⟩ = some (.int .i64 (st hits a l (k + 1))) := by
  obtain ⟨_, h2⟩ := id h
  rcases h2 with ⟨rfl, h0⟩ | ⟨g, cap, cur, rfl, hg, hh, _⟩
  · exact ⟨none, 0, by rw [h0], fun k hk => by omega⟩
  · refine ⟨_, cap, rfl, fun k hk => ⟨g, rfl, (Array.getElem?_eq_some_iff.1 hh).1, ?_⟩⟩
    have := h.cells (g := g) rfl k _ (outs_at hk)
    rwa [show ((⟨g, 0, none⟩ : Addr).add k) = ⟨g, k, none⟩ by unfold Addr.add; split <;> simp_all] at this

section
variable (A A2 : Option Addr) (c c2 : Nat) (hits : List Bool) (a : Int) (l : List (Int × Int)) (w : World)

set_option maxHeartbeats 800000 in
theorem plays_big (n m : Nat) (h : 200 < n ∨ 100 < m) (hn : n ≤ maxLen) (hm : m ≤ maxLen) :
    Calls Try.prog 5 #[.slice A n c, .int .i64 a, .slice A2 m c2] w fun e w' => LivePost w e w' := by
  unfold maxLen at hn hm
  have KL := Lib.hid live_any
  by_cases h1 : 200 < n
  · clear h
    go_enter Try.func5, Try.ntmps5
    go_wp2_with fail
    with_reducible (refine Calls.mono (KL.out _) ?_)
    rintro e w5 hp
    obtain ⟨rfl, hb5⟩ := hp
    go_wp2_with fail
    go_ret
    exact ⟨rfl, hb5⟩
  · have h2 : 100 < m := by omega
    clear h
    go_enter Try.func5, Try.ntmps5
    go_wp2_with fail
    with_reducible (refine Calls.mono (KL.out _) ?_)
    rintro e w5 hp
    obtain ⟨rfl, hb5⟩ := hp
    go_wp2_with fail
    go_ret
    exact ⟨rfl, hb5⟩

set_option maxHeartbeats 800000 in
theorem plays_core (hx : Rd w A (bools hits)) (hl : Rd w A2 (mcells l)) (h200 : hits.length ≤ 200) (h100 : l.length ≤ 100) (hc : hits.length ≤ c) (hA : A = none → c = 0) :
    Calls Try.prog 5 #[.slice A hits.length c, .int .i64 a, .slice A2 l.length c2] w fun e w' => LivePost w e w' := by
  have KP := Lib.hid (play_any A A2 c c2 hits a l w hx hl h200 h100 hc hA)
  have KM := Lib.hid (fun a k n W hW => ref_any A c hits a k n W h200 hW)
  have KL := Lib.hid live_any
  have HS := Lib.hid (st_succ hits a l)
  have HR := Lib.hid (fun k => st_range (hits := hits) (a := a) l k)
  have R0 := Lib.hid hx
  have hcell : ∀ k, k < l.length → ∃ b off, A2 = some ⟨b, off, none⟩ ∧ b < w.heap.size ∧ ∀ k, k < l.length → w.cell? ⟨b, off + k * 2, none⟩ = some (.int .i64 (l.getD k (0, 0)).1) ∧ w.cell? ⟨b, off + (k * 2 + 1), none⟩ = some (.int .i64 (l.getD k (0, 0)).2) := fun k hk => by
    obtain ⟨b, off, e, hc⟩ := hl (by rw [mcells_len]; omega)
    have h1 : ∀ k, k < l.length → w.cell? ⟨b, off + k * 2, none⟩ = some (.int .i64 (l.getD k (0, 0)).1) ∧ w.cell? ⟨b, off + (k * 2 + 1), none⟩ = some (.int .i64 (l.getD k (0, 0)).2) :=
      fun k hk => ⟨hc _ _ (mcells_at hk).1, hc _ _ (mcells_at hk).2⟩
    exact ⟨b, off, e, World.block_lt_of_cell? w _ (h1 k hk).1, h1⟩
  have HC := Lib.hid hcell
  clear hcell hl hx hA hc
  generalize hN : hits.length = n at *
  have HN := Lib.hid hN
  clear hN
  generalize hN2 : l.length = m at *
  have HN2 := Lib.hid hN2
  clear hN2
  go_enter Try.func5, Try.ntmps5
  go_wp2_with fail
  with_reducible (refine Calls.mono KP.out ?_)
  rintro e w1 hp
  obtain ⟨v, rfl, hown, hb1⟩ := hp
  obtain ⟨Ag, cg, rfl, hg⟩ := out_form hown
  have HG := Lib.hid hg
  clear hg hown
  go_wp2
  go_loopw [8, 9] (fun now i wr => ∃ k : Nat, k ≤ m ∧ i = .int .i64 k ∧ now = .int .i64 (st hits a l k) ∧ Below w.heap.size w wr ∧ Below w1.heap.size w1 wr) (fun _ i _ => m - (intOf i).toNat)
  case atStart => exact ⟨0, by omega, rfl, rfl, hb1, Below.refl _ _⟩
  case round =>
    obtain ⟨k, hk, rfl, rfl, hbel, hbel1⟩ := hrel
    by_cases hlt : k < m
    · obtain ⟨b, off, rfl, hb, hcs⟩ := HC.out k hlt
      obtain ⟨hc1, hc2⟩ := hcs k hlt
      obtain ⟨g, rfl, hg1, hg2⟩ := HG.out k hlt
      clear hcs
      have hrange := HR.out (k + 1)
      have key : ∃ new, st hits a l (k + 1) = new ∧ new = nx hits (st hits a l k) (l.getD k (0, 0)) := ⟨_, rfl, HS.out k hlt⟩
      obtain ⟨new, g1, hs⟩ := key
      rw [g1] at hg2 hrange
      have G1 := Lib.hid g1
      clear g1
      generalize st hits a l k = now at *
      generalize l.getD k (0, 0) = mm at *
      obtain ⟨mk, mn⟩ := mm
      have hcr1 : wr.cell? ⟨b, off + k * 2, none⟩ = some (.int .i64 mk) := (hbel.cell (p := ⟨b, off + k * 2, none⟩) hb).trans hc1
      have hcr2 : wr.cell? ⟨b, off + k * 2 + 1, none⟩ = some (.int .i64 mn) := (hbel.cell (p := ⟨b, off + k * 2 + 1, none⟩) hb).trans hc2
      have hcg : wr.cell? ⟨g, k, none⟩ = some (.int .i64 new) := (hbel1.cell (p := ⟨g, k, none⟩) hg1).trans hg2
      have hglt : g < wr.heap.size := Nat.lt_of_lt_of_le hg1 hbel1.size
      clear hc1 hc2 hg2
      have hmv := Lib.hid (KM.out now mk mn)
      unfold nx at hs
      simp only at hs
      generalize mv hits now mk mn = r at *
      obtain ⟨x, y, z⟩ := r
      simp only at hs
      have hf := Lib.hid (R0.out.below hbel)
      have HRG := Lib.hid hrange
      clear hrange
      by_cases hz : z = 0
      · rw [if_pos hz] at hs
        subst hs hz
        go_wp2_with fail
        with_reducible (refine Calls.mono (hmv.out _ hf.out) ?_)
        rintro e w3 hp
        obtain ⟨rfl, hb3⟩ := hp
        have hbel3 : Below w.heap.size w w3 := hbel.trans (hb3.mono hbel.size)
        have hbel4 : Below w1.heap.size w1 w3 := hbel1.trans (hb3.mono hbel1.size)
        have hcg3 : w3.cell? ⟨g, k, none⟩ = some (.int .i64 new) := (hb3.cell (p := ⟨g, k, none⟩) hglt).trans hcg
        have hglt3 : g < w3.heap.size := Nat.lt_of_lt_of_le hglt hb3.size
        clear hbel hbel1 hb3
        by_cases ha0 : a < 0
        · go_wp2
          go_roundw
          case rel => exact ⟨k + 1, by omega, by go_num, by rw [G1.out], hbel3.alloc hbel3.size _, hbel4.alloc hbel4.size _⟩
          case measure => simp [intOf]; omega
        by_cases ha1 : (n : Int) < a
        · go_wp2
          go_roundw
          case rel => exact ⟨k + 1, by omega, by go_num, by rw [G1.out], hbel3.alloc hbel3.size _, hbel4.alloc hbel4.size _⟩
          case measure => simp [intOf]; omega
        · obtain ⟨q0, q1⟩ := HRG.out (by omega) (by omega)
          go_wp2
          go_roundw
          case rel => exact ⟨k + 1, by omega, by go_num, by rw [G1.out], hbel3.alloc hbel3.size _, hbel4.alloc hbel4.size _⟩
          case measure => simp [intOf]; omega
      · rw [if_neg hz] at hs
        subst hs
        have hz' : (z == 0) = false := by simp [hz]
        clear hz
        go_wp2_with fail
        with_reducible (refine Calls.mono (hmv.out _ hf.out) ?_)
        rintro e w3 hp
        obtain ⟨rfl, hb3⟩ := hp
        have hbel3 : Below w.heap.size w w3 := hbel.trans (hb3.mono hbel.size)
        have hbel4 : Below w1.heap.size w1 w3 := hbel1.trans (hb3.mono hbel1.size)
        have hcg3 : w3.cell? ⟨g, k, none⟩ = some (.int .i64 new) := (hb3.cell (p := ⟨g, k, none⟩) hglt).trans hcg
        have hglt3 : g < w3.heap.size := Nat.lt_of_lt_of_le hglt hb3.size
        clear hbel hbel1 hb3
        by_cases ha0 : a < 0
        · go_wp2
          go_roundw
          case rel => exact ⟨k + 1, by omega, by go_num, by rw [G1.out], hbel3.alloc hbel3.size _, hbel4.alloc hbel4.size _⟩
          case measure => simp [intOf]; omega
        by_cases ha1 : (n : Int) < a
        · go_wp2
          go_roundw
          case rel => exact ⟨k + 1, by omega, by go_num, by rw [G1.out], hbel3.alloc hbel3.size _, hbel4.alloc hbel4.size _⟩
          case measure => simp [intOf]; omega
        · obtain ⟨q0, q1⟩ := HRG.out (by omega) (by omega)
          go_wp2
          go_roundw
          case rel => exact ⟨k + 1, by omega, by go_num, by rw [G1.out], hbel3.alloc hbel3.size _, hbel4.alloc hbel4.size _⟩
          case measure => simp [intOf]; omega
    · obtain rfl : k = m := by omega
      go_wp2_with fail
      with_reducible (refine Calls.mono (KL.out _) ?_)
      rintro e w5 hp
      obtain ⟨rfl, hb5⟩ := hp
      go_wp2_with fail
      go_ret
      exact ⟨rfl, hbel.trans (hb5.mono hbel.size)⟩

theorem plays_walk (hx : Rd w A (bools hits)) (hl : Rd w A2 (mcells l)) (hc : hits.length ≤ c) (hm : c ≤ maxLen) (hA : A = none → c = 0) (hm2 : l.length ≤ maxLen) :
    Calls Try.prog 5 #[.slice A hits.length c, .int .i64 a, .slice A2 l.length c2] w fun e w' => LivePost w e w' := by
  by_cases h : 200 < hits.length ∨ 100 < l.length
  · exact plays_big A A2 c c2 a w _ _ h (Nat.le_trans hc hm) hm2
  · exact plays_core A A2 c c2 hits a l w hx hl (by omega) (by omega) hc hA
end
end Go.Proofs.Ytfffaefmnjaccaa
