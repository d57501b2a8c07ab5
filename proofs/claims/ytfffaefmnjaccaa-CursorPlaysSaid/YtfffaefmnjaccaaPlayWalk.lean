/- THE WALK of cursor.Play. The run has at most 200 steps, and there are at most 100 moves. -/
import Derived.Test.YtfffaefmnjaccaaWalkH
namespace Go.Proofs.Ytfffaefmnjaccaa
open Go.RowKit
set_option linter.unusedVariables false

def mcells (l : List (Int × Int)) : List Value := l.flatMap fun m => [.int .i64 m.1, .int .i64 m.2]
theorem mcells_len (l : List (Int × Int)) : (mcells l).length = 2 * l.length := by
  induction l with
  | nil => rfl
  | cons m l ih => simp only [mcells, List.flatMap_cons, List.length_append, List.length_cons, List.length_nil] at ih ⊢; omega
theorem mcells_at {l : List (Int × Int)} : ∀ {k : Nat}, k < l.length → (mcells l)[k * 2]? = some (.int .i64 (l.getD k (0, 0)).1) ∧ (mcells l)[k * 2 + 1]? = some (.int .i64 (l.getD k (0, 0)).2) := by
  induction l with
  | nil => intro k h; simp at h
  | cons m l ih =>
    intro k h
    have e : mcells (m :: l) = .int .i64 m.1 :: .int .i64 m.2 :: mcells l := by simp [mcells]
    rw [e]
    match k with
    | 0 => exact ⟨rfl, rfl⟩
    | k + 1 =>
      have := ih (k := k) (by simp at h; omega)
      rw [show (k + 1) * 2 = k * 2 + 1 + 1 by omega]
      exact this

/-- Where one stands behind a move: where one stood, if it had an error. -/
def nx (hits : List Bool) (a : Int) (m : Int × Int) : Int := if (mv hits a m.1 m.2).2.2 = 0 then (mv hits a m.1 m.2).1 else a
def st (hits : List Bool) (a : Int) (l : List (Int × Int)) (k : Nat) : Int := (l.take k).foldl (nx hits) a
theorem st_zero (hits : List Bool) (a : Int) (l : List (Int × Int)) : st hits a l 0 = a := rfl
theorem st_succ (hits : List Bool) (a : Int) (l : List (Int × Int)) (k : Nat) (h : k < l.length) : st hits a l (k + 1) = nx hits (st hits a l k) (l.getD k (0, 0)) := by
  unfold st
  rw [List.take_succ_eq_append_getElem h, List.foldl_append]
  simp [List.getD, h]
def outs (hits : List Bool) (a : Int) (l : List (Int × Int)) (k : Nat) : List Value := (List.range k).map fun i => .int .i64 (st hits a l (i + 1))
theorem outs_succ (hits : List Bool) (a : Int) (l : List (Int × Int)) (k : Nat) : outs hits a l (k + 1) = outs hits a l k ++ [.int .i64 (st hits a l (k + 1))] := by
  unfold outs; rw [List.range_succ, List.map_append]; rfl

theorem own_below {w w' : World} {B : Nat} {e : TypeId} {size n : Nat} {v : Value} {xs : List Value} (h : w.ownsRow B e size v n xs) (hb : Below w.heap.size w w') : w'.ownsRow B e size v n xs :=
  h.kept (row := none) ⟨hb.os, hb.tape, hb.output, hb.size, fun k hk _ => hb.block k hk⟩ (by cases v.ownBlock <;> simp)

def PlayPost (w : World) (n : Nat) (l : List Value) (e : Ending) (w' : World) : Prop :=
  ∃ v, e = .returned v ∧ w'.ownsRow w.heap.size 3 1 v n l ∧ Below w.heap.size w w'

section
variable (A A2 : Option Addr) (c c2 : Nat) (hits : List Bool) (a : Int) (l : List (Int × Int)) (w : World)

set_option maxHeartbeats 800000 in
theorem play_any (hx : Rd w A (bools hits)) (hl : Rd w A2 (mcells l)) (h200 : hits.length ≤ 200) (h100 : l.length ≤ 100) (hc : hits.length ≤ c) (hA : A = none → c = 0) :
    Calls Try.prog 9 #[.slice A hits.length c, .int .i64 a, .slice A2 l.length c2] w (PlayPost w l.length (outs hits a l l.length)) := by
  obtain ⟨i0, hi, hz0, hz1, hz2⟩ := info_parts int_info
  have KM := Lib.hid (fun a k n W hW => move_any A c hits a k n W h200 hW hc hA)
  have HS := Lib.hid (st_succ hits a l)
  have R0 := Lib.hid hx
  have hcell : ∀ k, k < l.length → ∃ b off, A2 = some ⟨b, off, none⟩ ∧ b < w.heap.size ∧ ∀ k, k < l.length → w.cell? ⟨b, off + k * 2, none⟩ = some (.int .i64 (l.getD k (0, 0)).1) ∧ w.cell? ⟨b, off + (k * 2 + 1), none⟩ = some (.int .i64 (l.getD k (0, 0)).2) := fun k hk => by
    obtain ⟨b, off, e, hc⟩ := hl (by rw [mcells_len]; omega)
    have h1 : ∀ k, k < l.length → w.cell? ⟨b, off + k * 2, none⟩ = some (.int .i64 (l.getD k (0, 0)).1) ∧ w.cell? ⟨b, off + (k * 2 + 1), none⟩ = some (.int .i64 (l.getD k (0, 0)).2) :=
      fun k hk => ⟨hc _ _ (mcells_at hk).1, hc _ _ (mcells_at hk).2⟩
    exact ⟨b, off, e, World.block_lt_of_cell? w _ (h1 k hk).1, h1⟩
  have HC := Lib.hid hcell
  clear hcell hl hx hA hc
  generalize hN : hits.length = n at *
  have HN := Lib.hid hN
  clear hN
  generalize hN2 : l.length = m at *
  have HN2 := Lib.hid hN2
  clear hN2
  go_enter Try.func9, Try.ntmps9
  go_wp2_with (at_make; refine wpList_make_own _ rfl _ _ 35 rfl w.heap.size 3 i0 (.int .i64 0) 1 Try.underlying35 hi hz0 hz1 _ _ _ m rfl rfl rfl (by rw [hz2]; omega) (by unfold maxLen; omega) (Nat.le_refl _) ?_)
  intro w1 hown1 hgr1
  have hb1 : Below w.heap.size w w1 := (Below.refl _ _).grown hgr1 (Nat.le_refl _) (by simp)
  clear hgr1
  go_wp2
  go_loopw [1, 7, 18] (fun now v i wr => ∃ k : Nat, k ≤ m ∧ i = .int .i64 k ∧ now = .int .i64 (st hits a l k) ∧ wr.ownsRow w.heap.size 3 1 v k (outs hits a l k) ∧ Below w.heap.size w wr) (fun _ _ i _ => m - (intOf i).toNat)
  case atStart => exact ⟨0, by omega, rfl, rfl, hown1, hb1⟩
  case round =>
    obtain ⟨k, hk, rfl, rfl, hown, hbel⟩ := hrel
    clear hown1 hb1
    by_cases hlt : k < m
    · obtain ⟨b, off, rfl, hb, hcs⟩ := HC.out k hlt
      obtain ⟨hc1, hc2⟩ := hcs k hlt
      clear hcs
      have key : ∃ new, st hits a l (k + 1) = new ∧ outs hits a l (k + 1) = outs hits a l k ++ [.int .i64 new] ∧ new = nx hits (st hits a l k) (l.getD k (0, 0)) := ⟨_, rfl, outs_succ hits a l k, HS.out k hlt⟩
      obtain ⟨new, g1, g2, hs⟩ := key
      have G1 := Lib.hid g1
      have G2 := Lib.hid g2
      clear g1 g2
      generalize outs hits a l k = oold at *
      generalize st hits a l k = now at *
      generalize l.getD k (0, 0) = mm at *
      obtain ⟨mk, mn⟩ := mm
      have hcr1 : wr.cell? ⟨b, off + k * 2, none⟩ = some (.int .i64 mk) := (hbel.cell (p := ⟨b, off + k * 2, none⟩) hb).trans hc1
      have hcr2 : wr.cell? ⟨b, off + k * 2 + 1, none⟩ = some (.int .i64 mn) := (hbel.cell (p := ⟨b, off + k * 2 + 1, none⟩) hb).trans hc2
      clear hc1 hc2
      have hmv := Lib.hid (KM.out now mk mn)
      unfold nx at hs
      simp only at hs
      generalize mv hits now mk mn = r at *
      obtain ⟨x, y, z⟩ := r
      simp only at hs
      have hf := Lib.hid ((R0.out.below hbel).alloc (.cells #[.int .i64 mk, .int .i64 mn] 24))
      by_cases hz : z = 0
      · rw [if_pos hz] at hs
        subst hs hz
        go_wp2_with fail
        with_reducible (refine Calls.mono (hmv.out _ hf.out) ?_)
        rintro e w3 hp
        obtain ⟨rfl, hb3⟩ := hp
        have hbel3 : Below w.heap.size w w3 := (hbel.alloc hbel.size _).trans (hb3.mono (Nat.le_trans hbel.size (by simp)))
        have hown3 := own_below (hown.alloc (.cells #[.int .i64 mk, .int .i64 mn] 24)) hb3
        clear hown hbel hb3
        go_wp2_with (at_builtin; refine wpList_append_own _ rfl _ _ 35 rfl w.heap.size 3 i0 (.int .i64 0) 1 8 Try.underlying35 hi hz0 hz1 hz2 rfl (by decide) _ _ _ rfl (hown3.alloc _) ⟨w3.heap.size, 0, none⟩ 1 1 [.int .i64 new] rfl rfl ?c1 ?c2 ?c3 ?c4 ?c5 ?_)
        case c1 => exact cell_one_new _ _ _
        case c2 => intro u hu; simp at hu; subst hu; rfl
        case c3 => unfold maxLen; omega
        case c4 => omega
        case c5 => exact Nat.le_trans hbel3.size (by simp)
        intro v' w4 hown4 hgr _
        have hb4 : Below w.heap.size w w4 := (hbel3.alloc hbel3.size _).grown hgr (Nat.le_trans hbel3.size (by simp)) (fun g hg => (hown3.lt g hg).1)
        clear hgr hown3
        go_wp2
        go_roundw
        case rel => exact ⟨k + 1, by omega, by go_num, by rw [G1.out], by rw [G2.out]; exact hown4, hb4⟩
        case measure => simp [intOf]; omega
      · rw [if_neg hz] at hs
        subst hs
        have hz' : (z == 0) = false := by simp [hz]
        clear hz
        go_wp2_with fail
        with_reducible (refine Calls.mono (hmv.out _ hf.out) ?_)
        rintro e w3 hp
        obtain ⟨rfl, hb3⟩ := hp
        have hbel3 : Below w.heap.size w w3 := (hbel.alloc hbel.size _).trans (hb3.mono (Nat.le_trans hbel.size (by simp)))
        have hown3 := own_below (hown.alloc (.cells #[.int .i64 mk, .int .i64 mn] 24)) hb3
        clear hown hbel hb3
        go_wp2_with (at_builtin; refine wpList_append_own _ rfl _ _ 35 rfl w.heap.size 3 i0 (.int .i64 0) 1 8 Try.underlying35 hi hz0 hz1 hz2 rfl (by decide) _ _ _ rfl (hown3.alloc _) ⟨w3.heap.size, 0, none⟩ 1 1 [.int .i64 new] rfl rfl ?d1 ?d2 ?d3 ?d4 ?d5 ?_)
        case d1 => exact cell_one_new _ _ _
        case d2 => intro u hu; simp at hu; subst hu; rfl
        case d3 => unfold maxLen; omega
        case d4 => omega
        case d5 => exact Nat.le_trans hbel3.size (by simp)
        intro v' w4 hown4 hgr _
        have hb4 : Below w.heap.size w w4 := (hbel3.alloc hbel3.size _).grown hgr (Nat.le_trans hbel3.size (by simp)) (fun g hg => (hown3.lt g hg).1)
        clear hgr hown3
        go_wp2
        go_roundw
        case rel => exact ⟨k + 1, by omega, by go_num, by rw [G1.out], by rw [G2.out]; exact hown4, hb4⟩
        case measure => simp [intOf]; omega
    · obtain rfl : k = m := by omega
      go_wp2
      go_ret
      exact ⟨_, rfl, hown, hbel⟩
end
end Go.Proofs.Ytfffaefmnjaccaa
