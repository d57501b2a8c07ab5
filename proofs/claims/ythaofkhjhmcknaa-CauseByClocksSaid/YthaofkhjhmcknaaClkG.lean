/- THE WALK of CauseClocks: true, whatever comes in. -/
import Derived.Test.YthaofkhjhmcknaaClkF
namespace Go.Proofs.Ythaofkhjhmcknaa
open Go.RowKit
set_option linter.unusedVariables false

set_option maxHeartbeats 400000 in
theorem clocks_big (A : Option Addr) (n c : Nat) (w : World) (h : 12 < n) : Calls Try.prog 5 #[.slice A n c] w (BoolPost w true) := by
  have KL := Lib.hid live_any
  go_enter Try.func5, Try.ntmps5
  go_wp2_with fail
  with_reducible (refine Calls.mono (KL.out _) ?_)
  rintro e w1 ⟨rfl, hb1⟩
  go_wp2_with fail
  go_ret
  exact ⟨rfl, hb1⟩

theorem same_clk {w : World} {D c1 c2 : Nat} {F : Int → Int} {a1 a2 : Addr} (h1 : Vec w 3 1 (some a1) D c1 (ints (clk D F))) (h2 : Vec w 3 1 (some a2) D c2 (ints (clk D F))) (hD : D ≤ 65) :
    Calls Try.prog 11 #[.slice (some a1) D c1, .slice (some a2) D c2] w (BoolPost w true) := by
  have := same_any (clk D F) (some a1) (some a2) c1 c2 w (Rd.of_vec h1 (by decide)) (Rd.of_vec h2 (by decide)) (by rw [clk_len]; omega)
  rw [clk_len] at this
  exact this

set_option maxRecDepth 100000 in
set_option maxHeartbeats 4000000 in
theorem clocks_core (l : List Hap) (n : Nat) (hl : l.length = n) (hn : n ≤ 12) (A : Option Addr) (c : Nat) (w : World) (h : Hs w A l) :
    Calls Try.prog 5 #[.slice A n c] w (BoolPost w true) := by
  have KL := Lib.hid live_any
  have hv1 := wd_pos (sq l) n
  have hv2 := wd_le (sq l) n
  have KC := Lib.hid (clocks_any l n A c hl (by omega) w h)
  have KR0 := Lib.hid (fun k (hk : k < n) W (hW : Below w.heap.size w W) => refClock_any l n A c (wd (sq l) n).toNat hl (by omega) rfl k hk W (h.below hW))
  have hDr : 1 ≤ (wd (sq l) n).toNat ∧ (wd (sq l) n).toNat ≤ 65 := by omega
  clear h hl hv1 hv2
  generalize (wd (sq l) n).toNat = D at *
  obtain ⟨hD1, hD2⟩ := hDr
  have HDm := Lib.hid (show D ≤ maxLen by unfold maxLen; omega)
  have q1 : decide ((12 : Int) < (n : Int)) = false := by simp; omega
  have i0 : (0 : Int) ≤ (n : Int) := by omega
  go_enter Try.func5, Try.ntmps5
  go_wp2_with fail
  with_reducible (refine Calls.mono KC.out ?_)
  rintro e w1 ⟨A1, c1, U, rfl, hv1, hU, hb1⟩
  have HV := Lib.hid hv1
  have HU := Lib.hid hU
  have HB := Lib.hid hb1
  clear hv1 hU hb1 KC
  go_wp2_with fail
  go_loopw [4] (fun i wr => ∃ k : Nat, k ≤ n ∧ i = .int .i64 ((k : Nat) : Int) ∧ Hid (Below w1.heap.size w1 wr)) (fun i _ => n - (intOf i).toNat)
  case atStart => exact ⟨0, Nat.zero_le _, rfl, Below.refl _ _⟩
  case round =>
    obtain ⟨k, hk, rfl, hb⟩ := hrel
    by_cases hlt : k < n
    · have a1 : (0 : Int) ≤ (k : Int) := by omega
      have a2 : (k : Int) < (n : Int) := by omega
      obtain ⟨g1, o1, rfl, _, _⟩ := HV.out.cell (by omega)
      obtain ⟨ub, uo, uc, hUk, hUv⟩ := HU.out k hlt
      have HUV := Lib.hid hUv
      have HC := Lib.hid (fun W (hW : Below w1.heap.size w1 W) => (by
        have := (HV.out.only (Only.of_below hW (fun _ => False)) (fun _ _ h => h)).cellAt (j := k) (u := U k) (by simp [hlt])
        rw [hUk] at this
        exact this : W.cell? ⟨g1, o1 + k, none⟩ = some (.slice (some ⟨ub, uo, none⟩) D uc)))
      have e1 := HC.out wr hb.out
      have HB1 := Lib.hid (below_drew hb.out 1)
      have KR := Lib.hid (fun W (hW : Below w1.heap.size w1 W) => KR0.out k hlt W (HB.out.trans (hW.mono HB.out.size)))
      have HEnd := Lib.hid (fun W (hW : Below w1.heap.size w1 W) => hW)
      clear hUk hUv hb
      go_wp2_with fail
      go_region_with (first | (go_at_call 15; refine (KR.out _ HB1.out).mono ?_; rintro e w4 ⟨g, rfl, hrw⟩; have HB4 := Lib.hid (HB1.out.trans (hrw.bel.mono HB1.out.size)); have e4 := HC.out w4 HB4.out; have KS := Lib.hid (same_clk (HUV.out.only (Only.of_below HB4.out (fun _ => False)) (fun _ _ h => h)) (row_vec hrw.blk HDm.out) hD2); clear hrw e1) | (go_at_call 11; refine KS.out.mono ?_; rintro e w5 ⟨rfl, hb5⟩; have HB5 := Lib.hid (HB4.out.trans (hb5.mono HB4.out.size)); clear hb5 e4))
      all_goals
        go_wp2_with fail
        go_roundw
        case rel => exact ⟨k + 1, by omega, by go_num, HB5⟩
        case measure => simp [intOf]; omega
    · obtain rfl : n = k := by omega
      have HW := Lib.hid (HB.out.trans (hb.out.mono HB.out.size))
      clear hb
      go_wp2_with fail
      with_reducible (refine Calls.mono (KL.out _) ?_)
      rintro e w5 ⟨rfl, hb5⟩
      have HE := Lib.hid (HW.out.trans (hb5.mono HW.out.size))
      clear hb5
      go_wp2_with fail
      (try go_ret)
      exact ⟨rfl, HE.out⟩
end Go.Proofs.Ythaofkhjhmcknaa
