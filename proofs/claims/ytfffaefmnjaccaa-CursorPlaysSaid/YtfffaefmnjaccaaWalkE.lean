/- THE WALK of cursor.Move back to the last hit; and cursor.Move as a whole. The run has at most 200 steps. -/
import Derived.Test.YtfffaefmnjaccaaWalkD
namespace Go.Proofs.Ytfffaefmnjaccaa
open Go.RowKit
set_option linter.unusedVariables false

section
variable (A : Option Addr) (c : Nat) (hits : List Bool) (a k n : Int) (w : World)

theorem re_zero : mv hits 0 4 n = (0, 4, 0) := by
  rw [mv_re (by omega)]
  simp [hl_zero]
theorem re_none {m : Nat} (h0 : 0 < m) (hm : m ≤ hits.length) (h : hl hits (0 + 1) (m - 1 - 0) = []) : mv hits (m : Int) 4 n = (0, 4, 0) := by
  rw [mv_re (by omega), show ((m : Int).toNat - 1) = m - 1 - 0 by omega, h]
  rfl
theorem re_some {m p : Nat} (hm : m ≤ hits.length) (hp : 0 < p) (hpm : p ≤ m - 1) (h : hl hits (p + 1) (m - 1 - p) = []) (h1 : hits.getD (p - 1) false = true) : mv hits (m : Int) 4 n = ((p : Int), 2, 0) := by
  rw [mv_re (by omega), show ((m : Int).toNat - 1) = m - 1 by omega, hl_last hits (m - 1) p hp hpm h h1]

set_option maxHeartbeats 400000 in
theorem move_re (m : Nat) (h1 : m ≤ hits.length) (hn : hits.length ≤ 200) (hx : Rd w A (bools hits)) :
    Calls Try.prog 7 #[.slice A hits.length c, .int .i64 m, .agg #[.int .i64 4, .int .i64 n]] w (MvPost w (mv hits m 4 n)) := by
  by_cases h0 : m = 0
  · subst h0
    have hfin := Lib.hid (re_zero hits n)
    go_enter Try.func7, Try.ntmps7
    go_wp2
    go_loop [12] (fun i => i = .int .i64 (-1)) (fun _ => 0)
    case atStart => rfl
    case round =>
      subst hrel
      go_wp2
      go_ret3
      exact mvPost_of hfin.out (box_below _ _)
  · have hN := Lib.hid (re_none hits n (by omega) h1)
    have hS := Lib.hid (fun p => re_some hits n (m := m) (p := p) h1)
    have hD := Lib.hid (fun p => hl_down hits (m - 1) p)
    obtain ⟨b, off, rfl, hc⟩ := (hx.alloc (.cells #[.int .i64 4, .int .i64 n] 24)) (by rw [bools_len]; omega)
    have hcell := Lib.hid (bools_cell hc)
    clear hc hx
    generalize hL : hits.length = len at *
    have HL := Lib.hid hL
    clear hL
    go_enter Try.func7, Try.ntmps7
    go_wp2
    go_loop [12] (fun i => ∃ p : Nat, p ≤ m - 1 ∧ i = .int .i64 p ∧ Hid (hl hits (p + 1) (m - 1 - p) = [])) (fun i => (intOf i).toNat)
    case atStart => exact ⟨m - 1, by omega, by congr 1; omega, by rw [Nat.sub_self]; rfl⟩
    case round =>
      obtain ⟨p, hp, rfl, hpre⟩ := hrel
      by_cases hlt : 0 < p
      · have hck := hcell.out (p - 1) (by omega)
        cases hb : hits.getD (p - 1) false with
        | true =>
          rw [hb] at hck
          have hfin := Lib.hid (hS.out p hlt hp hpre.out hb)
          clear hb
          go_wp2
          go_ret3
          exact mvPost_of hfin.out (box_below _ _)
        | false =>
          rw [hb] at hck
          have hfin := Lib.hid (hD.out p hlt hp hpre.out hb)
          clear hb
          go_wp2
          go_round
          case rel => exact ⟨p - 1, by omega, by congr 1; omega, hfin⟩
          case measure => simp [intOf]; omega
      · obtain rfl : p = 0 := by omega
        have hfin := Lib.hid (hN.out hpre.out)
        go_wp2
        go_ret3
        exact mvPost_of hfin.out (box_below _ _)

theorem move_any (h200 : hits.length ≤ 200) (hx : Rd w A (bools hits)) (hc : hits.length ≤ c) (hA : A = none → c = 0) :
    Calls Try.prog 7 #[.slice A hits.length c, .int .i64 a, .agg #[.int .i64 k, .int .i64 n]] w (MvPost w (mv hits a k n)) := by
  by_cases ho : a < 0 ∨ (hits.length : Int) < a
  · exact move_out A c hits a k n w ho
  · obtain ⟨m, rfl⟩ := Int.eq_ofNat_of_zero_le (show 0 ≤ a by omega)
    by_cases h1 : k = 1
    · subst h1; exact move_step A c hits _ n w (by omega) (by omega) h200
    by_cases h2 : k = 2
    · subst h2; exact move_back A c hits _ n w (by omega) (by omega) h200
    by_cases h3 : k = 3
    · subst h3; exact move_on A c hits n w m (by omega) h200 hx hc hA
    by_cases h4 : k = 4
    · subst h4; exact move_re A c hits n w m (by omega) h200 hx
    by_cases h5 : k = 5
    · subst h5; exact move_to A c hits _ n w (by omega) (by omega) h200
    exact move_arg A c hits _ k n w (by omega) (by omega) h200 h1 h2 h3 h4 h5
end
end Go.Proofs.Ytfffaefmnjaccaa
