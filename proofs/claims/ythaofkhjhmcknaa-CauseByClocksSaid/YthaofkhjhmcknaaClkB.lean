/- THE WALK of the reference's Wide. At most 100 steps. -/
import Derived.Test.YthaofkhjhmcknaaClkA
namespace Go.Proofs.Ythaofkhjhmcknaa
open Go.RowKit
set_option linter.unusedVariables false

/-- The steps, as the law has them. -/
def sq (l : List Hap) (k : Nat) : Int × Int := (l.getD k hap0).pr
theorem sq_ts (l : List Hap) : tl l = ts (sq l) := rfl
theorem top_parts (h : Int × Int) : top id (parts h) = if 0 ≤ h.2 then max (nm h.1) (nm h.2) else nm h.1 := by
  have h1 := nm_range h.1
  have h2 := nm_range h.2
  unfold parts top
  by_cases c1 : 0 ≤ h.2
  · by_cases c2 : nm h.2 = nm h.1
    · rw [if_neg (fun h => h.2 c2), if_pos c1]
      simp only [List.foldl_cons, List.foldl_nil, id]
      omega
    · rw [if_pos ⟨c1, c2⟩, if_pos c1]
      simp only [List.foldl_cons, List.foldl_nil, id]
      omega
  · rw [if_neg (fun h => c1 h.1), if_neg c1]
    simp only [List.foldl_cons, List.foldl_nil, id]
    omega
theorem wd_next (s : Nat → Int × Int) (k : Nat) : wd s (k + 1) = if 0 ≤ (s k).2 then max (max (wd s k) (nm (s k).1 + 1)) (nm (s k).2 + 1) else max (wd s k) (nm (s k).1 + 1) := by
  rw [wd, top_parts]
  split <;> omega
theorem max_if (a b : Int) : (if a < b then b else a) = max a b := by split <;> omega

set_option maxRecDepth 100000 in
set_option maxHeartbeats 1600000 in
theorem wide_any (l : List Hap) (n : Nat) (hl : l.length = n) (hn : n ≤ 100) (A : Option Addr) (c : Nat) (w : World) (h : Hs w A l) :
    Calls Try.prog 29 #[.slice A n c] w fun e w' => e = .returned (.int .i64 (wd (sq l) n)) ∧ w = w' := by
  have HH := Lib.hid h
  have HL := Lib.hid hl
  have KN := Lib.hid name_any
  have i0 : (0 : Int) ≤ (n : Int) := by omega
  have HE0 := Lib.hid (fun v (hv : v = wd (sq l) n) => (⟨ret_int hv, rfl⟩ : Ending.returned (.int .i64 v) = .returned (.int .i64 (wd (sq l) n)) ∧ w = w))
  generalize hR : (fun (e : Ending) (w' : World) => e = .returned (.int .i64 (wd (sq l) n)) ∧ w = w') = R
  have HE : Hid (∀ v, v = wd (sq l) n → R (.returned (.int .i64 v)) w) := by subst hR; exact HE0.out
  clear h hl hR HE0
  go_enter Try.func29, Try.ntmps29
  go_wp2_with fail
  go_loop [3, 4] (fun m i => ∃ (k : Nat) (v : Int), k ≤ n ∧ i = .int .i64 ((k : Nat) : Int) ∧ m = .int .i64 v ∧ Hid (v = wd (sq l) k)) (fun _ i => n - (intOf i).toNat)
  case atStart => exact ⟨0, 1, Nat.zero_le _, rfl, rfl, rfl⟩
  case round =>
    obtain ⟨k, v, hk, rfl, rfl, hv⟩ := hrel
    by_cases hlt : k < n
    · obtain ⟨hb0, off, rfl, h5⟩ := HH.out (by rw [HL.out]; omega)
      obtain ⟨x0, x1, x2, x3, x4⟩ := h5.five (k := k) (by rw [HL.out]; omega)
      have hw := wd_next (sq l) k
      rw [← hv.out, show sq l k = (l.getD k hap0).pr from rfl] at hw
      have HW := Lib.hid hw
      have hv1 := wd_pos (sq l) k
      have hv2 := wd_le (sq l) k
      rw [← hv.out] at hv1 hv2
      clear h5 hw hv
      generalize l.getD k hap0 = x at *
      obtain ⟨kd, who, st, ch, peer⟩ := x
      dsimp only [Hap.pr] at *
      have n1 := nm_range who
      have n2 := nm_range peer
      have j1 : (0 : Int) ≤ (k : Int) := by omega
      have j2 : (k : Int) < (n : Int) := by omega
      by_cases hp : 0 ≤ peer
      · have hq : decide ((0 : Int) ≤ peer) = true := by simp; omega
        have HV := Lib.hid (HW.out.trans (if_pos hp))
        clear HW
        have KA := Lib.hid (KN.out who)
        have KB := Lib.hid (KN.out peer)
        generalize nm who = a at *
        generalize nm peer = b at *
        go_wp2_with (go_at_call 37; first | ((with_reducible refine (KA.out _).mono ?_); rintro e w' ⟨rfl, rfl⟩) | ((with_reducible refine (KB.out _).mono ?_); rintro e w' ⟨rfl, rfl⟩))
        go_round
        case rel => exact ⟨k + 1, _, by omega, by go_num, rfl, Lib.hid (by rw [HV.out, ← max_if v, ← max_if])⟩
        case measure => simp [intOf]; omega
      · have hq : decide ((0 : Int) ≤ peer) = false := by simp; omega
        have HV := Lib.hid (HW.out.trans (if_neg hp))
        clear HW
        have KA := Lib.hid (KN.out who)
        generalize nm who = a at *
        go_wp2_with (go_at_call 37; ((with_reducible refine (KA.out _).mono ?_); rintro e w' ⟨rfl, rfl⟩))
        go_round
        case rel => exact ⟨k + 1, _, by omega, by go_num, rfl, Lib.hid (by rw [HV.out, ← max_if v])⟩
        case measure => simp [intOf]; omega
    · obtain rfl : n = k := by omega
      have HE2 := Lib.hid (HE.out v hv.out)
      go_wp2_with fail
      (try go_ret)
      exact HE2.out
end Go.Proofs.Ythaofkhjhmcknaa
