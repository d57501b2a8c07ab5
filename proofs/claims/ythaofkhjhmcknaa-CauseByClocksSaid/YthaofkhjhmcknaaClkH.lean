/- THE WALK of CauseByClocks: true, whatever comes in. -/
import Derived.Test.YthaofkhjhmcknaaClkG
namespace Go.Proofs.Ythaofkhjhmcknaa
open Go.RowKit
set_option linter.unusedVariables false

set_option maxHeartbeats 1600000 in
theorem byClocks_bad (A : Option Addr) (n c : Nat) (a b : Int) (w : World) (hn : n ≤ maxLen) (h : 40 < n ∨ a < 0 ∨ b < 0 ∨ n ≤ a ∨ n ≤ b) : Calls Try.prog 6 #[.slice A n c, .int .i64 a, .int .i64 b] w (BoolPost w true) := by
  have KL := Lib.hid live_any
  have hud : ∀ b : Bool, ¬ (undef = Value.bool b) := fun b h => by cases h
  by_cases h1 : 40 < n
  · have q1 : decide ((40 : Int) < (n : Int)) = true := by simp; omega
    go_enter Try.func6, Try.ntmps6
    go_wp2_with fail
    with_reducible (refine Calls.mono (KL.out _) ?_)
    rintro e w1 ⟨rfl, hb1⟩
    go_wp2_with fail
    go_ret
    exact ⟨rfl, hb1⟩
  · have q1 : decide ((40 : Int) < (n : Int)) = false := by simp; omega
    by_cases h2 : a < 0
    · have q2 : decide (a < 0) = true := by simp; omega
      go_enter Try.func6, Try.ntmps6
      go_wp2_with fail
      with_reducible (refine Calls.mono (KL.out _) ?_)
      rintro e w1 ⟨rfl, hb1⟩
      go_wp2_with fail
      go_ret
      exact ⟨rfl, hb1⟩
    · have q2 : decide (a < 0) = false := by simp; omega
      by_cases h3 : b < 0
      · have q3 : decide (b < 0) = true := by simp; omega
        go_enter Try.func6, Try.ntmps6
        go_wp2_with fail
        with_reducible (refine Calls.mono (KL.out _) ?_)
        rintro e w1 ⟨rfl, hb1⟩
        go_wp2_with fail
        go_ret
        exact ⟨rfl, hb1⟩
      · have q3 : decide (b < 0) = false := by simp; omega
        by_cases h4 : n ≤ a
        · have q4 : decide ((n : Int) ≤ a) = true := by simp; omega
          go_enter Try.func6, Try.ntmps6
          go_wp2_with fail
          with_reducible (refine Calls.mono (KL.out _) ?_)
          rintro e w1 ⟨rfl, hb1⟩
          go_wp2_with fail
          go_ret
          exact ⟨rfl, hb1⟩
        · have q4 : decide ((n : Int) ≤ a) = false := by simp; omega
          have h5 : n ≤ b := by omega
          have q5 : decide ((n : Int) ≤ b) = true := by simp; omega
          go_enter Try.func6, Try.ntmps6
          go_wp2_with fail
          with_reducible (refine Calls.mono (KL.out _) ?_)
          rintro e w1 ⟨rfl, hb1⟩
          go_wp2_with fail
          go_ret
          exact ⟨rfl, hb1⟩

/-- Is one of the first i numbers less? -/
def lessb (F G : Int → Int) : Nat → Bool
  | 0 => false
  | i + 1 => lessb F G i || decide (G i < F i)
theorem lessb_iff (F G : Int → Int) : ∀ i, lessb F G i = true ↔ ∃ j : Nat, j < i ∧ G j < F j
  | 0 => by simp [lessb]
  | i + 1 => by
    rw [lessb, Bool.or_eq_true, lessb_iff F G i, decide_eq_true_iff]
    constructor
    · rintro (⟨j, h1, h2⟩ | h)
      · exact ⟨j, by omega, h2⟩
      · exact ⟨i, by omega, h⟩
    · rintro ⟨j, h1, h2⟩
      by_cases e : j = i
      · subst e; exact .inr h2
      · exact .inl ⟨j, by omega, h2⟩
theorem good_clocks (l : List Hap) (n a b : Nat) (hl : l.length = n) (ha : a < n) (hb : b < n) :
    good l a b = (decide ((a : Int) < (b : Int)) && !lessb (st (sq l) a) (st (sq l) b) (wd (sq l) n).toNat) := by
  by_cases hab : a < b
  · rw [show decide ((a : Int) < (b : Int)) = true from decide_eq_true (by omega), Bool.true_and, good_yes hab (by omega), Bool.eq_iff_iff, decide_eq_true_iff, far_rch (tl l) a (by omega), sq_ts, rch_clocks (sq l) hab, Bool.not_eq_true', ← Bool.not_eq_true, lessb_iff]
    constructor
    · rintro h ⟨j, h1, h2⟩
      have := st_rch (sq l) ((rch_clocks (sq l) hab).2 h) j
      omega
    · intro h i hi
      have h1 := wd_has (sq l) ha hi
      refine Int.not_lt.1 fun h2 => h ⟨i.toNat, by omega, ?_⟩
      rw [show ((i.toNat : Nat) : Int) = i by omega]
      exact h2
  · rw [show decide ((a : Int) < (b : Int)) = false from decide_eq_false (by omega), Bool.false_and]
    exact good_no (by omega)

set_option maxRecDepth 100000 in
set_option maxHeartbeats 4000000 in
theorem byClocks_core (l : List Hap) (n : Nat) (hl : l.length = n) (hn : n ≤ 40) (A : Option Addr) (c : Nat) (a b : Nat) (ha : a < n) (hb : b < n) (w : World) (h : Hs w A l) :
    Calls Try.prog 6 #[.slice A n c, .int .i64 (a : Int), .int .i64 (b : Int)] w (BoolPost w true) := by
  have KL := Lib.hid live_any
  have hud : ∀ b : Bool, ¬ (undef = Value.bool b) := fun b h => by cases h
  have hv1 := wd_pos (sq l) n
  have hv2 := wd_le (sq l) n
  have KC := Lib.hid (clocks_any l n A c hl (by omega) w h)
  have KB := Lib.hid (fun W (hW : Below w.heap.size w W) => before_at l n hl (by omega) A c a b w h W hW)
  rw [good_clocks l n a b hl ha hb] at KB
  have hDr : 1 ≤ (wd (sq l) n).toNat ∧ (wd (sq l) n).toNat ≤ 65 := by omega
  clear h hl hv1 hv2
  generalize (wd (sq l) n).toNat = D at *
  obtain ⟨hD1, hD2⟩ := hDr
  have HL := Lib.hid (fun i => (show lessb (st (sq l) a) (st (sq l) b) (i + 1) = (lessb (st (sq l) a) (st (sq l) b) i || decide (st (sq l) b i < st (sq l) a i)) from rfl))
  have HL0 := Lib.hid (show lessb (st (sq l) a) (st (sq l) b) 0 = false from rfl)
  generalize lessb (st (sq l) a) (st (sq l) b) = lb at *
  have q1 : decide ((40 : Int) < (n : Int)) = false := by simp; omega
  have q2 : decide ((a : Int) < 0) = false := by simp
  have q3 : decide ((b : Int) < 0) = false := by simp
  have q4 : decide ((n : Int) ≤ (a : Int)) = false := by simp; omega
  have q5 : decide ((n : Int) ≤ (b : Int)) = false := by simp; omega
  have i0 : (0 : Int) ≤ (n : Int) := by omega
  have a1 : (0 : Int) ≤ (a : Int) := by omega
  have a2 : (a : Int) < (n : Int) := by omega
  have b1 : (0 : Int) ≤ (b : Int) := by omega
  have b2 : (b : Int) < (n : Int) := by omega
  have d0 : (0 : Int) ≤ (D : Int) := by omega
  go_enter Try.func6, Try.ntmps6
  go_wp2_with fail
  with_reducible (refine Calls.mono KC.out ?_)
  rintro e w1 ⟨A1, c1, U, rfl, hv1, hU, hb1⟩
  obtain ⟨g1, o1, rfl, _, _⟩ := hv1.cell (by omega)
  obtain ⟨ub, uo, uc, hUa, hUva⟩ := hU a ha
  obtain ⟨tb, to, tc, hUb, hUvb⟩ := hU b hb
  have ea := hv1.cellAt (j := a) (u := U a) (by simp [ha])
  have eb := hv1.cellAt (j := b) (u := U b) (by simp [hb])
  have HC := Lib.hid (fun W (hW : Below w1.heap.size w1 W) (i : Nat) (hi : i < D) => (⟨(hUva.only (Only.of_below hW (fun _ => False)) (fun _ _ h => h)).cellAt (clk_at (st (sq l) a) hi), (hUvb.only (Only.of_below hW (fun _ => False)) (fun _ _ h => h)).cellAt (clk_at (st (sq l) b) hi)⟩ :
    W.cell? ⟨ub, uo + i, none⟩ = some (.int .i64 (st (sq l) a i)) ∧ W.cell? ⟨tb, to + i, none⟩ = some (.int .i64 (st (sq l) b i))))
  have HV := Lib.hid (fun W (hW : Below w1.heap.size w1 W) => (by
    have h1 := (hv1.only (Only.of_below hW (fun _ => False)) (fun _ _ h => h)).cellAt (j := a) (u := U a) (by simp [ha])
    have h2 := (hv1.only (Only.of_below hW (fun _ => False)) (fun _ _ h => h)).cellAt (j := b) (u := U b) (by simp [hb])
    rw [hUa] at h1
    rw [hUb] at h2
    exact ⟨h1, h2⟩ : W.cell? ⟨g1, o1 + a, none⟩ = some (.slice (some ⟨ub, uo, none⟩) D uc) ∧ W.cell? ⟨g1, o1 + b, none⟩ = some (.slice (some ⟨tb, to, none⟩) D tc)))
  have HB := Lib.hid hb1
  clear hv1 hU hb1 KC hUva hUvb
  rw [hUa] at ea
  rw [hUb] at eb
  go_wp2_with fail
  have ea2 : (w1.drewN 1).cell? ⟨g1, o1 + a, none⟩ = some (.slice (some ⟨ub, uo, none⟩) D uc) := ea
  have eb2 : (w1.drewN 1).cell? ⟨g1, o1 + b, none⟩ = some (.slice (some ⟨tb, to, none⟩) D tc) := eb
  go_quiet (fail)
  have HW := Lib.hid (below_drew (Below.refl w1.heap.size w1) nq)
  generalize w1.drewN nq = W2 at *
  clear ea eb ea2 eb2
  obtain ⟨ea, eb⟩ := HV.out W2 HW.out
  go_wp2_with fail
  go_loopw [8, 9] (fun lo i wr => ∃ j : Nat, j ≤ D ∧ i = .int .i64 ((j : Nat) : Int) ∧ lo = .bool (lb j) ∧ Hid (Below w1.heap.size w1 wr)) (fun _ i _ => D - (intOf i).toNat)
  case atStart => exact ⟨0, Nat.zero_le _, rfl, by rw [HL0.out], HW.out⟩
  case round =>
    obtain ⟨j, hj, rfl, rfl, hbw⟩ := hrel
    clear HW ea eb
    obtain ⟨ea, eb⟩ := HV.out wr hbw.out
    by_cases hlt : j < D
    · have j1 : (0 : Int) ≤ (j : Int) := by omega
      have j2 : (j : Int) < (D : Int) := by omega
      obtain ⟨va, vb⟩ := HC.out wr hbw.out j hlt
      have HLj := Lib.hid (HL.out j)
      generalize st (sq l) a j = x at *
      generalize st (sq l) b j = y at *
      generalize hlj : lb (j + 1) = lj at *
      have HJ := Lib.hid hlj
      clear hlj
      generalize lb j = r at *
      cases r with
      | true =>
        go_wp2_with fail
        go_quiet (fail)
        have HW := Lib.hid (below_drew hbw.out nq)
        go_wp2_with fail
        go_roundw
        case rel => exact ⟨j + 1, by omega, by go_num, by rw [HJ.out, HLj.out]; rfl, HW⟩
        case measure => simp [intOf]; omega
      | false =>
        go_wp2_with fail
        go_quiet (fail)
        have HW := Lib.hid (below_drew hbw.out nq)
        go_wp2_with fail
        go_roundw
        case rel => exact ⟨j + 1, by omega, by go_num, by rw [HJ.out, HLj.out, Bool.false_or], HW⟩
        case measure => simp [intOf]; omega
    · obtain rfl : D = j := by omega
      have HW := Lib.hid (HB.out.trans (hbw.out.mono HB.out.size))
      have KB2 := Lib.hid (KB.out wr HW.out)
      clear HC HV HL HL0 hbw KB
      generalize lb D = r at *
      generalize hp : (decide ((a : Int) < (b : Int)) && !r) = p at *
      by_cases hab : (a : Int) < (b : Int)
      · have hq : decide ((a : Int) < (b : Int)) = true := decide_eq_true hab
        rw [hq, Bool.true_and] at hp
        cases r
        all_goals
          subst hp
          go_wp2_with fail
          with_reducible (refine Calls.mono KB2.out ?_)
          rintro e w5 ⟨rfl, hb5⟩
          have HB5 := Lib.hid hb5
          clear hb5
          go_wp2_with fail
          with_reducible (refine Calls.mono (KL.out _) ?_)
          rintro e w6 ⟨rfl, hb6⟩
          have HE := Lib.hid (HB5.out.trans (hb6.mono HB5.out.size))
          clear hb6
          go_wp2_with fail
          (try go_ret)
          exact ⟨rfl, HE.out⟩
      · have hq : decide ((a : Int) < (b : Int)) = false := decide_eq_false hab
        rw [hq, Bool.false_and] at hp
        cases r
        all_goals
          subst hp
          go_wp2_with fail
          with_reducible (refine Calls.mono KB2.out ?_)
          rintro e w5 ⟨rfl, hb5⟩
          have HB5 := Lib.hid hb5
          clear hb5
          go_wp2_with fail
          with_reducible (refine Calls.mono (KL.out _) ?_)
          rintro e w6 ⟨rfl, hb6⟩
          have HE := Lib.hid (HB5.out.trans (hb6.mono HB5.out.size))
          clear hb6
          go_wp2_with fail
          (try go_ret)
          exact ⟨rfl, HE.out⟩
end Go.Proofs.Ythaofkhjhmcknaa
