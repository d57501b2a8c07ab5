/- THE WALK of the reference's Touch. No condition. -/
import Derived.Test.YthaofkhjhmcknaaWalkC
namespace Go.Proofs.Ythaofkhjhmcknaa
open Go.RowKit
set_option linter.unusedVariables false

theorem touch_yes {x y : Hap} {k : Nat} (h1 : decide (has x.pr k) = true) (h2 : decide (has y.pr k) = true) : tchb x.pr y.pr = true :=
  (tchb_iff _ _).2 ⟨k, of_decide_eq_true h1, of_decide_eq_true h2⟩
theorem touch_no {x y : Hap} (h : ∀ j : Nat, j < 65 → (decide (has x.pr j) && decide (has y.pr j)) = false) : tchb x.pr y.pr = false := by
  rw [← Bool.not_eq_true, tchb_iff]
  rintro ⟨who, h1, h2⟩
  have hr := has_range h1
  have e : ((who.toNat : Nat) : Int) = who := by omega
  have := h who.toNat (by omega)
  rw [e] at this
  simp [h1, h2] at this

set_option maxHeartbeats 1600000 in
theorem refTouch_any (x y : Hap) (w : World) : Calls Try.prog 22 #[.agg x.cs.toArray, .agg y.cs.toArray] w (BoolPost w (tchb x.pr y.pr)) := by
  have KX := Lib.hid (fun k W => has_any x k W)
  have KY := Lib.hid (fun k W => has_any y k W)
  have T1 := Lib.hid (fun k => touch_yes (x := x) (y := y) (k := k))
  have T0 := Lib.hid (touch_no (x := x) (y := y))
  have B0 := Blk.new w 34 x.cs.toArray
  have B1 := Blk.new (w.alloc (.cells x.cs.toArray 34)) 34 y.cs.toArray
  rw [World.size_alloc] at B1
  have B0 := B0.alloc (.cells y.cs.toArray 34)
  have BB := Lib.hid (show Below w.heap.size w ((w.alloc (.cells x.cs.toArray 34)).alloc (.cells y.cs.toArray 34)) from ((Below.refl _ _).alloc (Nat.le_refl _) _).alloc (by simp) _)
  have BS := Lib.hid (show ((w.alloc (.cells x.cs.toArray 34)).alloc (.cells y.cs.toArray 34)).heap.size = w.heap.size + 2 from by simp)
  have HB0 := Lib.hid B0
  have HB1 := Lib.hid B1
  clear B0 B1
  have KXa : Hid (x.cs = x.cs) := Lib.hid rfl
  clear KXa
  generalize tchb x.pr y.pr = r at *
  have HPX : ∃ p : Nat → Bool, ∀ k : Nat, decide (has x.pr k) = p k := ⟨_, fun _ => rfl⟩
  have HPY : ∃ p : Nat → Bool, ∀ k : Nat, decide (has y.pr k) = p k := ⟨_, fun _ => rfl⟩
  obtain ⟨p, hp⟩ := HPX
  obtain ⟨q, hq⟩ := HPY
  have KXb : Hid (∀ (k : Nat) W, Calls Try.prog 34 #[.agg x.cs.toArray, .int .i64 k] W (BoolPost W (p k))) := Lib.hid (fun k W => by rw [← hp]; exact KX.out k W)
  have KYb : Hid (∀ (k : Nat) W, Calls Try.prog 34 #[.agg y.cs.toArray, .int .i64 k] W (BoolPost W (q k))) := Lib.hid (fun k W => by rw [← hq]; exact KY.out k W)
  have T1b : Hid (∀ k, p k = true → q k = true → r = true) := Lib.hid (fun k h1 h2 => T1.out k (by rw [hp]; exact h1) (by rw [hq]; exact h2))
  have T0b : Hid ((∀ j : Nat, j < 65 → (p j && q j) = false) → r = false) := Lib.hid (fun h => T0.out (fun j hj => by rw [hp, hq]; exact h j hj))
  clear hp hq KX KY T1 T0
  obtain ⟨kd, who, st, ch, peer⟩ := x
  obtain ⟨kd2, who2, st2, ch2, peer2⟩ := y
  dsimp only [Hap.cs] at *
  go_enter Try.func22, Try.ntmps22
  go_wp2_with fail
  generalize hW : ((w.alloc (.cells #[.int .i64 kd, .int .i64 who, .int .i64 st, .int .i64 ch, .int .i64 peer] 34)).alloc (.cells #[.int .i64 kd2, .int .i64 who2, .int .i64 st2, .int .i64 ch2, .int .i64 peer2] 34)) = W0 at *
  clear hW
  go_loopw [5] (fun i wr => ∃ k : Nat, k ≤ 65 ∧ i = .int .i64 k ∧ Hid (∀ j, j < k → (p j && q j) = false) ∧ Hid (Below (w.heap.size + 2) W0 wr)) (fun i _ => 65 - (intOf i).toNat)
  case atStart => exact ⟨0, Nat.zero_le _, rfl, fun j hj => by omega, Below.refl _ _⟩
  case round =>
    obtain ⟨k, hk, rfl, hno, hbl⟩ := hrel
    by_cases hlt : k < 65
    · have cx := agg_cells (h := ⟨kd, who, st, ch, peer⟩) (HB0.out.below hbl.out (by omega))
      have cy := agg_cells (h := ⟨kd2, who2, st2, ch2, peer2⟩) (HB1.out.below hbl.out (by omega))
      dsimp only at cx cy
      obtain ⟨x0, x1, x2, x3, x4⟩ := cx
      obtain ⟨y0, y1, y2, y3, y4⟩ := cy
      have K1 := Lib.hid (KXb.out k wr)
      have hs := hbl.out.size
      rw [BS.out] at hs
      by_cases hx : p k = true
      · rw [hx] at K1
        go_wp2_with fail
        with_reducible (refine Calls.mono K1.out ?_)
        rintro e w1 ⟨rfl, hb1⟩
        have cy := agg_cells (h := ⟨kd2, who2, st2, ch2, peer2⟩) ((HB1.out.below hbl.out (by omega)).below hb1 (by omega))
        dsimp only at cy
        clear y0 y1 y2 y3 y4 x0 x1 x2 x3 x4
        obtain ⟨y0, y1, y2, y3, y4⟩ := cy
        have K2 := Lib.hid (KYb.out k w1)
        have hb1' := Lib.hid (hbl.out.trans (hb1.mono (by omega)))
        clear hb1
        by_cases hy : q k = true
        · rw [hy] at K2
          have HT := Lib.hid (T1b.out k hx hy)
          clear hx hy
          go_wp2_with fail
          with_reducible (refine Calls.mono K2.out ?_)
          rintro e w2 ⟨rfl, hb2⟩
          have HF := Lib.hid (BB.out.trans ((hb1'.out.trans (hb2.mono (by have := hb1'.out.size; rw [BS.out] at this; omega))).mono (by omega)))
          clear hb2
          go_wp2_with fail
          go_ret
          exact ⟨ret_bool HT.out.symm, HF.out⟩
        · have hy2 : q k = false := by simpa using hy
          rw [hy2] at K2
          have HA : Hid (∀ j, j < k + 1 → (p j && q j) = false) := fun j hj => by
            by_cases e : j = k
            · subst e; simp [hy2]
            · exact hno.out j (by omega)
          clear hx hy hy2 hno
          go_wp2_with fail
          with_reducible (refine Calls.mono K2.out ?_)
          rintro e w2 ⟨rfl, hb2⟩
          have HF := Lib.hid (hb1'.out.trans (hb2.mono (by have := hb1'.out.size; rw [BS.out] at this; omega)))
          clear hb2
          go_wp2_with fail
          go_roundw
          case rel => exact ⟨k + 1, by omega, by go_num, HA, HF⟩
          case measure => simp [intOf]; omega
      · have hx2 : p k = false := by simpa using hx
        rw [hx2] at K1
        have HA : Hid (∀ j, j < k + 1 → (p j && q j) = false) := fun j hj => by
          by_cases e : j = k
          · subst e; simp [hx2]
          · exact hno.out j (by omega)
        clear hx hx2 hno
        go_wp2_with fail
        with_reducible (refine Calls.mono K1.out ?_)
        rintro e w1 ⟨rfl, hb1⟩
        have HF := Lib.hid (hbl.out.trans (hb1.mono (by omega)))
        clear hb1
        go_wp2_with fail
        go_roundw
        case rel => exact ⟨k + 1, by omega, by go_num, HA, HF⟩
        case measure => simp [intOf]; omega
    · obtain rfl : k = 65 := by omega
      have HT := Lib.hid (T0b.out hno.out)
      have HF := Lib.hid (BB.out.trans (hbl.out.mono (by omega)))
      clear hno
      go_wp2
      go_ret
      exact ⟨ret_bool HT.out.symm, HF.out⟩
end Go.Proofs.Ythaofkhjhmcknaa
