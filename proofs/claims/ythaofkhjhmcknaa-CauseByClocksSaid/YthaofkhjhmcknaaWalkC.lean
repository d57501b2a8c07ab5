/- THE WALKS of slices.IndexFunc, ContainsFunc, touch, Touch. No condition. -/
import Derived.Test.YthaofkhjhmcknaaWalkB
namespace Go.Proofs.Ythaofkhjhmcknaa
open Go.RowKit
set_option linter.unusedVariables false

set_option maxHeartbeats 800000 in
theorem indexFunc_any (A : Option Addr) (c : Nat) (xs : List Int) (b : Nat) (y : Hap) (w : World) (h : Rd w A (ints xs)) (hn : xs.length ≤ 10000) (hb : Blk w b 34 y.cs.toArray) :
    Calls Try.prog 40 #[.slice A xs.length c, .func (.func 32) #[] #[.pointer (some ⟨b, 0, none⟩)]] w (FoundPost (fun w' => Below w.heap.size w w') (xs.any fun n => (parts y.pr).contains n)) := by
  have H := Lib.hid h
  have K := Lib.hid (fun n W (hW : Below w.heap.size w W) => touch1_any n b y W (hb.below hW hb.lt))
  clear h hb
  generalize hp : (fun n => (parts y.pr).contains n) = p at *
  have K : Hid (∀ n W, Below w.heap.size w W → Calls Try.prog 32 #[.int .i64 n, .pointer (some ⟨b, 0, none⟩)] W (BoolPost W (p n))) := Lib.hid (by subst hp; exact K.out)
  clear hp
  generalize hN : xs.length = n at *
  have HN := Lib.hid hN
  clear hN
  have HP := Lib.hid (fun (i : Int) (r : Bool) W (h : decide (0 ≤ i) = r) (hW : Below w.heap.size w W) => (show FoundPost (fun w' => Below w.heap.size w w') r (.returned (.int .i64 i)) W from ⟨i, rfl, h, hW⟩))
  have HR := Lib.hid (Below.refl w.heap.size w)
  go_enter Try.func40, Try.ntmps40
  go_wp2
  go_loopw [5, 8] (fun v i wr => ∃ k : Nat, k ≤ n ∧ i = .int .i64 k ∧ Hid (∀ j, j < k → p (xs.getD j 0) = false) ∧ Hid (Below w.heap.size w wr)) (fun _ i _ => n - (intOf i).toNat)
  case atStart => exact ⟨0, Nat.zero_le _, rfl, fun j hj => by omega, HR.out⟩
  case round =>
    obtain ⟨k, hk, rfl, hno, hbl⟩ := hrel
    by_cases hlt : k < n
    · obtain ⟨ab, off, rfl, hb, hc⟩ := H.out (by rw [ints_len, HN.out]; omega)
      have d1 := (hbl.out.cell (p := ⟨ab, off + k, none⟩) hb).trans (hc k _ (ints_at (by rw [HN.out]; exact hlt)))
      have i1 : (0 : Int) ≤ (k : Int) := by omega
      have i2 : (k : Int) < (n : Int) := by omega
      have KC := Lib.hid (K.out (xs.getD k 0) wr hbl.out)
      clear hc
      by_cases hx : p (xs.getD k 0) = true
      · have HA := Lib.hid (any_at (p := p) (by rw [HN.out]; exact hlt) hx)
        rw [hx] at KC
        clear hx
        generalize xs.getD k 0 = y at *
        go_wp2_with fail
        with_reducible (refine Calls.mono KC.out ?_)
        rintro e w1 ⟨rfl, hb1⟩
        have HB := Lib.hid (hbl.out.trans (hb1.mono hbl.out.size))
        clear hb1
        go_wp2_with fail
        go_ret
        exact HP.out _ _ _ (by rw [HA.out]; simp) HB.out
      · have hx2 : p (xs.getD k 0) = false := by simpa using hx
        have HA : Hid (∀ j, j < k + 1 → p (xs.getD j 0) = false) := fun j hj => by
          by_cases e : j = k
          · subst e; exact hx2
          · exact hno.out j (by omega)
        rw [hx2] at KC
        clear hno hx hx2
        generalize xs.getD k 0 = y at *
        go_wp2_with fail
        with_reducible (refine Calls.mono KC.out ?_)
        rintro e w1 ⟨rfl, hb1⟩
        have HB := Lib.hid (hbl.out.trans (hb1.mono hbl.out.size))
        clear hb1
        go_wp2_with fail
        go_roundw
        case rel => exact ⟨k + 1, by omega, by go_num, HA, HB⟩
        case measure => simp [intOf]; omega
    · obtain rfl : n = k := by omega
      have HA := Lib.hid (any_none (p := p) HN.out hno.out)
      clear hno
      go_wp2
      go_ret
      exact HP.out _ _ _ (by rw [HA.out]; rfl) hbl.out

set_option maxHeartbeats 800000 in
theorem containsFunc_any (A : Option Addr) (c : Nat) (xs : List Int) (b : Nat) (y : Hap) (w : World) (h : Rd w A (ints xs)) (hn : xs.length ≤ 10000) (hb : Blk w b 34 y.cs.toArray) :
    Calls Try.prog 31 #[.slice A xs.length c, .func (.func 32) #[] #[.pointer (some ⟨b, 0, none⟩)]] w (BoolPost w (xs.any fun n => (parts y.pr).contains n)) := by
  have K := Lib.hid (indexFunc_any A c xs b y w h hn hb)
  clear h hb
  generalize (xs.any fun n => (parts y.pr).contains n) = r at *
  generalize xs.length = n at *
  go_enter Try.func31, Try.ntmps31
  go_wp2_with fail
  with_reducible (refine Calls.mono K.out ?_)
  rintro e w1 ⟨i, rfl, hi, hb⟩
  have HI := Lib.hid hi
  have HB := Lib.hid hb
  clear hi hb
  go_wp2_with fail
  go_ret
  exact ⟨ret_bool HI.out, HB.out⟩

set_option maxHeartbeats 800000 in
theorem touch_any (x y : Hap) (w : World) : Calls Try.prog 20 #[.agg x.cs.toArray, .agg y.cs.toArray] w (BoolPost w (tchb x.pr y.pr)) := by
  have K := Lib.hid (fun W => parts_any x W)
  have K2 := Lib.hid (fun A c W (h : Rd W A (ints (parts x.pr))) (hb : Blk W (w.heap.size + 1) 34 y.cs.toArray) => containsFunc_any A c (parts x.pr) (w.heap.size + 1) y W h (by unfold parts; split <;> simp) hb)
  have K3 := Lib.hid (show Blk ((w.alloc (.cells x.cs.toArray 34)).alloc (.cells y.cs.toArray 34)) (w.heap.size + 1) 34 y.cs.toArray from by
    have := Blk.new (w.alloc (.cells x.cs.toArray 34)) 34 y.cs.toArray
    rw [World.size_alloc] at this
    exact this)
  have K4 := Lib.hid (show Below w.heap.size w ((w.alloc (.cells x.cs.toArray 34)).alloc (.cells y.cs.toArray 34)) from ((Below.refl _ _).alloc (Nat.le_refl _) _).alloc (by simp) _)
  rw [show tchb x.pr y.pr = (parts x.pr).any fun n => (parts y.pr).contains n from rfl]
  generalize ((parts x.pr).any fun n => (parts y.pr).contains n) = r at *
  generalize parts x.pr = l at *
  obtain ⟨kd, who, st, ch, peer⟩ := x
  obtain ⟨kd2, who2, st2, ch2, peer2⟩ := y
  dsimp only [Hap.cs] at *
  go_enter Try.func20, Try.ntmps20
  go_wp2_with fail
  with_reducible (refine Calls.mono (K.out _) ?_)
  rintro e w1 ⟨A, c, rfl, hv, -, hbl⟩
  rw [World.size_alloc, World.size_alloc] at hbl
  have KC := Lib.hid (K2.out A c w1 (Rd.of_vec hv (by decide)) (K3.out.below hbl (by simp)))
  have HB := Lib.hid (K4.out.trans (hbl.mono (by omega)))
  clear hv hbl K2 K K3 K4
  generalize l.length = m at *
  go_wp2_with fail
  with_reducible (refine Calls.mono KC.out ?_)
  rintro e w2 ⟨rfl, hb2⟩
  have HF := Lib.hid (HB.out.trans (hb2.mono HB.out.size))
  clear hb2
  go_wp2_with fail
  go_ret
  exact ⟨rfl, HF.out⟩
end Go.Proofs.Ythaofkhjhmcknaa
