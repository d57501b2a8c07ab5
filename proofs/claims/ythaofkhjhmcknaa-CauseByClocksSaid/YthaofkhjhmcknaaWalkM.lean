/- THE WALK of the reference's Reach. At most 100 steps. -/
import Derived.Test.YthaofkhjhmcknaaWalkL
namespace Go.Proofs.Ythaofkhjhmcknaa
open Go.RowKit
set_option linter.unusedVariables false

def ReachPost (t : Nat → Nat → Bool) (a n : Nat) (w : World) (e : Ending) (w' : World) : Prop := ∃ g v, e = .returned (.slice (some ⟨g, 0, none⟩) n n) ∧ Rs t a n g w n v w'

set_option maxRecDepth 100000 in
set_option maxHeartbeats 4000000 in
theorem reach_any (l : List Hap) (n a : Nat) (hl : l.length = n) (hn : n ≤ 100) (ha : a < n) (A : Option Addr) (c : Nat) (w : World) (h : Hs w A l) :
    Calls Try.prog 16 #[.slice A n c, .int .i64 (a : Int)] w (ReachPost (tl l) a n w) := by
  obtain ⟨hb0, off, rfl, h5⟩ := h (by omega)
  have HL := Lib.hid hl
  have HH := Lib.hid h5
  have KT := Lib.hid refTouch_any
  have i0 : (0 : Int) ≤ (n : Int) := by omega
  have hmk := run_make_row' (P := Try.prog) 35 4 (.bool false) 1 Try.underlying35 bool_info rfl .i64 .i64 n (by omega) (by omega)
  rw [brow_made] at hmk
  have HE := Lib.hid (fun g v W (hW : Rs (tl l) a n g w n v W) => (show ReachPost (tl l) a n w (.returned (.slice (some ⟨g, 0, none⟩) n n)) W from ⟨g, v, rfl, hW⟩))
  clear h h5 hl
  have H0 := Lib.hid (show Rs (tl l) a n w.heap.size w (a + 1) false (w.alloc (.cells (brow n fun _ => false) 4)) from ⟨⟨_, Blk.new w 4 _, fun i h1 h2 => by omega, fun _ => rfl, fun _ _ => rfl⟩, (Below.refl _ _).alloc (Nat.le_refl _) _, Nat.le_refl _⟩)
  go_enter Try.func16, Try.ntmps16
  go_wp2_with fail
  generalize w.alloc (.cells (brow n fun _ => false) 4) = W0 at *
  generalize hg : w.heap.size = g at H0 ⊢
  clear hmk hg
  go_loopw [6, 7] (fun kk ii wr => ∃ b v, a + 1 ≤ b ∧ b ≤ n ∧ kk = .int .i64 ((b : Nat) : Int) ∧ Hid (Rs (tl l) a n g w b v wr)) (fun kk _ _ => n - (intOf kk).toNat)
  case atStart => exact ⟨a + 1, false, Nat.le_refl _, by omega, by go_num, H0.out⟩
  case round =>
    obtain ⟨b, v0, hb1, hb2, rfl, hst⟩ := hrel
    by_cases hkb : b < n
    · have j0 : (0 : Int) ≤ (b : Int) := by omega
      have j1 : (b : Int) < (n : Int) := by omega
      have j2 : (0 : Int) ≤ (a : Int) := by omega
      have j3 : (a : Int) < (n : Int) := by omega
      have hC : ∀ W, Below w.heap.size w W → _ := fun W hW => ((HH.out.below hW).five (k := a) (by rw [HL.out]; omega))
      have hD : ∀ W, Below w.heap.size w W → _ := fun W hW => ((HH.out.below hW).five (k := b) (by rw [HL.out]; omega))
      have HC := Lib.hid hC
      have HD := Lib.hid hD
      obtain ⟨x0, x1, x2, x3, x4⟩ := hC wr hst.out.bel
      obtain ⟨y0, y1, y2, y3, y4⟩ := hD wr hst.out.bel
      clear hC hD
      have HTLb := Lib.hid (fun k => (show tl l k b = tchb (l.getD k hap0).pr (l.getD b hap0).pr from rfl))
      have HTL := Lib.hid (show tl l a b = tchb (l.getD a hap0).pr (l.getD b hap0).pr from rfl)
      have HB1 := Lib.hid (hst.out.drewN 1)
      have HT0 := Lib.hid (show hit (tl l) a b (a + 1 - (a + 1)) = tl l a b by rw [Nat.sub_self]; rfl)
      generalize l.getD a hap0 = x at *
      generalize l.getD b hap0 = y at *
      have KT2 := Lib.hid (fun W => KT.out x y W)
      rw [← HTL.out, ← HT0.out] at KT2
      obtain ⟨kd1, who1, st1, ch1, peer1⟩ := x
      obtain ⟨kd2, who2, st2, ch2, peer2⟩ := y
      dsimp only [Hap.cs] at *
      clear HTL HT0
      have HBt := Lib.hid (show Rs (tl l) a n g w b v0 wr → True from fun _ => trivial)
      clear HBt
      generalize hr : hit (tl l) a b (a + 1 - (a + 1)) = r at KT2
      have HR := Lib.hid hr
      clear hr
      clear hst
      go_wp2_with fail
      go_region_held3 (fun w' => w'.cell? ⟨hb0, off + a * 5, none⟩ = some (.int .i64 kd1) ∧ w'.cell? ⟨hb0, off + a * 5 + 1, none⟩ = some (.int .i64 who1) ∧ w'.cell? ⟨hb0, off + a * 5 + 2, none⟩ = some (.int .i64 st1) ∧ w'.cell? ⟨hb0, off + a * 5 + 3, none⟩ = some (.int .i64 ch1) ∧ w'.cell? ⟨hb0, off + a * 5 + 4, none⟩ = some (.int .i64 peer1) ∧ w'.cell? ⟨hb0, off + b * 5, none⟩ = some (.int .i64 kd2) ∧ w'.cell? ⟨hb0, off + b * 5 + 1, none⟩ = some (.int .i64 who2) ∧ w'.cell? ⟨hb0, off + b * 5 + 2, none⟩ = some (.int .i64 st2) ∧ w'.cell? ⟨hb0, off + b * 5 + 3, none⟩ = some (.int .i64 ch2) ∧ w'.cell? ⟨hb0, off + b * 5 + 4, none⟩ = some (.int .i64 peer2)) (first | go_keep | exact hk4 0)
        (first | (go_at_call 22; refine (KT2.out _).mono ?_; rintro e w4 ⟨rfl, hb4⟩; have hs4 := HB1.out.below hb4; have e1 := hs4.top hkb; have e2 := hs4.frozen b; obtain ⟨x0', x1', x2', x3', x4'⟩ := HC.out _ hs4.bel; obtain ⟨y0', y1', y2', y3', y4'⟩ := HD.out _ hs4.bel; have hs5 := hs4.set_ (by omega) r; have hk4 : ∀ (z : Nat), (w4.setCell ⟨g, b, none⟩ (.bool r)).cell? ⟨hb0, off + a * 5, none⟩ = some (.int .i64 kd1) ∧ (w4.setCell ⟨g, b, none⟩ (.bool r)).cell? ⟨hb0, off + a * 5 + 1, none⟩ = some (.int .i64 who1) ∧ (w4.setCell ⟨g, b, none⟩ (.bool r)).cell? ⟨hb0, off + a * 5 + 2, none⟩ = some (.int .i64 st1) ∧ (w4.setCell ⟨g, b, none⟩ (.bool r)).cell? ⟨hb0, off + a * 5 + 3, none⟩ = some (.int .i64 ch1) ∧ (w4.setCell ⟨g, b, none⟩ (.bool r)).cell? ⟨hb0, off + a * 5 + 4, none⟩ = some (.int .i64 peer1) ∧ (w4.setCell ⟨g, b, none⟩ (.bool r)).cell? ⟨hb0, off + b * 5, none⟩ = some (.int .i64 kd2) ∧ (w4.setCell ⟨g, b, none⟩ (.bool r)).cell? ⟨hb0, off + b * 5 + 1, none⟩ = some (.int .i64 who2) ∧ (w4.setCell ⟨g, b, none⟩ (.bool r)).cell? ⟨hb0, off + b * 5 + 2, none⟩ = some (.int .i64 st2) ∧ (w4.setCell ⟨g, b, none⟩ (.bool r)).cell? ⟨hb0, off + b * 5 + 3, none⟩ = some (.int .i64 ch2) ∧ (w4.setCell ⟨g, b, none⟩ (.bool r)).cell? ⟨hb0, off + b * 5 + 4, none⟩ = some (.int .i64 peer2) := fun _ => ⟨(HC.out _ hs5.bel).1, (HC.out _ hs5.bel).2.1, (HC.out _ hs5.bel).2.2.1, (HC.out _ hs5.bel).2.2.2.1, (HC.out _ hs5.bel).2.2.2.2, HD.out _ hs5.bel⟩))
      have HS5 := Lib.hid hs5
      clear hk4 hs4 hs5 hb4 e1 e2 x0' x1' x2' x3' x4' y0' y1' y2' y3' y4' KT2 HB1
      generalize w4.setCell ⟨g, b, none⟩ (.bool r) = W5 at *
      go_wp2_with fail
      go_loopw [7] (fun ii wr => ∃ k : Nat, a + 1 ≤ k ∧ k ≤ b ∧ ii = .int .i64 ((k : Nat) : Int) ∧ Hid (Rs (tl l) a n g w b (hit (tl l) a b (k - (a + 1))) wr)) (fun ii _ => b - (intOf ii).toNat)
      case atStart => exact ⟨a + 1, Nat.le_refl _, by omega, by go_num, by rw [HR.out]; exact HS5.out⟩
      case round =>
        clear HS5 HC HR
        obtain ⟨k, hk1, hk2, rfl, hst⟩ := hrel
        by_cases hkb2 : k < b
        · have m0 : (0 : Int) ≤ (k : Int) := by omega
          have m1 : (k : Int) < (b : Int) := by omega
          have m2 : (k : Int) < (n : Int) := by omega
          have hne : ¬ k = b := by omega
          have HNX := Lib.hid (hit_next (tl l) (b := b) hk1)
          have e0 := hst.out.top hkb
          have e1 := hst.out.low (i := k) (by omega) hkb2 (by omega)
          have f0 := hst.out.frozen b
          have HB1 := Lib.hid (hst.out.drewN 1)
          have HC := Lib.hid (fun W (hW : Below w.heap.size w W) => ((HH.out.below hW).five (k := k) (by rw [HL.out]; omega)))
          have hC := HC.out wr hst.out.bel
          have hD := HD.out wr hst.out.bel
          have HTL := Lib.hid (HTLb.out k)
          generalize hq : hit (tl l) a b (k + 1 - (a + 1)) = q at *
          have HQ := Lib.hid hq
          clear hq
          generalize hit (tl l) a b (k - (a + 1)) = v at *
          generalize hp : decide (0 ≤ far (tl l) a k) = p at *
          have HP := Lib.hid hp
          clear hp
          cases v with
          | true =>
            have HS2 := Lib.hid (HB1.out.set_ (by omega) true)
            clear HB1 hst
            go_wp2_with fail
            go_region
            go_wp2_with fail
            go_roundw
            case rel => exact ⟨k + 1, by omega, by omega, by go_num, by rw [HQ.out, HNX.out]; exact HS2⟩
            case measure => simp [intOf]; omega
          | false =>
            cases p with
            | false =>
              have HS2 := Lib.hid (HB1.out.set_ (by omega) false)
              clear HB1 hst
              go_wp2_with fail
              go_region
              go_wp2_with fail
              go_roundw
              case rel => exact ⟨k + 1, by omega, by omega, by go_num, by rw [HQ.out, HNX.out]; exact HS2⟩
              case measure => simp [intOf]; omega
            | true =>
              obtain ⟨x0, x1, x2, x3, x4⟩ := hC
              obtain ⟨y0, y1, y2, y3, y4⟩ := hD
              generalize l.getD k hap0 = x at *
              have KT2 := Lib.hid (fun W => KT.out x ⟨kd2, who2, st2, ch2, peer2⟩ W)
              rw [show tchb x.pr (Hap.pr ⟨kd2, who2, st2, ch2, peer2⟩) = tl l k b from HTL.out.symm] at KT2
              obtain ⟨kd3, who3, st3, ch3, peer3⟩ := x
              dsimp only [Hap.cs] at *
              generalize tl l k b = r2 at *
              clear hst HTL HTLb
              go_wp2_with fail
              go_region_with ((go_at_call 22; refine (KT2.out _).mono ?_; rintro e w4 ⟨rfl, hb4⟩; have hs4 := HB1.out.below hb4; have e1' := hs4.top hkb; have e2' := hs4.frozen b))
              all_goals
                have HS2 := Lib.hid (hs4.set_ (by omega) r2)
                clear hs4 hb4 e1' e2' KT2 HB1
                go_wp2_with fail
                go_roundw
                case rel => exact ⟨k + 1, by omega, by omega, by go_num, by rw [HQ.out, HNX.out]; exact HS2⟩
                case measure => simp [intOf]; omega
        · obtain rfl : k = b := by omega
          have HFK := Lib.hid (hit_far (tl l) (a := a) (b := k) (by omega))
          obtain ⟨v', hs'⟩ := hst.out.next (by omega) HFK.out hkb
          have HS2 := Lib.hid hs'
          clear hst hs'
          go_wp2_with fail
          go_roundw
          case rel => exact ⟨k + 1, v', by omega, by omega, by go_num, HS2⟩
          case measure => simp [intOf]; omega
    · obtain rfl : b = n := by omega
      have HEE := Lib.hid (HE.out g v0 wr hst.out)
      clear hst
      go_wp2_with fail
      go_ret
      exact HEE.out
end Go.Proofs.Ythaofkhjhmcknaa
