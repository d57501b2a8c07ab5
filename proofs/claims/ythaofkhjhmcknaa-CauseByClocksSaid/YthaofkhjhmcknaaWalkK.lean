/- THE WALKS of the example that lives; of CauseOrders. -/
import Derived.Test.YthaofkhjhmcknaaWalkJ
namespace Go.Proofs.Ythaofkhjhmcknaa
open Go.RowKit
set_option linter.unusedVariables false

def l3 : List Hap := [⟨0, 0, 0, 0, -1⟩, ⟨0, 1, 0, 0, -1⟩, ⟨0, 0, 0, 0, 1⟩]
def a3 : Array Value := (l3.flatMap Hap.cs).toArray
theorem l3_at (w : World) (t : TypeId) : Hs (w.alloc (.cells a3 t)) (some ⟨w.heap.size, 0, none⟩) l3 := fun _ => by
  have hb := Blk.new w t a3
  refine ⟨_, _, rfl, by simp, ?_, ?_, ?_, ?_, ?_⟩ <;>
  · intro k hk
    rw [hb.cell]
    match k, hk with
    | 0, _ => rfl
    | 1, _ => rfl
    | 2, _ => rfl
theorem l3_free : free l3 3 0 1 = true := by decide +kernel
theorem l3_a : good l3 0 2 = true := by decide +kernel
theorem l3_b : good l3 1 2 = true := by decide +kernel
theorem l3_c : good l3 2 1 = false := by decide +kernel
theorem l3_path : Pth (tl l3) 1 2 [1, 2] := .next (.here) (pre_touch (tl l3) 1 (by decide) (by decide +kernel)).1
theorem l3_len {L : List Int} (h : PathOf l3 1 2 L) : L.length = 2 := by
  rcases h with ⟨_, h⟩ | ⟨h, _⟩
  · rw [h.uniq _ _ l3_path]; rfl
  · exact (h (of_decide_eq_true l3_b)).elim
def LivePost (w : World) (e : Ending) (w' : World) : Prop := e = .returned (.bool true) ∧ Below w.heap.size w w'

set_option maxHeartbeats 1600000 in
theorem live_any (w : World) : Calls Try.prog 7 #[] w (BoolPost w true) := by
  have HS : Hs (w.alloc (.cells #[.int .i64 0, .int .i64 0, .int .i64 0, .int .i64 0, .int .i64 (-1), .int .i64 0, .int .i64 1, .int .i64 0, .int .i64 0, .int .i64 (-1), .int .i64 0, .int .i64 0, .int .i64 0, .int .i64 0, .int .i64 1] 34)) (some ⟨w.heap.size, 0, none⟩) l3 := l3_at w 34
  have B0 : Below w.heap.size w (w.alloc (.cells #[.int .i64 0, .int .i64 0, .int .i64 0, .int .i64 0, .int .i64 (-1), .int .i64 0, .int .i64 1, .int .i64 0, .int .i64 0, .int .i64 (-1), .int .i64 0, .int .i64 0, .int .i64 0, .int .i64 0, .int .i64 1] 34)) := (Below.refl _ _).alloc (Nat.le_refl _) _
  have HH := Lib.hid HS
  clear HS
  go_enter Try.func7, Try.ntmps7
  go_wp2_with fail
  generalize w.alloc (.cells #[.int .i64 0, .int .i64 0, .int .i64 0, .int .i64 0, .int .i64 (-1), .int .i64 0, .int .i64 1, .int .i64 0, .int .i64 0, .int .i64 (-1), .int .i64 0, .int .i64 0, .int .i64 0, .int .i64 0, .int .i64 1] 34) = W0 at *
  generalize hA : some (⟨w.heap.size, 0, none⟩ : Addr) = A at *
  clear hA
  have B1 := Below.refl W0.heap.size W0
  have K1 := Lib.hid (fun W (hW : Below W0.heap.size W0 W) => free_at l3 3 rfl (by decide) A 3 0 1 W0 HH.out W hW)
  have K2 := Lib.hid (fun W (hW : Below W0.heap.size W0 W) => before_at l3 3 rfl (by decide) A 3 0 2 W0 HH.out W hW)
  have K3 := Lib.hid (fun W (hW : Below W0.heap.size W0 W) => before_at l3 3 rfl (by decide) A 3 1 2 W0 HH.out W hW)
  have K4 := Lib.hid (fun W (hW : Below W0.heap.size W0 W) => before_at l3 3 rfl (by decide) A 3 2 1 W0 HH.out W hW)
  have K5 := Lib.hid (fun W (hW : Below W0.heap.size W0 W) => path_any l3 3 rfl (by decide) A 3 1 2 W (HH.out.below hW))
  rw [l3_free] at K1
  rw [l3_a] at K2
  rw [l3_b] at K3
  rw [l3_c] at K4
  with_reducible (refine Calls.mono (K1.out _ B1) ?_)
  rintro e w1 ⟨rfl, hb1⟩
  go_wp2_with fail
  with_reducible (refine Calls.mono (K2.out _ hb1) ?_)
  rintro e w2 ⟨rfl, hb2⟩
  go_wp2_with fail
  with_reducible (refine Calls.mono (K3.out _ hb2) ?_)
  rintro e w3 ⟨rfl, hb3⟩
  go_wp2_with fail
  with_reducible (refine Calls.mono (K4.out _ hb3) ?_)
  rintro e w4 ⟨rfl, hb4⟩
  go_wp2_with fail
  with_reducible (refine Calls.mono (K5.out _ hb4) ?_)
  rintro e w5 ⟨L, hL, A', c', rfl, hv, -, hb5⟩
  have HN := Lib.hid (l3_len hL)
  have HB := Lib.hid (B0.trans ((hb4.trans (hb5.mono hb4.size)).mono B0.size))
  clear hL hv
  rw [HN.out]
  clear HN
  go_wp2_with fail
  go_ret
  exact ⟨rfl, HB.out⟩

set_option maxHeartbeats 400000 in
theorem orders_big (A : Option Addr) (n c : Nat) (a b d : Int) (w : World) (h : 40 < n) : Calls Try.prog 4 #[.slice A n c, .int .i64 a, .int .i64 b, .int .i64 d] w (BoolPost w true) := by
  have KL := Lib.hid live_any
  go_enter Try.func4, Try.ntmps4
  go_wp2_with fail
  with_reducible (refine Calls.mono (KL.out _) ?_)
  rintro e w1 ⟨rfl, hb1⟩
  go_wp2_with fail
  go_ret
  exact ⟨rfl, hb1⟩

theorem good_trans (l : List Hap) (a b c : Int) (h1 : good l a b = true) (h2 : good l b c = true) : good l a c = true := by
  have g := of_decide_eq_true h1
  have k := of_decide_eq_true h2
  obtain ⟨a1, a2, a3, a4⟩ := g
  obtain ⟨b1, b2, b3, b4⟩ := k
  refine decide_eq_true ⟨a1, by omega, b3, ?_⟩
  exact (Bef.trans (⟨by omega, a4⟩ : Bef (tl l) a.toNat b.toNat) (⟨by omega, b4⟩ : Bef (tl l) b.toNat c.toNat)).2
theorem good_irr (l : List Hap) (a : Int) : good l a a = false := decide_eq_false (fun h => by have := h.2.1; omega)
theorem good_asym (l : List Hap) (a b : Int) (h : good l a b = true) : good l b a = false := by
  have g := of_decide_eq_true h
  exact decide_eq_false (fun h => by have := h.2.1; have := g.2.1; omega)

set_option maxHeartbeats 1600000 in
theorem orders_core (l : List Hap) (n : Nat) (hl : l.length = n) (hn : n ≤ 40) (A : Option Addr) (c : Nat) (a b d : Int) (w : World) (h : Hs w A l) :
    Calls Try.prog 4 #[.slice A n c, .int .i64 a, .int .i64 b, .int .i64 d] w (BoolPost w true) := by
  have KL := Lib.hid (fun W (hW : Below w.heap.size w W) => grown_bool hW (live_any W))
  have Kab := Lib.hid (fun W (hW : Below w.heap.size w W) => before_at l n hl (by omega) A c a b w h W hW)
  have Kbd := Lib.hid (fun W (hW : Below w.heap.size w W) => before_at l n hl (by omega) A c b d w h W hW)
  have Kad := Lib.hid (fun W (hW : Below w.heap.size w W) => before_at l n hl (by omega) A c a d w h W hW)
  have Kaa := Lib.hid (fun W (hW : Below w.heap.size w W) => before_at l n hl (by omega) A c a a w h W hW)
  have Kba := Lib.hid (fun W (hW : Below w.heap.size w W) => before_at l n hl (by omega) A c b a w h W hW)
  have Fab := Lib.hid (fun W (hW : Below w.heap.size w W) => free_at l n hl (by omega) A c a b w h W hW)
  have Fba := Lib.hid (fun W (hW : Below w.heap.size w W) => free_at l n hl (by omega) A c b a w h W hW)
  rw [free_symm l n b a] at Fba
  rw [good_irr] at Kaa
  have B0 := Below.refl w.heap.size w
  have q1 : decide ((40 : Int) < (n : Int)) = false := by simp; omega
  have ht := good_trans l a b d
  have hs := good_asym l a b
  clear h hl
  generalize free l n a b = f at *
  generalize good l a b = p1 at *
  generalize good l b d = p2 at *
  generalize good l a d = p3 at *
  generalize good l b a = p4 at *
  cases p1 with
  | true =>
    obtain rfl : p4 = false := hs rfl
    cases p2 with
    | true =>
      obtain rfl : p3 = true := ht rfl rfl
      clear hs ht
      go_enter Try.func4, Try.ntmps4
      go_wp2_with (first | (go_at_call 9; first | ((with_reducible refine (Kaa.out _ ?_).mono ?_); assumption; rintro e w' ⟨rfl, hb'⟩) | ((with_reducible refine (Kab.out _ ?_).mono ?_); assumption; rintro e w' ⟨rfl, hb'⟩) | ((with_reducible refine (Kbd.out _ ?_).mono ?_); assumption; rintro e w' ⟨rfl, hb'⟩) | ((with_reducible refine (Kad.out _ ?_).mono ?_); assumption; rintro e w' ⟨rfl, hb'⟩) | ((with_reducible refine (Kba.out _ ?_).mono ?_); assumption; rintro e w' ⟨rfl, hb'⟩)) | (go_at_call 10; first | ((with_reducible refine (Fab.out _ ?_).mono ?_); assumption; rintro e w' ⟨rfl, hb'⟩) | ((with_reducible refine (Fba.out _ ?_).mono ?_); assumption; rintro e w' ⟨rfl, hb'⟩)) | (go_at_call 7; (with_reducible refine (KL.out _ ?_).mono ?_); assumption; rintro e w' ⟨rfl, hb'⟩))
      go_ret
      exact ⟨ret_bool (by simp), by assumption⟩
    | false =>
      clear hs ht
      go_enter Try.func4, Try.ntmps4
      go_wp2_with (first | (go_at_call 9; first | ((with_reducible refine (Kaa.out _ ?_).mono ?_); assumption; rintro e w' ⟨rfl, hb'⟩) | ((with_reducible refine (Kab.out _ ?_).mono ?_); assumption; rintro e w' ⟨rfl, hb'⟩) | ((with_reducible refine (Kbd.out _ ?_).mono ?_); assumption; rintro e w' ⟨rfl, hb'⟩) | ((with_reducible refine (Kad.out _ ?_).mono ?_); assumption; rintro e w' ⟨rfl, hb'⟩) | ((with_reducible refine (Kba.out _ ?_).mono ?_); assumption; rintro e w' ⟨rfl, hb'⟩)) | (go_at_call 10; first | ((with_reducible refine (Fab.out _ ?_).mono ?_); assumption; rintro e w' ⟨rfl, hb'⟩) | ((with_reducible refine (Fba.out _ ?_).mono ?_); assumption; rintro e w' ⟨rfl, hb'⟩)) | (go_at_call 7; (with_reducible refine (KL.out _ ?_).mono ?_); assumption; rintro e w' ⟨rfl, hb'⟩))
      go_ret
      exact ⟨ret_bool (by simp), by assumption⟩
  | false =>
    clear hs ht
    go_enter Try.func4, Try.ntmps4
    go_wp2_with (first | (go_at_call 9; first | ((with_reducible refine (Kaa.out _ ?_).mono ?_); assumption; rintro e w' ⟨rfl, hb'⟩) | ((with_reducible refine (Kab.out _ ?_).mono ?_); assumption; rintro e w' ⟨rfl, hb'⟩) | ((with_reducible refine (Kbd.out _ ?_).mono ?_); assumption; rintro e w' ⟨rfl, hb'⟩) | ((with_reducible refine (Kad.out _ ?_).mono ?_); assumption; rintro e w' ⟨rfl, hb'⟩) | ((with_reducible refine (Kba.out _ ?_).mono ?_); assumption; rintro e w' ⟨rfl, hb'⟩)) | (go_at_call 10; first | ((with_reducible refine (Fab.out _ ?_).mono ?_); assumption; rintro e w' ⟨rfl, hb'⟩) | ((with_reducible refine (Fba.out _ ?_).mono ?_); assumption; rintro e w' ⟨rfl, hb'⟩)) | (go_at_call 7; (with_reducible refine (KL.out _ ?_).mono ?_); assumption; rintro e w' ⟨rfl, hb'⟩))
    go_ret
    exact ⟨ret_bool (by simp), by assumption⟩
end Go.Proofs.Ythaofkhjhmcknaa
