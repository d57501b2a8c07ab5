/- THE WALKS of Of, of the reference's By, of 'live'. -/
import Derived.Test.YtbggoelfnolldaaWalkC
namespace Go.Proofs.Ytbggoelfnolldaa
open Go.RowKit
set_option linter.unusedVariables false

def OfPost (w : World) (xs : List Int) (e : Ending) (w' : World) : Prop :=
  ∃ s, e = .returned (.pointer (some ⟨s, 0, none⟩)) ∧ w.heap.size ≤ s ∧ s < w'.heap.size ∧ Script 63 w' (fun b => w.heap.size ≤ b ∧ b < s) s xs ∧ Below w.heap.size w w'

set_option maxHeartbeats 400000 in
theorem of_any (w : World) (D : Nat → Prop) (A : Option Addr) (c : Nat) (xs : List Int) (hx : Rd w D A (ints xs)) (hn : xs.length ≤ 10000) (hA : A = none → xs = []) (hf : ∀ x ∈ xs, In64 x) :
    Calls Try.prog 9 #[.slice A xs.length c] w (OfPost w xs) := by
  have KC := Lib.hid (clone_ints w D A c xs hx hn hA)
  have HF := Lib.hid hf
  clear hx hA hf
  generalize hN : xs.length = n at *
  have HN := Lib.hid hN
  clear hN
  go_enter Try.func9, Try.ntmps9
  go_wp2_with fail
  with_reducible (refine Calls.mono KC.out ?_)
  rintro e w1 hp
  obtain ⟨A', c', rfl, hv, hb, hbl⟩ := hp
  have hfin : OfPost w xs (.returned (.pointer (some ⟨w1.heap.size, 0, none⟩))) (w1.alloc (.cells #[.slice A' n c'] 63)) := by
    refine ⟨w1.heap.size, rfl, hbl.size, by simp, ⟨A', c', ?_, ?_, ?_, HF.out⟩, hbl.alloc hbl.size _⟩
    · rw [HN.out]; exact Blk.new _ _ _
    · exact (Rd.of_vec hv (by omega) (fun b h => ⟨hb b h, hv.lt b h⟩)).quiet ((Only.refl _ _).alloc _)
    · rw [HN.out]; exact hv.le
  have HF2 := Lib.hid hfin
  clear hv hb hbl hfin
  go_wp2
  go_ret
  exact HF2.out

def ByPost (w : World) (B : Nat) (xs : List Int) (e : Ending) (w' : World) : Prop :=
  e = .returned (.pointer (some ⟨w.heap.size + 1, 0, none⟩)) ∧ Script 41 w' (fun b => b < B) w.heap.size xs ∧ Blk w' (w.heap.size + 1) 46 #[.pointer (some ⟨w.heap.size, 0, none⟩), .pointer none, .slice none 0 0] ∧ Below w.heap.size w w' ∧ w.heap.size + 1 < w'.heap.size

set_option maxHeartbeats 400000 in
theorem by_any (w : World) (B : Nat) (A : Option Addr) (c : Nat) (xs : List Int) (hx : Rd w (fun b => b < B) A (ints xs)) (hB : B ≤ w.heap.size) (hc : xs.length ≤ c) (hf : ∀ x ∈ xs, In64 x) :
    Calls Try.prog 10 #[.slice A xs.length c] w (ByPost w B xs) := by
  have hfin : ByPost w B xs (.returned (.pointer (some ⟨w.heap.size + 1, 0, none⟩))) ((w.alloc (.cells #[.slice A xs.length c] 41)).alloc (.cells #[.pointer (some ⟨w.heap.size, 0, none⟩), .pointer none, .slice none 0 0] 46)) := by
    refine ⟨rfl, ⟨A, c, (Blk.new w 41 _).alloc _, (hx.quiet ((Only.refl _ _).alloc _)).quiet ((Only.refl _ _).alloc _), hc, hf⟩, ?_, ((Below.refl _ _).alloc (Nat.le_refl _) _).alloc (by simp) _, by simp⟩
    have := Blk.new (w.alloc (.cells #[.slice A xs.length c] 41)) 46 #[.pointer (some ⟨w.heap.size, 0, none⟩), .pointer none, .slice none 0 0]
    rw [World.size_alloc] at this
    exact this
  have HF := Lib.hid hfin
  clear hx hfin hf
  go_enter Try.func10, Try.ntmps10
  go_wp2
  go_ret
  exact HF.out

def LivePost (w : World) (e : Ending) (w' : World) : Prop := e = .returned (.bool true) ∧ Below w.heap.size w w'

theorem a1 : ans [7, -1] 3 = (1, 0) := by decide +kernel
theorem a2 : ans [-1] 3 = (2, 0) := by decide +kernel
theorem a3 : ans [] 3 = (0, 0) := by decide +kernel
theorem r1 : rest [7, -1] 3 = [-1] := by decide +kernel
theorem r2 : rest [-1] 3 = [] := by decide +kernel
theorem r3 : rest [] 3 = [] := by decide +kernel

theorem only_below {w0 w w' : World} {B s : Nat} (hb : Below B w0 w) (hB : B ≤ w.heap.size) (ho : Only (fun b => b = s) w w') (hs : B ≤ s) : Below B w0 w' ∧ B ≤ w'.heap.size :=
  ⟨hb.trans (ho.below hB (fun i h => by omega)), Nat.le_trans hB ho.size⟩

set_option maxHeartbeats 800000 in
theorem live_any (w : World) : Calls Try.prog 7 #[] w (LivePost w) := by
  have hrd : Rd (w.alloc (.cells #[.int .i64 7, .int .i64 (-1)] 3)) (fun _ => True) (some ⟨w.heap.size, 0, none⟩) (ints [7, -1]) := fun _ => by
    refine ⟨_, _, rfl, trivial, by simp, fun j u hu => ?_⟩
    rw [World.cell?_alloc_new, Nat.zero_add]
    match j, hu with
    | 0, h => exact h
    | 1, h => exact h
  have KO := Lib.hid (of_any _ _ _ 2 [7, -1] hrd (by simp) (fun h => (nomatch h)) (fun x hx => by simp at hx; rcases hx with rfl | rfl <;> exact ⟨by omega, by omega⟩))
  rw [show ([7, -1] : List Int).length = 2 from rfl] at KO
  clear hrd
  go_enter Try.func7, Try.ntmps7
  go_wp2_with fail
  with_reducible (refine Calls.mono KO.out ?_)
  rintro e w1 hp
  obtain ⟨s, rfl, hs, hs1, hsc, hb1⟩ := hp
  rw [World.size_alloc] at hs
  have hB1 : Below w.heap.size w w1 ∧ w.heap.size ≤ w1.heap.size := ⟨((Below.refl _ _).alloc (Nat.le_refl _) _).trans (hb1.mono (by simp)), by omega⟩
  have hsB : w.heap.size ≤ s := by omega
  have K1 := Lib.hid (ask_any w1 _ s [7, -1] 1 3 hsc (fun h => Nat.lt_irrefl _ h.2) ⟨by omega, by omega⟩ (by simp))
  rw [a1, r1] at K1
  have HB1 := Lib.hid hB1
  clear hsc hb1 hB1 KO
  go_wp2_with fail
  with_reducible (refine Calls.mono K1.out ?_)
  rintro e w2 hp
  obtain ⟨rfl, hsc2, ho2⟩ := hp
  have HB2 := Lib.hid (only_below HB1.out.1 HB1.out.2 ho2 hsB)
  have K2 := Lib.hid (ask_any w2 _ s [-1] 1 3 hsc2 (fun h => Nat.lt_irrefl _ h.2) ⟨by omega, by omega⟩ (by simp))
  rw [a2, r2] at K2
  clear hsc2 ho2 HB1 K1
  go_wp2_with fail
  with_reducible (refine Calls.mono K2.out ?_)
  rintro e w3 hp
  obtain ⟨rfl, hsc3, ho3⟩ := hp
  have HB3 := Lib.hid (only_below HB2.out.1 HB2.out.2 ho3 hsB)
  have K3 := Lib.hid (ask_any w3 _ s [] 1 3 hsc3 (fun h => Nat.lt_irrefl _ h.2) ⟨by omega, by omega⟩ (by simp))
  rw [a3, r3] at K3
  clear hsc3 ho3 HB2 K2
  go_wp2_with fail
  with_reducible (refine Calls.mono K3.out ?_)
  rintro e w4 hp
  obtain ⟨rfl, hsc4, ho4⟩ := hp
  have HB4 := Lib.hid (only_below HB3.out.1 HB3.out.2 ho4 hsB)
  have K4 := Lib.hid (left_any w4 _ s [] hsc4)
  rw [show (([] : List Int).length : Int) = 0 from rfl] at K4
  clear hsc4 ho4 HB3 K3
  go_wp2_with fail
  with_reducible (refine Calls.mono K4.out ?_)
  rintro e w5 hp
  obtain ⟨rfl, rfl⟩ := hp
  go_wp2_with fail
  go_ret
  exact ⟨rfl, HB4.out.1⟩
end Go.Proofs.Ytbggoelfnolldaa
