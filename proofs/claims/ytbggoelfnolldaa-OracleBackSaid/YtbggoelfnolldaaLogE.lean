/- THE WALKS of Replay, the reference's From, Read. -/
import Derived.Test.YtbggoelfnolldaaLogD
namespace Go.Proofs.Ytbggoelfnolldaa
open Go.RowKit
set_option linter.unusedVariables false

def ReplayPost (w : World) (l : List (Int × Int)) (e : Ending) (w' : World) : Prop :=
  ∃ s, e = .returned (.pointer (some ⟨s, 0, none⟩)) ∧ w.heap.size ≤ s ∧ s < w'.heap.size ∧ Lg 67 w' (fun b => w.heap.size ≤ b ∧ b < s) s l 0 ∧ Below w.heap.size w w'

set_option maxHeartbeats 400000 in
theorem replay_any (w : World) (D : Nat → Prop) (A : Option Addr) (c : Nat) (l : List (Int × Int)) (hx : Rd w D A (evs l)) (hn : l.length ≤ 10000) (hA : A = none → l = []) :
    Calls Try.prog 19 #[.slice A l.length c] w (ReplayPost w l) := by
  have KC := Lib.hid (clone_evs w D A c l hx hn hA)
  clear hx hA
  generalize hN : l.length = n at *
  have HN := Lib.hid hN
  clear hN
  go_enter Try.func19, Try.ntmps19
  go_wp2_with fail
  with_reducible (refine Calls.mono KC.out ?_)
  rintro e w1 hp
  obtain ⟨A', c', rfl, hv, hb, hbl⟩ := hp
  have hfin : ReplayPost w l (.returned (.pointer (some ⟨w1.heap.size, 0, none⟩))) (w1.alloc (.cells #[.slice A' n c', .int .i64 0] 67)) := by
    refine ⟨w1.heap.size, rfl, hbl.size, by simp, ⟨A', c', ?_, ?_, Nat.zero_le _⟩, hbl.alloc hbl.size _⟩
    · rw [HN.out]; exact Blk.new _ _ _
    · exact (Rd.of_vec hv (by omega) (fun b h => ⟨hb b h, hv.lt b h⟩)).quiet ((Only.refl _ _).alloc _)
  have HF2 := Lib.hid hfin
  clear hv hb hbl hfin
  go_wp2
  go_ret
  exact HF2.out

def FromPost (w : World) (B : Nat) (l : List (Int × Int)) (e : Ending) (w' : World) : Prop :=
  e = .returned (.pointer (some ⟨w.heap.size + 1, 0, none⟩)) ∧ Lg 55 w' (fun b => b < B) w.heap.size l 0 ∧ Blk w' (w.heap.size + 1) 46 #[.pointer none, .pointer (some ⟨w.heap.size, 0, none⟩), .slice none 0 0] ∧ Below w.heap.size w w' ∧ w.heap.size + 1 < w'.heap.size

set_option maxHeartbeats 400000 in
theorem from_any (w : World) (B : Nat) (A : Option Addr) (c : Nat) (l : List (Int × Int)) (hx : Rd w (fun b => b < B) A (evs l)) (hB : B ≤ w.heap.size) :
    Calls Try.prog 20 #[.slice A l.length c] w (FromPost w B l) := by
  have hfin : FromPost w B l (.returned (.pointer (some ⟨w.heap.size + 1, 0, none⟩))) ((w.alloc (.cells #[.slice A l.length c, .int .i64 0] 55)).alloc (.cells #[.pointer none, .pointer (some ⟨w.heap.size, 0, none⟩), .slice none 0 0] 46)) := by
    refine ⟨rfl, ⟨A, c, (Blk.new w 55 _).alloc _, (hx.quiet ((Only.refl _ _).alloc _)).quiet ((Only.refl _ _).alloc _), Nat.zero_le _⟩, ?_, ((Below.refl _ _).alloc (Nat.le_refl _) _).alloc (by simp) _, by simp⟩
    have := Blk.new (w.alloc (.cells #[.slice A l.length c, .int .i64 0] 55)) 46 #[.pointer none, .pointer (some ⟨w.heap.size, 0, none⟩), .slice none 0 0]
    rw [World.size_alloc] at this
    exact this
  have HF := Lib.hid hfin
  clear hx hfin
  go_enter Try.func20, Try.ntmps20
  go_wp2
  go_ret
  exact HF.out

theorem read_any (w : World) (D : Nat → Prop) (s : Nat) (l : List (Int × Int)) (k : Nat) (h : Lg 67 w D s l k) :
    Calls Try.prog 18 #[.pointer (some ⟨s, 0, none⟩)] w fun e w' => e = .returned (.int .i64 (k : Int)) ∧ w = w' := by
  obtain ⟨A, c, h⟩ := h
  have h0 := h.blk.cell 1
  simp at h0
  go_enter Try.func18, Try.ntmps18
  go_wp2
  go_ret
  exact ⟨rfl, rfl⟩

set_option maxHeartbeats 400000 in
theorem recordl_any (w : World) (s : Nat) : Calls Try.prog 8 #[.iface 50 (.pointer (some ⟨s, 0, none⟩))] w fun e w' =>
    e = .returned (.pointer (some ⟨w.heap.size, 0, none⟩)) ∧ w' = w.alloc (.cells #[.iface 50 (.pointer (some ⟨s, 0, none⟩)), .slice none 0 0] 60) := by
  go_enter Try.func8, Try.ntmps8
  go_wp2
  go_ret
  exact ⟨rfl, rfl⟩
end Go.Proofs.Ytbggoelfnolldaa
