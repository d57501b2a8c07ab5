/- THE WALK of the reference's Ask of a script. -/
import Derived.Test.YtbggoelfnolldaaWalkB
namespace Go.Proofs.Ytbggoelfnolldaa
open Go.RowKit
set_option linter.unusedVariables false

def RefPost (w : World) (D : Nat → Prop) (s : Nat) (r : Int × Int) (xs : List Int) (e : Ending) (w' : World) : Prop :=
  e = .returned (.agg #[.int .i64 r.1, .int .i64 r.2]) ∧ Script 41 w' D s xs ∧ Only (fun b => b = s) w w'
theorem refPost_of {w w1 : World} {D : Nat → Prop} {s : Nat} {r : Int × Int} {x y : Int} {xs : List Int} (hr : r = (x, y)) (h : Script 41 w1 D s xs) (ho : Only (fun b => b = s) w w1) :
    RefPost w D s r xs (.returned (.agg #[.int .i64 x, .int .i64 y])) w1 := by
  subst hr
  exact ⟨rfl, h, ho⟩

theorem Script.alloc {t : TypeId} {w : World} {D : Nat → Prop} {s : Nat} {xs : List Int} (h : Script t w D s xs) (o : Obj) : Script t (w.alloc o) D s xs :=
  h.only ((Only.refl (fun _ => False) w).alloc o) (fun h => h) (fun _ _ h => h)

set_option maxHeartbeats 800000 in
theorem rask_any (w : World) (D : Nat → Prop) (s : Nat) (xs : List Int) (kd n : Int) (h : Script 41 w D s xs) (hDs : ∀ b, D b → b < s) (hn : In64 n) (hb : xs.length ≤ 10000) :
    Calls Try.prog 22 #[.pointer (some ⟨s, 0, none⟩), .int .i64 kd, .int .i64 n] w (RefPost w D s (ans xs n) (rest xs n)) := by
  have hD : ¬ D s := fun h => Nat.lt_irrefl _ (hDs s h)
  have h' := h
  have hal : ∀ o, Script 41 (w.alloc o) D s xs := fun o => h'.alloc o
  have hoa : ∀ o, Only (fun b => b = s) w (w.alloc o) := fun o => (Only.refl _ _).alloc o
  by_cases hlt : n < 1
  · have hfin := Lib.hid (fun o => refPost_of (r := ans xs n) (w := w) (D := D) (s := s) (xs := rest xs n) (show ans xs n = (0, 1) by simp [ans, hlt]) (by rw [rest, if_pos hlt]; exact hal o) (hoa o))
    clear h h' hal hoa
    go_enter Try.func22, Try.ntmps22
    go_wp2
    exact bodyPost_ret (v := .agg #[.int .i64 0, .int .i64 1]) (by simp [results, Try.results22, go_sem]) rfl (hfin.out _)
  · obtain ⟨A, c, hs⟩ := hal (.cells #[.int .i64 0, .int .i64 0] 37)
    have h0 := hs.blk.cell 0
    have f0 := hs.blk.frozen 0
    simp at h0
    have hsl := h.only (Only.refl (fun _ => False) w) (fun h => h) (fun _ _ h => h)
    have hs_lt : s < w.heap.size := by obtain ⟨A, c, h⟩ := h; exact h.blk.lt
    cases xs with
    | nil =>
      have hfin := Lib.hid (fun o => refPost_of (r := ans [] n) (w := w) (D := D) (s := s) (xs := rest [] n) (show ans [] n = (0, 0) by simp [ans, hlt]) (by rw [rest, if_neg hlt]; exact hal o) (hoa o))
      clear h h' hal hoa hs hsl
      rw [List.length_nil] at h0
      go_enter Try.func22, Try.ntmps22
      go_wp2
      exact bodyPost_ret (v := .agg #[.int .i64 0, .int .i64 0]) (by simp [results, Try.results22, go_sem]) rfl (hfin.out _)
    | cons x xs =>
      clear h0
      obtain ⟨A1, c1, hs1⟩ := h'
      obtain ⟨b, off, rfl, hd, hbl, hc⟩ := hs1.rd (by rw [ints_len]; simp)
      have c0 : (w.alloc (.cells #[.int .i64 0, .int .i64 0] 37)).cell? ⟨b, off, none⟩ = some (.int .i64 x) := by
        have := hc 0 (.int .i64 x) rfl
        rw [Nat.add_zero] at this
        exact (World.cell?_alloc_lt w _ _ hbl).trans this
      have h0 : (w.alloc (.cells #[.int .i64 0, .int .i64 0] 37)).cell? ⟨s, 0, none⟩ = some (.slice (some ⟨b, off, none⟩) (x :: xs).length c1) := by
        exact (World.cell?_alloc_lt w _ _ hs_lt).trans (by have := hs1.blk.cell 0; simpa using this)
      have hfx := hs1.fits x (by simp)
      have hle := hs1.le
      rw [List.length_cons] at hle h0 hb
      obtain ⟨m, hm⟩ : ∃ m, xs.length = m := ⟨_, rfl⟩
      obtain ⟨e1, e2⟩ := hs1.next hD hm
      rw [hm] at h0 hle hb
      have hr : ans (x :: xs) n = (md x n, 0) := by simp [ans, hlt]
      have hrest : rest (x :: xs) n = xs := by rw [rest, if_neg hlt]; rfl
      rw [hrest, hr]
      have KM := Lib.hid (fun W => mod_any W x n hfx (by omega) hn)
      have hns : w.heap.size ≠ s := by omega
      have hlt' : (1 : Int) ≤ n := by omega
      generalize md x n = r at *
      have hE := fun o => refPost_of (r := (r, 0)) (w := w) (D := D) (s := s) rfl (e1.alloc o) (e2.alloc o)
      by_cases hc1 : c1 = 1
      · subst hc1
        obtain rfl : m = 0 := by omega
        rw [if_pos rfl] at hE
        have HE := Lib.hid hE
        clear hE h hal hoa hs hs1 hsl e1 e2 hc hd hr hrest
        go_enter Try.func22, Try.ntmps22
        go_wp2_with fail
        with_reducible (refine Calls.mono (KM.out _) ?_)
        rintro e W hp
        obtain ⟨rfl, rfl⟩ := hp
        go_wp2_with fail
        exact bodyPost_ret (v := .agg #[.int .i64 r, .int .i64 0]) (by simp [results, Try.results22, go_sem]) rfl (HE.out _)
      · rw [if_neg hc1] at hE
        have HE := Lib.hid hE
        clear hE h hal hoa hs hs1 hsl e1 e2 hc hd hr hrest
        go_enter Try.func22, Try.ntmps22
        go_wp2_with fail
        with_reducible (refine Calls.mono (KM.out _) ?_)
        rintro e W hp
        obtain ⟨rfl, rfl⟩ := hp
        go_wp2_with fail
        exact bodyPost_ret (v := .agg #[.int .i64 r, .int .i64 0]) (by simp [results, Try.results22, go_sem]) rfl (HE.out _)
end Go.Proofs.Ytbggoelfnolldaa
