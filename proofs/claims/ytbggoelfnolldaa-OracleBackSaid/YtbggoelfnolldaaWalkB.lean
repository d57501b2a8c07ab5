/- THE WALKS of Mod, Left, Ask (a script), in the program and the reference. -/
import Derived.Test.YtbggoelfnolldaaWalkA
import Derived.Test.YtbggoelfnolldaaLaw
namespace Go.Proofs.Ytbggoelfnolldaa
open Go.RowKit
set_option linter.unusedVariables false

theorem ret_int {k : IntKind} {a b : Int} (h : a = b) : Ending.returned (.int k a) = .returned (.int k b) := by rw [h]

def In64 (x : Int) : Prop := -9223372036854775808 ≤ x ∧ x ≤ 9223372036854775807

set_option maxHeartbeats 400000 in
theorem mod_any (w : World) (x n : Int) (hx : In64 x) (hn : 0 < n) (hn2 : In64 n) :
    Calls Try.prog 25 #[.int .i64 x, .int .i64 n] w fun e w' => e = .returned (.int .i64 (md x n)) ∧ w = w' := by
  obtain ⟨hx1, hx2⟩ := hx
  obtain ⟨_, hn2⟩ := hn2
  obtain ⟨b1, b2, b3, b4⟩ := tdiv_bound x n hn (-9223372036854775808) 9223372036854775807 hx1 hx2 (by omega) (by omega)
  have hmd := Lib.hid (show md x n = if x.tmod n < 0 then x.tmod n + n else x.tmod n from rfl)
  have hm := tmod_lt x n hn
  have hq := tdiv_mul x n
  have HN := Lib.hid hn
  go_enter Try.func25, Try.ntmps25
  go_wp2
  · have h0 : x.tmod n < 0 := by assumption
    go_ret
    exact ⟨ret_int (by rw [hmd.out, if_pos h0]), rfl⟩
  · have h0 : 0 ≤ x.tmod n := by assumption
    go_ret
    exact ⟨ret_int (by rw [hmd.out, if_neg (by omega)]), rfl⟩

/-- A script in memory: the numbers that are left. -/
structure Sc (t : TypeId) (w : World) (D : Nat → Prop) (s : Nat) (xs : List Int) (A : Option Addr) (c : Nat) : Prop where
  blk : Blk w s t #[.slice A xs.length c]
  rd : Rd w D A (ints xs)
  le : xs.length ≤ c
  fits : ∀ x ∈ xs, In64 x
def Script (t : TypeId) (w : World) (D : Nat → Prop) (s : Nat) (xs : List Int) : Prop := ∃ A c, Sc t w D s xs A c
theorem Script.only {t : TypeId} {w w' : World} {D S : Nat → Prop} {s : Nat} {xs : List Int} (h : Script t w D s xs) (ho : Only S w w') (hs : ¬ S s) (hS : ∀ b, D b → ¬ S b) : Script t w' D s xs := by
  obtain ⟨A, c, h⟩ := h
  exact ⟨A, c, h.blk.only ho hs, h.rd.only ho hS, h.le, h.fits⟩

/-- What a script answers, and what is left. -/
def ans (xs : List Int) (n : Int) : Int × Int := if n < 1 then (0, 1) else match xs with | [] => (0, 0) | x :: _ => (md x n, 0)
def rest (xs : List Int) (n : Int) : List Int := if n < 1 then xs else xs.tail

def AskPost (t : TypeId) (w : World) (D : Nat → Prop) (s : Nat) (r : Int × Int) (xs : List Int) (e : Ending) (w' : World) : Prop :=
  e = .returned (.tuple #[.int .i64 r.1, .int .i64 r.2]) ∧ Script t w' D s xs ∧ Only (fun b => b = s) w w'

theorem askPost_of {t : TypeId} {w w' : World} {D : Nat → Prop} {s : Nat} {r : Int × Int} {x y : Int} {xs : List Int} (hr : r = (x, y)) (h : Script t w' D s xs) (ho : Only (fun b => b = s) w w') :
    AskPost t w D s r xs (.returned (.tuple #[.int .i64 x, .int .i64 y])) w' := by subst hr; exact ⟨rfl, h, ho⟩

/-- The first number taken away. -/
theorem Sc.next {t : TypeId} {w : World} {D : Nat → Prop} {s : Nat} {x : Int} {xs : List Int} {A : Option Addr} {c n : Nat} (h : Sc t w D s (x :: xs) A c) (hD : ¬ D s) (hn : xs.length = n) :
    Script t (w.setCell ⟨s, 0, none⟩ (.slice (if c = 1 then A else A.map (·.add 1)) n (c - 1))) D s xs ∧ Only (fun b => b = s) w (w.setCell ⟨s, 0, none⟩ (.slice (if c = 1 then A else A.map (·.add 1)) n (c - 1))) := by
  have ho : Only (fun b => b = s) w (w.setCell ⟨s, 0, none⟩ (.slice (if c = 1 then A else A.map (·.add 1)) n (c - 1))) := (Only.refl (fun b => b = s) w).setCell (p := ⟨s, 0, none⟩) (.inl rfl) _
  have hle := h.le
  rw [List.length_cons] at hle
  subst hn
  refine ⟨⟨_, c - 1, h.blk.set_ 0 _, ?_, by omega, fun y hy => h.fits y (List.mem_cons_of_mem _ hy)⟩, ho⟩
  have := (h.rd.cut 1 c (by rw [ints_len]; simp) (by rw [ints_len]; exact h.le))
  exact this.only ho (fun b hb e => hD (e ▸ hb))

set_option maxHeartbeats 400000 in
theorem left_any (w : World) (D : Nat → Prop) (s : Nat) (xs : List Int) (h : Script 63 w D s xs) :
    Calls Try.prog 14 #[.pointer (some ⟨s, 0, none⟩)] w fun e w' => e = .returned (.int .i64 (xs.length : Int)) ∧ w = w' := by
  obtain ⟨A, c, h⟩ := h
  have h0 := h.blk.cell 0
  simp at h0
  go_enter Try.func14, Try.ntmps14
  go_wp2
  go_ret
  exact ⟨rfl, rfl⟩

set_option maxHeartbeats 400000 in
theorem ask_any (w : World) (D : Nat → Prop) (s : Nat) (xs : List Int) (kd n : Int) (h : Script 63 w D s xs) (hD : ¬ D s) (hn : In64 n) (hb : xs.length ≤ 10000) :
    Calls Try.prog 12 #[.pointer (some ⟨s, 0, none⟩), .int .i64 kd, .int .i64 n] w (AskPost 63 w D s (ans xs n) (rest xs n)) := by
  have h' := h
  obtain ⟨A, c, h⟩ := h
  have h0 := h.blk.cell 0
  have f0 := h.blk.frozen 0
  simp at h0
  by_cases hlt : n < 1
  · have hfin := Lib.hid (askPost_of (r := ans xs n) (w := w) (t := 63) (D := D) (s := s) (xs := rest xs n) (show ans xs n = (0, 1) by simp [ans, hlt]) (by rw [rest, if_pos hlt]; exact h') (Only.refl _ _))
    clear h h'
    go_enter Try.func12, Try.ntmps12
    go_wp2
    go_ret2
    exact hfin.out
  · cases xs with
    | nil =>
      have hfin := Lib.hid (askPost_of (r := ans [] n) (w := w) (t := 63) (D := D) (s := s) (xs := rest [] n) (show ans [] n = (0, 0) by simp [ans, hlt]) (by rw [rest, if_neg hlt]; exact h') (Only.refl _ _))
      clear h h'
      rw [List.length_nil] at h0
      go_enter Try.func12, Try.ntmps12
      go_wp2
      go_ret2
      exact hfin.out
    | cons x xs =>
      obtain ⟨b, off, rfl, hd, hbl, hc⟩ := h.rd (by rw [ints_len]; simp)
      have c0 : w.cell? ⟨b, off, none⟩ = some (.int .i64 x) := by have := hc 0 (.int .i64 x) rfl; rwa [Nat.add_zero] at this
      obtain ⟨hx1, hx2⟩ := h.fits x (by simp)
      have hle := h.le
      rw [List.length_cons] at hle h0 hb
      obtain ⟨m, hm⟩ : ∃ m, xs.length = m := ⟨_, rfl⟩
      obtain ⟨e1, e2⟩ := h.next hD hm
      rw [hm] at h0 hle hb
      have hne : b ≠ s := fun e => hD (e ▸ hd)
      obtain ⟨_, hn2⟩ := hn
      have hmb := tmod_lt x n (by omega)
      have hr : ans (x :: xs) n = (md x n, 0) := by simp [ans, hlt]
      have hrest : rest (x :: xs) n = xs := by rw [rest, if_neg hlt]; rfl
      have hmd : md x n = if x.tmod n < 0 then x.tmod n + n else x.tmod n := rfl
      have hr1 := fun (hneg : x.tmod n < 0) => askPost_of (t := 63) (w := w) (D := D) (s := s) (r := ans (x :: xs) n) (show ans (x :: xs) n = (x.tmod n + n, 0) by rw [hr, hmd, if_pos hneg]) e1 e2
      have hr2 := fun (hneg : ¬ x.tmod n < 0) => askPost_of (t := 63) (w := w) (D := D) (s := s) (r := ans (x :: xs) n) (show ans (x :: xs) n = (x.tmod n, 0) by rw [hr, hmd, if_neg hneg]) e1 e2
      rw [hrest]
      have HR1 := Lib.hid hr1
      have HR2 := Lib.hid hr2
      clear h h' hr hmd hrest e1 e2 hr1 hr2 hc hd hD hm
      have hlt' : (1 : Int) ≤ n := by omega
      by_cases hc1 : c = 1
      · subst hc1
        obtain rfl : m = 0 := by omega
        by_cases hneg : x.tmod n < 0
        · go_enter Try.func12, Try.ntmps12
          go_wp2
          go_ret2
          exact HR1.out hneg
        · go_enter Try.func12, Try.ntmps12
          go_wp2
          go_ret2
          exact HR2.out hneg
      · rw [if_neg hc1] at HR1 HR2
        by_cases hneg : x.tmod n < 0
        · go_enter Try.func12, Try.ntmps12
          go_wp2
          go_ret2
          exact HR1.out hneg
        · go_enter Try.func12, Try.ntmps12
          go_wp2
          go_ret2
          exact HR2.out hneg
end Go.Proofs.Ytbggoelfnolldaa
