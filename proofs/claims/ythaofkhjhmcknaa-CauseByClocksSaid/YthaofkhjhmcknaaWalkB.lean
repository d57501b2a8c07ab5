/- THE WALKS of slices.Index, Contains, IndexFunc, ContainsFunc; touch in the program and the reference. No condition. -/
import Derived.Test.YthaofkhjhmcknaaWalkA
namespace Go.Proofs.Ythaofkhjhmcknaa
open Go.RowKit
set_option linter.unusedVariables false

/-- Cells that can be read. -/
def Rd (w : World) (A : Option Addr) (xs : List Value) : Prop :=
  0 < xs.length → ∃ b off, A = some ⟨b, off, none⟩ ∧ b < w.heap.size ∧ ∀ j u, xs[j]? = some u → w.cell? ⟨b, off + j, none⟩ = some u
theorem Rd.of_vec {w : World} {A : Option Addr} {xs : List Value} {e : TypeId} {size n cap : Nat} (h : Vec w e size A n cap xs) (hn : 0 < size) : Rd w A xs := fun hx => by
  have h0 : 0 < n := by
    rcases Nat.eq_zero_or_pos n with h0 | h0
    · have := h.len; rw [h0, Nat.zero_mul] at this; omega
    · exact h0
  obtain ⟨b, off, rfl, hb, hc⟩ := h.cell h0
  exact ⟨b, off, rfl, hb, hc⟩
theorem Rd.below {w w' : World} {A : Option Addr} {xs : List Value} (h : Rd w A xs) (hb : Below w.heap.size w w') : Rd w' A xs := fun hx => by
  obtain ⟨b, off, e, hlt, hc⟩ := h hx
  exact ⟨b, off, e, Nat.lt_of_lt_of_le hlt hb.size, fun j u hu => (hb.cell (p := ⟨b, off + j, none⟩) hlt).trans (hc j u hu)⟩
theorem ints_at {l : List Int} {k : Nat} (h : k < l.length) : (ints l)[k]? = some (.int .i64 (l.getD k 0)) := by simp [ints, List.getD, h]

def FoundPost (Q : World → Prop) (r : Bool) (e : Ending) (w' : World) : Prop := ∃ i : Int, e = .returned (.int .i64 i) ∧ decide (0 ≤ i) = r ∧ Q w'
theorem any_at {p : Int → Bool} {xs : List Int} {k : Nat} (h : k < xs.length) (hp : p (xs.getD k 0) = true) : xs.any p = true := by
  rw [List.any_eq_true]; refine ⟨xs.getD k 0, ?_, hp⟩
  simp [List.getD, h]
theorem any_none {p : Int → Bool} {xs : List Int} {n : Nat} (hn : xs.length = n) (h : ∀ j, j < n → p (xs.getD j 0) = false) : xs.any p = false := by
  rw [List.any_eq_false]
  intro x hx
  obtain ⟨j, hj, rfl⟩ := List.getElem_of_mem hx
  have := h j (by omega)
  simp only [List.getD, List.getElem?_eq_getElem hj, Option.getD_some] at this
  simp [this]

set_option maxHeartbeats 800000 in
theorem index_any (A : Option Addr) (c : Nat) (xs : List Int) (x : Int) (w : World) (h : Rd w A (ints xs)) (hn : xs.length ≤ 10000) :
    Calls Try.prog 41 #[.slice A xs.length c, .int .i64 x] w (FoundPost (fun w' => w = w') (xs.contains x)) := by
  rw [show xs.contains x = xs.any (fun y => x == y) by rw [List.contains_eq_any_beq]]
  have H := Lib.hid h
  clear h
  generalize hN : xs.length = n at *
  have HN := Lib.hid hN
  clear hN
  have HP := Lib.hid (fun (i : Int) (r : Bool) (h : decide (0 ≤ i) = r) => (show FoundPost (fun w' => w = w') r (.returned (.int .i64 i)) w from ⟨i, rfl, h, rfl⟩))
  go_enter Try.func41, Try.ntmps41
  go_wp2
  go_loop [8] (fun i => ∃ k : Nat, k ≤ n ∧ i = .int .i64 k ∧ Hid (∀ j, j < k → (x == xs.getD j 0) = false)) (fun i => n - (intOf i).toNat)
  case atStart => exact ⟨0, Nat.zero_le _, rfl, fun j hj => by omega⟩
  case round =>
    obtain ⟨k, hk, rfl, hno⟩ := hrel
    by_cases hlt : k < n
    · obtain ⟨b, off, rfl, hb, hc⟩ := H.out (by rw [ints_len, HN.out]; omega)
      have d1 := hc k _ (ints_at (by rw [HN.out]; exact hlt))
      have i1 : (0 : Int) ≤ (k : Int) := by omega
      have i2 : (k : Int) < (n : Int) := by omega
      clear hc
      by_cases hx : (x == xs.getD k 0) = true
      · have HA := Lib.hid (any_at (p := fun y => x == y) (by rw [HN.out]; exact hlt) hx)
        generalize xs.getD k 0 = y at *
        go_wp2
        go_ret
        exact HP.out _ _ (by rw [HA.out]; simp)
      · have hx2 : (x == xs.getD k 0) = false := by simpa using hx
        have HA : Hid (∀ j, j < k + 1 → (x == xs.getD j 0) = false) := fun j hj => by
          by_cases e : j = k
          · subst e; exact hx2
          · exact hno.out j (by omega)
        clear hno hx
        generalize xs.getD k 0 = y at *
        go_wp2
        go_round
        case rel => exact ⟨k + 1, by omega, by go_num, HA⟩
        case measure => simp [intOf]; omega
    · obtain rfl : n = k := by omega
      have HA := Lib.hid (any_none (p := fun y => x == y) HN.out hno.out)
      clear hno
      go_wp2
      go_ret
      exact HP.out _ _ (by rw [HA.out]; rfl)

theorem contains_any (A : Option Addr) (c : Nat) (xs : List Int) (x : Int) (w : World) (h : Rd w A (ints xs)) (hn : xs.length ≤ 10000) :
    Calls Try.prog 33 #[.slice A xs.length c, .int .i64 x] w fun e w' => e = .returned (.bool (xs.contains x)) ∧ w = w' := by
  have K := Lib.hid (index_any A c xs x w h hn)
  clear h
  generalize xs.contains x = r at *
  generalize xs.length = n at *
  go_enter Try.func33, Try.ntmps33
  go_wp2_with fail
  with_reducible (refine Calls.mono K.out ?_)
  rintro e w1 ⟨i, rfl, hi, rfl⟩
  have HI := Lib.hid hi
  clear hi
  go_wp2_with fail
  go_ret
  exact ⟨ret_bool HI.out, rfl⟩

theorem agg_cells {w : World} {b : Nat} {h : Hap} (hb : Blk w b 34 h.cs.toArray) : w.cell? ⟨b, 0, none⟩ = some (.int .i64 h.kd) ∧ w.cell? ⟨b, 1, none⟩ = some (.int .i64 h.who) ∧ w.cell? ⟨b, 2, none⟩ = some (.int .i64 h.st) ∧ w.cell? ⟨b, 3, none⟩ = some (.int .i64 h.ch) ∧ w.cell? ⟨b, 4, none⟩ = some (.int .i64 h.peer) :=
  ⟨hb.cell 0, hb.cell 1, hb.cell 2, hb.cell 3, hb.cell 4⟩

theorem touch1_any (n : Int) (b : Nat) (y : Hap) (w : World) (hb : Blk w b 34 y.cs.toArray) :
    Calls Try.prog 32 #[.int .i64 n, .pointer (some ⟨b, 0, none⟩)] w (BoolPost w ((parts y.pr).contains n)) := by
  obtain ⟨c0, c1, c2, c3, c4⟩ := agg_cells hb
  have K := Lib.hid (parts_any y w)
  have K2 := Lib.hid (fun A c W h => contains_any A c (parts y.pr) n W h (by unfold parts; split <;> simp))
  clear hb
  obtain ⟨kd, who, st, ch, peer⟩ := y
  dsimp only [Hap.cs, Hap.pr] at *
  generalize (parts (who, peer)).contains n = r at *
  generalize parts (who, peer) = l at *
  go_enter Try.func32, Try.ntmps32
  go_wp2_with fail
  with_reducible (refine Calls.mono K.out ?_)
  rintro e w1 ⟨A, c, rfl, hv, -, hbl⟩
  have KC := Lib.hid (K2.out A c w1 (Rd.of_vec hv (by decide)))
  have HB := Lib.hid hbl
  clear hv hbl K2 K
  generalize l.length = m at *
  go_wp2_with fail
  with_reducible (refine Calls.mono KC.out ?_)
  rintro e w1 ⟨rfl, rfl⟩
  go_wp2_with fail
  go_ret
  exact ⟨rfl, HB.out⟩
end Go.Proofs.Ythaofkhjhmcknaa
