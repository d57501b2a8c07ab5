/- THE WALK of the reference's 'hit'. The places asked for lie within the run. -/
import Derived.Test.YtfffaefmnjaccaaWalkA
namespace Go.Proofs.Ytfffaefmnjaccaa
open Go.RowKit

theorem int_info : (Try.prog.info? 3).map (fun i => (i.zero, i.size, i.bytes)) = some (some (.int .i64 0), 1, 8) := by kernel_rfl

def ints (l : List Nat) : List Value := l.map fun p : Nat => Value.int .i64 (p : Int)
theorem ints_len (l : List Nat) : (ints l).length = l.length := by simp [ints]
theorem ints_append (l m : List Nat) : ints (l ++ m) = ints l ++ ints m := by simp [ints]

def HitPost (w : World) (l : List Nat) (e : Ending) (w' : World) : Prop :=
  ∃ v, e = .returned v ∧ w'.ownsRow w.heap.size 3 1 v l.length (ints l) ∧ Below w.heap.size w w'

theorem own_take {w : World} {B : Nat} {v : Value} {hits : List Bool} {f k : Nat} {w' : World} (h : w.ownsRow B 3 1 v ((hl hits f k).length + 1) (ints (hl hits f k) ++ [.int .i64 ((f : Int) + k)]))
    (hb : hits.getD (f + k - 1) false = true) (hw : w' = w) : w'.ownsRow B 3 1 v (hl hits f (k + 1)).length (ints (hl hits f (k + 1))) := by
  subst hw
  rw [hl_succ, hb, if_pos rfl, List.length_append, ints_append]
  have e : ints [f + k] = [.int .i64 ((f : Int) + k)] := by simp [ints]
  rw [e]
  exact h
theorem own_skip {w : World} {B : Nat} {v : Value} {hits : List Bool} {f k : Nat} (h : w.ownsRow B 3 1 v (hl hits f k).length (ints (hl hits f k)))
    (hb : hits.getD (f + k - 1) false = false) : w.ownsRow B 3 1 v (hl hits f (k + 1)).length (ints (hl hits f (k + 1))) := by
  rw [hl_succ, hb, if_neg (by decide), List.append_nil]
  exact h

set_option maxHeartbeats 400000 in
theorem hit_any (A : Option Addr) (c : Nat) (hits : List Bool) (f m : Nat) (t : Int) (w : World) (hx : Rd w A (bools hits)) (hn : hits.length ≤ 200)
    (hf : 1 ≤ f) (hm : f + m ≤ hits.length + 1) (ht : t < f + m) (ht' : 0 < m → (f : Int) + m - 1 ≤ t) :
    Calls Try.prog 11 #[.slice A hits.length c, .int .i64 f, .int .i64 t] w fun e w' => HitPost w (hl hits f m) e w' := by
  obtain ⟨i0, hi, hz0, hz1, hz2⟩ := info_parts int_info
  have hcell : ∀ k, k < hits.length → ∃ b off, A = some ⟨b, off, none⟩ ∧ b < w.heap.size ∧ ∀ k, k < hits.length → w.cell? ⟨b, off + k, none⟩ = some (.bool (hits.getD k false)) := fun k hk => by
    obtain ⟨b, off, e, hc⟩ := hx (by rw [bools_len]; omega)
    have h1 := bools_cell hc
    exact ⟨b, off, e, World.block_lt_of_cell? w _ (h1 k hk), h1⟩
  have hmax : max (f : Int) 1 = f := by omega
  have HC := Lib.hid hcell
  clear hcell hx
  generalize hN : hits.length = n at *
  have HN := Lib.hid hN
  clear hN
  go_enter Try.func11, Try.ntmps11
  go_wp2
  go_loopw [7, 8] (fun v p wr => ∃ k : Nat, k ≤ m ∧ p = .int .i64 ((f : Int) + k) ∧ wr.ownsRow w.heap.size 3 1 v (hl hits f k).length (ints (hl hits f k)) ∧ Below w.heap.size w wr) (fun _ p _ => f + m - (intOf p).toNat)
  case atStart => exact ⟨0, by omega, rfl, World.ownsRow_nil _ _ _ _, Below.refl _ _⟩
  case round =>
    obtain ⟨k, hk, rfl, hown, hbel⟩ := hrel
    have hlen := hl_length hits f k
    by_cases hlt : k < m
    · have hle := ht' (by omega)
      have h1 : ((f + k : Nat) : Int) ≤ t := by omega
      have h2 : f + k ≤ n := by omega
      obtain ⟨b, off, rfl, hb, hcs⟩ := HC.out 0 (by omega)
      have hck : wr.cell? ⟨b, off + (f + k - 1), none⟩ = some (.bool (hits.getD (f + k - 1) false)) := by
        rw [hbel.cell (p := ⟨b, off + (f + k - 1), none⟩) hb]
        exact hcs _ (by omega)
      clear hcs hle
      cases hbit : hits.getD (f + k - 1) false with
      | true =>
        rw [hbit] at hck
        have HB := Lib.hid hbit
        clear hbit
        go_wp2_with (at_builtin; refine wpList_append_own _ rfl _ _ 35 rfl w.heap.size 3 i0 (.int .i64 0) 1 8 Try.underlying35 hi hz0 hz1 hz2 rfl (by decide) _ _ _ rfl (hown.alloc _) ⟨wr.heap.size, 0, none⟩ 1 1 [.int .i64 ((f : Int) + k)] rfl rfl ?c1 ?c2 ?c3 ?c4 ?c5 ?_)
        case c1 => exact cell_one_new _ _ _
        case c2 => intro u hu; simp at hu; subst hu; rfl
        case c3 => unfold maxLen; omega
        case c4 => omega
        case c5 => exact Nat.le_trans hbel.size (by simp)
        intro v' w1 hown1 hgr _
        have hb1 : Below w.heap.size w w1 := (hbel.alloc hbel.size _).grown hgr (Nat.le_trans hbel.size (by simp)) (fun g hg => (hown.lt g hg).1)
        clear hgr hown
        go_wp2
        go_roundw
        case rel => exact ⟨k + 1, by omega, by go_num, own_take hown1 HB.out rfl, hb1⟩
        case measure => simp [intOf]; omega
      | false =>
        rw [hbit] at hck
        have HB := Lib.hid hbit
        clear hbit
        go_wp2
        go_roundw
        case rel => exact ⟨k + 1, by omega, by go_num, own_skip hown HB.out, hbel⟩
        case measure => simp [intOf]; omega
    · obtain rfl : k = m := by omega
      go_wp2
      go_ret
      exact ⟨_, rfl, hown, hbel⟩
end Go.Proofs.Ytfffaefmnjaccaa
