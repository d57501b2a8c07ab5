/- THE WALKS of Record, Events, and of the reference's Same at equal lists. -/
import Derived.Test.YtbggoelfnolldaaWalkE
namespace Go.Proofs.Ytbggoelfnolldaa
open Go.RowKit
set_option linter.unusedVariables false

set_option maxHeartbeats 400000 in
theorem record_any (w : World) (s : Nat) : Calls Try.prog 8 #[.iface 27 (.pointer (some ⟨s, 0, none⟩))] w fun e w' =>
    e = .returned (.pointer (some ⟨w.heap.size, 0, none⟩)) ∧ w' = w.alloc (.cells #[.iface 27 (.pointer (some ⟨s, 0, none⟩)), .slice none 0 0] 60) := by
  go_enter Try.func8, Try.ntmps8
  go_wp2
  go_ret
  exact ⟨rfl, rfl⟩

set_option maxHeartbeats 400000 in
theorem events_any (w : World) (tp : Nat) (v : Value) (ev : List (Int × Int)) (A : Option Addr) (c : Nat) (ht : Tp w tp v ev A c) (hev : ev.length ≤ 10000) :
    Calls Try.prog 16 #[.pointer (some ⟨tp, 0, none⟩)] w (ClonePost w 64 2 ev.length (evs ev)) := by
  have h1 := ht.blk.cell 1
  simp at h1
  have hA : A = none → ev = [] := fun h => by
    have := ht.vec.none_ h
    have := ht.vec.le
    exact List.eq_nil_of_length_eq_zero (by omega)
  have KC := Lib.hid (clone_evs w (fun b => In A b) A c ev (Rd.of_vec ht.vec (by decide) (fun b h => h)) hev hA)
  clear ht hA
  generalize hN : ev.length = n at *
  have HN := Lib.hid hN
  clear hN
  go_enter Try.func16, Try.ntmps16
  go_wp2_with fail
  with_reducible (refine Calls.mono KC.out ?_)
  rintro e w1 hp
  obtain ⟨A', c', rfl, hv, hb, hbl⟩ := hp
  have HV := Lib.hid (show ClonePost w 64 2 n (evs ev) (.returned (.slice A' n c')) w1 from ⟨A', c', rfl, hv, hb, hbl⟩)
  clear hv hb hbl
  go_wp2_with fail
  go_ret
  exact HV.out

set_option maxHeartbeats 800000 in
theorem same_any (w : World) (D D2 : Nat → Prop) (A A2 : Option Addr) (c c2 : Nat) (l : List (Int × Int)) (h1 : Rd w D A (evs l)) (h2 : Rd w D2 A2 (evs l)) (hl : l.length ≤ 10000) :
    Calls Try.prog 15 #[.slice A l.length c, .slice A2 l.length c2] w fun e w' => e = .returned (.bool true) ∧ ∃ k, w' = w.drewN k := by
  have hcell : ∀ k, k < l.length → ∃ b off b2 off2, A = some ⟨b, off, none⟩ ∧ A2 = some ⟨b2, off2, none⟩ ∧ w.cell? ⟨b, off + k * 2, none⟩ = some (.int .i64 (l.getD k (0, 0)).1) ∧ w.cell? ⟨b, off + k * 2 + 1, none⟩ = some (.int .i64 (l.getD k (0, 0)).2) ∧
      w.cell? ⟨b2, off2 + k * 2, none⟩ = some (.int .i64 (l.getD k (0, 0)).1) ∧ w.cell? ⟨b2, off2 + k * 2 + 1, none⟩ = some (.int .i64 (l.getD k (0, 0)).2) := fun k hk => by
    obtain ⟨b, off, e, _, _, hc⟩ := h1 (by rw [evs_len]; omega)
    obtain ⟨b2, off2, e2, _, _, hc2⟩ := h2 (by rw [evs_len]; omega)
    have hh := evs_at hk
    exact ⟨b, off, b2, off2, e, e2, hc _ _ hh.1, by rw [Nat.add_assoc]; exact hc _ _ hh.2, hc2 _ _ hh.1, by rw [Nat.add_assoc]; exact hc2 _ _ hh.2⟩
  have HC := Lib.hid hcell
  clear hcell h1 h2
  generalize hN : l.length = n at *
  have HN := Lib.hid hN
  clear hN
  go_enter Try.func15, Try.ntmps15
  go_wp2
  go_loopw [5] (fun i wr => ∃ k : Nat, k ≤ n ∧ i = .int .i64 k ∧ ∃ q, wr = w.drewN q) (fun i _ => n - (intOf i).toNat)
  case atStart => exact ⟨0, by omega, rfl, 0, rfl⟩
  case round =>
    obtain ⟨k, hk, rfl, q, rfl⟩ := hrel
    by_cases hlt : k < n
    · obtain ⟨b, off, b2, off2, rfl, rfl, c1, c2, c3, c4⟩ := HC.out k hlt
      generalize (l.getD k (0, 0)).1 = x at *
      generalize (l.getD k (0, 0)).2 = y at *
      have i1 : (0 : Int) ≤ (k : Int) := by omega
      have i2 : (k : Int) < (n : Int) := by omega
      go_wp2_with fail
      go_quiet (fail)
      go_wp2
      go_roundw
      case rel => exact ⟨k + 1, by omega, by go_num, _, rfl⟩
      case measure => simp [intOf]; omega
    · go_wp2
      go_ret
      exact ⟨rfl, _, rfl⟩
end Go.Proofs.Ytbggoelfnolldaa
