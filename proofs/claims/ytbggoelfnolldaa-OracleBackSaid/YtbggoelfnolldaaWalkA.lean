/- WORDS on what is read; THE WALKS of slices.Clone at ints and at events. A length fits. -/
import Derived.Test.YtbggoelfnolldaaProg
import Derived.Test.YtbggoelfnolldaaVec
import Derived.WalkKit
import Derived.WalkSpells
import Derived.WalkLawsBesides
import Derived.Lib.Hide
import Derived.Lib.SliceRun
import Derived.ProofKit
import Derived.Deep.QuietTactic
import Derived.BigQuiet
import Derived.Deep.RegionHeld3
namespace Go.Proofs.Ytbggoelfnolldaa
open Go.RowKit
set_option linter.unusedVariables false

/-- The slice whose first cell is at A holds just these cells, in a block of D. -/
def Rd (w : World) (D : Nat → Prop) (A : Option Addr) (xs : List Value) : Prop :=
  0 < xs.length → ∃ b off, A = some ⟨b, off, none⟩ ∧ D b ∧ b < w.heap.size ∧ ∀ j u, xs[j]? = some u → w.cell? ⟨b, off + j, none⟩ = some u

section
variable {w w' : World} {D : Nat → Prop} {A : Option Addr} {xs : List Value} {S : Nat → Prop}
theorem Rd.only (h : Rd w D A xs) (ho : Only S w w') (hS : ∀ b, D b → ¬ S b) : Rd w' D A xs := fun hn => by
  obtain ⟨b, off, e, hd, hb, hc⟩ := h hn
  exact ⟨b, off, e, hd, Nat.lt_of_lt_of_le hb ho.size, fun j u hu => (World.cell?_of_block (ho.block b hb (hS b hd))).trans (hc j u hu)⟩
theorem Rd.quiet (h : Rd w D A xs) (ho : Only (fun _ => False) w w') : Rd w' D A xs := h.only ho (fun _ _ h => h)
theorem Rd.cut (h : Rd w D A xs) (k cap : Nat) (hk : k ≤ xs.length) (hc : xs.length ≤ cap) : Rd w D (if cap = k then A else A.map (·.add k)) (xs.drop k) := fun hn => by
  rw [List.length_drop] at hn
  obtain ⟨b, off, rfl, hd, hb, hcell⟩ := h (by omega)
  rw [if_neg (by omega)]
  refine ⟨b, off + k, ?_, hd, hb, fun j u hu => ?_⟩
  · simp only [Option.map_some, Addr.add]
    split <;> simp_all
  · rw [Nat.add_assoc]
    exact hcell _ u (by rw [← hu, List.getElem?_drop])
theorem Rd.of_vec {e : TypeId} {size n cap : Nat} (h : Vec w e size A n cap xs) (hn : 0 < size) (hD : ∀ b, In A b → D b) : Rd w D A xs := fun hx => by
  have h0 : 0 < n := by
    rcases Nat.eq_zero_or_pos n with h0 | h0
    · have := h.len; rw [h0, Nat.zero_mul] at this; omega
    · exact h0
  obtain ⟨b, off, rfl, hb, hc⟩ := h.cell h0
  exact ⟨b, off, rfl, hD b rfl, hb, hc⟩
end

def ints (l : List Int) : List Value := l.map (Value.int .i64)
theorem ints_len (l : List Int) : (ints l).length = l.length := by simp [ints]
/-- Events in cells: kind, number. -/
def evs (l : List (Int × Int)) : List Value := l.flatMap fun m => [.int .i64 m.1, .int .i64 m.2]
theorem evs_len (l : List (Int × Int)) : (evs l).length = l.length * 2 := by
  induction l with
  | nil => rfl
  | cons m l ih => simp only [evs, List.flatMap_cons, List.length_append, List.length_cons, List.length_nil] at ih ⊢; omega
theorem evs_append (l m : List (Int × Int)) : evs (l ++ m) = evs l ++ evs m := by simp [evs]
theorem evs_at {l : List (Int × Int)} : ∀ {k : Nat}, k < l.length → (evs l)[k * 2]? = some (.int .i64 (l.getD k (0, 0)).1) ∧ (evs l)[k * 2 + 1]? = some (.int .i64 (l.getD k (0, 0)).2) := by
  induction l with
  | nil => intro k h; simp at h
  | cons m l ih =>
    intro k h
    have e : evs (m :: l) = .int .i64 m.1 :: .int .i64 m.2 :: evs l := by simp [evs]
    rw [e]
    match k with
    | 0 => exact ⟨rfl, rfl⟩
    | k + 1 =>
      have := ih (k := k) (by simp at h; omega)
      rw [show (k + 1) * 2 = k * 2 + 1 + 1 by omega]
      exact this
theorem ints_one (l : List Int) : ∀ u ∈ ints l, u.oneCell' = true := by
  intro u hu; simp only [ints, List.mem_map] at hu; obtain ⟨x, _, rfl⟩ := hu; rfl
theorem evs_one (l : List (Int × Int)) : ∀ u ∈ evs l, u.oneCell' = true := by
  intro u hu; simp only [evs, List.mem_flatMap] at hu; obtain ⟨x, _, h⟩ := hu; simp at h; rcases h with rfl | rfl <;> rfl

theorem int_info : (Try.prog.info? 3).map (fun i => (i.zero, i.size, i.bytes)) = some (some (.int .i64 0), 1, 8) := by kernel_rfl
theorem ev_info : (Try.prog.info? 64).map (fun i => (i.zero, i.size, i.bytes)) = some (some (.agg #[.int .i64 0, .int .i64 0]), 2, 16) := by kernel_rfl

def ClonePost (w : World) (e : TypeId) (size n : Nat) (xs : List Value) (en : Ending) (w' : World) : Prop :=
  ∃ A' c', en = .returned (.slice A' n c') ∧ Vec w' e size A' n c' xs ∧ (∀ b, In A' b → w.heap.size ≤ b) ∧ Below w.heap.size w w'

theorem empty_vec (w : World) (e : TypeId) (size : Nat) : Vec (w.alloc (.cells #[] e)) e size (some ⟨w.heap.size, 0, none⟩) 0 0 [] :=
  ⟨by simp, Nat.le_refl _, Nat.zero_le _, fun a ha => by cases ha; exact ⟨w.heap.size, 0, #[], rfl, Blk.new _ _ _, by simp, fun j hj => by omega⟩, fun h => (nomatch h)⟩

theorem clone_end {w w1 : World} {e : TypeId} {size n cap' : Nat} {A' : Addr} {xs : List Value} (hv : Vec w1 e size (some A') n cap' xs) (ho : Only (In (some ⟨w.heap.size, 0, none⟩)) (w.alloc (.cells #[] e)) w1)
    (hA : A' = ⟨w.heap.size, 0, none⟩ ∨ ∃ g, A' = ⟨g, 0, none⟩ ∧ w.heap.size + 1 ≤ g) : ClonePost w e size n xs (.returned (.slice (some A') n cap')) w1 := by
  refine ⟨_, _, rfl, hv, fun b hb => ?_, ?_⟩
  · rcases hA with rfl | ⟨g, rfl, hg⟩
    · cases hb; exact Nat.le_refl _
    · cases hb; exact Nat.le_of_succ_le hg
  · have h1 : Only (fun b => b = w.heap.size) w w1 := by
      refine ((Only.refl (fun b => b = w.heap.size) w).alloc _).trans ho (fun i _ h => ?_)
      cases h; rfl
    exact h1.below (Nat.le_refl _) (fun i h => by omega)

set_option maxHeartbeats 800000 in
theorem clone_ints (w : World) (D : Nat → Prop) (A : Option Addr) (c : Nat) (xs : List Int) (hx : Rd w D A (ints xs)) (hn : xs.length ≤ 10000) (hA : A = none → xs = []) :
    Calls Try.prog 21 #[.slice A xs.length c] w (ClonePost w 3 1 xs.length (ints xs)) := by
  have hnil := fun W => Lib.run_eql_slice_nil (P := Try.prog) W 22 3 A xs.length c 0 0 Try.underlying22
  obtain ⟨i0, hi, hz0, hz1, hz2⟩ := info_parts int_info
  cases A with
  | none =>
    obtain rfl := hA rfl
    have hnil0 := fun W => Lib.run_eql_slice_nil (P := Try.prog) W 22 3 none 0 c 0 0 Try.underlying22
    clear hnil
    rw [show ([] : List Int).length = 0 from rfl]
    go_enter Try.func21, Try.ntmps21
    go_wp2
    go_ret
    exact ⟨none, 0, rfl, Vec.nil_ _ _ _, fun b h => (nomatch h), Below.refl _ _⟩
  | some a =>
    have HX := Lib.hid hx
    clear hx
    go_enter Try.func21, Try.ntmps21
    go_wp2_with (at_builtin; refine wpList_append_vec _ rfl _ _ 22 rfl 3 i0 (.int .i64 0) 1 8 Try.underlying22 hi hz0 hz1 hz2 rfl (by decide) _ _ _ _ rfl (empty_vec w 3 1) a xs.length c (ints xs) rfl (by rw [ints_len, Nat.mul_one]) ?c1 (ints_one xs) ?c0 ?c3 ?c4 ?_)
    case c1 =>
      intro j u hu
      have hl : 0 < (ints xs).length := by have := (List.getElem?_eq_some_iff.1 hu).1; omega
      obtain ⟨b, off, e, _, hb, hc⟩ := HX.out hl
      cases e
      rw [show ((⟨b, off, none⟩ : Addr).add j) = ⟨b, off + j, none⟩ by unfold Addr.add; split <;> simp_all]
      exact (World.cell?_alloc_lt w _ _ hb).trans (hc j u hu)
    case c0 => intro h; cases h
    case c3 => unfold maxLen; omega
    case c4 => omega
    intro A' cap' w1 hv ho hA'
    have HE := Lib.hid (clone_end hv ho hA')
    clear hv ho hA'
    go_wp2
    go_ret
    exact HE.out
set_option maxHeartbeats 800000 in
theorem clone_evs (w : World) (D : Nat → Prop) (A : Option Addr) (c : Nat) (xs : List (Int × Int)) (hx : Rd w D A (evs xs)) (hn : xs.length ≤ 10000) (hA : A = none → xs = []) :
    Calls Try.prog 24 #[.slice A xs.length c] w (ClonePost w 64 2 xs.length (evs xs)) := by
  have hnil := fun W => Lib.run_eql_slice_nil (P := Try.prog) W 44 64 A xs.length c 0 0 Try.underlying44
  obtain ⟨i0, hi, hz0, hz1, hz2⟩ := info_parts ev_info
  cases A with
  | none =>
    obtain rfl := hA rfl
    have hnil0 := fun W => Lib.run_eql_slice_nil (P := Try.prog) W 44 64 none 0 c 0 0 Try.underlying44
    clear hnil
    rw [show ([] : List (Int × Int)).length = 0 from rfl]
    go_enter Try.func24, Try.ntmps24
    go_wp2
    go_ret
    exact ⟨none, 0, rfl, Vec.nil_ _ _ _, fun b h => (nomatch h), Below.refl _ _⟩
  | some a =>
    have HX := Lib.hid hx
    clear hx
    go_enter Try.func24, Try.ntmps24
    go_wp2_with (at_builtin; refine wpList_append_vec _ rfl _ _ 44 rfl 64 i0 (.agg #[.int .i64 0, .int .i64 0]) 2 16 Try.underlying44 hi hz0 hz1 hz2 rfl (by decide) _ _ _ _ rfl (empty_vec w 64 2) a xs.length c (evs xs) rfl (by rw [evs_len]) ?c1 (evs_one xs) ?c0 ?c3 ?c4 ?_)
    case c1 =>
      intro j u hu
      have hl : 0 < (evs xs).length := by have := (List.getElem?_eq_some_iff.1 hu).1; omega
      obtain ⟨b, off, e, _, hb, hc⟩ := HX.out hl
      cases e
      rw [show ((⟨b, off, none⟩ : Addr).add j) = ⟨b, off + j, none⟩ by unfold Addr.add; split <;> simp_all]
      exact (World.cell?_alloc_lt w _ _ hb).trans (hc j u hu)
    case c0 => intro h; cases h
    case c3 => unfold maxLen; omega
    case c4 => omega
    intro A' cap' w1 hv ho hA'
    have HE := Lib.hid (clone_end hv ho hA')
    clear hv ho hA'
    go_wp2
    go_ret
    exact HE.out
end Go.Proofs.Ytbggoelfnolldaa
