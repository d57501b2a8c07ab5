/- WORDS on what is read; THE WALKS of actor, name, has, parts. No condition. -/
import Derived.Test.YthaofkhjhmcknaaProg
import Derived.Test.YthaofkhjhmcknaaVec
import Derived.Test.YthaofkhjhmcknaaLaw
import Derived.WalkKit
import Derived.WalkSpells
import Derived.WalkLawsBesides
import Derived.Lib.Hide
import Derived.Lib.SliceRun
import Derived.ProofKit
import Derived.Deep.QuietTactic
import Derived.BigQuiet
import Derived.Deep.RegionHeld3
namespace Go.Proofs.Ythaofkhjhmcknaa
open Go.RowKit
set_option linter.unusedVariables false

theorem ret_int {k : IntKind} {a b : Int} (h : a = b) : Ending.returned (.int k a) = .returned (.int k b) := by rw [h]
theorem ret_bool {a b : Bool} (h : a = b) : Ending.returned (.bool a) = .returned (.bool b) := by rw [h]
def ints (l : List Int) : List Value := l.map (Value.int .i64)
theorem ints_len (l : List Int) : (ints l).length = l.length := by simp [ints]
theorem ints_one (l : List Int) : ∀ u ∈ ints l, u.oneCell' = true := by
  intro u hu; simp only [ints, List.mem_map] at hu; obtain ⟨x, _, rfl⟩ := hu; rfl
theorem int_info : (Try.prog.info? 3).map (fun i => (i.zero, i.size, i.bytes)) = some (some (.int .i64 0), 1, 8) := by kernel_rfl
def In64 (x : Int) : Prop := -9223372036854775808 ≤ x ∧ x ≤ 9223372036854775807

/-- A step: what, who, by which statement, on which channel, with whom. -/
structure Hap where
  kd : Int
  who : Int
  st : Int
  ch : Int
  peer : Int
def Hap.pr (h : Hap) : Int × Int := (h.who, h.peer)
def Hap.cs (h : Hap) : List Value := [.int .i64 h.kd, .int .i64 h.who, .int .i64 h.st, .int .i64 h.ch, .int .i64 h.peer]

theorem actor_any (n : Int) (w : World) : Calls Try.prog 35 #[.int .i64 n] w fun e w' => e = .returned (.int .i64 (nm n)) ∧ w = w' := by
  have H := Lib.hid (show nm n = if n < 0 then 0 else if 63 < n then 64 else n + 1 from rfl)
  go_enter Try.func35, Try.ntmps35
  go_wp2
  all_goals
    go_ret
    refine ⟨ret_int ?_, rfl⟩
    rw [H.out]
    repeat' split
    all_goals (first | rfl | (exfalso; split at * <;> omega) | omega)
set_option maxHeartbeats 400000 in
theorem name_any (n : Int) (w : World) : Calls Try.prog 37 #[.int .i64 n] w fun e w' => e = .returned (.int .i64 (nm n)) ∧ w = w' := by
  have H := Lib.hid (show nm n = if n < 0 then 0 else if 63 < n then 64 else n + 1 from rfl)
  by_cases h1 : n < 0
  · go_enter Try.func37, Try.ntmps37
    go_wp2
    go_ret
    exact ⟨ret_int (by rw [H.out, if_pos h1]), rfl⟩
  · by_cases h2 : 63 < n
    · go_enter Try.func37, Try.ntmps37
      go_wp2
      go_ret
      exact ⟨ret_int (by rw [H.out, if_neg (by omega), if_pos h2]), rfl⟩
    · go_enter Try.func37, Try.ntmps37
      go_wp2
      go_ret
      exact ⟨ret_int (by rw [H.out, if_neg (by omega), if_neg (by omega)]), rfl⟩

def BoolPost (w : World) (r : Bool) (e : Ending) (w' : World) : Prop := e = .returned (.bool r) ∧ Below w.heap.size w w'

theorem has_any (h : Hap) (x : Int) (w : World) : Calls Try.prog 34 #[.agg h.cs.toArray, .int .i64 x] w (BoolPost w (decide (has h.pr x))) := by
  have H := Lib.hid (show has h.pr x ↔ (nm h.who = x ∨ (0 ≤ h.peer ∧ nm h.peer = x)) from Iff.rfl)
  have K := Lib.hid name_any
  obtain ⟨kd, who, st, ch, peer⟩ := h
  dsimp only [Hap.cs, Hap.pr] at *
  generalize hb : decide (has (who, peer) x) = r
  have HR := Lib.hid hb
  clear hb
  go_enter Try.func34, Try.ntmps34
  go_wp2_with (go_at_call 37; refine (K.out _ _).mono ?_; rintro e w' ⟨rfl, rfl⟩)
  · rename_i h1
    go_ret
    exact ⟨ret_bool (by simp [H.out, h1]), (Below.refl _ _).alloc (Nat.le_refl _) _⟩
  · rename_i h1 h2
    go_ret
    exact ⟨ret_bool (by rw [Bool.eq_iff_iff]; simp [H.out, h1, h2]), (Below.refl _ _).alloc (Nat.le_refl _) _⟩
  · rename_i h1 h2
    have h3 : ¬ 0 ≤ peer := by omega
    go_ret
    exact ⟨ret_bool (by rw [Bool.eq_iff_iff]; simp [H.out, h1, h3]), (Below.refl _ _).alloc (Nat.le_refl _) _⟩

/-- A slice of the call's own that holds the numbers l. -/
def IntsPost (w : World) (l : List Int) (e : Ending) (w' : World) : Prop :=
  ∃ A' c', e = .returned (.slice A' l.length c') ∧ Vec w' 3 1 A' l.length c' (ints l) ∧ (∀ b, In A' b → w.heap.size ≤ b) ∧ Below w.heap.size w w'

theorem one_new (w : World) (x : Value) (t : TypeId) : ∀ (j : Nat) (u : Value), [x][j]? = some u → (w.alloc (.cells #[x] t)).cell? ((⟨w.heap.size, 0, none⟩ : Addr).add j) = some u := by
  intro j u hu
  rw [show ((⟨w.heap.size, 0, none⟩ : Addr).add j) = ⟨w.heap.size, j, none⟩ by unfold Addr.add; split <;> simp_all, World.cell?_alloc_new]
  match j, hu with
  | 0, h => exact h
theorem one_at (w : World) (x : Value) (t : TypeId) {n : Nat} (hn : n = w.heap.size) : ∀ (j : Nat) (u : Value), [x][j]? = some u → (w.alloc (.cells #[x] t)).cell? ((⟨n, 0, none⟩ : Addr).add j) = some u := by
  subst hn; exact one_new w x t
theorem one_vec (w : World) (x : Value) (t : TypeId) : Vec (w.alloc (.cells #[x] t)) t 1 (some ⟨w.heap.size, 0, none⟩) 1 1 [x] :=
  ⟨rfl, Nat.le_refl _, by decide, fun a ha => by cases ha; exact ⟨_, 0, _, rfl, Blk.new _ _ _, by simp, fun j hj => by simp⟩, fun h => (nomatch h)⟩

theorem one_vecat (w : World) (x : Value) (t : TypeId) {n : Nat} (hn : n = w.heap.size) : Vec (w.alloc (.cells #[x] t)) t 1 (some ⟨n, 0, none⟩) 1 1 [x] := by
  subst hn; exact one_vec w x t
theorem intsPost_one (w : World) (l : List Int) (a : Int) (o : Obj) (hl : l = [a]) : IntsPost w l (.returned (.slice (some ⟨w.heap.size + 1, 0, none⟩) 1 1)) ((w.alloc o).alloc (.cells #[.int .i64 a] 3)) := by
  subst hl
  have := one_vec (w.alloc o) (.int .i64 a) 3
  rw [World.size_alloc] at this
  exact ⟨_, _, rfl, this, fun b hb => by cases hb; simp, ((Below.refl _ _).alloc (Nat.le_refl _) _).alloc (by simp) _⟩

set_option maxHeartbeats 800000 in
theorem parts_any (h : Hap) (w : World) : Calls Try.prog 25 #[.agg h.cs.toArray] w (IntsPost w (parts h.pr)) := by
  have H := Lib.hid (show parts h.pr = if 0 ≤ h.peer ∧ nm h.peer ≠ nm h.who then [nm h.who, nm h.peer] else [nm h.who] from rfl)
  have K1 := Lib.hid (actor_any h.who)
  have K2 := Lib.hid (actor_any h.peer)
  obtain ⟨kd, who, st, ch, peer⟩ := h
  dsimp only [Hap.cs, Hap.pr] at *
  generalize parts (who, peer) = l at *
  generalize nm who = a at *
  generalize nm peer = p at *
  obtain ⟨i0, hi, hz0, hz1, hz2⟩ := info_parts int_info
  by_cases c1 : 0 ≤ peer
  · by_cases c2 : p = a
    · subst c2
      have HL := Lib.hid (intsPost_one w l p (.cells #[.int .i64 kd, .int .i64 who, .int .i64 st, .int .i64 ch, .int .i64 peer] 34) (H.out.trans (if_neg (fun h => h.2 rfl))))
      clear H
      go_enter Try.func25, Try.ntmps25
      go_wp2_with (go_at_call 35; first | ((with_reducible refine (K1.out _).mono ?_); rintro e w' ⟨rfl, rfl⟩) | ((with_reducible refine (K2.out _).mono ?_); rintro e w' ⟨rfl, rfl⟩))
      go_ret
      exact HL.out
    · have hne : (p != a) = true := by simpa using c2
      have HL := Lib.hid (H.out.trans (if_pos ⟨c1, c2⟩))
      clear H c2
      go_enter Try.func25, Try.ntmps25
      go_wp2_with (first | (go_at_call 35; first | ((with_reducible refine (K1.out _).mono ?_); rintro e w' ⟨rfl, rfl⟩) | ((with_reducible refine (K2.out _).mono ?_); rintro e w' ⟨rfl, rfl⟩)) | (at_builtin; refine wpList_append_vec _ rfl _ _ 26 rfl 3 i0 (.int .i64 0) 1 8 Try.underlying26 hi hz0 hz1 hz2 rfl (by decide) _ _ _ [.int .i64 a] rfl ?c5 _ 1 1 [.int .i64 p] rfl rfl (one_at _ _ _ ?c1) ?c2 ?c0 ?c3 ?c4 ?_))
      case c5 => exact ((one_vecat _ _ 3 (by simp)).alloc _)
      case c1 => simp
      case c2 => intro u hu; simp at hu; subst hu; rfl
      case c0 => intro h; cases h
      case c3 => decide
      case c4 => omega
      intro A' cap' w' hv ho hA'
      have HF : Hid (IntsPost w l (.returned (.slice (some A') (1 + 1) cap')) w') := by
        refine Lib.hid ⟨some A', cap', by rw [HL.out]; rfl, by rw [HL.out]; exact hv, fun b hb => ?_, ?_⟩
        · rcases hA' with e | ⟨g, rfl, hg⟩
          · cases e; cases hb; simp
          · cases hb; show w.heap.size ≤ g; omega
        · exact ((((Below.refl _ w).alloc (Nat.le_refl _) (.cells #[.int .i64 kd, .int .i64 who, .int .i64 st, .int .i64 ch, .int .i64 peer] 34)).alloc (by simp) (.cells #[.int .i64 a] 3)).alloc (by simp; omega) (.cells #[.int .i64 p] 3)).trans (ho.below (by simp; omega) (fun b hb => by cases hb; simp))
      clear hv ho hA'
      go_wp2
      go_ret
      exact HF.out
  · have HL := Lib.hid (intsPost_one w l a (.cells #[.int .i64 kd, .int .i64 who, .int .i64 st, .int .i64 ch, .int .i64 peer] 34) (H.out.trans (if_neg (fun h => c1 h.1))))
    clear H
    go_enter Try.func25, Try.ntmps25
    go_wp2_with (go_at_call 35; first | ((with_reducible refine (K1.out _).mono ?_); rintro e w' ⟨rfl, rfl⟩) | ((with_reducible refine (K2.out _).mono ?_); rintro e w' ⟨rfl, rfl⟩))
    go_ret
    exact HL.out
end Go.Proofs.Ythaofkhjhmcknaa
