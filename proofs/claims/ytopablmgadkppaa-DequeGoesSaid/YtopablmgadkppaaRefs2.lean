/- THE WALKS of the reference's First, Last, At, and of took. At most 10000 are there. -/
import Derived.Test.YtopablmgadkppaaRefs
import Derived.Deep.RegionHeld3
namespace Go.Proofs.Ytopablmgadkppaa
open Go.RowKit
set_option linter.unusedVariables false

/-- What First and Last hand back: what was taken, and the others. -/
def GotPost (w : World) (A : Option Addr) (x : Value) (ok : Bool) (ys : List El) (e : Ending) (w' : World) : Prop :=
  ∃ A' cap', e = .returned (.tuple #[.agg #[x, .bool ok], .slice A' ys.length cap']) ∧ Vec w' 9 1 A' ys.length cap' (vals ys) ∧ Below w.heap.size w w' ∧ ∀ b, In A' b → In A b

theorem vec_below {w w' : World} {e : TypeId} {size n cap : Nat} {A : Option Addr} {xs : List Value} (h : Vec w e size A n cap xs) (hb : Below w.heap.size w w') : Vec w' e size A n cap xs :=
  h.only (Only.of_below hb (fun _ => False)) (fun _ _ h => h)

set_option maxHeartbeats 800000 in
theorem first_none (w : World) (A : Option Addr) (cap : Nat) :
    Calls Try.prog 13 #[.slice A 0 cap] w (GotPost w A zero false []) := by
  go_enter Try.func13, Try.ntmps13
  go_wp2
  refine bodyPost_ret (v := .tuple #[.agg #[zero, .bool false], .slice none 0 0]) (by simp [results, Try.results13, go_sem]) rfl
    ⟨none, 0, rfl, Vec.nil_ _ _ _, (Below.refl _ _).alloc (Nat.le_refl _) _, fun b h => (nomatch h)⟩

set_option maxHeartbeats 800000 in
theorem last_none (w : World) (A : Option Addr) (cap : Nat) :
    Calls Try.prog 16 #[.slice A 0 cap] w (GotPost w A zero false []) := by
  go_enter Try.func16, Try.ntmps16
  go_wp2
  refine bodyPost_ret (v := .tuple #[.agg #[zero, .bool false], .slice none 0 0]) (by simp [results, Try.results16, go_sem]) rfl
    ⟨none, 0, rfl, Vec.nil_ _ _ _, (Below.refl _ _).alloc (Nat.le_refl _) _, fun b h => (nomatch h)⟩

set_option maxHeartbeats 800000 in
theorem first_some (w : World) (A : Option Addr) (n cap : Nat) (y : El) (ys : List El) (hn : ys.length + 1 = n) (hv : Vec w 9 1 A n cap (vals (y :: ys))) (hb : n ≤ 10000) :
    Calls Try.prog 13 #[.slice A n cap] w (GotPost w A (V y) true ys) := by
  have hle := hv.le
  have hmx := hv.max
  unfold maxLen at hmx
  have hdr := hv.drop (m := 1) (by omega)
  rw [show n - 1 = ys.length by omega, show (vals (y :: ys)).drop (1 * 1) = vals ys from rfl] at hdr
  obtain ⟨b, off, rfl, hlt, hc⟩ := hv.cell (by omega)
  have hc0 : w.cell? ⟨b, off, none⟩ = some (V y) := by have := hc 0 (V y) rfl; rwa [Nat.add_zero] at this
  have hne := World.new_ne w _ hc0
  simp only at hne
  have hz : ((n : Int) == 0) = false := by simp; omega
  have i1 : (1 : Int) ≤ (n : Int) := by omega
  have i2 : (0 : Int) < (n : Int) := by omega
  have i5 : 1 ≤ cap := by omega
  have i6 : (1 : Int) ≤ (cap : Int) := by omega
  have i7 : (n : Int) ≤ (cap : Int) := by omega
  have hn2 : n - 1 = ys.length := by omega
  have hc1 : ∀ o, (w.alloc o).cell? ⟨b, off, none⟩ = some (V y) := fun o => (World.cell?_alloc_lt w o _ hlt).trans hc0
  have hbel : ∀ o, Below w.heap.size w (w.alloc o) := fun o => (Below.refl _ _).alloc (Nat.le_refl _) _
  have HB := Lib.hid hbel
  have HN := Lib.hid hn2
  have hn0 : 0 < n := by omega
  by_cases hcap : cap = 1
  · rw [if_pos hcap] at hdr
    obtain rfl : n = 1 := by omega
    obtain rfl : ys = [] := List.eq_nil_of_length_eq_zero (by omega)
    have HD := Lib.hid hdr
    clear hv hdr hc hn hn2 hbel hz HN
    subst hcap
    go_enter Try.func13, Try.ntmps13
    go_wp2_with fail
    go_region_held3 (fun w' => w'.cell? ⟨b, off, none⟩ = some (V y)) (go_keep) (fail)
    go_wp2
    refine bodyPost_ret (v := .tuple #[.agg #[V y, .bool true], .slice (some ⟨b, off, none⟩) 0 0]) (by simp [results, Try.results13, go_sem]) rfl
      ⟨_, 0, rfl, vec_below HD.out ?_, ?_, fun _ h => h⟩
    · exact (HB.out _).drew
    · exact (HB.out _).drew
  · rw [if_neg hcap] at hdr
    have HD := Lib.hid hdr
    have hcap' : (cap == 1) = false := by simp [hcap]
    clear hv hdr hc hn hbel
    go_enter Try.func13, Try.ntmps13
    go_wp2_with fail
    go_region_held3 (fun w' => w'.cell? ⟨b, off, none⟩ = some (V y)) (go_keep) (fail)
    go_wp2
    refine bodyPost_ret (v := .tuple #[.agg #[V y, .bool true], .slice (some ⟨b, off + 1, none⟩) ys.length (cap - 1)]) (by simp [results, Try.results13, go_sem]) rfl
      ⟨some ⟨b, off + 1, none⟩, cap - 1, rfl, vec_below HD.out ?_, ?_, fun _ h => h⟩
    · exact (HB.out _).drew
    · exact (HB.out _).drew

set_option maxHeartbeats 800000 in
theorem last_some (w : World) (A : Option Addr) (n cap : Nat) (y : El) (ys : List El) (hn : ys.length + 1 = n) (hv : Vec w 9 1 A n cap (vals (ys ++ [y]))) (hb : n ≤ 10000) :
    Calls Try.prog 16 #[.slice A n cap] w (GotPost w A (V y) true ys) := by
  have hle := hv.le
  have hmx := hv.max
  unfold maxLen at hmx
  have hdr := hv.take (m := ys.length) (by omega)
  have e1 : (vals (ys ++ [y])).take (ys.length * 1) = vals ys := by rw [Nat.mul_one]; simp [vals]
  rw [e1] at hdr
  obtain ⟨b, off, rfl, hlt, hc⟩ := hv.cell (by omega)
  have hc0 : w.cell? ⟨b, off + ys.length, none⟩ = some (V y) := hc ys.length (V y) (by simp [vals])
  have hne := World.new_ne w _ hc0
  simp only at hne
  have hz : ((n : Int) == 0) = false := by simp; omega
  have hm : ys.length = n - 1 := by omega
  rw [hm] at hdr hc0
  have HM := Lib.hid hm
  have hn1 : 1 ≤ n := by omega
  have i1 : (1 : Int) ≤ (n : Int) := by omega
  have i2 : (0 : Int) ≤ (n : Int) - 1 := by omega
  have i3 : IntKind.i64.wrap ((n : Int) - 1) = (n : Int) - 1 := IntWalk.i64_in _ (by omega)
  have i4 : (n : Int) - 1 < (n : Int) := by omega
  have i5 : ((n : Int) - 1).toNat = n - 1 := by omega
  have i7 : (n : Int) - 1 ≤ (cap : Int) := by omega
  have hbel : ∀ o, Below w.heap.size w (w.alloc o) := fun o => (Below.refl _ _).alloc (Nat.le_refl _) _
  have HB := Lib.hid hbel
  have HD := Lib.hid hdr
  clear hv hdr hc hbel hm e1 hn
  go_enter Try.func16, Try.ntmps16
  go_wp2_with fail
  go_region_held3 (fun w' => w'.cell? ⟨b, off + (n - 1), none⟩ = some (V y)) (go_keep) (fail)
  go_wp2
  refine bodyPost_ret (v := .tuple #[.agg #[V y, .bool true], .slice (some ⟨b, off, none⟩) (n - 1) cap]) (by simp [results, Try.results16, go_sem]) rfl
    ⟨some ⟨b, off, none⟩, cap, by rw [HM.out], by rw [HM.out]; exact vec_below HD.out ((HB.out _).drew), (HB.out _).drew, fun _ h => h⟩

def AtRefPost (w : World) (x : Value) (ok : Bool) (e : Ending) (w' : World) : Prop := e = .returned (.agg #[x, .bool ok]) ∧ Below w.heap.size w w'

set_option maxHeartbeats 800000 in
theorem atref_out (w : World) (A : Option Addr) (n cap : Nat) (hb : n ≤ 10000) (i : Int) (hi : i < 0 ∨ (n : Int) ≤ i) :
    Calls Try.prog 18 #[.slice A n cap, .int .i64 i] w (AtRefPost w zero false) := by
  by_cases h0 : i < 0
  · clear hi
    go_enter Try.func18, Try.ntmps18
    go_wp2
    exact bodyPost_ret (v := .agg #[zero, .bool false]) (by simp [results, Try.results18, go_sem]) rfl ⟨rfl, (Below.refl _ _).alloc (Nat.le_refl _) _⟩
  · have h1 : (n : Int) ≤ i := by omega
    clear hi
    go_enter Try.func18, Try.ntmps18
    go_wp2
    exact bodyPost_ret (v := .agg #[zero, .bool false]) (by simp [results, Try.results18, go_sem]) rfl ⟨rfl, (Below.refl _ _).alloc (Nat.le_refl _) _⟩

set_option maxHeartbeats 800000 in
theorem atref_in (w : World) (A : Option Addr) (cap : Nat) (ys : List El) (hv : Vec w 9 1 A ys.length cap (vals ys)) (hb : ys.length ≤ 10000) (i : Nat) (hi : i < ys.length) :
    Calls Try.prog 18 #[.slice A ys.length cap, .int .i64 (i : Int)] w (AtRefPost w (V (ys.getD i default)) true) := by
  obtain ⟨b, off, rfl, hlt, hc⟩ := hv.cell (by omega)
  have hc0 : w.cell? ⟨b, off + i, none⟩ = some (V (ys.getD i default)) := hc i _ (by rw [vals_at hi]; simp [List.getD, hi])
  have hc1 : ∀ o, (w.alloc o).cell? ⟨b, off + i, none⟩ = some (V (ys.getD i default)) := fun o => (World.cell?_alloc_lt w o _ hlt).trans hc0
  generalize ys.getD i default = y at *
  clear hc hv
  generalize ys.length = n at *
  have i1 : (0 : Int) ≤ (i : Int) := by omega
  have i2 : (i : Int) < (n : Int) := by omega
  go_enter Try.func18, Try.ntmps18
  go_wp2
  exact bodyPost_ret (v := .agg #[V y, .bool true]) (by simp [results, Try.results18, go_sem]) rfl ⟨rfl, (Below.refl _ _).alloc (Nat.le_refl _) _⟩

set_option maxHeartbeats 800000 in
theorem took_any (w : World) (x : El) (ok : Bool) :
    Calls Try.prog 14 #[V x, .bool ok, .agg #[V x, .bool ok]] w fun e w' => e = .returned (.bool true) ∧ Below w.heap.size w w' := by
  go_enter Try.func14, Try.ntmps14
  go_wp2
  go_ret
  exact ⟨by simp, (Below.refl _ _).alloc (Nat.le_refl _) _⟩
end Go.Proofs.Ytopablmgadkppaa
