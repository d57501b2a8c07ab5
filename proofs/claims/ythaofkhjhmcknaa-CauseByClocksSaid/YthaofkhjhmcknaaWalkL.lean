/- THE WALKS of Same, at rows alike. At most 10000 numbers. -/
import Derived.Test.YthaofkhjhmcknaaWalkK
namespace Go.Proofs.Ythaofkhjhmcknaa
open Go.RowKit
set_option linter.unusedVariables false

set_option maxHeartbeats 800000 in
theorem same3_any (xs : List Int) (A1 A2 : Option Addr) (c1 c2 : Nat) (w : World) (h1 : Rd w A1 (ints xs)) (h2 : Rd w A2 (ints xs)) (hn : xs.length ≤ 10000) :
    Calls Try.prog 18 #[.slice A1 xs.length c1, .slice A2 xs.length c2] w (BoolPost w true) := by
  have H1 := Lib.hid h1
  have H2 := Lib.hid h2
  clear h1 h2
  generalize hN : xs.length = n at *
  have HN := Lib.hid hN
  clear hN
  have HP := Lib.hid (fun q => (show BoolPost w true (.returned (.bool true)) (w.drewN q) from ⟨rfl, below_drew (Below.refl _ _) q⟩))
  go_enter Try.func18, Try.ntmps18
  go_wp2_with fail
  go_loopw [5] (fun i wr => ∃ (k q : Nat), k ≤ n ∧ i = .int .i64 k ∧ wr = w.drewN q) (fun i _ => n - (intOf i).toNat)
  case atStart => exact ⟨0, 0, Nat.zero_le _, rfl, rfl⟩
  case round =>
    obtain ⟨k, q, hk, rfl, rfl⟩ := hrel
    by_cases hlt : k < n
    · obtain ⟨b1, o1, rfl, hb1, hc1⟩ := H1.out (by rw [ints_len, HN.out]; omega)
      obtain ⟨b2, o2, rfl, hb2, hc2⟩ := H2.out (by rw [ints_len, HN.out]; omega)
      have d1 := hc1 k _ (ints_at (by rw [HN.out]; exact hlt))
      have d2 := hc2 k _ (ints_at (by rw [HN.out]; exact hlt))
      have i1 : (0 : Int) ≤ (k : Int) := by omega
      have i2 : (k : Int) < (n : Int) := by omega
      clear hc1 hc2
      generalize xs.getD k 0 = y at *
      go_wp2_with fail
      go_quiet (fail)
      go_wp2_with fail
      go_roundw
      case rel => exact ⟨k + 1, _, by omega, by go_num, rfl⟩
      case measure => simp [intOf]; omega
    · obtain rfl : n = k := by omega
      go_wp2
      go_ret
      exact HP.out q
theorem same_any (xs : List Int) (A1 A2 : Option Addr) (c1 c2 : Nat) (w : World) (h1 : Rd w A1 (ints xs)) (h2 : Rd w A2 (ints xs)) (hn : xs.length ≤ 10000) :
    Calls Try.prog 11 #[.slice A1 xs.length c1, .slice A2 xs.length c2] w (BoolPost w true) := by
  have K := Lib.hid (same3_any xs A1 A2 c1 c2 w h1 h2 hn)
  clear h1 h2
  generalize xs.length = n at *
  go_enter Try.func11, Try.ntmps11
  go_wp2_with fail
  with_reducible (refine Calls.mono K.out ?_)
  rintro e w1 ⟨rfl, hb⟩
  have HB := Lib.hid hb
  clear hb
  go_wp2_with fail
  go_ret
  exact ⟨rfl, HB.out⟩

/-- A row of truths. -/
def brow (n : Nat) (F : Nat → Bool) : Array Value := ((List.range n).map fun i => Value.bool (F i)).toArray
theorem brow_size (n : Nat) (F : Nat → Bool) : (brow n F).size = n := by simp [brow]
theorem brow_get {n i : Nat} (F : Nat → Bool) (h : i < n) : (brow n F)[i]? = some (.bool (F i)) := by simp [brow, h]
theorem brow_ext {n : Nat} {F : Nat → Bool} {a : Array Value} (h1 : a.size = n) (h : ∀ i, i < n → a[i]? = some (.bool (F i))) : a = brow n F := by
  apply Array.ext_getElem?
  intro i
  rcases Nat.lt_or_ge i n with hi | hi
  · rw [h i hi, brow_get F hi]
  · rw [Array.getElem?_eq_none (by omega), Array.getElem?_eq_none (by rw [brow_size]; exact hi)]
theorem brow_set {n : Nat} (F : Nat → Bool) (k : Nat) (v : Bool) : (brow n F).setIfInBounds k (.bool v) = brow n (fun i => if i = k then v else F i) := by
  refine brow_ext (by simp [brow_size]) fun i hi => ?_
  by_cases e : i = k
  · subst e; simp [brow_size, hi]
  · rw [Array.getElem?_setIfInBounds_ne (by omega), brow_get F hi, if_neg e]
theorem brow_made (n : Nat) : madeCells #[.bool false] n = brow n (fun _ => false) :=
  brow_ext (by rw [size_madeCells]) (fun i hi => by rw [← Array.getElem?_toList, toList_madeCells_one, List.getElem?_replicate, if_pos hi])
theorem bool_info : (Try.prog.info? 4).map (fun i => (i.zero, i.size, i.bytes)) = some (some (.bool false), 1, 1) := by kernel_rfl

/-- Does one come to b by the first steps behind a? -/
def hit (t : Nat → Nat → Bool) (a b : Nat) : Nat → Bool
  | 0 => t a b
  | j + 1 => hit t a b j || (decide (0 ≤ far t a (a + 1 + j)) && t (a + 1 + j) b)
theorem hit_iff (t : Nat → Nat → Bool) (a b : Nat) : ∀ j, hit t a b j = true ↔ ∃ i, a ≤ i ∧ i < a + 1 + j ∧ 0 ≤ far t a i ∧ t i b = true
  | 0 => ⟨fun h => ⟨a, Nat.le_refl _, by omega, by rw [far_a]; omega, h⟩, fun ⟨i, h1, h2, _, h4⟩ => by
      obtain rfl : i = a := by omega
      exact h4⟩
  | j + 1 => by
    rw [hit, Bool.or_eq_true, Bool.and_eq_true, decide_eq_true_eq, hit_iff t a b j]
    constructor
    · rintro (⟨i, h1, h2, h3, h4⟩ | ⟨h3, h4⟩)
      · exact ⟨i, h1, by omega, h3, h4⟩
      · exact ⟨_, by omega, by omega, h3, h4⟩
    · rintro ⟨i, h1, h2, h3, h4⟩
      by_cases e : i = a + 1 + j
      · subst e; exact .inr ⟨h3, h4⟩
      · exact .inl ⟨i, h1, by omega, h3, h4⟩
theorem hit_far (t : Nat → Nat → Bool) {a b : Nat} (h : a < b) : hit t a b (b - (a + 1)) = decide (0 ≤ far t a b) := by
  rw [Bool.eq_iff_iff, hit_iff, decide_eq_true_eq, show a + 1 + (b - (a + 1)) = b by omega]
  constructor
  · rintro ⟨i, h1, h2, h3, h4⟩
    exact (far_rch t a (Nat.le_of_lt h)).2 (.next ((far_rch t a h1).1 h3) h2 h4)
  · intro hf
    obtain ⟨i, h1, h2, h3, h4⟩ := some_pre t a h hf
    have := far_pos t a h hf
    exact ⟨i, h1, h2, by omega, h4⟩
theorem hit_next (t : Nat → Nat → Bool) {a b k : Nat} (h : a + 1 ≤ k) : hit t a b (k + 1 - (a + 1)) = (hit t a b (k - (a + 1)) || (decide (0 ≤ far t a k) && t k b)) := by
  rw [show k + 1 - (a + 1) = (k - (a + 1)) + 1 by omega, hit, show a + 1 + (k - (a + 1)) = k by omega]

/-- The table of Reach. -/
structure Rs (t : Nat → Nat → Bool) (a n g : Nat) (w0 : World) (b : Nat) (v : Bool) (w : World) : Prop where
  tab : ∃ G, Blk w g 4 (brow n G) ∧ (∀ i, a < i → i < b → G i = decide (0 ≤ far t a i)) ∧ (b < n → G b = v) ∧ ∀ i, i ≤ a → G i = false
  bel : Below w0.heap.size w0 w
  big : w0.heap.size ≤ g
section
variable {t : Nat → Nat → Bool} {a n g b : Nat} {v : Bool} {w0 w w' : World}
theorem Rs.below (h : Rs t a n g w0 b v w) (hb : Below w.heap.size w w') : Rs t a n g w0 b v w' := by
  obtain ⟨⟨G, h1, h2⟩, h3, h4⟩ := h
  exact ⟨⟨G, h1.below hb h1.lt, h2⟩, h3.trans (hb.mono h3.size), h4⟩
theorem Rs.drewN (h : Rs t a n g w0 b v w) (q : Nat) : Rs t a n g w0 b v (w.drewN q) := by
  obtain ⟨⟨G, h1, h2⟩, h3, h4⟩ := h
  exact ⟨⟨G, h1.drewN q, h2⟩, below_drew h3 q, h4⟩
theorem Rs.low (h : Rs t a n g w0 b v w) {i : Nat} (h1 : a < i) (h2 : i < b) (h3 : i < n) : w.cell? ⟨g, i, none⟩ = some (.bool (decide (0 ≤ far t a i))) := by
  obtain ⟨⟨G, hb, hG, _⟩, _⟩ := h
  rw [hb.cell, brow_get G h3, hG i h1 h2]
theorem Rs.top (h : Rs t a n g w0 b v w) (h3 : b < n) : w.cell? ⟨g, b, none⟩ = some (.bool v) := by
  obtain ⟨⟨G, hb, _, hG, _⟩, _⟩ := h
  rw [hb.cell, brow_get G h3, hG h3]
theorem Rs.frozen (h : Rs t a n g w0 b v w) (i : Nat) : w.frozen? ⟨g, i, none⟩ = false := by
  obtain ⟨⟨G, hb, _⟩, _⟩ := h
  exact hb.frozen i
theorem Rs.set_ (h : Rs t a n g w0 b v w) (hab : a < b) (u : Bool) : Rs t a n g w0 b u (w.setCell ⟨g, b, none⟩ (.bool u)) := by
  obtain ⟨⟨G, hb, hG, _, hz⟩, h3, h4⟩ := h
  refine ⟨⟨fun i => if i = b then u else G i, by rw [← brow_set]; exact hb.set_ b _, fun i h1 h2 => ?_, fun _ => if_pos rfl, fun i hi => ?_⟩, h3.setCell (p := ⟨g, b, none⟩) h4 _, h4⟩
  · show (if i = b then u else G i) = _
    rw [if_neg (by omega)]; exact hG i h1 h2
  · show (if i = b then u else G i) = _
    rw [if_neg (by omega)]; exact hz i hi
theorem Rs.next (h : Rs t a n g w0 b v w) (hab : a < b) (hv : v = decide (0 ≤ far t a b)) (hn : b < n) : ∃ v', Rs t a n g w0 (b + 1) v' w := by
  obtain ⟨⟨G, hb, hG, hk, hz⟩, h3, h4⟩ := h
  refine ⟨G (b + 1), ⟨G, hb, fun i h1 h2 => ?_, fun _ => rfl, hz⟩, h3, h4⟩
  by_cases e : i = b
  · subst e; rw [hk hn, hv]
  · exact hG i h1 (by omega)
end
end Go.Proofs.Ythaofkhjhmcknaa
