/- THE TABLE of how far steps are, in memory; the steps that came in. No condition. -/
import Derived.Test.YthaofkhjhmcknaaWalkF
import Derived.Test.YthaofkhjhmcknaaExt
namespace Go.Proofs.Ythaofkhjhmcknaa
open Go.RowKit
set_option linter.unusedVariables false

def hap0 : Hap := ⟨0, 0, 0, 0, 0⟩
/-- The steps that came in. -/
structure HsAt (w : World) (b off : Nat) (l : List Hap) : Prop where
  lt : b < w.heap.size
  c0 : ∀ k, k < l.length → w.cell? ⟨b, off + k * 5, none⟩ = some (.int .i64 (l.getD k hap0).kd)
  c1 : ∀ k, k < l.length → w.cell? ⟨b, off + k * 5 + 1, none⟩ = some (.int .i64 (l.getD k hap0).who)
  c2 : ∀ k, k < l.length → w.cell? ⟨b, off + k * 5 + 2, none⟩ = some (.int .i64 (l.getD k hap0).st)
  c3 : ∀ k, k < l.length → w.cell? ⟨b, off + k * 5 + 3, none⟩ = some (.int .i64 (l.getD k hap0).ch)
  c4 : ∀ k, k < l.length → w.cell? ⟨b, off + k * 5 + 4, none⟩ = some (.int .i64 (l.getD k hap0).peer)
theorem HsAt.below {w w' : World} {b off : Nat} {l : List Hap} (h : HsAt w b off l) (hb : Below w.heap.size w w') : HsAt w' b off l :=
  ⟨Nat.lt_of_lt_of_le h.lt hb.size, fun k hk => (hb.cell (p := ⟨b, off + k * 5, none⟩) h.lt).trans (h.c0 k hk), fun k hk => (hb.cell (p := ⟨b, off + k * 5 + 1, none⟩) h.lt).trans (h.c1 k hk),
    fun k hk => (hb.cell (p := ⟨b, off + k * 5 + 2, none⟩) h.lt).trans (h.c2 k hk), fun k hk => (hb.cell (p := ⟨b, off + k * 5 + 3, none⟩) h.lt).trans (h.c3 k hk), fun k hk => (hb.cell (p := ⟨b, off + k * 5 + 4, none⟩) h.lt).trans (h.c4 k hk)⟩
theorem HsAt.five {w : World} {b off : Nat} {l : List Hap} (h : HsAt w b off l) {k : Nat} (hk : k < l.length) : w.cell? ⟨b, off + k * 5, none⟩ = some (.int .i64 (l.getD k hap0).kd) ∧ w.cell? ⟨b, off + k * 5 + 1, none⟩ = some (.int .i64 (l.getD k hap0).who) ∧
    w.cell? ⟨b, off + k * 5 + 2, none⟩ = some (.int .i64 (l.getD k hap0).st) ∧ w.cell? ⟨b, off + k * 5 + 3, none⟩ = some (.int .i64 (l.getD k hap0).ch) ∧ w.cell? ⟨b, off + k * 5 + 4, none⟩ = some (.int .i64 (l.getD k hap0).peer) :=
  ⟨h.c0 k hk, h.c1 k hk, h.c2 k hk, h.c3 k hk, h.c4 k hk⟩
def Hs (w : World) (A : Option Addr) (l : List Hap) : Prop := 0 < l.length → ∃ b off, A = some ⟨b, off, none⟩ ∧ HsAt w b off l
theorem Hs.below {w w' : World} {A : Option Addr} {l : List Hap} (h : Hs w A l) (hb : Below w.heap.size w w') : Hs w' A l := fun hl => by
  obtain ⟨b, off, e, h⟩ := h hl
  exact ⟨b, off, e, h.below hb⟩
/-- Which steps touch. -/
def tl (l : List Hap) (i k : Nat) : Bool := tchb (l.getD i hap0).pr (l.getD k hap0).pr
theorem tl_symm (l : List Hap) (i k : Nat) : tl l i k = tl l k i := tchb_symm _ _

/-- The table: what stands below k is known, v stands at k. -/
def Scan (p : Prop) (t : Nat → Nat → Bool) (a n g k : Nat) (v : Int) (w : World) : Prop :=
  ∃ F, Blk w g 3 (row n F) ∧ (∀ j, a ≤ j → j < k → F j = far t a j) ∧ (k < n → F k = v) ∧ (p → ∀ j, k < j → F j = -1)
section
variable {p : Prop} {t : Nat → Nat → Bool} {a n g k : Nat} {v : Int} {w w' : World}
theorem Scan.only (h : Scan p t a n g k v w) {S : Nat → Prop} (ho : Only S w w') (hS : ¬ S g) : Scan p t a n g k v w' := by
  obtain ⟨F, h1, h2⟩ := h
  exact ⟨F, h1.only ho hS, h2⟩
theorem Scan.below (h : Scan p t a n g k v w) (hb : Below w.heap.size w w') : Scan p t a n g k v w' := h.only (Only.of_below hb (fun _ => False)) (fun h => h)
theorem Scan.lt (h : Scan p t a n g k v w) : g < w.heap.size := by obtain ⟨F, h1, h2⟩ := h; exact h1.lt
theorem Scan.low (h : Scan p t a n g k v w) {i : Nat} (h1 : a ≤ i) (h2 : i < k) (h3 : i < n) : w.cell? ⟨g, i, none⟩ = some (.int .i64 (far t a i)) := by
  obtain ⟨F, hb, hF, _⟩ := h
  rw [hb.cell, row_get F h3, hF i h1 h2]
theorem Scan.top (h : Scan p t a n g k v w) (h3 : k < n) : w.cell? ⟨g, k, none⟩ = some (.int .i64 v) := by
  obtain ⟨F, hb, _, hF, _⟩ := h
  rw [hb.cell, row_get F h3, hF h3]
theorem Scan.frozen (h : Scan p t a n g k v w) (i : Nat) : w.frozen? ⟨g, i, none⟩ = false := by
  obtain ⟨F, hb, _⟩ := h
  exact hb.frozen i
theorem Scan.set_ (h : Scan p t a n g k v w) (u : Int) : Scan p t a n g k u (w.setCell ⟨g, k, none⟩ (.int .i64 u)) := by
  obtain ⟨F, hb, hF, _, hp⟩ := h
  refine ⟨fun i => if i = k then u else F i, by rw [← row_set]; exact hb.set_ k _, fun j h1 h2 => ?_, fun _ => if_pos rfl, fun h j hj => ?_⟩
  · show (if j = k then u else F j) = far t a j
    rw [if_neg (by omega)]; exact hF j h1 h2
  · show (if j = k then u else F j) = -1
    rw [if_neg (by omega)]; exact hp h j hj
theorem Scan.next (h : Scan p t a n g k v w) (hv : v = far t a k) : ∃ v', Scan p t a n g (k + 1) v' w ∧ (p → k + 1 < n → v' = -1) := by
  obtain ⟨F, hb, hF, hk, hp⟩ := h
  by_cases hn : k < n
  · refine ⟨F (k + 1), ⟨F, hb, fun j h1 h2 => ?_, fun _ => rfl, fun h j hj => hp h j (by omega)⟩, fun h _ => hp h _ (by omega)⟩
    by_cases e : j = k
    · subst e; rw [hk hn, hv]
    · exact hF j h1 (by omega)
  · refine ⟨-1, ⟨fun j => if j = k then far t a k else F j, ?_, fun j h1 h2 => ?_, fun h => by omega, fun h j hj => ?_⟩, fun _ _ => rfl⟩
    · rw [row_congr (G := F) (fun i hi => if_neg (by omega))]; exact hb
    · by_cases e : j = k
      · subst e; exact if_pos rfl
      · show (if j = k then far t a k else F j) = _
        rw [if_neg e]; exact hF j h1 (by omega)
    · show (if j = k then far t a k else F j) = -1
      rw [if_neg (by omega)]; exact hp h j (by omega)
theorem Scan.ref0 (h : Blk w g 3 (row n fun _ => 0)) : Scan False t a n g (a + 1) 0 w :=
  ⟨_, h, fun j h1 h2 => by obtain rfl : j = a := by omega
                           rw [far_a], fun _ => rfl, fun h => h.elim⟩
theorem Scan.prog0 (h : Blk w g 3 (row n fun _ => -1)) : Scan True t a n g (a + 1) (-1) (w.setCell ⟨g, a, none⟩ (.int .i64 0)) := by
  have := h.set_ a (.int .i64 0)
  rw [row_set] at this
  refine ⟨_, this, fun j h1 h2 => ?_, fun _ => if_neg (by omega), fun _ j hj => if_neg (by omega)⟩
  obtain rfl : j = a := by omega
  rw [far_a]; exact if_pos rfl
end
end Go.Proofs.Ythaofkhjhmcknaa
