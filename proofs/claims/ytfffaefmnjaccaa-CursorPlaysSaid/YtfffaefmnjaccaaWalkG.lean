/- THE WALKS of the reference's Move over 'hit'; and as a whole. The run has at most 200 steps. -/
import Derived.Test.YtfffaefmnjaccaaWalkF
namespace Go.Proofs.Ytfffaefmnjaccaa
open Go.RowKit
set_option linter.unusedVariables false

section
variable (A : Option Addr) (c : Nat) (hits : List Bool) (a k n : Int) (w : World)

/-- The row that 'hit' hands back, at its first and its last place. -/
theorem row_at {w : World} {B : Nat} {v : Value} {l : List Nat} (h : w.ownsRow B 3 1 v l.length (ints l)) (h0 : l ≠ []) :
    ∃ g cap, v = .slice (some ⟨g, 0, none⟩) l.length cap ∧ B ≤ g ∧ ∀ i, (hi : i < l.length) → w.cell? ⟨g, i, none⟩ = some (.int .i64 (l[i] : Nat)) := by
  have hlen : 0 < l.length := List.length_pos_iff.2 h0
  obtain ⟨_, h2⟩ := id h
  rcases h2 with ⟨_, h2⟩ | ⟨g, cap, cur, rfl, hg, _⟩
  · omega
  · refine ⟨g, cap, rfl, hg, fun i hi => ?_⟩
    have := h.cells (g := g) rfl i (.int .i64 (l[i] : Nat)) (by simp [ints, hi])
    rwa [show ((⟨g, 0, none⟩ : Addr).add i) = ⟨g, i, none⟩ by unfold Addr.add; split <;> simp_all] at this
theorem row_none {w : World} {B : Nat} {v : Value} {l : List Nat} (h : w.ownsRow B 3 1 v l.length (ints l)) (h0 : l = []) : ∃ A cap, v = .slice A 0 cap := by
  subst h0
  obtain ⟨_, h2⟩ := h
  rcases h2 with ⟨rfl, _⟩ | ⟨g, cap, cur, rfl, hg, _⟩
  · exact ⟨_, _, rfl⟩
  · exact ⟨_, _, rfl⟩

theorem three_set {w w1 : World} (h : Below w.heap.size w w1) (x y z : Value) : Below w.heap.size w (((w1.setCell ⟨w.heap.size + 1, 0, none⟩ x).setCell ⟨w.heap.size + 1, 1, none⟩ y).setCell ⟨w.heap.size + 1, 2, none⟩ z) :=
  ((h.setCell (p := ⟨w.heap.size + 1, 0, none⟩) (by simp) _).setCell (p := ⟨w.heap.size + 1, 1, none⟩) (by simp) _).setCell (p := ⟨w.heap.size + 1, 2, none⟩) (by simp) _

set_option maxHeartbeats 800000 in
theorem ref_on (m : Nat) (h1 : m ≤ hits.length) (hn : hits.length ≤ 200) (hx : Rd w A (bools hits)) :
    Calls Try.prog 8 #[.slice A hits.length c, .int .i64 m, .agg #[.int .i64 3, .int .i64 n]] w (GotPost w (mv hits m 3 n)) := by
  have hr := mv_on (hits := hits) (a := (m : Int)) (n := n) (by omega)
  rw [Int.toNat_natCast] at hr
  have HX := Lib.hid (hit_any A c hits (m + 1) (hits.length - m) hits.length ((w.alloc (.cells #[.int .i64 3, .int .i64 n] 24)).alloc (.cells #[.int .i64 0, .int .i64 0, .int .i64 0] 30))
    ((hx.alloc _).alloc _) hn (by omega) (by omega) (by omega) (by omega))
  rw [show ((m + 1 : Nat) : Int) = (m : Int) + 1 by omega] at HX
  have hll : (hl hits (m + 1) (hits.length - m)).length ≤ 200 := Nat.le_trans (hl_length _ _ _) (by omega)
  clear hx
  generalize hl hits (m + 1) (hits.length - m) = l at *
  by_cases hne : l = []
  · subst hne
    have hr' : mv hits m 3 n = ((hits.length : Int), 3, 0) := hr
    have HR := Lib.hid hr'
    clear hr hr'
    go_enter Try.func8, Try.ntmps8
    go_wp2_with fail
    with_reducible (refine Calls.mono HX.out ?_)
    rintro e w1 hp
    obtain ⟨v, rfl, hown, hb⟩ := hp
    obtain ⟨A', cap, rfl⟩ := row_none hown rfl
    obtain ⟨hc, hf⟩ := bcell hb
    have hz := hb.size
    simp only [World.size_alloc] at hc hf hz
    have hB : Below w.heap.size w w1 := (two_below _ _ _).trans (hb.mono (by simp; omega))
    clear hb hown
    go_wp2
    exact bodyPost_ret (v := .agg #[.int .i64 hits.length, .int .i64 3, .int .i64 0]) (by simp [results, Try.results8, go_sem, hc]) rfl (gotPost_of HR.out (three_set hB _ _ _))
  · have hlp : 0 < l.length := List.length_pos_iff.2 hne
    have hh : l.head? = some l[0] := by rw [List.head?_eq_getElem?, List.getElem?_eq_getElem hlp]
    rw [hh] at hr
    have hr' : mv hits m 3 n = ((l[0] : Int), 2, 0) := hr
    have HR := Lib.hid hr'
    clear hr hr' hh
    go_enter Try.func8, Try.ntmps8
    go_wp2_with fail
    with_reducible (refine Calls.mono HX.out ?_)
    rintro e w1 hp
    obtain ⟨v, rfl, hown, hb⟩ := hp
    obtain ⟨g, cap, rfl, hg, hcells⟩ := row_at hown hne
    have hc0 := hcells 0 hlp
    generalize l[0] = p at *
    have hz := hb.size
    obtain ⟨hc, hf⟩ := bcell hb
    simp only [World.size_alloc] at hc hf hz
    have hB : Below w.heap.size w w1 := (two_below _ _ _).trans (hb.mono (by simp; omega))
    have hlt : 0 < l.length := hlp
    clear hb hown hcells hne
    go_wp2
    exact bodyPost_ret (v := .agg #[.int .i64 p, .int .i64 2, .int .i64 0]) (by simp [results, Try.results8, go_sem, hc]) rfl (gotPost_of HR.out (three_set hB _ _ _))

set_option maxHeartbeats 800000 in
theorem ref_re (m : Nat) (h1 : m ≤ hits.length) (hn : hits.length ≤ 200) (hx : Rd w A (bools hits)) :
    Calls Try.prog 8 #[.slice A hits.length c, .int .i64 m, .agg #[.int .i64 4, .int .i64 n]] w (GotPost w (mv hits m 4 n)) := by
  have hr := mv_re (hits := hits) (a := (m : Int)) (n := n) (by omega)
  rw [Int.toNat_natCast] at hr
  have HX := Lib.hid (hit_any A c hits 1 (m - 1) ((m : Int) - 1) ((w.alloc (.cells #[.int .i64 4, .int .i64 n] 24)).alloc (.cells #[.int .i64 0, .int .i64 0, .int .i64 0] 30))
    ((hx.alloc _).alloc _) hn (by omega) (by omega) (by omega) (by omega))
  rw [show ((1 : Nat) : Int) = 1 from rfl] at HX
  have hll : (hl hits 1 (m - 1)).length ≤ 200 := Nat.le_trans (hl_length _ _ _) (by omega)
  clear hx
  generalize hl hits 1 (m - 1) = l at *
  by_cases hne : l = []
  · subst hne
    have hr' : mv hits m 4 n = (0, 4, 0) := hr
    have HR := Lib.hid hr'
    clear hr hr'
    go_enter Try.func8, Try.ntmps8
    go_wp2_with fail
    with_reducible (refine Calls.mono HX.out ?_)
    rintro e w1 hp
    obtain ⟨v, rfl, hown, hb⟩ := hp
    obtain ⟨A', cap, rfl⟩ := row_none hown rfl
    have hz := hb.size
    obtain ⟨hc, hf⟩ := bcell hb
    simp only [World.size_alloc] at hc hf hz
    have hB : Below w.heap.size w w1 := (two_below _ _ _).trans (hb.mono (by simp; omega))
    clear hb hown
    go_wp2
    exact bodyPost_ret (v := .agg #[.int .i64 0, .int .i64 4, .int .i64 0]) (by simp [results, Try.results8, go_sem, hc]) rfl (gotPost_of HR.out (three_set hB _ _ _))
  · have hlp : 0 < l.length := List.length_pos_iff.2 hne
    have hh : l.getLast? = some (l[l.length - 1]'(by omega)) := by rw [List.getLast?_eq_getElem?, List.getElem?_eq_getElem]
    rw [hh] at hr
    have hr' : mv hits m 4 n = (((l[l.length - 1]'(by omega) : Nat) : Int), 2, 0) := hr
    have HR := Lib.hid hr'
    clear hr hr' hh
    go_enter Try.func8, Try.ntmps8
    go_wp2_with fail
    with_reducible (refine Calls.mono HX.out ?_)
    rintro e w1 hp
    obtain ⟨v, rfl, hown, hb⟩ := hp
    obtain ⟨g, cap, rfl, hg, hcells⟩ := row_at hown hne
    have hc0 := hcells (l.length - 1) (by omega)
    generalize (l[l.length - 1]'(by omega)) = p at *
    have hz := hb.size
    obtain ⟨hc, hf⟩ := bcell hb
    simp only [World.size_alloc] at hc hf hz
    have hB : Below w.heap.size w w1 := (two_below _ _ _).trans (hb.mono (by simp; omega))
    have hlt : 0 < l.length := hlp
    clear hb hown hcells hne
    go_wp2
    exact bodyPost_ret (v := .agg #[.int .i64 p, .int .i64 2, .int .i64 0]) (by simp [results, Try.results8, go_sem, hc]) rfl (gotPost_of HR.out (three_set hB _ _ _))

theorem ref_any (h200 : hits.length ≤ 200) (hx : Rd w A (bools hits)) :
    Calls Try.prog 8 #[.slice A hits.length c, .int .i64 a, .agg #[.int .i64 k, .int .i64 n]] w (GotPost w (mv hits a k n)) := by
  by_cases ho : a < 0 ∨ (hits.length : Int) < a
  · exact ref_out A c hits a k n w ho
  · obtain ⟨m, rfl⟩ := Int.eq_ofNat_of_zero_le (show 0 ≤ a by omega)
    by_cases h1 : k = 1
    · subst h1; exact ref_step A c hits _ n w (by omega) (by omega) h200
    by_cases h2 : k = 2
    · subst h2; exact ref_back A c hits _ n w (by omega) (by omega) h200
    by_cases h3 : k = 3
    · subst h3; exact ref_on A c hits n w m (by omega) h200 hx
    by_cases h4 : k = 4
    · subst h4; exact ref_re A c hits n w m (by omega) h200 hx
    by_cases h5 : k = 5
    · subst h5; exact ref_to A c hits _ n w (by omega) (by omega) h200
    exact ref_arg A c hits _ k n w (by omega) (by omega) h200 h1 h2 h3 h4 h5
end
end Go.Proofs.Ytfffaefmnjaccaa
