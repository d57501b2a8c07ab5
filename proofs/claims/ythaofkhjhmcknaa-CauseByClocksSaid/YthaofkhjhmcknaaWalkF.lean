/- THE WALK of slices.Reverse. A length fits. -/
import Derived.Test.YthaofkhjhmcknaaWalkE
import Derived.RegionTactic
import Derived.BigRegion
namespace Go.Proofs.Ythaofkhjhmcknaa
open Go.RowKit
set_option linter.unusedVariables false

theorem Vec.frozen {w : World} {e : TypeId} {size n cap b off : Nat} {xs : List Value} (h : Vec w e size (some ⟨b, off, none⟩) n cap xs) (i : Nat) : w.frozen? ⟨b, i, none⟩ = false := by
  obtain ⟨b', off', cur, e', hb, _⟩ := h.at_ _ rfl
  cases e'
  exact hb.frozen i
theorem Vec.cellAt {w : World} {e : TypeId} {size n cap b off : Nat} {xs : List Value} (h : Vec w e size (some ⟨b, off, none⟩) n cap xs) {j : Nat} {u : Value} (hu : xs[j]? = some u) : w.cell? ⟨b, off + j, none⟩ = some u := by
  obtain ⟨b', off', cur, e', hb, hs, hc⟩ := h.at_ _ rfl
  cases e'
  have hj : j < n * size := by rw [← h.len]; exact (List.getElem?_eq_some_iff.1 hu).1
  rw [hb.cell, hc j hj, hu]
theorem Vec.set_ {w : World} {e : TypeId} {n cap b off : Nat} {xs : List Value} (h : Vec w e 1 (some ⟨b, off, none⟩) n cap xs) {i : Nat} (hi : i < n) (v : Value) : Vec (w.setCell ⟨b, off + i, none⟩ v) e 1 (some ⟨b, off, none⟩) n cap (xs.set i v) :=
  ⟨by rw [List.length_set]; exact h.len, h.le, h.max, fun a ha => by
    obtain ⟨b', off', cur, e', hb, hs, hc⟩ := h.at_ _ rfl
    cases e'; cases ha
    have hl := h.len
    refine ⟨b, off, _, rfl, hb.set_ (off + i) v, by simpa using hs, fun j hj => ?_⟩
    by_cases e : j = i
    · subst e
      rw [Array.getElem?_setIfInBounds_self, if_pos (by have := h.le; omega), List.getElem?_set_self (by omega)]
    · rw [Array.getElem?_setIfInBounds_ne (by omega), List.getElem?_set_ne (by omega)]
      exact hc j hj, fun h => (nomatch h)⟩
theorem ints_set (l : List Int) (i : Nat) (x : Int) : ints (l.set i x) = (ints l).set i (.int .i64 x) := by simp [ints, List.map_set]

/-- The first i and the last i are exchanged. -/
def Rev (xs ys : List Int) (i : Nat) : Prop := ys.length = xs.length ∧ ∀ p, p < xs.length → ys.getD p 0 = if p < i ∨ xs.length ≤ p + i then xs.getD (xs.length - 1 - p) 0 else xs.getD p 0
theorem getD_set (l : List Int) (i p : Nat) (x : Int) (h : p < l.length) : (l.set i x).getD p 0 = if p = i then x else l.getD p 0 := by
  by_cases e : p = i
  · subst e; simp [List.getD, h]
  · simp [List.getD, e, List.getElem?_set_ne (Ne.symm e)]
theorem Rev.zero (xs : List Int) : Rev xs xs 0 := ⟨rfl, fun p hp => by rw [if_neg (by omega)]⟩
theorem Rev.next {xs ys : List Int} {i n : Nat} (h : Rev xs ys i) (hn : xs.length = n) (hi : i < n - 1 - i) : Rev xs ((ys.set i (ys.getD (n - 1 - i) 0)).set (n - 1 - i) (ys.getD i 0)) (i + 1) := by
  obtain ⟨hl, h⟩ := h
  refine ⟨by simp [hl], fun p hp => ?_⟩
  rw [getD_set _ _ _ _ (by simp [hl]; exact hp), getD_set _ _ _ _ (by rw [hl]; exact hp)]
  by_cases e1 : p = n - 1 - i
  · subst e1
    rw [if_pos rfl, h i (by omega), if_neg (by omega), if_pos (by omega)]
    congr 1; omega
  · rw [if_neg e1]
    by_cases e2 : p = i
    · subst e2
      rw [if_pos rfl, h _ (by omega), if_neg (by omega), if_pos (by omega), hn]
    · rw [if_neg e2, h p hp]
      by_cases e3 : p < i ∨ xs.length ≤ p + i
      · rw [if_pos e3, if_pos (by omega)]
      · rw [if_neg e3, if_neg (by omega)]
theorem Rev.done {xs ys : List Int} {i n : Nat} (h : Rev xs ys i) (hn : xs.length = n) (hi : ¬ i < n - 1 - i) : ys = xs.reverse := by
  obtain ⟨hl, h⟩ := h
  refine List.ext_getElem (by simp [hl]) fun p h1 h2 => ?_
  have hp : p < xs.length := by omega
  have := h p hp
  simp only [List.getD, List.getElem?_eq_getElem h1, Option.getD_some] at this
  rw [this, List.getElem_reverse]
  split
  · rw [List.getElem?_eq_getElem (by omega)]; rfl
  · have e : xs.length - 1 - p = p := by omega
    simp only [e]
    rw [List.getElem?_eq_getElem (by omega)]; rfl

def RevPost (w : World) (b off n cap : Nat) (xs : List Int) (e : Ending) (w' : World) : Prop :=
  e = .returned (.tuple #[]) ∧ Vec w' 3 1 (some ⟨b, off, none⟩) n cap (ints xs.reverse) ∧ Only (fun k => k = b) w w'
set_option maxHeartbeats 1600000 in
theorem reverse_any (b off n cap : Nat) (xs : List Int) (hn : xs.length = n) (hN : n ≤ 10000) (w : World) (hv : Vec w 3 1 (some ⟨b, off, none⟩) n cap (ints xs)) :
    Calls Try.prog 21 #[.slice (some ⟨b, off, none⟩) n cap] w (RevPost w b off n cap xs) := by
  have HL := Lib.hid hn
  have HV := Lib.hid hv
  clear hv hn
  go_enter Try.func21, Try.ntmps21
  go_wp2
  go_loopw [2, 3] (fun i j wr => ∃ (k : Nat) (ys : List Int), k ≤ n ∧ i = .int .i64 k ∧ j = .int .i64 ((n : Int) - 1 - k) ∧ Hid (Rev xs ys k) ∧ Hid (Vec wr 3 1 (some ⟨b, off, none⟩) n cap (ints ys)) ∧ Hid (Only (fun k => k = b) w wr)) (fun i _ _ => n - (intOf i).toNat)
  case atStart => exact ⟨0, xs, Nat.zero_le _, rfl, by go_num, Rev.zero xs, HV.out, Only.refl _ _⟩
  case round =>
    obtain ⟨k, ys, hk, rfl, rfl, hrev, hvec, hon⟩ := hrel
    by_cases hlt : k < n - 1 - k
    · have e1 : (n : Int) - 1 - (k : Int) = ((n - 1 - k : Nat) : Int) := by omega
      have hyl : ys.length = n := hrev.out.1.trans HL.out
      rw [e1]
      have c1 := hvec.out.cellAt (ints_at (l := ys) (k := k) (by omega))
      have c2 := hvec.out.cellAt (ints_at (l := ys) (k := n - 1 - k) (by omega))
      have f1 := hvec.out.frozen (off + k)
      have f2 := hvec.out.frozen (off + (n - 1 - k))
      have HR2 := Lib.hid (hrev.out.next HL.out hlt)
      have HV2 := Lib.hid ((hvec.out.set_ (i := k) (by omega) (.int .i64 (ys.getD (n - 1 - k) 0))).set_ (i := n - 1 - k) (by omega) (.int .i64 (ys.getD k 0)))
      have HO2 := Lib.hid ((hon.out.setCell (p := ⟨b, off + k, none⟩) (.inl rfl) (.int .i64 (ys.getD (n - 1 - k) 0))).setCell (p := ⟨b, off + (n - 1 - k), none⟩) (.inl rfl) (.int .i64 (ys.getD k 0)))
      have j3 : ((n - 1 - k : Nat) : Int) < (n : Int) := by omega
      have j0 : (0 : Int) ≤ (k : Int) := by omega
      have j1 : (k : Int) < (n : Int) := by omega
      generalize hm : n - 1 - k = m at *
      have HM := Lib.hid (show (m : Int) = (n : Int) - 1 - (k : Int) by omega)
      clear e1 hyl hm hrev hvec hon
      generalize ys.getD m 0 = u at *
      generalize ys.getD k 0 = v at *
      have j2 : (0 : Int) ≤ (m : Int) := by omega
      have j4 : (k : Int) < (m : Int) := by omega
      go_wp2_with fail
      go_region
      have HVd := Lib.hid (HV2.out.drewN 1)
      have HOd := Lib.hid (HO2.out.drewN 1)
      rw [← ints_set, ← ints_set] at HVd
      clear HV2 HO2 f1 f2 c1 c2
      go_wp2_with fail
      go_roundw
      case rel => exact ⟨k + 1, (ys.set k u).set m v, by omega, by go_num, by have := HM.out; go_num, HR2, HVd, HOd⟩
      case measure => simp [intOf]; omega
    · have hj : ¬ (k : Int) < (n : Int) - 1 - (k : Int) := by omega
      have hj2 : decide ((k : Int) < (n : Int) - 1 - (k : Int)) = false := by simpa using hj
      have HD := Lib.hid (hrev.out.done HL.out hlt)
      clear hlt hj hrev
      go_wp2
      go_end0
      exact ⟨rfl, by rw [← HD.out]; exact hvec.out, hon.out⟩
end Go.Proofs.Ythaofkhjhmcknaa
