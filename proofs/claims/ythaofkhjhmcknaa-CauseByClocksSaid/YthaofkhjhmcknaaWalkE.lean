/- THE WALKS of bits.Mul64, Mul, slices.Repeat. At one element, at most 100 times. -/
import Derived.Test.YthaofkhjhmcknaaWalkD
import Derived.Laws.CopyOwn
import Derived.Deep.RegionLaw
import Derived.Deep.OwnRows
import Derived.IntWalk
namespace Go.Proofs.Ythaofkhjhmcknaa
open Go.RowKit
set_option linter.unusedVariables false

theorem high0 : ∀ n : Fin 101, IntKind.u64.wrap
              (IntKind.u64.wrap
                  (IntKind.u64.wrap
                      (IntKind.u64.wrap
                          (bits BinOp.and IntKind.u64 1 4294967295 * bits BinOp.and IntKind.u64 ((n.val : Nat) : Int) 4294967295) /
                        4294967296) /
                    4294967296) +
                IntKind.u64.wrap
                    (bits BinOp.and IntKind.u64
                        (IntKind.u64.wrap
                          (IntKind.u64.wrap
                              (bits BinOp.and IntKind.u64 1 4294967295 * bits BinOp.and IntKind.u64 ((n.val : Nat) : Int) 4294967295) /
                            4294967296))
                        4294967295 +
                      IntKind.u64.wrap (bits BinOp.and IntKind.u64 1 4294967295 * (((n.val : Nat) : Int) / 4294967296))) /
                  4294967296) = 0 := by decide +kernel
theorem ret_pair {k k2 : IntKind} {a b c d : Int} (h : a = b) (h2 : c = d) : Ending.returned (.tuple #[.int k a, .int k2 c]) = .returned (.tuple #[.int k b, .int k2 d]) := by rw [h, h2]
set_option maxHeartbeats 800000 in
theorem mul64_any (n : Nat) (hn : n ≤ 100) (w : World) : Calls Try.prog 39 #[.int .u64 1, .int .u64 n] w fun e w' => e = .returned (.tuple #[.int .u64 0, .int .u64 n]) ∧ w = w' := by
  have H := Lib.hid (high0 ⟨n, by omega⟩)
  go_enter Try.func39, Try.ntmps39
  go_wp2
  go_ret2
  exact ⟨ret_pair H.out rfl, rfl⟩
theorem mul_any (n : Nat) (hn : n ≤ 100) (w : World) : Calls Try.prog 30 #[.int .u64 1, .int .u64 n] w fun e w' => e = .returned (.tuple #[.int .u64 0, .int .u64 n]) ∧ w = w' := by
  have K := Lib.hid (mul64_any n hn)
  go_enter Try.func30, Try.ntmps30
  go_wp2_with fail
  with_reducible (refine Calls.mono (K.out _) ?_)
  rintro e w1 ⟨rfl, rfl⟩
  go_wp2_with fail
  go_ret2
  exact ⟨rfl, rfl⟩
/-- A row of numbers. -/
def row (n : Nat) (F : Nat → Int) : Array Value := ((List.range n).map fun i => Value.int .i64 (F i)).toArray
theorem row_size (n : Nat) (F : Nat → Int) : (row n F).size = n := by simp [row]
theorem row_get {n i : Nat} (F : Nat → Int) (h : i < n) : (row n F)[i]? = some (.int .i64 (F i)) := by simp [row, h]
theorem row_congr {n : Nat} {F G : Nat → Int} (h : ∀ i, i < n → F i = G i) : row n F = row n G := by
  unfold row; congr 1; apply List.map_congr_left; intro i hi; rw [h i (List.mem_range.1 hi)]
theorem row_ext {n : Nat} {F : Nat → Int} {a : Array Value} (h1 : a.size = n) (h : ∀ i, i < n → a[i]? = some (.int .i64 (F i))) : a = row n F := by
  apply Array.ext_getElem?
  intro i
  rcases Nat.lt_or_ge i n with hi | hi
  · rw [h i hi, row_get F hi]
  · rw [Array.getElem?_eq_none (by omega), Array.getElem?_eq_none (by rw [row_size]; exact hi)]
theorem row_set {n : Nat} (F : Nat → Int) (k : Nat) (v : Int) : (row n F).setIfInBounds k (.int .i64 v) = row n (fun i => if i = k then v else F i) := by
  refine row_ext (by simp [row_size]) fun i hi => ?_
  by_cases e : i = k
  · subst e; simp [row_size, hi]
  · rw [Array.getElem?_setIfInBounds_ne (by omega), row_get F hi, if_neg e]
theorem row_made (n : Nat) : madeCells #[.int .i64 0] n = row n (fun _ => 0) :=
  row_ext (by rw [size_madeCells]) (fun i hi => by rw [← Array.getElem?_toList, toList_madeCells_one, List.getElem?_replicate, if_pos hi])
/-- The row when the first k are -1, the others 0. -/
def upto (k : Nat) : Nat → Int := fun i => if i < k then -1 else 0
theorem row_upto0 (n : Nat) : row n (fun _ => 0) = row n (upto 0) := row_congr fun i hi => by simp [upto]
theorem row_uptoN (n : Nat) : row n (upto n) = row n (fun _ => -1) := row_congr fun i hi => by simp [upto, hi]
/-- m more of them. -/
theorem splice_upto (n k m : Nat) (h : k + m ≤ n) : (splice (row n (upto k)).toList k (List.replicate m (.int .i64 (-1)))).toArray = row n (upto (k + m)) := by
  refine row_ext ?_ fun i hi => ?_
  · rw [List.size_toArray, length_splice _ _ _ (by simp [row_size]; omega)]; simp [row_size]
  · rw [List.getElem?_toArray]
    unfold splice
    by_cases h1 : i < k
    · rw [List.getElem?_append_left (by simp [row_size]; omega), List.getElem?_take, if_pos h1, Array.getElem?_toList, row_get _ hi]
      simp [upto, h1, show i < k + m by omega]
    · rw [List.getElem?_append_right (by simp [row_size]; omega)]
      rw [show i - (List.take k (row n (upto k)).toList).length = i - k by simp [row_size]; omega]
      by_cases h2 : i < k + m
      · rw [List.getElem?_append_left (by simp; omega), List.getElem?_replicate, if_pos (by omega)]
        simp [upto, h2]
      · rw [List.getElem?_append_right (by simp; omega), List.getElem?_drop, List.length_replicate, show k + m + (i - k - m) = i by omega, Array.getElem?_toList, row_get _ hi]
        simp [upto, h1, h2]
theorem rep_one (m : Nat) (v : Value) (h : v.oneCell' = true) : ∀ u ∈ List.replicate m v, u.oneCell' = true := fun u hu => by
  rw [List.mem_replicate] at hu; rw [hu.2]; exact h

def Reads (w : World) (a : Addr) (cs : List Value) : Prop := ∀ j v, cs[j]? = some v → w.cell? (a.add j) = some v
theorem Reads.at_ {w : World} {a : Addr} {cs : List Value} (h : Reads w a cs) : ∀ j v, cs[j]? = some v → w.cell? (a.add j) = some v := h
theorem one_read {w : World} {b : Nat} {v : Value} {t : TypeId} (h : Blk w b t #[v]) : ∀ (j : Nat) (u : Value), (List.replicate 1 v)[j]? = some u → w.cell? ((⟨b, 0, none⟩ : Addr).add j) = some u := by
  intro j u hu
  rw [show ((⟨b, 0, none⟩ : Addr).add j) = ⟨b, j, none⟩ by unfold Addr.add; split <;> simp_all]
  match j, hu with
  | 0, hu => rw [h.cell 0]; exact hu
theorem row_read {w : World} {g n k m : Nat} (h : Blk w g 3 (row n (upto k))) (hm : m ≤ k) (hk : k ≤ n) : ∀ (j : Nat) (u : Value), (List.replicate m (Value.int .i64 (-1)))[j]? = some u → w.cell? ((⟨g, 0, none⟩ : Addr).add j) = some u := by
  intro j u hu
  rw [show ((⟨g, 0, none⟩ : Addr).add j) = ⟨g, j, none⟩ by unfold Addr.add; split <;> simp_all]
  rw [List.getElem?_replicate] at hu
  split at hu
  · rename_i hj
    rw [h.cell, row_get _ (by omega), ← hu]
    simp [upto, show j < k by omega]
  · cases hu
def RepPost (w : World) (n : Nat) (e : Ending) (w' : World) : Prop :=
  ∃ g, e = .returned (.slice (some ⟨g, 0, none⟩) n n) ∧ w.heap.size ≤ g ∧ Blk w' g 3 (row n fun _ => -1) ∧ Below w.heap.size w w'
set_option maxHeartbeats 1600000 in
theorem repeat_any (n : Nat) (h1 : 1 ≤ n) (hn : n ≤ 100) (b : Nat) (w : World) (hb : Blk w b 3 #[.int .i64 (-1)]) : Calls Try.prog 19 #[.slice (some ⟨b, 0, none⟩) 1 1, .int .i64 n] w (RepPost w n) := by
  have K := Lib.hid (mul_any n hn)
  have i0 : (0 : Int) ≤ (n : Int) := by omega
  have i1 : (n : Int) ≤ 100 := by omega
  have hmk := run_make_row' (P := Try.prog) 26 3 (.int .i64 0) 8 Try.underlying26 int_info rfl .i64 .i64 n (by omega) (by omega)
  rw [row_made, row_upto0] at hmk
  have HB := Lib.hid (show Blk (w.alloc (.cells (row n (upto 0)) 3)) b 3 #[.int .i64 (-1)] from hb.alloc _)
  have HN := Lib.hid (Blk.new w 3 (row n (upto 0)))
  have HW := Lib.hid ((Below.refl w.heap.size w).alloc (Nat.le_refl _) (.cells (row n (upto 0)) 3))
  clear hb
  obtain ⟨cs1, hcs⟩ : ∃ cs1, cs1 = List.replicate 1 (Value.int .i64 (-1)) := ⟨_, rfl⟩
  have S1 := Lib.hid (show cs1.length = Nat.min 1 n by rw [hcs]; simp [Nat.min_def]; omega)
  have S2 := Lib.hid (show Reads (w.alloc (.cells (row n (upto 0)) 3)) ⟨b, 0, none⟩ cs1 by rw [hcs]; exact one_read HB.out)
  have S3 := Lib.hid (show 0 + cs1.length ≤ (row n (upto 0)).toList.length by rw [hcs]; simp [row_size]; omega)
  have S4 := Lib.hid (show ∀ u ∈ cs1, u.oneCell' = true by rw [hcs]; exact rep_one _ _ rfl)
  have S5 := Lib.hid hcs
  clear hcs
  go_enter Try.func19, Try.ntmps19
  go_wp2_with fail
  with_reducible (refine Calls.mono (K.out _) ?_)
  rintro e w1 ⟨rfl, rfl⟩
  go_wp2_with (with_reducible refine wpList_copy_splice rfl (.tmp 31) (.tmp 32) 26 26 rfl 3 Try.underlying26 (by kernel_rfl) (some ⟨w.heap.size, 0, none⟩) (some ⟨b, 0, none⟩) n n 1 1 rfl rfl w.heap.size 0 (row n (upto 0)).toList 3 ?c1 cs1 S1.out (fun _ => ⟨rfl, _, rfl, S2.out.at_⟩) S3.out S4.out w.heap.size w ?c5 (Nat.le_refl _) ?_)
  case c1 => rw [Array.toArray_toList]; exact HN.out
  case c5 => exact HW.out
  intro w3 hg3 hb3
  have hg3' : Hid (Blk w3 w.heap.size 3 (row n (upto 1))) := by have := hg3.out; rw [S5.out, splice_upto n 0 1 (by omega)] at this; exact this
  have HB3 := Lib.hid hb3
  have HGE := Lib.hid (Nat.le_refl w.heap.size)
  clear hg3 hb3 HB HN HW hmk
  generalize hg : w.heap.size = g at hg3' ⊢
  have HG := Lib.hid hg
  clear hg
  rw [show cs1.length = 1 by rw [S5.out]; rfl, show ((1 : Nat) : Int) = 1 from rfl]
  clear S1 S2 S3 S4 S5
  go_wp2_with fail
  go_loopw [8] (fun i wr => ∃ k : Nat, 1 ≤ k ∧ k ≤ n ∧ i = .int .i64 k ∧ Hid (Blk wr g 3 (row n (upto k))) ∧ Hid (Below w.heap.size w wr)) (fun i _ => n - (intOf i).toNat)
  case atStart => exact ⟨1, Nat.le_refl _, h1, rfl, hg3', HB3.out⟩
  case round =>
    obtain ⟨k, hk1, hk, rfl, hblk, hbl⟩ := hrel
    by_cases hlt : k < n
    · have j0 : (0 : Int) ≤ (k : Int) := by omega
      have j1 : (k : Int) ≤ (n : Int) := by omega
      have j2 : (k : Int) < (n : Int) := by omega
      have HC := Lib.hid (hblk.out.drewN 1)
      have HD := Lib.hid ((hbl.out.trans ((Below.refl _ _).drew)) : Below w.heap.size w wr.drew)
      have hm : ∃ m, m = Nat.min k (n - k) := ⟨_, rfl⟩
      obtain ⟨m, hm⟩ := hm
      have hm1 : 1 ≤ m := by rw [hm]; simp [Nat.min_def]; split <;> omega
      have hm2 : k + m ≤ n := by rw [hm]; simp [Nat.min_def]; split <;> omega
      have hm3 : m ≤ k := by rw [hm]; simp [Nat.min_def]; split <;> omega
      have HM := Lib.hid hm
      clear hm
      obtain ⟨cs, hcs⟩ : ∃ cs, cs = List.replicate m (Value.int .i64 (-1)) := ⟨_, rfl⟩
      have S1 := Lib.hid (show cs.length = Nat.min k (n - k) by rw [hcs, List.length_replicate]; exact HM.out)
      have S2 := Lib.hid (show Reads wr.drew ⟨g, 0, none⟩ cs by rw [hcs]; exact row_read HC.out (by omega) (by omega))
      have S3 := Lib.hid (show k + cs.length ≤ (row n (upto k)).toList.length by rw [hcs]; simp [row_size]; omega)
      have S4 := Lib.hid (show ∀ u ∈ cs, u.oneCell' = true by rw [hcs]; exact rep_one _ _ rfl)
      have S5 := Lib.hid hcs
      have S6 := Lib.hid (show cs.length = m by rw [hcs, List.length_replicate])
      have S7 := Lib.hid (show wr.drew.heap[g]? = some (.cells (row n (upto k)).toList.toArray 3 (0, 0)) by rw [Array.toArray_toList]; exact HC.out)
      clear hcs
      go_wp2_with fail
      have hne : ¬ n = k := by omega
      go_region_law (refine step_copy_splice rfl (.tmp 41) (.tmp 44) 26 26 rfl 3 Try.underlying26 (by kernel_rfl) (some ⟨g, k, none⟩) (some ⟨g, 0, none⟩) (n - k) (n - k) k n (by simp [Act.eval, Act.put]) (by simp [Act.eval, Act.put]) g k (row n (upto k)).toList 3 S7.out cs S1.out (fun _ => ⟨rfl, _, rfl, S2.out.at_⟩) S3.out S4.out w.heap.size w HD.out (Nat.le_of_eq HG.out) ?_; intro w4 hg4 hb4)
      rw [S6.out]
      have hg4' : Hid (Blk w4 g 3 (row n (upto (k + m)))) := by have := hg4.out; rw [S5.out, splice_upto n k m hm2] at this; exact this
      have HB4 := Lib.hid hb4
      clear hg4 hb4 S1 S2 S3 S4 S5 S6 S7 HC HD HM
      have hwr : IntKind.i64.wrap ((k : Int) + (m : Int)) = ((k + m : Nat) : Int) := by rw [IntWalk.i64_in _ (by omega)]; rfl
      rw [hwr]
      go_simp
      go_roundw
      case rel => (repeat apply Exists.intro); exact ⟨⟨k + m, by omega, by omega, rfl, hg4', HB4⟩, rfl⟩
      case measure => simp [intOf]; omega
    · obtain rfl : n = k := by omega
      rw [row_uptoN] at hblk
      go_wp2
      go_ret
      exact ⟨g, rfl, Nat.le_of_eq HG.out, hblk.out, hbl.out⟩
end Go.Proofs.Ythaofkhjhmcknaa
