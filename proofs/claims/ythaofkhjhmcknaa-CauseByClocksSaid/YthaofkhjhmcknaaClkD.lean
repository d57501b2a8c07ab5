/- THE WALK of the closure of Clocks; words on slices of clocks. -/
import Derived.Test.YthaofkhjhmcknaaClkC
namespace Go.Proofs.Ythaofkhjhmcknaa
open Go.RowKit
set_option linter.unusedVariables false

theorem Blk.ne {W : World} {b b' : Nat} {t t' : TypeId} {cs cs' : Array Value} (h : Blk W b t cs) (h' : Blk W b' t' cs') (hne : t ≠ t') : b ≠ b' := fun e => by
  subst e
  have := Option.some.inj (h.symm.trans h')
  simp only [Obj.cells.injEq] at this
  exact hne this.2.1
def vrow (n : Nat) (V : Nat → Value) : Array Value := ((List.range n).map V).toArray
theorem vrow_size (n : Nat) (V : Nat → Value) : (vrow n V).size = n := by simp [vrow]
theorem vrow_get {n i : Nat} (V : Nat → Value) (h : i < n) : (vrow n V)[i]? = some (V i) := by simp [vrow, h]
theorem vrow_ext {n : Nat} {V : Nat → Value} {a : Array Value} (h1 : a.size = n) (h : ∀ i, i < n → a[i]? = some (V i)) : a = vrow n V := by
  refine Array.ext_getElem? fun i => ?_
  by_cases hi : i < n
  · rw [h i hi, vrow_get V hi]
  · rw [Array.getElem?_eq_none (by omega), Array.getElem?_eq_none (by rw [vrow_size]; omega)]
theorem vrow_set {n : Nat} (V : Nat → Value) (k : Nat) (v : Value) : (vrow n V).setIfInBounds k v = vrow n (fun i => if i = k then v else V i) := by
  refine vrow_ext (by simp [vrow_size]) fun i hi => ?_
  by_cases e : i = k
  · subst e; simp [vrow_size, hi]
  · rw [Array.getElem?_setIfInBounds_ne (by omega), vrow_get V hi, if_neg e]
theorem vrow_made (n : Nat) : madeCells #[.slice none 0 0] n = vrow n (fun _ => .slice none 0 0) :=
  vrow_ext (by rw [size_madeCells]) (fun i hi => by rw [← Array.getElem?_toList, toList_madeCells_one, List.getElem?_replicate, if_pos hi])
theorem slice_info : (Try.prog.info? 26).map (fun i => (i.zero, i.size, i.bytes)) = some (some (.slice none 0 0), 1, 24) := by kernel_rfl

/-- v is a clock of D numbers. -/
def Clk (w : World) (v : Value) (D : Nat) (F : Int → Int) : Prop := ∃ b off c, v = .slice (some ⟨b, off, none⟩) D c ∧ Vec w 3 1 (some ⟨b, off, none⟩) D c (ints (clk D F))
section
variable {w w' : World} {v : Value} {D : Nat} {F G : Int → Int} {S : Nat → Prop}
theorem Vec.blk {e : TypeId} {size n cap b off : Nat} {xs : List Value} (h : Vec w e size (some ⟨b, off, none⟩) n cap xs) : ∃ cur, Blk w b e cur := by
  obtain ⟨b', off', cur, e, hb, _⟩ := h.at_ _ rfl
  cases e
  exact ⟨cur, hb⟩
theorem Clk.only (h : Clk w v D F) (ho : Only S w w') (hS : ∀ b cs, Blk w b 3 cs → ¬ S b) : Clk w' v D F := by
  obtain ⟨b, off, c, rfl, hv⟩ := h
  obtain ⟨cur, hb⟩ := hv.blk
  exact ⟨b, off, c, rfl, hv.only ho (fun b' hb' => by cases hb'; exact hS b cur hb)⟩
theorem Clk.below (h : Clk w v D F) (hb : Below w.heap.size w w') : Clk w' v D F := h.only (Only.of_below hb (fun _ => False)) (fun _ _ _ h => h)
theorem Clk.congr (h : Clk w v D F) (hf : ∀ i : Nat, i < D → F i = G i) : Clk w v D G := by
  obtain ⟨b, off, c, e, hv⟩ := h
  exact ⟨b, off, c, e, by rw [← clk_congr hf]; exact hv⟩
theorem Clk.of_row {g : Nat} {H : Nat → Int} (h : Blk w g 3 (row D H)) (hD : D ≤ maxLen) (hf : ∀ i : Nat, i < D → H i = F i) : Clk w (.slice (some ⟨g, 0, none⟩) D D) D F := ⟨g, 0, D, rfl, vec_row h hD hf⟩
theorem Clk.far (h : Clk w v D F) {g i : Nat} {cs : Array Value} (hg : Blk w g 26 cs) (u : Value) : Clk (w.setCell ⟨g, i, none⟩ u) v D F :=
  h.only ((Only.refl (fun b => b = g) w).setCell (p := ⟨g, i, none⟩) (.inl rfl) u) (fun b cs hb e => hb.ne hg (by decide) e)
end

set_option maxRecDepth 100000 in
set_option maxHeartbeats 4000000 in
theorem fold_any (g3 g6 gO gn D p : Nat) (V : Nat → Value) (N F : Int → Int) (w : World) (h3 : Blk w g3 3 #[.int .i64 (D : Int)]) (h6 : Blk w g6 29 #[.slice (some ⟨gO, 0, none⟩) D D]) (hO : Blk w gO 26 (vrow D V))
    (b off c : Nat) (hVp : V p = .slice (some ⟨b, off, none⟩) D c) (hV : Vec w 3 1 (some ⟨b, off, none⟩) D c (ints (clk D F))) (hn : Blk w gn 3 (row D fun i => N i)) (hp : p < D) (hD : D ≤ 65) (hb : b ≠ gn) (h3n : g3 ≠ gn) :
    Calls Try.prog 26 #[.slice (some ⟨gn, 0, none⟩) D D, .int .i64 (p : Int), .pointer (some ⟨g3, 0, none⟩), .pointer (some ⟨g6, 0, none⟩)] w fun e w' => e = .returned (.tuple #[]) ∧ Blk w' gn 3 (row D fun i => max (N i) (F i)) ∧ Only (fun b => b = gn) w w' := by
  have c3 := h3.cell 0
  simp only [List.getElem?_toArray, List.getElem?_cons_zero] at c3
  have HC := Lib.hid (fun W (ho : Only (fun b => b = gn) w W) (j : Nat) (hj : j < D) => (⟨by rw [(h6.only ho (fun e => h6.ne hn (by decide) e)).cell 0]; rfl, by rw [(hO.only ho (fun e => hO.ne hn (by decide) e)).cell p, vrow_get V hp, hVp], (hV.only ho (fun b' h e => by cases h; exact hb e)).cellAt (clk_at F hj)⟩ :
    W.cell? ⟨g6, 0, none⟩ = some (.slice (some ⟨gO, 0, none⟩) D D) ∧ W.cell? ⟨gO, p, none⟩ = some (.slice (some ⟨b, off, none⟩) D c) ∧ W.cell? ⟨b, off + j, none⟩ = some (.int .i64 (F j))))
  have HN := Lib.hid (show Blk w gn 3 (row D (hmx N F 0)) from by rw [row_congr (F := hmx N F 0) (G := fun i => N i) (fun i _ => if_neg (by omega))]; exact hn)
  have i0 : (0 : Int) ≤ (D : Int) := by omega
  have p0 : (0 : Int) ≤ (p : Int) := by omega
  have p1 : (p : Int) < (D : Int) := by omega
  have hDc := hV.le
  clear h3 h6 hO hVp hV hn
  go_enter Try.func26, Try.ntmps26
  go_wp2_with fail
  go_loopw [6, 8] (fun _ jj wr => ∃ j : Nat, j ≤ D ∧ jj = .int .i64 ((j : Nat) : Int) ∧ Hid (Blk wr gn 3 (row D (hmx N F j))) ∧ Hid (Only (fun b => b = gn) w wr)) (fun _ jj _ => D - (intOf jj).toNat)
  case atStart => exact ⟨0, Nat.zero_le _, rfl, HN.out, Only.refl _ _⟩
  case round =>
    obtain ⟨j, hj, rfl, hst, ho⟩ := hrel
    clear HN c3
    by_cases hlt : j < D
    · have a1 : (0 : Int) ≤ (j : Int) := by omega
      have a2 : (j : Int) < (D : Int) := by omega
      obtain ⟨c6, cO, cF⟩ := HC.out wr ho.out j hlt
      have c1 : wr.cell? ⟨gn, j, none⟩ = some (.int .i64 (N j)) := by rw [hst.out.cell, row_get _ hlt, hmx_at]
      have f1 := hst.out.frozen j
      have HS := Lib.hid ((hst.out.drewN 1).set_ j (.int .i64 (max (N j) (F j))))
      rw [row_set, row_congr (fun i _ => hmx_next N F j i)] at HS
      have HO := Lib.hid ((ho.out.drewN 1).setCell (p := ⟨gn, j, none⟩) (.inl rfl) (.int .i64 (max (N j) (F j))))
      clear hst ho
      generalize hFn : hmx N F (j + 1) = Fn at *
      have HFn := Lib.hid hFn
      clear hFn
      generalize N j = u at *
      generalize F j = v at *
      rw [← max_if] at HS HO
      go_wp2_with fail
      go_region
      go_wp2_with fail
      go_roundw
      case rel => exact ⟨j + 1, by omega, by go_num, by rw [HFn.out]; exact HS, HO⟩
      case measure => simp [intOf]; omega
    · obtain rfl : j = D := by omega
      have HF := Lib.hid (show Blk wr gn 3 (row j fun i => max (N i) (F i)) from by rw [← row_congr (F := hmx N F j) (fun i hi => hmx_done N F hi)]; exact hst.out)
      clear hst
      go_wp2_with fail
      exact bodyPost_end (results_none rfl _ _ _) rfl ⟨rfl, HF.out, ho.out⟩
end Go.Proofs.Ythaofkhjhmcknaa
