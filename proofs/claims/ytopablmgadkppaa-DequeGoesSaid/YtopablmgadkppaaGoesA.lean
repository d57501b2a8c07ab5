/- THE GOING OVER A DEQUE: what lies of it in a slice of its own. At most 10000 are there. -/
import Derived.Test.YtopablmgadkppaaNoneB
import Derived.Test.YtopablmgadkppaaStep
namespace Go.Proofs.Ytopablmgadkppaa
open Go.RowKit Go.Shelf
set_option linter.unusedVariables false
attribute [local go_sem] Oper.semAt_some

/-- The Deque's block of cells, as it stands in the Deque. -/
def cbAt (W : World) (g b : Nat) : Prop := ∃ n c, W.cell? ⟨g, 0, none⟩ = some (.slice (some ⟨b, 0, none⟩) n c)
/-- What a round keeps: of blocks of cells nothing turns but those below n1, and the Deque's. -/
structure KpD (n1 g : Nat) (A B : World) : Prop where
  keep : ∀ i o, A.heap[i]? = some o → o.isCells = true → n1 ≤ i → ¬ cbAt A g i → B.heap[i]? = some o
  cb : ∀ b, cbAt B g b → cbAt A g b ∨ A.heap.size ≤ b
  size : A.heap.size ≤ B.heap.size
theorem KpD.trans {n1 g : Nat} {A B C : World} (h : KpD n1 g A B) (k : KpD n1 g B C) : KpD n1 g A C := by
  refine ⟨fun i o ho hc hi hn => ?_, fun b hb => ?_, Nat.le_trans h.size k.size⟩
  · have hl : i < A.heap.size := (Array.getElem?_eq_some_iff.1 ho).1
    refine k.keep i o (h.keep i o ho hc hi hn) hc hi (fun e => ?_)
    rcases h.cb i e with e | e
    · exact hn e
    · omega
  · rcases k.cb b hb with e | e
    · exact h.cb b e
    · have := h.size; exact .inr (by omega)
theorem KpD.putObj {n1 g : Nat} (hg : g < n1) (W : World) (l : Nat) (o o' : Obj) (hl : n1 ≤ l) (h : W.heap[l]? = some o) (hc : o.isCells = false) : KpD n1 g W (W.putObj l o') := by
  have hgb := grownBy_putObj' W l o'
  refine ⟨fun i u hu hi _ _ => ?_, fun b hb => ?_, hgb.size⟩
  · refine (hgb.block i (Array.getElem?_eq_some_iff.1 hu).1 (fun e => ?_)).trans hu
    cases e
    rw [h] at hu
    cases hu
    rw [hc] at hi; cases hi
  · obtain ⟨n, c, hb⟩ := hb
    refine .inl ⟨n, c, ?_⟩
    rw [← hb]
    exact (World.cell?_of_block (w := W.putObj l o') (a := ⟨g, 0, none⟩) (World.putObj_heap_other (by show g ≠ l; omega)).symm)

theorem run_make0 (n : Nat) (hn : n ≤ 100000) (W : World) :
    (Instr.makeSlice 25 (.int .i64 0) (.int .i64 (n : Int))).run Try.prog W = .ok (.slice (some ⟨W.heap.size, 0, none⟩) 0 n) (W.alloc (.cells (zeros n) 9)) := by
  obtain ⟨i0, hi, hz0, hz1, hz2⟩ := info_parts el_info
  have hr := run_make (P := Try.prog) W 25 9 i0 zero Try.underlying25 hi hz0 .i64 .i64 0 n (by omega) (by omega) (by rw [hz2]; omega) (by omega)
  simp only [Int.toNat_natCast, hz1] at hr
  exact hr
theorem make0_vec (n : Nat) (hn : n ≤ 100000) (W : World) : Vec (W.alloc (.cells (zeros n) 9)) 9 1 (some ⟨W.heap.size, 0, none⟩) 0 n [] :=
  ⟨rfl, Nat.zero_le _, by unfold maxLen; omega, fun a ha => by cases ha; exact ⟨_, 0, _, rfl, Blk.new _ _ _, by rw [zeros_size]; omega, fun j hj => by omega⟩, fun h => (nomatch h)⟩

theorem one_new (w : World) (x : Value) (t : TypeId) : ∀ (j : Nat) (u : Value), [x][j]? = some u → (w.alloc (.cells #[x] t)).cell? ((⟨w.heap.size, 0, none⟩ : Addr).add j) = some u := by
  intro j u hu
  rw [show ((⟨w.heap.size, 0, none⟩ : Addr).add j) = ⟨w.heap.size, j, none⟩ by unfold Addr.add; split <;> simp_all, World.cell?_alloc_new]
  match j, hu with
  | 0, h => exact h
/-- The state of the iterator's first loop. -/
structure It (W : World) (ds : List El) (k m : Nat) (A : Option Addr) (c : Nat) (wr : World) : Prop where
  vec : Vec wr 9 1 A k c (vals (ds.take k))
  bel : Below W.heap.size W wr
  inA : ∀ b, In A b → W.heap.size ≤ b
  some_ : A ≠ none

theorem vec_kp {n1 g : Nat} {A B : World} {P : Option Addr} {n c : Nat} {xs : List Value} (h : Vec A 9 1 P n c xs) (hk : KpD n1 g A B) (hS : ∀ b, In P b → n1 ≤ b ∧ ¬ cbAt A g b) : Vec B 9 1 P n c xs :=
  ⟨h.len, h.le, h.max, fun a ha => by
    obtain ⟨b, off, cur, rfl, hb, hs, hc⟩ := h.at_ a ha
    obtain ⟨h1, h2⟩ := hS b (by rw [ha]; rfl)
    exact ⟨b, off, cur, rfl, hk.keep b _ hb rfl h1 h2, hs, hc⟩, h.none_⟩
theorem only_drew {S : Nat → Prop} {w w' : World} {q : Nat} (h : Only S (w.drewN q) w') : Only S w w' := ⟨h.os, h.tape, h.output, h.size, h.block⟩
theorem it_next {W wr w5 : World} {ds : List El} {k m c c2 q : Nat} {A : Option Addr} {A2 : Addr} {o : Obj} {vs : List Value} (h : It W ds k m A c wr) (hv : Vec w5 9 1 (some A2) (k + 1) c2 vs) (ho : Only (In A) ((wr.alloc o).drewN q) w5) (ht : vs = vals (ds.take (k + 1)))
    (hA : some A2 = A ∨ ∃ g, A2 = ⟨g, 0, none⟩ ∧ wr.heap.size + 1 ≤ g) : It W ds (k + 1) m (some A2) c2 w5 := by
  subst ht
  have hz := h.bel.size
  refine ⟨hv, (h.bel.alloc hz o).trans ((only_drew ho).below (by show W.heap.size ≤ (wr.alloc o).heap.size; rw [World.size_alloc]; omega) (fun i hi => h.inA i hi)), fun b hb => ?_, by simp⟩
  rcases hA with e | ⟨g, rfl, hg⟩
  · exact h.inA b (e ▸ hb)
  · cases hb
    show W.heap.size ≤ g
    omega

set_option maxRecDepth 100000 in
set_option maxHeartbeats 4000000 in
theorem goes_stops (g Bn : Nat) (ds : List El) (hm : ds.length ≤ 10000) (W0 : World) (cb : Option Nat) (hd : Deq W0 g cb ds) (hBn : W0.cell? ⟨Bn, 0, none⟩ = some (.pointer (some ⟨g, 0, none⟩))) (n : Nat) (hn : 1 ≤ n) :
    SeqStopsK (α := El) Fence.wide n Try.prog 28 #[.pointer (some ⟨Bn, 0, none⟩)] (fun x => #[V x]) (KpD W0.heap.size g) (fun xs => xs = ds) (fun pre => pre <+: ds) ds.length W0 := by
  intro l J Jx W hW hJ hJx hY h0
  obtain ⟨cur, L, fr, hd1, hx⟩ := hd
  have hgl : g < W0.heap.size := hd1.blk.lt
  have hcl : ∀ b, cb = some b → b < W0.heap.size := fun b hb => (hd1.row b hb).2.lt
  have hW' : Only (fun _ => False) W0 W := Only.of_below hW _
  have hBnl : Bn < W0.heap.size := World.block_lt_of_cell? W0 _ hBn
  have hd := hd1.only hW' (fun h => h) (fun _ _ h => h)
  have hBn := (hW.cell (p := ⟨Bn, 0, none⟩) hBnl).trans hBn
  clear hd1
  have e0 := hd.blk.cell 0
  have e1 := hd.blk.cell 1
  have e2 := hd.blk.cell 2
  simp only [List.getElem?_toArray, List.getElem?_cons_zero, List.getElem?_cons_succ] at e0 e1 e2
  have KL := Lib.hid (fun w h2 => len_any w g ds.length h2)
  have HD := Lib.hid hd
  have HX := Lib.hid hx
  have HJ := Lib.hid hJ
  have HY := Lib.hid hY
  have H0 := Lib.hid h0
  generalize hml : ds.length = m at *
  have HM := Lib.hid hml
  clear hd hx hJ hY h0 hml hJx
  have hmk := run_make0 m (by omega)
  have HV := Lib.hid (make0_vec m (by omega) W)
  refine callsIn_of_wp Try.func28 rfl trivial ?_ rfl
  simp only [Try.ntmps28, List.size_toArray, List.length_cons, List.length_nil, Nat.reduceAdd, Nat.reduceSub, Array.replicate_succ, Array.replicate_zero, List.push_toArray, List.append_toArray, List.nil_append, List.cons_append]
  refine wpIn_wide.2 ?_
  have K1 := Lib.hid (KL.out W e2)
  have K2 := Lib.hid (KL.out (W.alloc (.cells (zeros m) 9)) (by have := (HD.out.blk.alloc (.cells (zeros m) 9)).cell 2; simpa using this))
  have hBn2 : (W.alloc (.cells (zeros m) 9)).cell? ⟨Bn, 0, none⟩ = some (.pointer (some ⟨g, 0, none⟩)) := (World.cell?_alloc_lt W _ _ (World.block_lt_of_cell? W _ hBn)).trans hBn
  have HI := Lib.hid (show It W ds 0 m (some ⟨W.heap.size, 0, none⟩) m (W.alloc (.cells (zeros m) 9)) from ⟨HV.out, (Below.refl _ _).alloc (Nat.le_refl _) _, fun b hb => by cases hb; exact Nat.le_refl _, by simp⟩)
  have HBn := Lib.hid hBn
  have HE0 := Lib.hid e0
  have HE1 := Lib.hid e1
  clear e1 e0 HV KL
  go_wp2_with fail
  with_reducible (refine Calls.mono K1.out ?_)
  rintro e w1 ⟨rfl, rfl⟩
  go_wp2_with fail
  with_reducible (refine Calls.mono K2.out ?_)
  rintro e w2 ⟨rfl, rfl⟩
  clear hBn hBn2 e2 hmk K1 K2
  go_wp2_with fail
  generalize W.alloc (.cells (zeros m) 9) = W1 at *
  go_loopw [3, 4, 12] (fun v _ i wr => ∃ (k : Nat) (A : Option Addr) (c : Nat), k ≤ m ∧ i = .int .i64 ((k : Nat) : Int) ∧ v = .slice A k c ∧ Hid (It W ds k m A c wr)) (fun _ _ i _ => m - (intOf i).toNat)
  case atStart => exact ⟨0, _, _, Nat.zero_le _, rfl, rfl, HI.out⟩
  case round =>
    obtain ⟨k, A, c, hk, rfl, rfl, hit⟩ := hrel
    by_cases hlt : k < m
    · have hL := HD.out.nle
      have hxk := HX.out k (by rw [vals_len, HM.out]; exact hlt)
      obtain ⟨cbb, rfl⟩ : ∃ b, cb = some b := by
        cases cb with
        | none => have := HD.out.none_ rfl; omega
        | some b => exact ⟨b, rfl⟩
      obtain ⟨hne, hrow⟩ := HD.out.row cbb rfl
      have hsz := HD.out.size
      have hbig := HD.out.big
      have hfl := HD.out.fle
      have hcbl := hcl cbb rfl
      have hWs := hW.size
      have hxv := vals_at (xs := ds) (i := k) (by rw [HM.out]; exact hlt)
      obtain ⟨p, hp⟩ : ∃ p, p = (fr + k) % L := ⟨_, rfl⟩
      rw [← hp, hxv] at hxk
      have hpl : p < L := by rw [hp]; exact Nat.mod_lt _ (by omega)
      have d0 := (hit.out.bel.cell (p := ⟨Bn, 0, none⟩) (by show Bn < _; omega)).trans HBn.out
      have d1 := (hit.out.bel.cell (p := ⟨g, 0, none⟩) (by show g < _; omega)).trans HE0.out
      have d2 := (hit.out.bel.cell (p := ⟨g, 1, none⟩) (by show g < _; omega)).trans HE1.out
      have HD3 := Lib.hid ((hrow.cell p).trans hxk)
      have d3 := (hit.out.bel.cell (p := ⟨cbb, p, none⟩) (by show cbb < _; omega)).trans ((hrow.cell p).trans hxk)
      simp only [Option.map_some] at d1
      have KP := Lib.hid (place_any g (some ⟨cbb, 0, none⟩) L fr k p (wr.drewN 1) (by omega) (by omega) (by omega) hp.symm d1 d2)
      have HT := Lib.hid (show vals (ds.take k) ++ [V (ds[k]'(by rw [HM.out]; exact hlt))] = vals (ds.take (k + 1)) by rw [List.take_succ_eq_append_getElem (by rw [HM.out]; exact hlt)]; simp only [vals, List.map_append, List.map_cons, List.map_nil])
      generalize ds[k]'(by rw [HM.out]; exact hlt) = x at *
      have i1 : (0 : Int) ≤ (k : Int) := by omega
      have i2 : (k : Int) < (m : Int) := by omega
      have i3 : (0 : Int) ≤ (p : Int) := by omega
      have i4 : (p : Int) < (L : Int) := by omega
      clear hxk hxv hrow hp hfl d2
      have HV1 := Lib.hid (fun q => ((hit.out.vec.alloc (.cells #[V x] 9)).drewN q))
      have HV2 := Lib.hid (fun q => (show ∀ (j : Nat) (u : Value), [V x][j]? = some u → ((wr.alloc (.cells #[V x] 9)).drewN q).cell? ((⟨wr.heap.size, 0, none⟩ : Addr).add j) = some u from one_new wr (V x) 9))
      have HV3 := Lib.hid (fun q w5 (ho5 : Only (In A) ((wr.alloc (.cells #[V x] 9)).drewN q) w5) => (show ∀ (z : Nat), w5.cell? ⟨Bn, 0, none⟩ = some (.pointer (some ⟨g, 0, none⟩)) ∧ w5.cell? ⟨g, 0, none⟩ = some (.slice (some ⟨cbb, 0, none⟩) L L) ∧ w5.cell? ⟨cbb, p, none⟩ = some (V x) from fun _ => by
        have hb5 : Below W.heap.size W w5 := (hit.out.bel.alloc hit.out.bel.size (.cells #[V x] 9)).trans ((only_drew ho5).below (by have := hit.out.bel.size; show W.heap.size ≤ (wr.alloc (.cells #[V x] 9)).heap.size; rw [World.size_alloc]; omega) (fun i hi => hit.out.inA i hi))
        exact ⟨(hb5.cell (p := ⟨Bn, 0, none⟩) (by show Bn < _; omega)).trans HBn.out, (hb5.cell (p := ⟨g, 0, none⟩) (by show g < _; omega)).trans HE0.out, (hb5.cell (p := ⟨cbb, p, none⟩) (by show cbb < _; omega)).trans HD3.out⟩))
      obtain ⟨i0, hi, hz0, hz1, hz2⟩ := info_parts el_info
      go_wp2_with fail
      go_region_held3 (fun w' => w'.cell? ⟨Bn, 0, none⟩ = some (.pointer (some ⟨g, 0, none⟩)) ∧ w'.cell? ⟨g, 0, none⟩ = some (.slice (some ⟨cbb, 0, none⟩) L L) ∧ w'.cell? ⟨cbb, p, none⟩ = some (V x)) (first | go_keep | exact s5 0)
        (first | (go_at_call 27; refine KP.out.mono ?_; rintro e w4 ⟨rfl, q, rfl⟩) | (refine step_append_vec (by rfl) _ _ _ (by rfl) 9 i0 zero 1 16 Try.underlying25 hi hz0 hz1 hz2 rfl (by decide) A k c (vals (ds.take k)) (by rfl) ?v1 ⟨wr.heap.size, 0, none⟩ 1 1 [V x] (by rfl) (by rfl) ?v2 ?v3 ?v4 ?v5 ?v6 ?_; (case v1 => exact HV1.out _); (case v2 => exact HV2.out _); (case v3 => (intro u hu; simp at hu; subst hu; rfl)); (case v4 => exact fun _ => Nat.one_pos); (case v5 => (unfold maxLen; omega)); (case v6 => omega); intro A2 c2 w5 hv5 ho5 hA5; have s5 := HV3.out _ _ ho5))
      have HI2 := Lib.hid (it_next hit.out hv5 ho5 HT.out (by simpa using hA5))
      clear hv5 ho5 hA5 s5 HV1 HV2 HV3 KP hit d0 d1 d3 hi hz0 hz1 hz2
      go_wp2_with fail
      go_roundw
      case rel => exact ⟨k + 1, some A2, c2, by omega, by go_num, by go_num, HI2⟩
      case measure => simp [intOf]; omega
    · obtain rfl : m = k := by omega
      have hJ1 := HJ.out [] W wr none H0.out ⟨hit.out.bel.os, hit.out.bel.tape, hit.out.bel.output, hit.out.bel.size, fun k hk _ => hit.out.bel.block k hk⟩ (fun r e => (nomatch e))
      have hcb : ∀ b, In A b → ¬ cbAt wr g b := fun b hb hc => by
        obtain ⟨n', c', hc⟩ := hc
        rw [(hit.out.bel.cell (p := ⟨g, 0, none⟩) (by have := hW.size; show g < _; omega)).trans HE0.out] at hc
        have h1 := hit.out.inA b hb
        have h2 := hW.size
        cases cb with
        | none => cases hc
        | some b' =>
          have := hcl b' rfl
          cases hc
          omega
      have HV := Lib.hid (show Vec wr 9 1 A m c (vals ds) by have := hit.out.vec; rwa [List.take_of_length_le (by rw [HM.out]; exact Nat.le_refl _)] at this)
      have HIN := Lib.hid (fun b hb => Nat.le_trans hW.size (hit.out.inA b hb))
      have HCB := Lib.hid hcb
      have HJ1 := Lib.hid hJ1
      clear hit hcb hJ1 HI
      go_wp2_with fail
      refine (wpIn_wide (n := n)).1 ?_
      gi_wp2
      gi_loopw [6, 30] (fun _ i wr => ∃ k : Nat, k ≤ m ∧ i = .int .i64 ((k : Nat) : Int) ∧ Hid (J (ds.take k) wr) ∧ Hid (Vec wr 9 1 A m c (vals ds)) ∧ Hid (∀ b, In A b → ¬ cbAt wr g b)) (fun _ i _ => m - (intOf i).toNat)
      case atStart => exact ⟨0, Nat.zero_le _, rfl, HJ1.out, HV.out, HCB.out⟩
      case round =>
        obtain ⟨k, hk, rfl, hj, hv, hcb⟩ := hrel
        clear HJ1 HV HCB
        by_cases hlt : k < m
        · obtain ⟨b, off, rfl, hb, hc⟩ := hv.out.cell (by omega)
          have hxv := vals_at (xs := ds) (i := k) (by rw [HM.out]; exact hlt)
          have d1 := hc k _ hxv
          have htk : ds.take (k + 1) = ds.take k ++ [ds[k]'(by rw [HM.out]; exact hlt)] := List.take_succ_eq_append_getElem (by rw [HM.out]; exact hlt)
          have HTK := Lib.hid htk
          have HPF := Lib.hid (show ds.take (k + 1) <+: ds from List.take_prefix _ _)
          rw [htk] at HPF
          obtain ⟨fn, tmps, assign, body, hy, hR⟩ := HY.out (ds.take k) (ds[k]'(by rw [HM.out]; exact hlt)) wr hj.out (by rw [List.length_take, HM.out]; omega)
          have hRr := hR
          clear hR hxv hc htk
          generalize ds[k]'(by rw [HM.out]; exact hlt) = x at *
          have i1 : (0 : Int) ≤ (k : Int) := by omega
          have i2 : (k : Int) < (m : Int) := by omega
          gi_wp2
          refine hRr.mono ?_
          rintro e W3 (⟨rfl, hJ3, hk3⟩ | ⟨rfl, hJx3⟩)
          · have HV3 := Lib.hid (vec_kp hv.out hk3 (fun b hb => ⟨HIN.out b hb, hcb.out b hb⟩))
            have HC3 : Hid (∀ b', In (some (⟨b, off, none⟩ : Addr)) b' → ¬ cbAt W3 g b') := fun b' hb' hc' => by
              rcases hk3.cb b' hc' with h | h
              · exact hcb.out b' hb' h
              · have := hv.out.lt b' hb'; omega
            have HJ3 : Hid (J (ds.take (k + 1)) W3) := by rw [HTK.out]; exact hJ3
            clear hJ3 hk3 hy hRr hcb hv hj
            gi_wp2
            go_roundw
            case rel => exact ⟨k + 1, by omega, by go_num, HJ3, HV3, HC3⟩
            case measure => simp [intOf]; omega
          · have HX3 := Lib.hid hJx3
            clear hJx3 hy hRr
            gi_wp2
            refine bodyPost_ret (results_none rfl _ _ _) rfl ?_
            exact ⟨⟨_, rfl⟩, .inr ⟨_, HPF.out, HX3.out⟩⟩
        · obtain rfl : m = k := by omega
          have HJF : Hid (J ds wr) := by have := hj.out; rwa [List.take_of_length_le (by rw [HM.out]; exact Nat.le_refl _)] at this
          clear hj hv hcb
          gi_wp2
          go_end0
          exact ⟨⟨_, rfl⟩, .inl ⟨ds, rfl, HJF.out⟩⟩
end Go.Proofs.Ytopablmgadkppaa
