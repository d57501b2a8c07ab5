/- THE WALK of Clocks. At most 100 steps. -/
import Derived.Test.YthaofkhjhmcknaaClkE
namespace Go.Proofs.Ythaofkhjhmcknaa
open Go.RowKit
set_option linter.unusedVariables false

section
variable (l : List Hap) (n : Nat) (A : Option Addr) (c : Nat)
set_option maxRecDepth 100000 in
set_option maxHeartbeats 8000000 in
theorem clocks_any (hl : l.length = n) (hn : n ≤ 100) (w : World) (h : Hs w A l) :
    Calls Try.prog 14 #[.slice A n c] w (ClocksPost w n (wd (sq l) n).toNat (sq l)) := by
  have HL := Lib.hid hl
  have HH := Lib.hid h
  have KP := Lib.hid parts_any
  have i0 : (0 : Int) ≤ (n : Int) := by omega
  have B0 := Lib.hid (show Wd w w.heap.size (wd (sq l) 0) (w.alloc (.cells #[.int .i64 1] 3)) from ⟨Blk.new w 3 _, (Below.refl _ _).alloc (Nat.le_refl _) _, Nat.le_refl _⟩)
  clear h hl
  generalize hR : ClocksPost w n (wd (sq l) n).toNat (sq l) = R at *
  have HR := Lib.hid hR
  clear hR
  go_enter Try.func14, Try.ntmps14
  go_wp2_with fail
  generalize w.alloc (.cells #[.int .i64 1] 3) = W0 at *
  generalize hg : w.heap.size = g3 at B0 ⊢
  clear hg
  go_loopw [5, 22] (fun _ i wr => ∃ (k : Nat) (v : Int), k ≤ n ∧ i = .int .i64 ((k : Nat) : Int) ∧ Hid (v = wd (sq l) k) ∧ Hid (Wd w g3 v wr)) (fun _ i _ => n - (intOf i).toNat)
  case atStart => exact ⟨0, 1, Nat.zero_le _, rfl, rfl, B0.out⟩
  case round =>
    obtain ⟨k, v, hk, rfl, hv, hst⟩ := hrel
    clear B0
    by_cases hlt : k < n
    · have a1 : (0 : Int) ≤ (k : Int) := by omega
      have a2 : (k : Int) < (n : Int) := by omega
      have hkl : k < l.length := by rw [HL.out]; omega
      obtain ⟨hb0, off, rfl, h5⟩ := (HH.out.below hst.out.bel) (by omega)
      obtain ⟨x0, x1, x2, x3, x4⟩ := h5.five (k := k) hkl
      have HS := Lib.hid (show sq l k = (l.getD k hap0).pr from rfl)
      have HW := Lib.hid (show wd (sq l) (k + 1) = max v (top id (parts (sq l k)) + 1) by rw [hv.out]; rfl)
      rw [HS.out] at HW
      have hv1 := wd_pos (sq l) k
      have hv2 := wd_le (sq l) k
      rw [← hv.out] at hv1 hv2
      clear h5 hv HS
      generalize l.getD k hap0 = x at *
      have HA := Lib.hid (hst.out.below (w' := wr.alloc (.cells x.cs.toArray 34)) ((Below.refl _ _).alloc (Nat.le_refl _) _))
      obtain ⟨y0, y1, y2, y3, y4⟩ := agg_cells (Blk.new wr 34 x.cs.toArray)
      have KP2 := Lib.hid (KP.out x)
      have HLp := Lib.hid (show 1 ≤ (parts x.pr).length ∧ (parts x.pr).length ≤ 10000 by unfold parts; split <;> simp)
      have HTv := Lib.hid (fun v (h1 : v ∈ parts x.pr) (h2 : ∀ y ∈ parts x.pr, y ≤ v) => (⟨max_top h1 h2 (has_range ((mem_parts _ _).1 h1)).1, (has_range ((mem_parts _ _).1 h1)).1, (has_range ((mem_parts _ _).1 h1)).2⟩ : v = top id (parts x.pr) ∧ 0 ≤ v ∧ v ≤ 64))
      generalize parts x.pr = L at *
      obtain ⟨kd, wh, st_, ch, peer⟩ := x
      dsimp only [Hap.cs] at *
      clear hst
      go_wp2_with fail
      generalize wr.alloc (.cells #[.int .i64 kd, .int .i64 wh, .int .i64 st_, .int .i64 ch, .int .i64 peer] 34) = W1 at *
      generalize wr.heap.size = b5 at *
      have c3 := HA.out.cell
      have HA1 := Lib.hid (HA.out.drewN 1)
      clear HA x0 x1 x2 x3 x4
      go_region_with (first | (go_at_call 25; refine (KP2.out _).mono ?_; rintro e w4 ⟨A', c', rfl, hv4, -, hb4⟩; have hA4 := HA1.out.below hb4; have e4 := hA4.cell; have f4 := hA4.blk.frozen 0; have KM := Lib.hid (max_any A' c' L w4 (Rd.of_vec hv4 (by decide)) HLp.out.1 HLp.out.2); have HA4 := Lib.hid hA4; clear hv4 hb4 hA4 c3 y0 y1 y2 y3 y4; generalize L.length = m at *) | (go_at_call 24; refine KM.out.mono ?_; rintro e w5 ⟨v2, rfl, h1, h2, rfl⟩; obtain ⟨ht, ht0, ht1⟩ := HTv.out v2 h1 h2; have HT := Lib.hid ht; clear h1 h2 ht))
      all_goals
        have HS := Lib.hid (HA4.out.set_ (max v (v2 + 1)))
        have HV := Lib.hid (show max v (v2 + 1) = wd (sq l) (k + 1) by rw [HW.out, HT.out])
        rw [← max_if] at HS HV
        clear HA4 KM e4 f4
        go_wp2_with fail
        go_roundw
        case rel => exact ⟨k + 1, _, by omega, by go_num, HV, HS⟩
        case measure => simp [intOf]; omega
    · obtain rfl : k = n := by omega
      obtain ⟨D, hD⟩ : ∃ D : Nat, D = (wd (sq l) k).toNat := ⟨_, rfl⟩
      have hv1 := wd_pos (sq l) k
      have hv2 := wd_le (sq l) k
      have hvD : v = (D : Int) := by have := hv.out; omega
      have hDr : 1 ≤ D ∧ D ≤ 65 := by omega
      obtain ⟨hD1, hD2⟩ := hDr
      have HDm := Lib.hid (show D ≤ maxLen by unfold maxLen; omega)
      have HP := Lib.hid (fun q (hq : q < k) p (hp : has (sq l q) p) => (show 0 ≤ p ∧ p < (D : Int) from ⟨(wd_has (sq l) hq hp).1, by have := (wd_has (sq l) hq hp).2; omega⟩))
      rw [← hD] at HR
      clear hv1 hv2 hv hD hlt hk
      subst hvD
      have hmk29 := run_make_row' (P := Try.prog) 29 26 (.slice none 0 0) 24 Try.underlying29 slice_info rfl .i64 .i64 D (by omega) (by omega)
      rw [vrow_made] at hmk29
      have hmk26 := run_make_row' (P := Try.prog) 26 3 (.int .i64 0) 8 Try.underlying26 int_info rfl .i64 .i64 D (by omega) (by omega)
      rw [row_made] at hmk26
      have hmk0 := run_make_room (P := Try.prog) 29 26 (.slice none 0 0) 24 Try.underlying29 slice_info rfl .i64 .i64 k (by omega) (by omega)
      rw [vrow_made] at hmk0
      have c3 := hst.out.cell
      have HB := Lib.hid (bx_new (s := sq l) hst.out)
      have d0 : (0 : Int) ≤ (D : Int) := by omega
      clear hst
      go_wp2_with fail
      generalize ((wr.alloc (.cells (vrow D fun _ => .slice none 0 0) 26)).alloc (.cells #[.slice (some ⟨wr.heap.size, 0, none⟩) D D] 29)) = W2 at *
      generalize wr.heap.size + 1 = g6 at *
      generalize wr.heap.size = gO at *
      clear hmk29 c3
      have e6 := HB.out.cells.2
      go_wp2_with fail
      go_loopw [7, 37] (fun _ i wr => ∃ (j : Nat) (V : Nat → Value), j ≤ D ∧ i = .int .i64 ((j : Nat) : Int) ∧ Hid (Bx w g3 g6 gO D (sq l) 0 j V wr)) (fun _ i _ => D - (intOf i).toNat)
      case atStart => exact ⟨0, _, Nat.zero_le _, rfl, HB.out⟩
      case round =>
        obtain ⟨j, V, hj, rfl, hst⟩ := hrel
        clear HB e6
        by_cases hlt : j < D
        · have a1 : (0 : Int) ≤ (j : Int) := by omega
          have a2 : (j : Int) < (D : Int) := by omega
          obtain ⟨e3, e6⟩ := hst.out.cells
          have f1 := hst.out.own.frozen j
          have eO := hst.out.own.cell j
          rw [vrow_get V hlt] at eO
          have hal := hst.out.below (w' := wr.alloc (.cells (row D fun _ => 0) 3)) ((Below.refl _ _).alloc (Nat.le_refl _) _)
          obtain ⟨e3', e6'⟩ := hal.cells
          have f1' := hal.own.frozen j
          have eO' := hal.own.cell j
          rw [vrow_get V hlt] at eO'
          clear hal
          have HS := Lib.hid ((hst.out.drewN 1).lay HDm.out)
          clear hst
          go_wp2_with fail
          go_region
          go_wp2_with fail
          go_roundw
          case rel => exact ⟨j + 1, _, by omega, by go_num, HS⟩
          case measure => simp [intOf]; omega
        · obtain rfl : D = j := by omega
          have HU := Lib.hid (ou_new (s := sq l) (D := D) (U := fun _ => .slice none 0 0) k (by unfold maxLen; omega) hst.out.bel hst.out.own.lt)
          have HB := Lib.hid (hst.out.below (w' := wr.alloc (.cells (vrow k fun _ => .slice none 0 0) 26)) ((Below.refl _ _).alloc (Nat.le_refl _) _))
          clear hst hlt hj
          go_wp2_with fail
          generalize wr.alloc (.cells (vrow k fun _ => .slice none 0 0) 26) = W3 at *
          have KPp := Lib.hid parts_at
          obtain ⟨j0, ji, jz0, jz1, jz2⟩ := info_parts slice_info
          clear KP
          go_loopw [9, 52] (fun oo i wr => ∃ (m : Nat) (V : Nat → Value) (A' : Option Addr) (c' : Nat) (U : Nat → Value), m ≤ k ∧ i = .int .i64 ((m : Nat) : Int) ∧ oo = .slice A' m c' ∧ Hid (Bx w g3 g6 gO D (sq l) m D V wr) ∧ Hid (Ou w gO D (sq l) m A' c' U wr)) (fun _ i _ => k - (intOf i).toNat)
          case atStart => exact ⟨0, V, _, _, _, Nat.zero_le _, rfl, rfl, HB.out, HU.out⟩
          case round =>
            obtain ⟨m, V, A', c', U, hm, rfl, rfl, hst, hou⟩ := hrel
            obtain ⟨wq, hwq⟩ : ∃ wq, wq = wr := ⟨_, rfl⟩
            subst hwq
            clear HB HU
            by_cases hlt : m < k
            · have a1 : (0 : Int) ≤ (m : Int) := by omega
              have a2 : (m : Int) < (k : Int) := by omega
              have hkl : m < l.length := by rw [HL.out]; omega
              obtain ⟨hb0, off, rfl, h5⟩ := (HH.out.below hst.out.bel) (by omega)
              obtain ⟨x0, x1, x2, x3, x4⟩ := h5.five (k := m) hkl
              have HS := Lib.hid (show sq l m = (l.getD m hap0).pr from rfl)
              have HQ := Lib.hid (fun j (hj : j < (parts (sq l m)).length) => (by
                have h1 := HP.out m hlt ((parts (sq l m)).getD j 0) ((mem_parts _ _).1 (by simp [List.getD, hj]))
                exact ⟨((parts (sq l m)).getD j 0).toNat, by omega, by omega⟩ : ∃ q : Nat, (parts (sq l m)).getD j 0 = (q : Int) ∧ q < D))
              clear h5
              generalize l.getD m hap0 = x at *
              have hbA : Below wq.heap.size wq (wq.alloc (.cells x.cs.toArray 34)) := (Below.refl _ _).alloc (Nat.le_refl _) _
              have e3 := (hst.out.below hbA).cells.1
              have hbB := hbA.trans (show Below wq.heap.size (wq.alloc (.cells x.cs.toArray 34)) ((wq.alloc (.cells x.cs.toArray 34)).alloc (.cells (row D fun _ => 0) 3)) from (Below.refl _ _).alloc (by rw [World.size_alloc]; omega) _)
              have hX := (Blk.new wq 34 x.cs.toArray).alloc (.cells (row D fun _ => 0) 3)
              obtain ⟨y0, y1, y2, y3, y4⟩ := agg_cells hX
              have hN := Blk.new (wq.alloc (.cells x.cs.toArray 34)) 3 (row D fun _ => 0)
              rw [World.size_alloc] at hN
              have hN : Blk ((wq.alloc (.cells x.cs.toArray 34)).alloc (.cells (row D fun _ => 0) 3)) (wq.heap.size + 1) 3 (row D fun i => tk (sq l) m 0 i) := by
                rw [← row_congr (F := fun _ => 0) (fun i _ => (tk_zero (sq l) m i).symm)]
                exact hN
              have KP2 := Lib.hid (KPp.out x)
              rw [← HS.out] at KP2
              have HLen := Lib.hid (parts_len (sq l m))
              have HBB := Lib.hid hbB
              have HX := Lib.hid hX
              have HN := Lib.hid hN
              have HX34 := Lib.hid (fun W (h : Blk W wq.heap.size 34 x.cs.toArray) => agg_cells h)
              obtain ⟨kd, wh, st_, ch, peer⟩ := x
              dsimp only [Hap.cs] at *
              clear hbA hbB hX hN hm HS
              go_wp2_with fail
              have hsz : ((wq.alloc (.cells #[.int .i64 kd, .int .i64 wh, .int .i64 st_, .int .i64 ch, .int .i64 peer] 34)).alloc (.cells (row D fun _ => 0) 3)).heap.size = wq.heap.size + 1 + 1 := by rw [World.size_alloc, World.size_alloc]
              generalize ((wq.alloc (.cells #[.int .i64 kd, .int .i64 wh, .int .i64 st_, .int .i64 ch, .int .i64 peer] 34)).alloc (.cells (row D fun _ => 0) 3)) = W2 at *
              have HZ2 := Lib.hid hsz
              clear hsz y0 y1 y2 y3 y4 x0 x1 x2 x3 x4 e3
              with_reducible (refine Calls.mono (KP2.out _) ?_)
              rintro e W3 ⟨pb, po, pc, rfl, hv1, hpb, hb3⟩
              have H3 := Lib.hid (HBB.out.trans (hb3.mono HBB.out.size))
              have HN3 := Lib.hid (HN.out.below hb3 HN.out.lt)
              have HX3 := Lib.hid (HX.out.below hb3 HX.out.lt)
              have HV1 := Lib.hid hv1
              have HPB := Lib.hid (show wq.heap.size + 1 < pb by have := HZ2.out; omega)
              have HF4 := Lib.hid (fun (q : Nat) (N : Int → Int) (W : World) (hq : q < D) (hb : Below wq.heap.size wq W) (hn : Blk W (wq.heap.size + 1) 3 (row D fun i => N i)) => fold_at hst.out (Nat.le_succ _) hb hn hq hD2)
              clear hv1 hpb hb3 HN HX HBB HZ2
              generalize hmm : (parts (sq l m)).length = mm at *
              have HM := Lib.hid hmm
              clear hmm
              have hmm1 := HLen.out.1
              have hmm2 := HLen.out.2
              go_wp2_with fail
              go_loopw [14, 61] (fun _ i wr4 => ∃ j : Nat, j ≤ mm ∧ i = .int .i64 ((j : Nat) : Int) ∧ Hid (Blk wr4 (wq.heap.size + 1) 3 (row D fun i => tk (sq l) m j i)) ∧ Hid (Only (fun b => b = wq.heap.size + 1) W3 wr4)) (fun _ i _ => mm - (intOf i).toNat)
              case atStart => exact ⟨0, Nat.zero_le _, rfl, HN3.out, Only.refl _ _⟩
              case round =>
                obtain ⟨j, hj, rfl, hn4, ho4⟩ := hrel
                clear HN3
                by_cases hjm : j < mm
                · have b1 : (0 : Int) ≤ (j : Int) := by omega
                  have b2 : (j : Int) < (mm : Int) := by omega
                  obtain ⟨q, hq, hqD⟩ := HQ.out j hjm
                  have cp := (HV1.out.only ho4.out (fun b h e => by cases h; have e' : pb = wq.heap.size + 1 := e; have := HPB.out; omega)).cellAt (ints_at (l := parts (sq l m)) (k := j) (by rw [HM.out]; exact hjm))
                  have HTk := Lib.hid (fun i => tk_next (sq l) m (j := j) (by rw [HM.out]; exact hjm) i)
                  rw [hq] at cp HTk
                  have KF := Lib.hid (HF4.out q (tk (sq l) m j) wr hqD (H3.out.trans (ho4.out.below H3.out.size (fun i e => by have e' : i = wq.heap.size + 1 := e; omega))) hn4.out)
                  clear hq
                  go_wp2_with fail
                  with_reducible (refine Calls.mono KF.out ?_)
                  rintro e w5 ⟨rfl, hb5, ho5⟩
                  have HN5 : Hid (Blk w5 (wq.heap.size + 1) 3 (row D fun i => tk (sq l) m (j + 1) i)) := Lib.hid (by
                    rw [← row_congr (F := fun i : Nat => max (tk (sq l) m j i) (ck (sq l) m q i)) (fun i _ => HTk.out i)]
                    exact hb5)
                  have HO5 := Lib.hid (ho4.out.trans ho5 (fun i _ h => h))
                  clear hb5 ho5 hn4 ho4 cp KF HTk
                  go_wp2_with fail
                  go_roundw
                  case rel => exact ⟨j + 1, by omega, by go_num, HN5, HO5⟩
                  case measure => simp [intOf]; omega
                · obtain rfl : mm = j := by omega
                  obtain ⟨w4, hw4⟩ : ∃ w4, w4 = wr := ⟨_, rfl⟩
                  subst hw4
                  have H4 := Lib.hid (H3.out.trans (ho4.out.below H3.out.size (fun i e => by have e' : i = wq.heap.size + 1 := e; omega)))
                  have HX4 := Lib.hid (HX3.out.only ho4.out (fun e => by have e' : wq.heap.size = wq.heap.size + 1 := e; omega))
                  have KC := Lib.hid (clone_clk w4 D (tk (sq l) m mm) (wq.heap.size + 1) 0 D (row_vec hn4.out HDm.out) hD1 hD2)
                  clear hn4 ho4 HV1 HPB H3 HX3 HF4
                  go_wp2_with fail
                  with_reducible (refine Calls.mono KC.out ?_)
                  rintro e W5 ⟨cb, co, cc, rfl, hv5, hcb, hb5⟩
                  have H5 := Lib.hid (H4.out.trans (hb5.mono H4.out.size))
                  have HX5 := Lib.hid (HX4.out.below hb5 HX4.out.lt)
                  have HV5 : Hid (Vec W5 3 1 (some ⟨cb, co, none⟩) D cc (ints (clk D (gk (sq l) m 0)))) := Lib.hid (by
                    rw [← clk_congr (F := tk (sq l) m mm) (fun i _ => by rw [← HM.out]; exact gk_zero (sq l) m i)]
                    exact hv5)
                  have HCB := Lib.hid (Nat.lt_of_lt_of_le HX4.out.lt hcb)
                  obtain ⟨y0, y1, y2, y3, y4⟩ := HX34.out W5 HX5.out
                  clear hv5 hcb hb5 H4 HX4 KC
                  go_wp2_with fail
                  with_reducible (refine Calls.mono (KP2.out _) ?_)
                  rintro e W6 ⟨pb2, po2, pc2, rfl, hv6, hpb2, hb6⟩
                  have H6 := Lib.hid (H5.out.trans (hb6.mono H5.out.size))
                  have HX6 := Lib.hid (HX5.out.below hb6 HX5.out.lt)
                  have HV6 := Lib.hid (HV5.out.only (Only.of_below hb6 (fun _ => False)) (fun _ _ h => h))
                  have HP2 := Lib.hid hv6
                  have HPB2 := Lib.hid (Nat.lt_of_lt_of_le (HV5.out.lt cb rfl) hpb2)
                  clear hv6 hpb2 hb6 y0 y1 y2 y3 y4 H5 HX5 HV5
                  go_wp2_with fail
                  go_loopw [17, 75] (fun _ i wr6 => ∃ j : Nat, j ≤ mm ∧ i = .int .i64 ((j : Nat) : Int) ∧ Hid (Vec wr6 3 1 (some ⟨cb, co, none⟩) D cc (ints (clk D (gk (sq l) m j)))) ∧ Hid (Only (fun b => b = cb) W6 wr6)) (fun _ i _ => mm - (intOf i).toNat)
                  case atStart => exact ⟨0, Nat.zero_le _, rfl, HV6.out, Only.refl _ _⟩
                  case round =>
                    obtain ⟨j, hj, rfl, hv7, ho7⟩ := hrel
                    clear HV6
                    by_cases hjm : j < mm
                    · have b1 : (0 : Int) ≤ (j : Int) := by omega
                      have b2 : (j : Int) < (mm : Int) := by omega
                      obtain ⟨q, hq, hqD⟩ := HQ.out j hjm
                      have cp := (HP2.out.only ho7.out (fun b h e => by cases h; have e' : pb2 = cb := e; have := HPB2.out; omega)).cellAt (ints_at (l := parts (sq l m)) (k := j) (by rw [HM.out]; exact hjm))
                      rw [hq] at cp
                      have cc1 := hv7.out.cellAt (clk_at (gk (sq l) m j) hqD)
                      have f1 := hv7.out.frozen (co + q)
                      have hr := gk_range (sq l) m j q
                      have q0 : (0 : Int) ≤ (q : Int) := by omega
                      have q1 : (q : Int) < (D : Int) := by omega
                      have HV8 := Lib.hid (gk_step hv7.out (by rw [HM.out]; exact hjm) hq hqD)
                      have HO8 := Lib.hid (ho7.out.setCell (p := ⟨cb, co + q, none⟩) (.inl rfl) (.int .i64 (gk (sq l) m j q + 1)))
                      clear hv7 ho7 hq
                      generalize hu : gk (sq l) m j q = u at *
                      clear hu
                      go_wp2_with fail
                      go_roundw
                      case rel => exact ⟨j + 1, by omega, by go_num, HV8, HO8⟩
                      case measure => simp [intOf]; omega
                    · obtain rfl : mm = j := by omega
                      obtain ⟨w7, hw7⟩ : ∃ w7, w7 = wr := ⟨_, rfl⟩
                      subst hw7
                      have H7 := Lib.hid (H6.out.trans (ho7.out.below H6.out.size (fun i e => by have e' : i = cb := e; have := HCB.out; omega)))
                      have HX7 := Lib.hid (HX6.out.only ho7.out (fun e => by have e' : wq.heap.size = cb := e; have := HCB.out; omega))
                      have HV7 : Hid (Vec w7 3 1 (some ⟨cb, co, none⟩) D cc (ints (clk D (st (sq l) m)))) := Lib.hid (by
                        rw [← clk_congr (F := gk (sq l) m mm) (fun i _ => by rw [← HM.out]; exact gk_done (sq l) m i)]
                        exact hv7.out)
                      obtain ⟨y0, y1, y2, y3, y4⟩ := HX34.out w7 HX7.out
                      clear hv7 ho7 H6 HX6 HP2 HPB2
                      go_wp2_with fail
                      with_reducible (refine Calls.mono (KP2.out _) ?_)
                      rintro e W8 ⟨pb3, po3, pc3, rfl, hv8, hpb3, hb8⟩
                      have H8 := Lib.hid (H7.out.trans (hb8.mono H7.out.size))
                      have HV8 := Lib.hid (HV7.out.only (Only.of_below hb8 (fun _ => False)) (fun _ _ h => h))
                      have HB8 := Lib.hid (hst.out.below H8.out)
                      have HU8 := Lib.hid (hou.out.below H8.out)
                      have HP3 := Lib.hid hv8
                      clear hv8 hpb3 hb8 y0 y1 y2 y3 y4 H7 HX7 HV7 hou
                      obtain ⟨cur3, hbk3⟩ := HP3.out.blk
                      obtain ⟨cur8, hbk8⟩ := HV8.out.blk
                      have HN3 := Lib.hid (hbk3.ne HB8.out.own (by decide))
                      have HN8 := Lib.hid (hbk8.ne HB8.out.own (by decide))
                      clear hbk3 hbk8
                      go_wp2_with fail
                      go_loopw [19, 89] (fun _ i wr8 => ∃ j : Nat, j ≤ mm ∧ i = .int .i64 ((j : Nat) : Int) ∧ Hid (Blk wr8 gO 26 (vrow D (vk (sq l) m V (.slice (some ⟨cb, co, none⟩) D cc) j))) ∧ Hid (Only (fun b => b = gO) W8 wr8)) (fun _ i _ => mm - (intOf i).toNat)
                      case atStart => exact ⟨0, Nat.zero_le _, rfl, Lib.hid (by rw [vrow_congr (U := V) (fun i _ => vk_zero (sq l) m V _ i)]; exact HB8.out.own), Only.refl _ _⟩
                      case round =>
                        obtain ⟨j, hj, rfl, hv9, ho9⟩ := hrel
                        by_cases hjm : j < mm
                        · have b1 : (0 : Int) ≤ (j : Int) := by omega
                          have b2 : (j : Int) < (mm : Int) := by omega
                          obtain ⟨q, hq, hqD⟩ := HQ.out j hjm
                          have cp := (HP3.out.only ho9.out (fun b h e => by cases h; exact HN3.out e)).cellAt (ints_at (l := parts (sq l m)) (k := j) (by rw [HM.out]; exact hjm))
                          rw [hq] at cp
                          have e6 := (HB8.out.box.only ho9.out (HB8.out.box.ne HB8.out.own (by decide))).cell 0
                          simp only [List.getElem?_toArray, List.getElem?_cons_zero] at e6
                          have eO := hv9.out.cell q
                          rw [vrow_get _ hqD] at eO
                          have f1 := hv9.out.frozen q
                          have q0 : (0 : Int) ≤ (q : Int) := by omega
                          have q1 : (q : Int) < (D : Int) := by omega
                          have HV10 := Lib.hid (hv9.out.set_ q (.slice (some ⟨cb, co, none⟩) D cc))
                          rw [vrow_set, vrow_congr (fun i _ => vk_next (sq l) m V (.slice (some ⟨cb, co, none⟩) D cc) (by rw [HM.out]; exact hjm) hq i)] at HV10
                          have HO10 := Lib.hid (ho9.out.setCell (p := ⟨gO, q, none⟩) (.inl rfl) (.slice (some ⟨cb, co, none⟩) D cc))
                          clear hv9 ho9 hq
                          generalize vk (sq l) m V (.slice (some ⟨cb, co, none⟩) D cc) j q = u at *
                          go_wp2_with fail
                          go_roundw
                          case rel => exact ⟨j + 1, by omega, by go_num, HV10, HO10⟩
                          case measure => simp [intOf]; omega
                        · obtain rfl : mm = j := by omega
                          obtain ⟨w9, hw9⟩ : ∃ w9, w9 = wr := ⟨_, rfl⟩
                          subst hw9
                          have HBN : Hid (Bx w g3 g6 gO D (sq l) (m + 1) D (vk (sq l) m V (.slice (some ⟨cb, co, none⟩) D cc) mm) w9) := Lib.hid (by
                            have := bx_next (v := .slice (some ⟨cb, co, none⟩) D cc) hst.out H8.out ⟨cb, co, cc, rfl, HV8.out⟩ ho9.out (by rw [HM.out]; exact hv9.out)
                            rw [HM.out] at this
                            exact this)
                          have HU9 := Lib.hid (ou_own HU8.out HB8.out.own ho9.out)
                          have HV9 := Lib.hid (HV8.out.only ho9.out (fun b h e => by cases h; exact HN8.out e))
                          have KC := Lib.hid (clone_clk w9 D (st (sq l) m) cb co cc HV9.out hD1 hD2)
                          clear hv9 ho9 HU8 HB8 hst HV8 HP3 HN3 HN8 HV9 H8 HCB
                          generalize vk (sq l) m V (.slice (some ⟨cb, co, none⟩) D cc) mm = V' at *
                          go_wp2_with fail
                          with_reducible (refine Calls.mono KC.out ?_)
                          rintro e W10 ⟨ob, oo, oc, rfl, hv10, hob, hb10⟩
                          have HB10 := Lib.hid (HBN.out.below hb10)
                          have HU10 := Lib.hid (HU9.out.below hb10)
                          have HC10 : Hid (Clk W10 (.slice (some ⟨ob, oo, none⟩) D oc) D (st (sq l) m)) := Lib.hid ⟨ob, oo, oc, rfl, hv10⟩
                          clear hv10 hob hb10 HBN HU9 KC
                          go_wp2_with (at_builtin; refine wpList_append_vec _ rfl _ _ 29 rfl 26 j0 (.slice none 0 0) 1 24 Try.underlying29 ji jz0 jz1 jz2 rfl (by decide) _ _ _ _ rfl (HU10.out.vec.alloc _) _ 1 1 [.slice (some ⟨ob, oo, none⟩) D oc] rfl rfl (one_at _ _ _ ?c1) ?c2 ?c0 ?c3 ?c4 ?_)
                          case c1 => simp
                          case c2 => intro u hu; simp at hu; subst hu; rfl
                          case c0 => intro h; decide
                          case c3 => unfold maxLen; omega
                          case c4 => omega
                          intro A2 c2 w11 hv11 ho11 hA11
                          obtain ⟨hB, hU⟩ := out_next HB10.out HU10.out HC10.out _ hv11 ho11 (by rw [World.size_alloc]; exact hA11)
                          have HB11 := Lib.hid hB
                          have HU11 := Lib.hid hU
                          clear hB hU hv11 ho11 hA11 HB10 HU10 HC10
                          go_wp2_with fail
                          go_roundw
                          case rel => exact ⟨m + 1, _, _, _, _, by omega, by go_num, rfl, HB11, HU11⟩
                          case measure => simp [intOf]; omega
            · have HF := Lib.hid (show R (.returned (.slice A' k c')) wq from by
                obtain rfl : m = k := by omega
                rw [← HR.out]
                exact ⟨A', c', U, rfl, hou.out.vec, fun j hj => hou.out.clks j hj, hst.out.bel⟩)
              clear hst hou
              obtain rfl : k = m := by omega
              go_wp2_with fail
              (try go_ret)
              exact HF.out
end
end Go.Proofs.Ythaofkhjhmcknaa
