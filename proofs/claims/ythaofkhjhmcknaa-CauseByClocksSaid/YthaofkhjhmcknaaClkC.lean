/- THE WALKS of the reference's clock, meet and stepped. At most 100 steps. -/
import Derived.Test.YthaofkhjhmcknaaClkB
namespace Go.Proofs.Ythaofkhjhmcknaa
open Go.RowKit
set_option linter.unusedVariables false

/-- A row of the call's own. -/
structure Rw (w0 : World) (g D : Nat) (F : Nat → Int) (w : World) : Prop where
  blk : Blk w g 3 (row D F)
  bel : Below w0.heap.size w0 w
  big : w0.heap.size ≤ g
section
variable {w0 w w' : World} {g D : Nat} {F G : Nat → Int}
theorem Rw.below (h : Rw w0 g D F w) (hb : Below w.heap.size w w') : Rw w0 g D F w' := ⟨h.blk.below hb h.blk.lt, h.bel.trans (hb.mono h.bel.size), h.big⟩
theorem Rw.drewN (h : Rw w0 g D F w) (q : Nat) : Rw w0 g D F (w.drewN q) := ⟨h.blk.drewN q, below_drew h.bel q, h.big⟩
theorem Rw.congr (h : Rw w0 g D F w) (hf : ∀ i, i < D → F i = G i) : Rw w0 g D G w := ⟨by rw [← row_congr hf]; exact h.blk, h.bel, h.big⟩
theorem Rw.cell (h : Rw w0 g D F w) {i : Nat} (hi : i < D) : w.cell? ⟨g, i, none⟩ = some (.int .i64 (F i)) := by rw [h.blk.cell, row_get F hi]
theorem Rw.frozen (h : Rw w0 g D F w) (i : Nat) : w.frozen? ⟨g, i, none⟩ = false := h.blk.frozen i
theorem Rw.set_ (h : Rw w0 g D F w) (k : Nat) (u : Int) : Rw w0 g D (fun i => if i = k then u else F i) (w.setCell ⟨g, k, none⟩ (.int .i64 u)) := by
  refine ⟨?_, h.bel.setCell (p := ⟨g, k, none⟩) h.big _, h.big⟩
  rw [← row_set]
  exact h.blk.set_ k _
end
/-- A fresh row. -/
def RefPost (w : World) (D : Nat) (F : Int → Int) (e : Ending) (w' : World) : Prop := ∃ g, e = .returned (.slice (some ⟨g, 0, none⟩) D D) ∧ Rw w g D (fun i => F i) w'
theorem RefPost.grown {w W : World} {D : Nat} {F : Int → Int} {e : Ending} {w' : World} (hb : Below w.heap.size w W) (h : RefPost W D F e w') : RefPost w D F e w' := by
  obtain ⟨g, he, h⟩ := h
  exact ⟨g, he, h.blk, hb.trans (h.bel.mono hb.size), Nat.le_trans hb.size h.big⟩

/-- Met so far: of those below m. -/
def mt (f : Int → Int → Int) (hs : Int → Prop) [DecidablePred hs] : Nat → Int → Int
  | 0, _ => 0
  | m + 1, i => if hs m then max (mt f hs m i) (f m i) else mt f hs m i
theorem mt_top (s : Nat → Int × Int) (k D : Nat) (hD : ∀ p, has (s k) p → p < D) (i : Int) : mt (ck s k) (fun p => has (s k) p) D i = top (fun p => ck s k p i) (parts (s k)) := by
  have h1 : ∀ m : Nat, 0 ≤ mt (ck s k) (fun p => has (s k) p) m i ∧ mt (ck s k) (fun p => has (s k) p) m i ≤ top (fun p => ck s k p i) (parts (s k)) ∧ ∀ p : Nat, p < m → has (s k) p → ck s k p i ≤ mt (ck s k) (fun p => has (s k) p) m i := by
    intro m
    induction m with
    | zero => exact ⟨Int.le_refl _, top_nn _ _, fun p hp => by omega⟩
    | succ m ih =>
      obtain ⟨a, b, c⟩ := ih
      rw [mt]
      by_cases hm : has (s k) m
      · rw [if_pos hm]
        have := top_ge (fun p => ck s k p i) ((mem_parts (s k) m).2 hm)
        refine ⟨by omega, by omega, fun p hp hh => ?_⟩
        by_cases e : p = m
        · subst e; omega
        · have := c p (by omega) hh; omega
      · rw [if_neg hm]
        refine ⟨a, b, fun p hp hh => ?_⟩
        by_cases e : p = m
        · subst e; exact (hm hh).elim
        · exact c p (by omega) hh
  obtain ⟨a, b, c⟩ := h1 D
  refine Int.le_antisymm b (top_le a fun p hp => ?_)
  have hh := (mem_parts _ _).1 hp
  have := (has_range hh).1
  have := hD p hh
  have := c p.toNat (by omega) (by rw [show ((p.toNat : Nat) : Int) = p by omega]; exact hh)
  rw [show ((p.toNat : Nat) : Int) = p by omega] at this
  exact this

section
variable (l : List Hap) (n : Nat) (A : Option Addr) (c D : Nat)
set_option maxRecDepth 100000 in
set_option maxHeartbeats 4000000 in
theorem clock_step (hl : l.length = n) (hn : n ≤ 100) (hD1 : 1 ≤ D) (hD2 : D ≤ 65) (k : Nat) (hk : k ≤ n) (who : Nat)
    (ih : ∀ j, j < k → ∀ w, Hs w A l → Calls Try.prog 28 #[.slice A n c, .int .i64 ((j : Nat) : Int), .int .i64 (D : Int)] w (RefPost w D (st (sq l) j))) (w : World) (h : Hs w A l) :
    Calls Try.prog 42 #[.slice A n c, .int .i64 (k : Int), .int .i64 (who : Int), .int .i64 (D : Int)] w (RefPost w D (fun i => ck (sq l) k who i)) := by
  have HH := Lib.hid h
  have HL := Lib.hid hl
  have KH := Lib.hid has_any
  have IH := Lib.hid ih
  have hmk := run_make_row' (P := Try.prog) 26 3 (.int .i64 0) 8 Try.underlying26 int_info rfl .i64 .i64 D (by omega) (by omega)
  rw [row_made] at hmk
  have HE := Lib.hid (fun j (hj : j < k) (hh : has (sq l j) who) (hn : ∀ q, j < q → q < k → ¬ has (sq l q) who) W e W' (hW : Below w.heap.size w W) (h : RefPost W D (st (sq l) j) e W') => (by
    obtain ⟨g, he, h⟩ := RefPost.grown hW h
    exact ⟨g, he, h.congr fun i _ => (ck_last (sq l) hh hj hn).symm⟩ : RefPost w D (fun i => ck (sq l) k who i) e W'))
  have HZ := Lib.hid (fun (hn : ∀ q, q < k → ¬ has (sq l q) who) W (hW : Below w.heap.size w W) => (by
    refine ⟨_, rfl, (?_ : Rw w W.heap.size D (fun i => ck (sq l) k who i) _)⟩
    exact ⟨(by rw [row_congr (G := fun _ => 0) (fun i _ => ck_none (sq l) hn)]; exact Blk.new W 3 _), hW.alloc hW.size _, hW.size⟩ : RefPost w D (fun i => ck (sq l) k who i) (.returned (.slice (some ⟨W.heap.size, 0, none⟩) D D)) (W.alloc (.cells (row D fun _ => 0) 3))))
  generalize RefPost w D (fun i => ck (sq l) k who i) = R at *
  have B0 := Below.refl w.heap.size w
  have i0 : (0 : Int) ≤ (D : Int) := by omega
  have k0 : (0 : Int) ≤ (k : Int) := by omega
  have k1 : (k : Int) ≤ 100 := by omega
  clear h hl ih
  go_enter Try.func42, Try.ntmps42
  go_wp2_with fail
  go_loopw [9] (fun i wr => ∃ j : Nat, j ≤ k ∧ i = .int .i64 ((j : Nat) - 1 : Int) ∧ Hid (∀ q, j ≤ q → q < k → ¬ has (sq l q) who) ∧ Hid (Below w.heap.size w wr)) (fun i _ => (intOf i + 1).toNat)
  case atStart => exact ⟨k, Nat.le_refl _, by go_num, fun q h1 h2 => by omega, B0⟩
  case round =>
    obtain ⟨j, hj, rfl, hno, hbl⟩ := hrel
    clear B0
    by_cases hj0 : 0 < j
    · obtain ⟨q, rfl⟩ : ∃ q, j = q + 1 := ⟨j - 1, by omega⟩
      rw [show (((q + 1 : Nat) : Int) - 1) = (q : Int) by omega]
      have hqn : q < l.length := by rw [HL.out]; omega
      obtain ⟨hb0, off, rfl, h5⟩ := (HH.out.below hbl.out) (by omega)
      obtain ⟨x0, x1, x2, x3, x4⟩ := h5.five (k := q) hqn
      have KI := Lib.hid (fun W (hW : Below w.heap.size w W) => (IH.out q (by omega) W (HH.out.below hW)))
      have HS := Lib.hid (show sq l q = (l.getD q hap0).pr from rfl)
      have HE2 := Lib.hid (HE.out q (by omega))
      have j1 : (0 : Int) ≤ (q : Int) := by omega
      have j2 : (q : Int) < (n : Int) := by omega
      clear h5 IH HE
      generalize l.getD q hap0 = x at *
      have KH2 := Lib.hid (fun W => KH.out x who W)
      rw [← HS.out] at KH2
      obtain ⟨kd, wh, st_, ch, peer⟩ := x
      dsimp only [Hap.cs] at *
      by_cases hh : has (sq l q) who
      · have HR := Lib.hid (HE2.out hh (fun p h1 h2 => hno.out p (by omega) h2))
        rw [show decide (has (sq l q) who) = true from decide_eq_true hh] at KH2
        clear hh hno HE2
        go_wp2_with fail
        with_reducible (refine Calls.mono (KH2.out _) ?_)
        rintro e w1 ⟨rfl, hb1⟩
        have HB := Lib.hid (hbl.out.trans (hb1.mono hbl.out.size))
        clear hb1
        go_wp2_with fail
        with_reducible (refine Calls.mono (KI.out _ HB.out) ?_)
        rintro e w2 hp
        obtain ⟨g, rfl, hrw⟩ := hp
        have HF := Lib.hid (HR.out w1 _ w2 HB.out ⟨g, rfl, hrw⟩)
        clear hrw
        go_wp2_with fail
        (try go_ret)
        exact HF.out
      · rw [show decide (has (sq l q) who) = false from decide_eq_false hh] at KH2
        have HN : Hid (∀ p, q ≤ p → p < k → ¬ has (sq l p) who) := fun p h1 h2 => by
          by_cases e : p = q
          · subst e; exact hh
          · exact hno.out p (by omega) h2
        clear hh hno HE2 KI
        go_wp2_with fail
        with_reducible (refine Calls.mono (KH2.out _) ?_)
        rintro e w1 ⟨rfl, hb1⟩
        have HB := Lib.hid (hbl.out.trans (hb1.mono hbl.out.size))
        clear hb1
        go_wp2_with fail
        go_roundw
        case rel => exact ⟨q, by omega, by first | rfl | go_num, HN, HB⟩
        case measure => simp [intOf]
    · obtain rfl : j = 0 := by omega
      have HF := Lib.hid (HZ.out (fun q hq => hno.out q (Nat.zero_le _) hq) wr hbl.out)
      clear hno
      go_wp2_with fail
      (try go_ret)
      exact HF.out
/-- Between: those below m are met; at one more, the first j numbers are done. -/
def hmx (F G : Int → Int) (j i : Nat) : Int := if i < j then max (F i) (G i) else F i
theorem hmx_next (F G : Int → Int) (j i : Nat) : (if i = j then max (F j) (G j) else hmx F G j i) = hmx F G (j + 1) i := by
  unfold hmx
  by_cases e : i = j
  · subst e; rw [if_pos rfl, if_pos (by omega)]
  · rw [if_neg e]
    by_cases h : i < j
    · rw [if_pos h, if_pos (by omega)]
    · rw [if_neg h, if_neg (by omega)]
theorem hmx_at (F G : Int → Int) (j : Nat) : hmx F G j j = F j := if_neg (by omega)
theorem hmx_done (F G : Int → Int) {D i : Nat} (h : i < D) : hmx F G D i = max (F i) (G i) := if_pos h
set_option maxRecDepth 100000 in
set_option maxHeartbeats 4000000 in
theorem meet_step (hl : l.length = n) (hn : n ≤ 100) (hD1 : 1 ≤ D) (hD2 : D ≤ 65) (k : Nat) (hk : k < n)
    (ih : ∀ who : Nat, ∀ w, Hs w A l → Calls Try.prog 42 #[.slice A n c, .int .i64 (k : Int), .int .i64 (who : Int), .int .i64 (D : Int)] w (RefPost w D (fun i => ck (sq l) k who i))) (w : World) (h : Hs w A l) :
    Calls Try.prog 36 #[.slice A n c, .int .i64 (k : Int), .int .i64 (D : Int)] w (RefPost w D (mt (ck (sq l) k) (fun p => has (sq l k) p) D)) := by
  have HL := Lib.hid hl
  have hkl : k < l.length := by omega
  have KH := Lib.hid has_any
  have IH := Lib.hid ih
  obtain ⟨hb0, off, rfl, h5⟩ := h (by omega)
  have HH := Lib.hid h5
  have HH2 := Lib.hid h
  have hmk := run_make_row' (P := Try.prog) 26 3 (.int .i64 0) 8 Try.underlying26 int_info rfl .i64 .i64 D (by omega) (by omega)
  rw [row_made] at hmk
  have HS := Lib.hid (show sq l k = (l.getD k hap0).pr from rfl)
  have HC := Lib.hid (fun W (hW : Below w.heap.size w W) => ((HH.out.below hW).five (k := k) hkl))
  have KI := Lib.hid (fun who W (hW : Below w.heap.size w W) => (IH.out who W (HH2.out.below hW)))
  have HE := Lib.hid (fun g W (h : Rw w g D (fun i => mt (ck (sq l) k) (fun p => has (sq l k) p) D i) W) => (show RefPost w D (mt (ck (sq l) k) (fun p => has (sq l k) p) D) (.returned (.slice (some ⟨g, 0, none⟩) D D)) W from ⟨g, rfl, h⟩))
  generalize RefPost w D (mt (ck (sq l) k) (fun p => has (sq l k) p) D) = R at *
  have HM := Lib.hid (fun m i => (show mt (ck (sq l) k) (fun p => has (sq l k) p) (m + 1) i = if has (sq l k) m then max (mt (ck (sq l) k) (fun p => has (sq l k) p) m i) (ck (sq l) k m i) else mt (ck (sq l) k) (fun p => has (sq l k) p) m i from rfl))
  have HM0 := Lib.hid (show mt (ck (sq l) k) (fun p => has (sq l k) p) 0 = fun _ => 0 from rfl)
  generalize mt (ck (sq l) k) (fun p => has (sq l k) p) = M at *
  have i0 : (0 : Int) ≤ (D : Int) := by omega
  have k0 : (0 : Int) ≤ (k : Int) := by omega
  have k1 : (k : Int) < (n : Int) := by omega
  have H0 := Lib.hid (show Rw w w.heap.size D (fun i => M 0 i) (w.alloc (.cells (row D fun _ => 0) 3)) from ⟨by rw [HM0.out]; exact Blk.new w 3 _, (Below.refl _ _).alloc (Nat.le_refl _) _, Nat.le_refl _⟩)
  clear h h5 hl ih IH HH2 HH
  generalize l.getD k hap0 = x at *
  have KH2 := Lib.hid (fun who W => KH.out x who W)
  rw [← HS.out] at KH2
  obtain ⟨kd, wh, st_, ch, peer⟩ := x
  dsimp only [Hap.cs] at *
  generalize sq l k = z at *
  go_enter Try.func36, Try.ntmps36
  go_wp2_with fail
  generalize w.alloc (.cells (row D fun _ => 0) 3) = W0 at *
  generalize hg : w.heap.size = g at H0 ⊢
  have HG := Lib.hid hg
  clear hg hmk
  go_loopw [8, 9, 10] (fun mm _ _ wr => ∃ m : Nat, m ≤ D ∧ mm = .int .i64 ((m : Nat) : Int) ∧ Hid (Rw w g D (fun i => M m i) wr)) (fun mm _ _ _ => D - (intOf mm).toNat)
  case atStart => exact ⟨0, Nat.zero_le _, rfl, H0.out⟩
  case round =>
    obtain ⟨m, hm, rfl, hst⟩ := hrel
    by_cases hlt : m < D
    · have j1 : (0 : Int) ≤ (m : Int) := by omega
      have j2 : (m : Int) < (D : Int) := by omega
      obtain ⟨x0, x1, x2, x3, x4⟩ := HC.out wr hst.out.bel
      have KH3 := KH2.out (m : Int)
      by_cases hh : has z m
      · rw [show decide (has z m) = true from decide_eq_true hh] at KH3
        have HMx := Lib.hid (fun i => (HM.out m i).trans (if_pos hh))
        have KH3 := Lib.hid KH3
        clear hh H0
        go_wp2_with fail
        with_reducible (refine Calls.mono (KH3.out _) ?_)
        rintro e w1 ⟨rfl, hb1⟩
        have HS1 := Lib.hid (hst.out.below hb1)
        clear hb1 hst
        go_wp2_with fail
        with_reducible (refine Calls.mono (KI.out _ _ HS1.out.bel) ?_)
        rintro e w2 hp
        obtain ⟨g2, rfl, hrw⟩ := hp
        have HS2 := Lib.hid (HS1.out.below hrw.bel)
        have HR2 := Lib.hid (⟨hrw.blk, hrw.big⟩ : Blk w2 g2 3 (row D fun i => ck (sq l) k m i) ∧ w1.heap.size ≤ g2)
        have HR3 := Lib.hid (Nat.lt_of_lt_of_le HS1.out.blk.lt hrw.big)
        clear hrw HS1
        generalize ck (sq l) k m = G at *
        go_wp2_with fail
        go_loopw [10] (fun jj wr => ∃ j : Nat, j ≤ D ∧ jj = .int .i64 ((j : Nat) : Int) ∧ Hid (Rw w g D (hmx (M m) G j) wr) ∧ Hid (Blk wr g2 3 (row D fun i => G i))) (fun jj _ => D - (intOf jj).toNat)
        case atStart => exact ⟨0, Nat.zero_le _, rfl, HS2.out.congr fun i _ => rfl, HR2.out.1⟩
        case round =>
          obtain ⟨j, hj, rfl, hst, hg2⟩ := hrel
          clear HS2 HR2
          by_cases hlt2 : j < D
          · have a1 : (0 : Int) ≤ (j : Int) := by omega
            have a2 : (j : Int) < (D : Int) := by omega
            have c1 := hst.out.cell hlt2
            have f1 := hst.out.frozen j
            have c2 : wr.cell? ⟨g2, j, none⟩ = some (.int .i64 (G j)) := by rw [hg2.out.cell, row_get _ hlt2]
            rw [hmx_at] at c1
            have HS3 := Lib.hid ((hst.out.drewN 1).set_ j (max (M m j) (G j)))
            have HG3 := Lib.hid ((hg2.out.drewN 1).far (p := ⟨g, j, none⟩) (show g2 ≠ g by have := HR3.out; omega) (.int .i64 (max (M m j) (G j))))
            have HS4 := Lib.hid (HS3.out.congr fun i _ => hmx_next (M m) G j i)
            clear hst hg2 HM HMx HS3
            generalize hFn : hmx (M m) G (j + 1) = Fn at *
            have HFn := Lib.hid hFn
            clear hFn
            generalize M m j = u at *
            generalize G j = v at *
            rw [← max_if] at HS4 HG3
            go_wp2_with fail
            go_region
            go_wp2_with fail
            go_roundw
            case rel => exact ⟨j + 1, by omega, by go_num, by rw [HFn.out]; exact HS4, HG3⟩
            case measure => simp [intOf]; omega
          · obtain rfl : j = D := by omega
            have HF := Lib.hid (hst.out.congr (G := fun i => M (m + 1) i) (fun i hi => by rw [hmx_done _ _ hi]; exact (HMx.out i).symm))
            clear hst hg2
            go_wp2_with fail
            go_roundw
            case rel => exact ⟨m + 1, by omega, by go_num, HF⟩
            case measure => simp [intOf]; omega
      · rw [show decide (has z m) = false from decide_eq_false hh] at KH3
        have HMx := Lib.hid (fun i => (HM.out m i).trans (if_neg hh))
        have KH3 := Lib.hid KH3
        clear hh H0
        go_wp2_with fail
        with_reducible (refine Calls.mono (KH3.out _) ?_)
        rintro e w1 ⟨rfl, hb1⟩
        have HF := Lib.hid ((hst.out.below hb1).congr (G := fun i => M (m + 1) i) (fun i hi => (HMx.out i).symm))
        clear hb1 hst
        go_wp2_with fail
        go_roundw
        case rel => exact ⟨m + 1, by omega, by go_num, HF⟩
        case measure => simp [intOf]; omega
    · obtain rfl : m = D := by omega
      have HF := Lib.hid (HE.out g wr hst.out)
      clear hst
      go_wp2_with fail
      (try go_ret)
      exact HF.out
/-- One is added to those that have a part, of the first j. -/
def inc (F : Int → Int) (z : Int × Int) (j i : Nat) : Int := if i < j ∧ has z i then F i + 1 else F i
theorem inc_yes (F : Int → Int) {z : Int × Int} {j : Nat} (h : has z j) (i : Nat) : (if i = j then F j + 1 else inc F z j i) = inc F z (j + 1) i := by
  unfold inc
  by_cases e : i = j
  · subst e; rw [if_pos rfl, if_pos ⟨by omega, h⟩]
  · rw [if_neg e]
    by_cases h : i < j ∧ has z i
    · rw [if_pos h, if_pos ⟨by omega, h.2⟩]
    · rw [if_neg h, if_neg (fun g => h ⟨by omega, g.2⟩)]
theorem inc_no (F : Int → Int) {z : Int × Int} {j : Nat} (h : ¬ has z j) (i : Nat) : inc F z j i = inc F z (j + 1) i := by
  unfold inc
  by_cases e : i = j
  · subst e; rw [if_neg (fun g => h g.2), if_neg (fun g => h g.2)]
  · by_cases h : i < j ∧ has z i
    · rw [if_pos h, if_pos ⟨by omega, h.2⟩]
    · rw [if_neg h, if_neg (fun g => h ⟨by omega, g.2⟩)]
theorem inc_at (F : Int → Int) (z : Int × Int) (j : Nat) : inc F z j j = F j := if_neg (by omega)
set_option maxRecDepth 100000 in
set_option maxHeartbeats 4000000 in
theorem stepped_step (hl : l.length = n) (hn : n ≤ 100) (hD1 : 1 ≤ D) (hD2 : D ≤ 65) (k : Nat) (hk : k < n) (hD : ∀ p, has (sq l k) p → p < D)
    (ih : ∀ w, Hs w A l → Calls Try.prog 36 #[.slice A n c, .int .i64 (k : Int), .int .i64 (D : Int)] w (RefPost w D (mt (ck (sq l) k) (fun p => has (sq l k) p) D))) (w : World) (h : Hs w A l) :
    Calls Try.prog 28 #[.slice A n c, .int .i64 (k : Int), .int .i64 (D : Int)] w (RefPost w D (st (sq l) k)) := by
  have HL := Lib.hid hl
  have hkl : k < l.length := by omega
  have KH := Lib.hid has_any
  have IH := Lib.hid (ih w h)
  obtain ⟨hb0, off, rfl, h5⟩ := h (by omega)
  have HH := Lib.hid h5
  have HS := Lib.hid (show sq l k = (l.getD k hap0).pr from rfl)
  have HC := Lib.hid (fun W (hW : Below w.heap.size w W) => ((HH.out.below hW).five (k := k) hkl))
  have HE := Lib.hid (fun g W (h : Rw w g D (fun i => inc (mt (ck (sq l) k) (fun p => has (sq l k) p) D) (sq l k) D i) W) => (show RefPost w D (st (sq l) k) (.returned (.slice (some ⟨g, 0, none⟩) D D)) W from
    ⟨g, rfl, h.congr fun i hi => by unfold inc st; rw [mt_top (sq l) k D hD]; by_cases hh : has (sq l k) i <;> simp [hh, hi]⟩))
  have HV := Lib.hid (fun i => (show 0 ≤ mt (ck (sq l) k) (fun p => has (sq l k) p) D i ∧ mt (ck (sq l) k) (fun p => has (sq l k) p) D i ≤ k + 1 by
    rw [mt_top (sq l) k D hD]
    have h1 := st_range (sq l) k i
    have h2 := top_nn (fun p => ck (sq l) k p i) (parts (sq l k))
    unfold st at h1
    split at h1 <;> omega))
  generalize RefPost w D (st (sq l) k) = R at *
  generalize mt (ck (sq l) k) (fun p => has (sq l k) p) D = M at *
  have i0 : (0 : Int) ≤ (D : Int) := by omega
  have k0 : (0 : Int) ≤ (k : Int) := by omega
  have k1 : (k : Int) < (n : Int) := by omega
  clear h h5 hl ih HH hD
  generalize l.getD k hap0 = x at *
  have KH2 := Lib.hid (fun who W => KH.out x who W)
  rw [← HS.out] at KH2
  obtain ⟨kd, wh, st_, ch, peer⟩ := x
  dsimp only [Hap.cs] at *
  generalize sq l k = z at *
  go_enter Try.func28, Try.ntmps28
  go_wp2_with fail
  with_reducible (refine Calls.mono IH.out ?_)
  rintro e w1 hp
  obtain ⟨g, rfl, hrw⟩ := hp
  have H0 := Lib.hid (hrw.congr (G := inc M z 0) (fun i _ => (if_neg (by omega)).symm))
  clear hrw IH
  go_wp2_with fail
  go_loopw [8] (fun jj wr => ∃ j : Nat, j ≤ D ∧ jj = .int .i64 ((j : Nat) : Int) ∧ Hid (Rw w g D (inc M z j) wr)) (fun jj _ => D - (intOf jj).toNat)
  case atStart => exact ⟨0, Nat.zero_le _, rfl, H0.out⟩
  case round =>
    obtain ⟨j, hj, rfl, hst⟩ := hrel
    by_cases hlt : j < D
    · have j1 : (0 : Int) ≤ (j : Int) := by omega
      have j2 : (j : Int) < (D : Int) := by omega
      obtain ⟨x0, x1, x2, x3, x4⟩ := HC.out wr hst.out.bel
      have KH3 := KH2.out (j : Int)
      have hv := HV.out j
      by_cases hh : has z j
      · rw [show decide (has z j) = true from decide_eq_true hh] at KH3
        have HX := Lib.hid (fun i => inc_yes M hh i)
        have KH3 := Lib.hid KH3
        clear hh H0
        go_wp2_with fail
        with_reducible (refine Calls.mono (KH3.out _) ?_)
        rintro e w2 ⟨rfl, hb2⟩
        have hs2 := hst.out.below hb2
        have c1 := hs2.cell hlt
        have f1 := hs2.frozen j
        rw [inc_at] at c1
        have HF := Lib.hid ((hs2.set_ j (M j + 1)).congr fun i _ => HX.out i)
        clear hb2 hst hs2 HX HV
        generalize hFn : inc M z (j + 1) = Fn at *
        have HFn := Lib.hid hFn
        clear hFn
        generalize M j = u at *
        go_wp2_with fail
        go_roundw
        case rel => exact ⟨j + 1, by omega, by go_num, by rw [HFn.out]; exact HF⟩
        case measure => simp [intOf]; omega
      · rw [show decide (has z j) = false from decide_eq_false hh] at KH3
        have HX := Lib.hid (fun i => inc_no M hh i)
        have KH3 := Lib.hid KH3
        clear hh H0
        go_wp2_with fail
        with_reducible (refine Calls.mono (KH3.out _) ?_)
        rintro e w2 ⟨rfl, hb2⟩
        have HF := Lib.hid ((hst.out.below hb2).congr fun i _ => HX.out i)
        clear hb2 hst
        go_wp2_with fail
        go_roundw
        case rel => exact ⟨j + 1, by omega, by go_num, HF⟩
        case measure => simp [intOf]; omega
    · obtain rfl : j = D := by omega
      have HF := Lib.hid (HE.out g wr hst.out)
      clear hst
      go_wp2_with fail
      (try go_ret)
      exact HF.out
/-- THE CLOCK OF A STEP. -/
theorem stepped_any (hl : l.length = n) (hn : n ≤ 100) (hD1 : 1 ≤ D) (hD2 : D ≤ 65) (hD : ∀ k, k < n → ∀ p, has (sq l k) p → p < D) :
    ∀ (m k : Nat), k < m → k < n → ∀ (w : World), Hs w A l → Calls Try.prog 28 #[.slice A n c, .int .i64 (k : Int), .int .i64 (D : Int)] w (RefPost w D (st (sq l) k)) := by
  intro m
  induction m with
  | zero => intro k h; omega
  | succ m ih =>
    intro k hm hk w h
    refine stepped_step l n A c D hl hn hD1 hD2 k hk (hD k hk) (fun w h => ?_) w h
    refine meet_step l n A c D hl hn hD1 hD2 k hk (fun who w h => ?_) w h
    exact clock_step l n A c D hl hn hD1 hD2 k (by omega) who (fun j hj w h => ih j (by omega) (by omega) w h) w h
set_option maxHeartbeats 1600000 in
theorem refClock_any (hl : l.length = n) (hn : n ≤ 100) (hDD : D = (wd (sq l) n).toNat) (k : Nat) (hk : k < n) (w : World) (h : Hs w A l) :
    Calls Try.prog 15 #[.slice A n c, .int .i64 (k : Int)] w (RefPost w D (st (sq l) k)) := by
  have h1 := wd_pos (sq l) n
  have h2 := wd_le (sq l) n
  have K1 := Lib.hid (wide_any l n hl hn A c w h)
  have K2 := Lib.hid (stepped_any l n A c D hl hn (by omega) (by omega) (fun k hk p hp => by have := (wd_has (sq l) hk hp).2; omega) (k + 1) k (Nat.lt_succ_self k) hk w h)
  have hW : wd (sq l) n = (D : Int) := by omega
  rw [hW] at K1
  clear h hl hDD h1 h2 hW
  go_enter Try.func15, Try.ntmps15
  go_wp2_with fail
  with_reducible (refine Calls.mono K1.out ?_)
  rintro e w1 ⟨rfl, rfl⟩
  go_wp2_with fail
  with_reducible (refine Calls.mono K2.out ?_)
  rintro e w1 hp
  obtain ⟨g, rfl, hrw⟩ := hp
  have HF := Lib.hid (show RefPost w D (st (sq l) k) _ w1 from ⟨g, rfl, hrw⟩)
  generalize RefPost w D (st (sq l) k) = R at *
  clear hrw
  go_wp2_with fail
  (try go_ret)
  exact HF.out
end
end Go.Proofs.Ythaofkhjhmcknaa
