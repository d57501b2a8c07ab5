/- THE WALK of the reference's far. At most 100 steps. -/
import Derived.Test.YthaofkhjhmcknaaStateF
namespace Go.Proofs.Ythaofkhjhmcknaa
open Go.RowKit
set_option linter.unusedVariables false

def FarPost (w : World) (v : Int) (e : Ending) (w' : World) : Prop := e = .returned (.int .i64 v) ∧ Below w.heap.size w w'
/-- The state of a scan. -/
structure St (p : Prop) (t : Nat → Nat → Bool) (a n g : Nat) (w0 : World) (k : Nat) (v : Int) (w : World) : Prop where
  scan : Scan p t a n g k v w
  bel : Below w0.heap.size w0 w
  big : w0.heap.size ≤ g
section
variable {p : Prop} {t : Nat → Nat → Bool} {a n g k : Nat} {v : Int} {w0 w w' : World}
theorem St.below (h : St p t a n g w0 k v w) (hb : Below w.heap.size w w') : St p t a n g w0 k v w' := ⟨h.scan.below hb, h.bel.trans (hb.mono h.bel.size), h.big⟩
theorem St.drewN (h : St p t a n g w0 k v w) (q : Nat) : St p t a n g w0 k v (w.drewN q) := ⟨h.scan.only ((Only.refl (fun _ => False) w).drewN q) (fun h => h), ⟨h.bel.os, h.bel.tape, h.bel.output, h.bel.size, h.bel.block⟩, h.big⟩
theorem St.set_ (h : St p t a n g w0 k v w) (u : Int) : St p t a n g w0 k u (w.setCell ⟨g, k, none⟩ (.int .i64 u)) := ⟨h.scan.set_ u, h.bel.setCell (p := ⟨g, k, none⟩) h.big _, h.big⟩
end
theorem below_drew {B : Nat} {w w' : World} (h : Below B w w') (q : Nat) : Below B w (w'.drewN q) := ⟨h.os, h.tape, h.output, h.size, h.block⟩

set_option maxRecDepth 100000 in
set_option maxHeartbeats 4000000 in
theorem far_any (l : List Hap) (n a b : Nat) (hl : l.length = n) (hn : n ≤ 100) (hb : b < n) (hab : a ≤ b) (A : Option Addr) (c : Nat) (w : World) (h : Hs w A l) :
    Calls Try.prog 23 #[.slice A n c, .int .i64 a, .int .i64 b] w (FarPost w (far (tl l) a b)) := by
  obtain ⟨hb0, off, rfl, h5⟩ := h (by omega)
  have HL := Lib.hid hl
  have HH := Lib.hid h5
  have KT := Lib.hid refTouch_any
  have i0 : (0 : Int) ≤ (n : Int) := by omega
  have hmk := run_make_row' (P := Try.prog) 26 3 (.int .i64 0) 8 Try.underlying26 int_info rfl .i64 .i64 n (by omega) (by omega)
  rw [row_made] at hmk
  have HF := Lib.hid (fun W v (hW : Below w.heap.size w W) (hv : v = far (tl l) a b) => (show FarPost w (far (tl l) a b) (.returned (.int .i64 v)) W from ⟨ret_int hv, hW⟩))
  clear h h5 hl
  generalize hr : far (tl l) a b = r at HF ⊢
  have HR := Lib.hid hr
  clear hr
  have H0 := Lib.hid (show St False (tl l) a n w.heap.size w (a + 1) 0 (w.alloc (.cells (row n fun _ => 0) 3)) from ⟨Scan.ref0 (Blk.new w 3 _), (Below.refl _ _).alloc (Nat.le_refl _) _, Nat.le_refl _⟩)
  go_enter Try.func23, Try.ntmps23
  go_wp2_with fail
  generalize hW : w.alloc (.cells (row n fun _ => 0) 3) = W0 at *
  generalize hg : w.heap.size = g at H0 ⊢
  have HG := Lib.hid hg
  clear hW hg hmk
  go_loopw [8, 9] (fun kk ii wr => ∃ k v, a + 1 ≤ k ∧ k ≤ b + 1 ∧ kk = .int .i64 ((k : Nat) : Int) ∧ Hid (St False (tl l) a n g w k v wr)) (fun kk _ _ => b + 1 - (intOf kk).toNat)
  case atStart => exact ⟨a + 1, 0, Nat.le_refl _, by omega, by go_num, H0.out⟩
  case round =>
    obtain ⟨k, v0, hk1, hk2, rfl, hst⟩ := hrel
    by_cases hkb : k ≤ b
    · have j0 : (0 : Int) ≤ (k : Int) := by omega
      have j1 : (k : Int) ≤ (b : Int) := by omega
      have j2 : (k : Int) < (n : Int) := by omega
      have c1 := hst.out.scan.top (by omega)
      have f1 := hst.out.scan.frozen k
      have HS1 := Lib.hid (hst.out.set_ (-1))
      clear hst
      go_wp2_with fail
      generalize wr.setCell ⟨g, k, none⟩ (.int .i64 (-1)) = W1 at *
      clear c1 f1
      go_loopw [9] (fun ii wr => ∃ i : Nat, a ≤ i ∧ i ≤ k ∧ ii = .int .i64 ((i : Nat) : Int) ∧ Hid (St False (tl l) a n g w k (best (tl l) a (far (tl l) a) k (i - a)) wr)) (fun ii _ => k - (intOf ii).toNat)
      case atStart => exact ⟨a, Nat.le_refl _, by omega, rfl, by rw [Nat.sub_self]; exact HS1.out⟩
      case round =>
        obtain ⟨i, hi1, hi2, rfl, hst⟩ := hrel
        by_cases hik : i < k
        · have hf := far_range (tl l) a hi1
          have hbr := best_range (tl l) a k (i - a)
          have m0 : (0 : Int) ≤ (i : Int) := by omega
          have m1 : (i : Int) < (k : Int) := by omega
          have m2 : (i : Int) < (n : Int) := by omega
          have HY := Lib.hid (best_yes (tl l) a (k := k) hi1)
          have HN := Lib.hid (best_no (tl l) a (k := k) hi1)
          have HSC := Lib.hid (fun W (hW : St False (tl l) a n g w k (best (tl l) a (far (tl l) a) k (i - a)) W) => (⟨hW.scan.low hi1 hik (by omega), hW.scan.top (by omega)⟩ : _ ∧ _))
          have c1 := hst.out.scan.low hi1 hik (by omega)
          have c2 := hst.out.scan.top (by omega)
          generalize best (tl l) a (far (tl l) a) k (i - a) = v at *
          generalize hv' : best (tl l) a (far (tl l) a) k (i + 1 - a) = v' at *
          have HV' := Lib.hid hv'
          clear hv'
          generalize far (tl l) a i = fi at *
          by_cases hA : fi < 0
          · have hd : decide ((0 : Int) ≤ fi) = false := by simp; omega
            have HV := Lib.hid (HN.out (.inl hA))
            go_wp2_with fail
            go_quiet (fail)
            have HS2 := Lib.hid (hst.out.drewN nq)
            go_wp2_with fail
            go_roundw
            case rel => exact ⟨i + 1, by omega, by omega, by go_num, by rw [HV'.out, HV.out]; exact HS2⟩
            case measure => simp [intOf]; omega
          · have hA2 : 0 ≤ fi := by omega
            clear hA
            have hd : decide ((0 : Int) ≤ fi) = true := by simp; omega
            have HB := Lib.hid (fun (p : ExtW wr) => hst.out.below p.ext)
            have htl := show tl l i k = tchb (l.getD i hap0).pr (l.getD k hap0).pr from rfl
            have hC1 : ∀ p : ExtW wr, p.w'.cell? ⟨g, i, none⟩ = some (.int .i64 fi) := fun p => (HSC.out _ (HB.out p)).1
            have hC2 : ∀ p : ExtW wr, p.w'.cell? ⟨g, k, none⟩ = some (.int .i64 v) := fun p => (HSC.out _ (HB.out p)).2
            have h5 := fun p : ExtW wr => (HH.out.below (HB.out p).bel).five (k := i) (by rw [HL.out]; omega)
            have x0 := fun p => (h5 p).1
            have x1 := fun p => (h5 p).2.1
            have x2 := fun p => (h5 p).2.2.1
            have x3 := fun p => (h5 p).2.2.2.1
            have x4 := fun p => (h5 p).2.2.2.2
            clear h5
            have h5 := fun p : ExtW wr => (HH.out.below (HB.out p).bel).five (k := k) (by rw [HL.out]; omega)
            have y0 := fun p => (h5 p).1
            have y1 := fun p => (h5 p).2.1
            have y2 := fun p => (h5 p).2.2.1
            have y3 := fun p => (h5 p).2.2.2.1
            have y4 := fun p => (h5 p).2.2.2.2
            clear h5
            have HTL := Lib.hid htl
            clear htl c1 c2
            generalize l.getD i hap0 = x at *
            generalize l.getD k hap0 = y at *
            have KT2 := Lib.hid (fun W => KT.out x y W)
            rw [← HTL.out] at KT2
            obtain ⟨kd1, who1, st1, ch1, peer1⟩ := x
            obtain ⟨kd2, who2, st2, ch2, peer2⟩ := y
            dsimp only [Hap.cs] at *
            cases htb : tl l i k with
            | false =>
              have HV := Lib.hid (HN.out (.inr (.inl htb)))
              rw [htb] at KT2
              clear htb
              go_wp2_with fail
              refine wp_region_ext (by kernel_rfl) (by kernel_rfl) ?_
              repeat (go_big_quiet_step ((go_at_call 22; exact Calls.ext_of (KT2.out _))))
              refine wpQuiet_nil ?_
              intro _ hw'
              obtain ⟨p, hw''⟩ := hw'
              subst hw''
              have HS2 := Lib.hid (HB.out p)
              go_wp2_with fail
              go_roundw
              case rel => exact ⟨i + 1, by omega, by omega, by go_num, by rw [HV'.out, HV.out]; exact HS2⟩
              case measure => simp [intOf]; omega
            | true =>
              rw [htb] at KT2
              have hF : ∀ p : ExtW wr, p.w'.frozen? ⟨g, k, none⟩ = false := fun p => (HB.out p).scan.frozen k
              by_cases hv0 : v < 0
              · have hd2 : decide (v < 0) = true := by simpa using hv0
                have HV := Lib.hid (HY.out hA2 htb (.inl hv0))
                clear htb
                go_wp2_with fail
                refine wp_region_ext (by kernel_rfl) (by kernel_rfl) ?_
                repeat (go_big_quiet_step ((go_at_call 22; exact Calls.ext_of (KT2.out _))))
                refine wpQuiet_nil ?_
                intro _ hw'
                obtain ⟨p, hw''⟩ := hw'
                subst hw''
                have HS2 := Lib.hid ((HB.out p).set_ (fi + 1))
                have d1 := hC1 p
                have d2 := hC2 p
                have d3 := hF p
                clear hC1 hC2 hF x0 x1 x2 x3 x4 y0 y1 y2 y3 y4
                go_wp2_with fail
                go_roundw
                case rel => exact ⟨i + 1, by omega, by omega, by go_num, by rw [HV'.out, HV.out]; exact HS2⟩
                case measure => simp [intOf]; omega
              · have hd2 : decide (v < 0) = false := by simpa using hv0
                by_cases hv1 : fi + 1 < v
                · have hd3 : decide (fi + 1 < v) = true := by simpa using hv1
                  have HV := Lib.hid (HY.out hA2 htb (.inr hv1))
                  clear htb
                  go_wp2_with fail
                  refine wp_region_ext (by kernel_rfl) (by kernel_rfl) ?_
                  repeat (go_big_quiet_step ((go_at_call 22; exact Calls.ext_of (KT2.out _))))
                  refine wpQuiet_nil ?_
                  intro _ hw'
                  obtain ⟨p, hw''⟩ := hw'
                  subst hw''
                  have HS2 := Lib.hid ((HB.out p).set_ (fi + 1))
                  have d1 := hC1 p
                  have d2 := hC2 p
                  have d3 := hF p
                  clear hC1 hC2 hF x0 x1 x2 x3 x4 y0 y1 y2 y3 y4
                  go_wp2_with fail
                  go_roundw
                  case rel => exact ⟨i + 1, by omega, by omega, by go_num, by rw [HV'.out, HV.out]; exact HS2⟩
                  case measure => simp [intOf]; omega
                · have hd3 : decide (fi + 1 < v) = false := by simpa using hv1
                  have HV := Lib.hid (HN.out (.inr (.inr (by omega))))
                  clear htb
                  go_wp2_with fail
                  refine wp_region_ext (by kernel_rfl) (by kernel_rfl) ?_
                  repeat (go_big_quiet_step ((go_at_call 22; exact Calls.ext_of (KT2.out _))))
                  refine wpQuiet_nil ?_
                  intro _ hw'
                  obtain ⟨p, hw''⟩ := hw'
                  subst hw''
                  have HS2 := Lib.hid (HB.out p)
                  go_wp2_with fail
                  go_roundw
                  case rel => exact ⟨i + 1, by omega, by omega, by go_num, by rw [HV'.out, HV.out]; exact HS2⟩
                  case measure => simp [intOf]; omega
        · obtain rfl : i = k := by omega
          have HFK := Lib.hid (far_k (tl l) a i (by omega))
          obtain ⟨v', hs', -⟩ := hst.out.scan.next HFK.out.symm
          have HS2 := Lib.hid (show St False (tl l) a n g w (i + 1) v' wr from ⟨hs', hst.out.bel, hst.out.big⟩)
          clear hst hs'
          go_wp2_with fail
          go_roundw
          case rel => exact ⟨i + 1, v', by omega, by omega, by go_num, HS2⟩
          case measure => simp [intOf]; omega
    · obtain rfl : k = b + 1 := by omega
      have hc := hst.out.scan.low hab (Nat.lt_succ_self b) (by omega)
      have j1 : (b : Int) < (n : Int) := by omega
      have j0 : (0 : Int) ≤ (b : Int) := by omega
      have HE := Lib.hid (fun v (hv : v = far (tl l) a b) => HF.out wr v hst.out.bel (hv.trans HR.out))
      clear hst
      generalize far (tl l) a b = fb at *
      go_wp2_with fail
      go_ret
      exact HE.out _ rfl
end Go.Proofs.Ythaofkhjhmcknaa
