/- THE WALK of the reference's Path. At most 100 steps. -/
import Derived.Test.YthaofkhjhmcknaaWalkN
namespace Go.Proofs.Ythaofkhjhmcknaa
open Go.RowKit
set_option linter.unusedVariables false

/-- What was found so far, going down from b. -/
def BestP (t : Nat → Nat → Bool) (a b k : Nat) (x : Int) : Prop :=
  (x = -1 ∧ ∀ i, k < i → i < b → far t a i = far t a b - 1 → t i b = true → False) ∨
  ∃ i : Nat, x = i ∧ k < i ∧ i < b ∧ far t a i = far t a b - 1 ∧ t i b = true ∧ ∀ i', k < i' → i' < i → far t a i' = far t a b - 1 → t i' b = true → False
theorem BestP.zero (t : Nat → Nat → Bool) (a b : Nat) : BestP t a b (b - 1) (-1) := .inl ⟨rfl, fun i h1 h2 => by omega⟩
theorem BestP.yes {t : Nat → Nat → Bool} {a b k : Nat} {x : Int} (h : BestP t a b k x) (h0 : 0 < k) (hk : k < b) (h1 : far t a k = far t a b - 1) (h2 : t k b = true) : BestP t a b (k - 1) k :=
  .inr ⟨k, rfl, by omega, hk, h1, h2, fun i' g1 g2 => by omega⟩
theorem BestP.no {t : Nat → Nat → Bool} {a b k : Nat} {x : Int} (h : BestP t a b k x) (h0 : 0 < k) (hn : ¬ (far t a k = far t a b - 1 ∧ t k b = true)) : BestP t a b (k - 1) x := by
  rcases h with ⟨rfl, h⟩ | ⟨i, rfl, h1, h2, h3, h4, h5⟩
  · refine .inl ⟨rfl, fun i g1 g2 g3 g4 => ?_⟩
    by_cases e : i = k
    · subst e; exact hn ⟨g3, g4⟩
    · exact h i (by omega) g2 g3 g4
  · refine .inr ⟨i, rfl, by omega, h2, h3, h4, fun i' g1 g2 g3 g4 => ?_⟩
    by_cases e : i' = k
    · subst e; exact hn ⟨g3, g4⟩
    · exact h5 i' (by omega) g2 g3 g4
theorem BestP.done {t : Nat → Nat → Bool} {a b : Nat} {x : Int} (h : BestP t a b a x) (hab : a < b) (hf : 0 ≤ far t a b) (ht : t a b = false) : ∃ i : Nat, x = i ∧ a < i ∧ Pre t a b i := by
  obtain ⟨i, h1, h2, h3, h4⟩ := some_pre t a hab hf
  have hia : a < i := by
    rcases Nat.lt_or_ge a i with h | h
    · exact h
    · obtain rfl : i = a := by omega
      rw [ht] at h4; cases h4
  rcases h with ⟨rfl, h⟩ | ⟨j, rfl, g1, g2, g3, g4, g5⟩
  · exact (h i hia h2 h3 h4).elim
  · refine ⟨j, rfl, g1, ⟨Nat.le_of_lt g1, g2, g3, g4, fun i' q1 q2 q3 q4 => ?_⟩⟩
    by_cases e : i' = a
    · subst e; rw [ht] at q4; cases q4
    · exact g5 i' (by omega) q2 q3 q4

theorem ext_far {wr : World} {p : ExtW wr} {args : Array Value} {v : Int} (h : Calls Try.prog 23 args p.w' (FarPost p.w' v)) : Calls Try.prog 23 args p.w' fun e w'' => e = .returned (.int .i64 v) ∧ ∃ q : ExtW wr, w'' = q.w' := Calls.ext_of h
theorem ext_touch {wr : World} {p : ExtW wr} {args : Array Value} {v : Bool} (h : Calls Try.prog 22 args p.w' (BoolPost p.w' v)) : Calls Try.prog 22 args p.w' fun e w'' => e = .returned (.bool v) ∧ ∃ q : ExtW wr, w'' = q.w' := Calls.ext_of h

theorem pathPost_two {w w1 : World} {l : List Hap} {a b : Nat} (hg : Good l a b) (ht : tl l a b = true) (hb : Below w.heap.size w w1) :
    PathPost w l a b (.returned (.slice (some ⟨w1.heap.size, 0, none⟩) 2 2)) (w1.alloc (.cells #[.int .i64 (a : Int), .int .i64 (b : Int)] 3)) := by
  have hab : a < b := by have := hg.2.1; omega
  refine ⟨[(a : Int), (b : Int)], .inl ⟨hg, by simpa using Pth.next (Pth.here) (pre_touch (tl l) a hab ht).1⟩, some ⟨w1.heap.size, 0, none⟩, 2, rfl, ?_, fun y hy => by cases hy; exact hb.size, hb.alloc hb.size _⟩
  exact ⟨rfl, Nat.le_refl _, by decide, fun x hx => by
    cases hx
    refine ⟨_, 0, _, rfl, Blk.new _ _ _, by simp, fun j hj => ?_⟩
    match j, hj with
    | 0, _ => rfl
    | 1, _ => rfl, fun h => (nomatch h)⟩
theorem pathPost_app {w w1 w2 : World} {l : List Hap} {a b i : Nat} {L : List Int} {A : Option Addr} {c' : Nat} {o : Obj} (hg : Good l a b) (hi : Pre (tl l) a b i) (hL : Pth (tl l) a i L) (hb : Below w.heap.size w w1)
    (hin : ∀ x, In A x → w.heap.size ≤ x) (A2 : Addr) (hv : Vec w2 3 1 (some A2) (L.length + 1) c' (ints L ++ [.int .i64 (b : Int)])) (ho : Only (In A) (w1.alloc o) w2)
    (hA : some A2 = A ∨ ∃ x, A2 = ⟨x, 0, none⟩ ∧ (w1.alloc o).heap.size ≤ x) : PathPost w l a b (.returned (.slice (some A2) (L.length + 1) c')) w2 := by
  refine ⟨L ++ [(b : Int)], .inl ⟨hg, by simpa using Pth.next hL hi⟩, some A2, c', by simp, by simpa [ints] using hv, fun y hy => ?_, (hb.alloc hb.size o).trans (ho.below (by simp; have := hb.size; omega) hin)⟩
  rcases hA with e | ⟨x, rfl, hx⟩
  · exact hin y (e ▸ hy)
  · cases hy
    rw [World.size_alloc] at hx
    have := hb.size
    show w.heap.size ≤ x
    omega

set_option maxRecDepth 100000 in
set_option maxHeartbeats 8000000 in
theorem refPath_any (l : List Hap) (n : Nat) (hl : l.length = n) (hn : n ≤ 100) (A : Option Addr) (c : Nat) (a : Int) : ∀ (m : Nat) (b : Int) (w : World), b.toNat < m → Hs w A l →
    Calls Try.prog 13 #[.slice A n c, .int .i64 a, .int .i64 b] w (PathPost w l a b) := by
  intro m
  induction m with
  | zero => intro b w h; omega
  | succ m ih =>
    intro b w hbm h
    have B0 := Below.refl w.heap.size w
    have KB := Lib.hid (refBefore_any l n hl hn A c a b w h)
    cases hgd : good l a b with
    | false =>
      have HE := Lib.hid (fun W (hW : Below w.heap.size w W) => pathPost_nil (w := w) (w' := W) (l := l) (a := a) (b := b) (fun g => by have := decide_eq_true g; unfold good at hgd; rw [this] at hgd; cases hgd) hW)
      rw [hgd] at KB
      clear h hl ih hgd
      go_enter Try.func13, Try.ntmps13
      go_wp2_with fail
      with_reducible (refine Calls.mono KB.out ?_)
      rintro e w1 ⟨rfl, hb1⟩
      have HF := Lib.hid (HE.out _ hb1)
      clear hb1
      go_wp2_with fail
      go_ret
      exact HF.out
    | true =>
      rw [hgd] at KB
      have hg := of_decide_eq_true hgd
      obtain ⟨g1, g2, g3, g4⟩ := id hg
      rw [hl] at g3
      obtain ⟨a', rfl⟩ : ∃ a' : Nat, a = a' := ⟨a.toNat, by omega⟩
      obtain ⟨b', rfl⟩ : ∃ b' : Nat, b = b' := ⟨b.toNat, by omega⟩
      rw [show ((a' : Int)).toNat = a' by simp, show ((b' : Int)).toNat = b' by simp] at g4
      rw [show ((b' : Int)).toNat = b' by simp] at hbm
      have hab : a' < b' := by omega
      have hbn : b' < n := by omega
      obtain ⟨hb0, off, rfl, h5⟩ := h (by omega)
      have HL := Lib.hid hl
      have HH := Lib.hid h5
      have HS := Lib.hid h
      have KT := Lib.hid refTouch_any
      have KF := Lib.hid (fun (k : Nat) W (hk : a' ≤ k) (hk2 : k < n) (hW : Hs W (some ⟨hb0, off, none⟩) l) => far_any l n a' k HL.out hn hk2 hk (some ⟨hb0, off, none⟩) c W hW)
      have HG := Lib.hid hg
      have G4 := Lib.hid g4
      have IH := Lib.hid ih
      clear h h5 hl ih hgd hg g4
      have i1 : (0 : Int) ≤ (a' : Int) := by omega
      have i2 : (a' : Int) < (n : Int) := by omega
      have i3 : (0 : Int) ≤ (b' : Int) := by omega
      have i4 : (b' : Int) < (n : Int) := by omega
      go_enter Try.func13, Try.ntmps13
      go_wp2_with fail
      with_reducible (refine Calls.mono KB.out ?_)
      rintro e w1 ⟨rfl, hb1⟩
      go_wp2_with fail
      have h5 := fun p : ExtW w1 => (HH.out.below (hb1.trans (p.ext.mono hb1.size))).five (k := a') (by rw [HL.out]; omega)
      have x0 := fun p => (h5 p).1
      have x1 := fun p => (h5 p).2.1
      have x2 := fun p => (h5 p).2.2.1
      have x3 := fun p => (h5 p).2.2.2.1
      have x4 := fun p => (h5 p).2.2.2.2
      clear h5
      have h5 := fun p : ExtW w1 => (HH.out.below (hb1.trans (p.ext.mono hb1.size))).five (k := b') (by rw [HL.out]; omega)
      have y0 := fun p => (h5 p).1
      have y1 := fun p => (h5 p).2.1
      have y2 := fun p => (h5 p).2.2.1
      have y3 := fun p => (h5 p).2.2.2.1
      have y4 := fun p => (h5 p).2.2.2.2
      clear h5
      have HTL := Lib.hid (show tl l a' b' = tchb (l.getD a' hap0).pr (l.getD b' hap0).pr from rfl)
      have HTLb := Lib.hid (fun k => (show tl l k b' = tchb (l.getD k hap0).pr (l.getD b' hap0).pr from rfl))
      have HD := Lib.hid (fun W (hW : Below w.heap.size w W) => ((HH.out.below hW).five (k := b') (by rw [HL.out]; omega)))
      have HB1 := Lib.hid (fun p : ExtW w1 => hb1.trans (p.ext.mono hb1.size))
      clear hb1
      generalize l.getD a' hap0 = x at *
      generalize l.getD b' hap0 = y at *
      have KT2 := Lib.hid (fun (p : ExtW w1) => ext_touch (KT.out x y p.w'))
      rw [← HTL.out] at KT2
      obtain ⟨kd1, who1, st1, ch1, peer1⟩ := x
      obtain ⟨kd2, who2, st2, ch2, peer2⟩ := y
      dsimp only [Hap.cs] at *
      clear HTL
      cases htb : tl l a' b' with
      | true =>
        rw [htb] at KT2
        have HE := Lib.hid (fun W (hW : Below w.heap.size w W) => pathPost_two HG.out htb hW)
        clear htb
        refine wp_region_ext (by kernel_rfl) (by kernel_rfl) ?_
        repeat (go_big_quiet_step ((go_at_call 22; exact KT2.out _)))
        refine wpQuiet_nil ?_
        intro _ hw'
        obtain ⟨p, hw''⟩ := hw'
        subst hw''
        have HF := Lib.hid (HE.out _ (HB1.out p))
        clear x0 x1 x2 x3 x4 y0 y1 y2 y3 y4
        go_wp2_with fail
        go_ret
        exact HF.out
      | false =>
        rw [htb] at KT2
        have HT := Lib.hid htb
        clear htb
        refine wp_region_ext (by kernel_rfl) (by kernel_rfl) ?_
        repeat (go_big_quiet_step ((go_at_call 22; exact KT2.out _)))
        refine wpQuiet_nil ?_
        intro _ hw'
        obtain ⟨p, hw''⟩ := hw'
        subst hw''
        have HB := Lib.hid (HB1.out p)
        clear x0 x1 x2 x3 x4 y0 y1 y2 y3 y4 KT2 HB1
        generalize p.w' = W2 at *
        go_wp2_with fail
        go_loopw [7, 8] (fun bb kk wr => ∃ (k : Nat) (bi : Int), a' ≤ k ∧ k + 1 ≤ b' ∧ kk = .int .i64 ((k : Nat) : Int) ∧ bb = .int .i64 bi ∧ Hid (BestP (tl l) a' b' k bi) ∧ Hid (Below w.heap.size w wr)) (fun _ kk _ => (intOf kk).toNat)
        case atStart => exact ⟨b' - 1, -1, by omega, by omega, by go_num, rfl, BestP.zero _ _ _, HB.out⟩
        case round =>
          obtain ⟨k, bi, hk1, hk2, rfl, rfl, hbp, hbl⟩ := hrel
          clear HB
          by_cases hka : a' < k
          · have m0 : (0 : Int) ≤ (k : Int) := by omega
            have m1 : (a' : Int) < (k : Int) := by omega
            have m2 : (k : Int) < (n : Int) := by omega
            have hf := far_range (tl l) a' (k := k) (by omega)
            have hf2 := far_range (tl l) a' (k := b') (by omega)
            have HQ := Lib.hid (fun p : ExtW wr => hbl.out.trans (p.ext.mono hbl.out.size))
            have KF1 := Lib.hid (fun p : ExtW wr => ext_far (KF.out k p.w' (by omega) (by omega) (HS.out.below (HQ.out p))))
            have KF2 := Lib.hid (fun p : ExtW wr => ext_far (KF.out b' p.w' (by omega) (by omega) (HS.out.below (HQ.out p))))
            have h5 := fun p : ExtW wr => (HH.out.below (HQ.out p)).five (k := k) (by rw [HL.out]; omega)
            have x0 := fun p => (h5 p).1
            have x1 := fun p => (h5 p).2.1
            have x2 := fun p => (h5 p).2.2.1
            have x3 := fun p => (h5 p).2.2.2.1
            have x4 := fun p => (h5 p).2.2.2.2
            clear h5
            have h5 := fun p : ExtW wr => HD.out _ (HQ.out p)
            have y0 := fun p => (h5 p).1
            have y1 := fun p => (h5 p).2.1
            have y2 := fun p => (h5 p).2.2.1
            have y3 := fun p => (h5 p).2.2.2.1
            have y4 := fun p => (h5 p).2.2.2.2
            clear h5
            have HTL := Lib.hid (HTLb.out k)
            generalize l.getD k hap0 = x at *
            have KT3 := Lib.hid (fun (p : ExtW wr) => ext_touch (KT.out x ⟨kd2, who2, st2, ch2, peer2⟩ p.w'))
            rw [show tchb x.pr (Hap.pr ⟨kd2, who2, st2, ch2, peer2⟩) = tl l k b' from HTL.out.symm] at KT3
            obtain ⟨kd3, who3, st3, ch3, peer3⟩ := x
            dsimp only [Hap.cs] at *
            cases htb : tl l k b' with
            | false =>
              rw [htb] at KT3
              have HV := Lib.hid (hbp.out.no (by omega) (fun h => by rw [htb] at h; cases h.2))
              go_wp2_with fail
              refine wp_region_ext (by kernel_rfl) (by kernel_rfl) ?_
              repeat (go_big_quiet_step (first | (go_at_call 22; exact KT3.out _) | (go_at_call 23; first | (with_reducible exact KF1.out _) | (with_reducible exact KF2.out _))))
              refine wpQuiet_nil ?_
              intro _ hw'
              obtain ⟨p, hw''⟩ := hw'
              subst hw''
              have HB2 := Lib.hid (HQ.out p)
              go_wp2_with fail
              go_roundw
              case rel => exact ⟨k - 1, bi, by omega, by omega, by go_num, rfl, HV.out, HB2.out⟩
              case measure => simp [intOf]; omega
            | true =>
              rw [htb] at KT3
              have HY := Lib.hid (fun h => hbp.out.yes (by omega) (by omega) h htb)
              have HN := Lib.hid (fun h => hbp.out.no (by omega) h)
              clear htb
              generalize hfk : far (tl l) a' k = fk at *
              generalize hfb : far (tl l) a' b' = fb at *
              have HFK := Lib.hid hfk
              have HFB := Lib.hid hfb
              clear hfk hfb
              by_cases he : fk = fb - 1
              · have hd : (fk == fb - 1) = true := by simpa using he
                have hd2 : decide (fk = fb - 1) = true := by simpa using he
                have HV := Lib.hid (HY.out he)
                clear he HY HN
                go_wp2_with fail
                refine wp_region_ext (by kernel_rfl) (by kernel_rfl) ?_
                repeat (go_big_quiet_step (first | (go_at_call 22; exact KT3.out _) | (go_at_call 23; first | (with_reducible exact KF1.out _) | (with_reducible exact KF2.out _))))
                refine wpQuiet_nil ?_
                intro _ hw'
                obtain ⟨p, hw''⟩ := hw'
                subst hw''
                have HB2 := Lib.hid (HQ.out p)
                go_wp2_with fail
                go_roundw
                case rel => exact ⟨k - 1, k, by omega, by omega, by go_num, rfl, HV.out, HB2.out⟩
                case measure => simp [intOf]; omega
              · have hd : (fk == fb - 1) = false := by simpa using he
                have hd2 : decide (fk = fb - 1) = false := by simpa using he
                have HV := Lib.hid (HN.out (fun h => he h.1))
                clear he HY HN
                go_wp2_with fail
                refine wp_region_ext (by kernel_rfl) (by kernel_rfl) ?_
                repeat (go_big_quiet_step (first | (go_at_call 22; exact KT3.out _) | (go_at_call 23; first | (with_reducible exact KF1.out _) | (with_reducible exact KF2.out _))))
                refine wpQuiet_nil ?_
                intro _ hw'
                obtain ⟨p, hw''⟩ := hw'
                subst hw''
                have HB2 := Lib.hid (HQ.out p)
                go_wp2_with fail
                go_roundw
                case rel => exact ⟨k - 1, bi, by omega, by omega, by go_num, rfl, HV.out, HB2.out⟩
                case measure => simp [intOf]; omega
          · obtain rfl : a' = k := by omega
            obtain ⟨i, rfl, hi1, hi2⟩ := hbp.out.done hab G4.out HT.out
            have hpos := far_pos (tl l) a' hab G4.out
            have hgi : Good l a' i := ⟨by omega, by omega, by rw [HL.out]; have := hi2.lt; omega, by have := hi2.one; simp; omega⟩
            have KI := Lib.hid (IH.out (i : Int) wr (by have := hi2.lt; simp; omega) (HS.out.below hbl.out))
            have HGI := Lib.hid hgi
            have HI2 := Lib.hid hi2
            clear hgi hi2 hpos hbp
            go_wp2_with fail
            with_reducible (refine Calls.mono KI.out ?_)
            rintro e w5 ⟨L, hL, A', c', rfl, hv, hin, hb5⟩
            have hP : Pth (tl l) a' i L := by
              rcases hL with ⟨_, h⟩ | ⟨h, _⟩
              · simpa using h
              · exact (h HGI.out).elim
            have hlen := hP.le
            have hlt := HI2.out.lt
            have HP := Lib.hid hP
            have HV := Lib.hid hv
            have HB5 := Lib.hid (hbl.out.trans (hb5.mono hbl.out.size))
            have HIN := Lib.hid (fun x hx => Nat.le_trans hbl.out.size (hin x hx))
            clear hL hP hv hb5 hin KI
            obtain ⟨ii0, hi, hz0, hz1, hz2⟩ := info_parts int_info
            go_wp2_with (at_builtin; refine wpList_append_vec _ rfl _ _ 26 rfl 3 ii0 (.int .i64 0) 1 8 Try.underlying26 hi hz0 hz1 hz2 rfl (by decide) A' L.length c' (ints L) rfl (HV.out.alloc _) ⟨w5.heap.size, 0, none⟩ 1 1 [.int .i64 (b' : Int)] rfl rfl (one_new _ _ _) ?cc2 ?cc0 ?cc3 ?cc4 ?_)
            case cc2 => intro u hu; simp at hu; subst hu; rfl
            case cc0 => intro _; decide
            case cc3 => unfold maxLen; omega
            case cc4 => omega
            intro A2 cap2 w6 hv6 ho6 hA6
            have HF := Lib.hid (pathPost_app HG.out HI2.out HP.out HB5.out HIN.out A2 hv6 ho6 (by rw [World.size_alloc]; exact hA6))
            clear hv6 ho6 hA6
            go_wp2_with fail
            go_ret
            exact HF.out
end Go.Proofs.Ythaofkhjhmcknaa
