/- THE WALK of Path, in the program, where both steps are there, one ahead of the other. At most 100 steps. (Printed by wip/tools/cause_path.py.) -/
import Derived.Test.YthaofkhjhmcknaaWalkH
namespace Go.Proofs.Ythaofkhjhmcknaa
open Go.RowKit
set_option linter.unusedVariables false

/-- What was gone back so far: from b to k. -/
def Back (t : Nat → Nat → Bool) (a b k : Nat) (M : List Int) : Prop := ∀ L, Pth t a k (L ++ [(k : Int)]) → Pth t a b (L ++ M.reverse)
theorem Back.zero (t : Nat → Nat → Bool) (a b : Nat) : Back t a b b [(b : Int)] := fun L h => h
theorem Back.next {t : Nat → Nat → Bool} {a b k i : Nat} {M : List Int} (h : Back t a b k M) (hp : Pre t a k i) : Back t a b i (M ++ [(i : Int)]) := fun L hL => by
  have := h (L ++ [(i : Int)]) (.next hL hp)
  simpa using this
theorem Back.done {t : Nat → Nat → Bool} {a b : Nat} {M : List Int} (h : Back t a b a M) : Pth t a b M.reverse := by
  have := h [] .here
  simpa using this
/-- The state of the going back. -/
structure Sb (t : Nat → Nat → Bool) (a b n g : Nat) (w0 : World) (k : Nat) (M : List Int) (A : Option Addr) (c : Nat) (w : World) : Prop where
  scan : ∃ v, Scan True t a n g (b + 1) v w
  bel : Below w0.heap.size w0 w
  big : w0.heap.size ≤ g
  vec : Vec w 3 1 A M.length c (ints M)
  inA : ∀ x, In A x → g < x
  sm : A ≠ none
  back : Back t a b k M
  fr : 0 ≤ far t a k
  len : M.length + k ≤ b + 1
section
variable {t : Nat → Nat → Bool} {a b n g k : Nat} {w0 w w' : World} {M : List Int} {A : Option Addr} {c : Nat}
theorem Sb.below (h : Sb t a b n g w0 k M A c w) (hb : Below w.heap.size w w') : Sb t a b n g w0 k M A c w' :=
  ⟨by obtain ⟨v, hs⟩ := h.scan; exact ⟨v, hs.below hb⟩, h.bel.trans (hb.mono h.bel.size), h.big, h.vec.only (Only.of_below hb (fun _ => False)) (fun _ _ h => h), h.inA, h.sm, h.back, h.fr, h.len⟩
theorem Sb.low (h : Sb t a b n g w0 k M A c w) {i : Nat} (h1 : a ≤ i) (h2 : i ≤ b) (h3 : b < n) : w.cell? ⟨g, i, none⟩ = some (.int .i64 (far t a i)) := by
  obtain ⟨v, hs⟩ := h.scan; exact hs.low h1 (by omega) (by omega)
/-- One step back. -/
theorem Sb.app (h : Sb t a b n g w0 k M A c w) {i : Nat} (hp : Pre t a k i) {o : Obj} {A' : Addr} {c' : Nat} (hv : Vec w' 3 1 (some A') (M.length + 1) c' (ints M ++ [.int .i64 (i : Int)])) (ho : Only (In A) (w.alloc o) w')
    (hA : some A' = A ∨ ∃ x, A' = ⟨x, 0, none⟩ ∧ (w.alloc o).heap.size ≤ x) : Sb t a b n g w0 i (M ++ [(i : Int)]) (some A') c' w' := by
  obtain ⟨v, hs⟩ := h.scan
  have hg := hs.lt
  have hz := h.bel.size
  refine ⟨⟨v, (hs.only ((Only.refl (fun _ => False) w).alloc o) (fun h => h)).only ho (fun e => Nat.lt_irrefl _ (h.inA _ e))⟩, (h.bel.alloc hz o).trans (ho.below (by simp; omega) (fun x e => by have := h.inA x e; have := h.big; omega)), h.big, ?_, ?_, by simp, h.back.next hp, ?_, ?_⟩
  · rw [List.length_append, show ints (M ++ [(i : Int)]) = ints M ++ [.int .i64 (i : Int)] by simp [ints]]
    exact hv
  · intro x hx
    rcases hA with e | ⟨y, rfl, hy⟩
    · exact h.inA x (e ▸ hx)
    · cases hx
      rw [World.size_alloc] at hy
      show g < y
      omega
  · have := hp.one
    have hk := h.fr
    have := far_ge t a i hp.le
    have hpos := far_pos t a (k := k) (by have := hp.le; have := hp.lt; omega) hk
    omega
  · have := h.len
    have := hp.lt
    simp; omega
end
theorem sb_init {t : Nat → Nat → Bool} {a b n g : Nat} {w0 w : World} {v : Int} (h : St True t a n g w0 (b + 1) v w) (hf : 0 ≤ far t a b) : Sb t a b n g w0 b [(b : Int)] (some ⟨w.heap.size, 0, none⟩) 1 (w.alloc (.cells #[.int .i64 (b : Int)] 3)) :=
  ⟨⟨v, h.scan.only ((Only.refl (fun _ => False) w).alloc _) (fun h => h)⟩, h.bel.alloc h.bel.size _, h.big, one_vec w _ 3, fun x hx => by cases hx; exact h.scan.lt, by simp, Back.zero _ _ _, hf, by simp; omega⟩
/-- The end: it is turned round. -/
theorem sb_end {l : List Hap} {a b n g : Nat} {w0 w w' : World} {M : List Int} {x off c : Nat} (h : Sb (tl l) a b n g w0 a M (some ⟨x, off, none⟩) c w) (hg : Good l a b) (hv : Vec w' 3 1 (some ⟨x, off, none⟩) M.length c (ints M.reverse)) (ho : Only (fun k => k = x) w w') :
    PathPost w0 l a b (.returned (.slice (some ⟨x, off, none⟩) M.length c)) w' := by
  obtain ⟨v, hs⟩ := h.scan
  have := hs.lt
  have := h.big
  have hx := h.inA x rfl
  refine ⟨M.reverse, .inl ⟨hg, by have := h.back.done; simpa using this⟩, some ⟨x, off, none⟩, c, by rw [List.length_reverse], by rw [List.length_reverse]; exact hv, fun y hy => by cases hy; show w0.heap.size ≤ x; omega, h.bel.trans (ho.below h.bel.size (fun i e => by subst e; omega))⟩

set_option maxRecDepth 100000 in
set_option maxHeartbeats 8000000 in
theorem path_core (l : List Hap) (n a b : Nat) (hl : l.length = n) (hn : n ≤ 100) (hb : b < n) (hab : a < b) (A : Option Addr) (c : Nat) (w : World) (h : Hs w A l) :
    Calls Try.prog 12 #[.slice A n c, .int .i64 (a : Int), .int .i64 (b : Int)] w (PathPost w l a b) := by
  obtain ⟨hb0, off, rfl, h5⟩ := h (by omega)
  have HL := Lib.hid hl
  have HH := Lib.hid h5
  have KT := Lib.hid touch_any
  have K1 := Lib.hid (there_any (some ⟨hb0, off, none⟩) n c a)
  have K2 := Lib.hid (there_any (some ⟨hb0, off, none⟩) n c b)
  rw [show decide ((0 : Int) ≤ (a : Int) ∧ (a : Int) < (n : Int)) = true by simp; omega] at K1
  rw [show decide ((0 : Int) ≤ (b : Int) ∧ (b : Int) < (n : Int)) = true by simp; omega] at K2
  have KR := Lib.hid (repeat_any n (by omega) hn w.heap.size (w.alloc (.cells #[.int .i64 (-1)] 3)) (Blk.new w 3 _))
  have i0 : (0 : Int) ≤ (n : Int) := by omega
  have HNG := Lib.hid (fun W (hg : ¬ Good l a b) (hW : Below w.heap.size w W) => pathPost_nil (w := w) (w' := W) hg hW)
  have HGD := Lib.hid (fun (h : (0 : Int) ≤ far (tl l) a b) => (show Good l a b from ⟨by omega, by omega, by rw [HL.out]; omega, by simpa using h⟩))
  have HGN := Lib.hid (fun (h : far (tl l) a b < 0) => (show ¬ Good l a b from fun g => by have := g.2.2.2; simp at this; omega))
  have q1 : decide ((b : Int) ≤ (a : Int)) = false := by simp; omega
  clear h h5 hl
  go_enter Try.func12, Try.ntmps12
  go_wp2_with fail
  with_reducible (refine Calls.mono (K1.out _) ?_)
  rintro e w' ⟨rfl, rfl⟩
  go_wp2_with fail
  with_reducible (refine Calls.mono (K2.out _) ?_)
  rintro e w' ⟨rfl, rfl⟩
  go_wp2_with fail
  with_reducible (refine Calls.mono KR.out ?_)
  rintro e w1 ⟨g, rfl, hg, hbk, hbl⟩
  rw [World.size_alloc] at hg hbl
  have H0 := Lib.hid (show St True (tl l) a n g w (a + 1) (-1) (w1.setCell ⟨g, a, none⟩ (.int .i64 0)) from ⟨Scan.prog0 hbk, (((Below.refl w.heap.size w).alloc (Nat.le_refl _) _).trans (hbl.mono (by omega))).setCell (p := ⟨g, a, none⟩) (by show w.heap.size ≤ g; omega) _, by omega⟩)
  have c1 := hbk.cell a
  rw [row_get _ (by omega)] at c1
  have f1 := hbk.frozen a
  have j0 : (a : Int) < (n : Int) := by omega
  clear hbk hbl hg KR K1 K2
  go_wp2_with fail
  generalize w1.setCell ⟨g, a, none⟩ (.int .i64 0) = W0 at *
  clear c1 f1
  go_loopw [8, 9] (fun kk ii wr => ∃ k v, a + 1 ≤ k ∧ k ≤ b + 1 ∧ kk = .int .i64 ((k : Nat) : Int) ∧ Hid (St True (tl l) a n g w k v wr) ∧ Hid (k < n → v = -1)) (fun kk _ _ => b + 1 - (intOf kk).toNat)
  case atStart => exact ⟨a + 1, -1, Nat.le_refl _, by omega, by go_num, H0.out, fun _ => rfl⟩
  case round =>
    obtain ⟨k, v0, hk1, hk2, rfl, hst, hv0⟩ := hrel
    by_cases hkb : k ≤ b
    · have j0 : (0 : Int) ≤ (k : Int) := by omega
      have j1 : (k : Int) ≤ (b : Int) := by omega
      have j2 : (k : Int) < (n : Int) := by omega
      obtain rfl : v0 = -1 := hv0.out (by omega)
      clear hv0
      go_wp2_with fail
      go_loopw [9] (fun ii wr => ∃ i : Nat, a ≤ i ∧ i ≤ k ∧ ii = .int .i64 ((i : Nat) : Int) ∧ Hid (St True (tl l) a n g w k (best (tl l) a (far (tl l) a) k (i - a)) wr)) (fun ii _ => k - (intOf ii).toNat)
      case atStart => exact ⟨a, Nat.le_refl _, by omega, rfl, by rw [Nat.sub_self]; exact hst.out⟩
      case round =>
        clear hst
        obtain ⟨i, hi1, hi2, rfl, hst⟩ := hrel
        by_cases hik : i < k
        · have hf := far_range (tl l) a hi1
          have hbr := best_range (tl l) a k (i - a)
          have m0 : (0 : Int) ≤ (i : Int) := by omega
          have m1 : (i : Int) < (k : Int) := by omega
          have m2 : (i : Int) < (n : Int) := by omega
          have HY := Lib.hid (best_yes (tl l) a (k := k) hi1)
          have HN := Lib.hid (best_no (tl l) a (k := k) hi1)
          have HSC := Lib.hid (fun W (hW : St True (tl l) a n g w k (best (tl l) a (far (tl l) a) k (i - a)) W) => (⟨hW.scan.low hi1 hik (by omega), hW.scan.top (by omega)⟩ : _ ∧ _))
          have c1 := hst.out.scan.low hi1 hik (by omega)
          have c2 := hst.out.scan.top (by omega)
          generalize best (tl l) a (far (tl l) a) k (i - a) = v at *
          generalize hv' : best (tl l) a (far (tl l) a) k (i + 1 - a) = v' at *
          have HV' := Lib.hid hv'
          clear hv'
          generalize far (tl l) a i = fi at *
          by_cases hA : fi < 0
          · have hd : decide ((0 : Int) ≤ fi) = false := by simp; omega
            have HV := Lib.hid (HN.out (.inl hA))
            go_wp2_with fail
            go_quiet (fail)
            have HS2 := Lib.hid (hst.out.drewN nq)
            go_wp2_with fail
            go_roundw
            case rel => exact ⟨i + 1, by omega, by omega, by go_num, by rw [HV'.out, HV.out]; exact HS2⟩
            case measure => simp [intOf]; omega
          · have hA2 : 0 ≤ fi := by omega
            clear hA
            have hd : decide ((0 : Int) ≤ fi) = true := by simp; omega
            have HB := Lib.hid (fun (p : ExtW wr) => hst.out.below p.ext)
            have htl := show tl l i k = tchb (l.getD i hap0).pr (l.getD k hap0).pr from rfl
            have hC1 : ∀ p : ExtW wr, p.w'.cell? ⟨g, i, none⟩ = some (.int .i64 fi) := fun p => (HSC.out _ (HB.out p)).1
            have hC2 : ∀ p : ExtW wr, p.w'.cell? ⟨g, k, none⟩ = some (.int .i64 v) := fun p => (HSC.out _ (HB.out p)).2
            have h5 := fun p : ExtW wr => (HH.out.below (HB.out p).bel).five (k := i) (by rw [HL.out]; omega)
            have x0 := fun p => (h5 p).1
            have x1 := fun p => (h5 p).2.1
            have x2 := fun p => (h5 p).2.2.1
            have x3 := fun p => (h5 p).2.2.2.1
            have x4 := fun p => (h5 p).2.2.2.2
            clear h5
            have h5 := fun p : ExtW wr => (HH.out.below (HB.out p).bel).five (k := k) (by rw [HL.out]; omega)
            have y0 := fun p => (h5 p).1
            have y1 := fun p => (h5 p).2.1
            have y2 := fun p => (h5 p).2.2.1
            have y3 := fun p => (h5 p).2.2.2.1
            have y4 := fun p => (h5 p).2.2.2.2
            clear h5
            have HTL := Lib.hid htl
            clear htl c1 c2
            generalize l.getD i hap0 = x at *
            generalize l.getD k hap0 = y at *
            have KT2 := Lib.hid (fun W => KT.out x y W)
            rw [← HTL.out] at KT2
            obtain ⟨kd1, who1, st1, ch1, peer1⟩ := x
            obtain ⟨kd2, who2, st2, ch2, peer2⟩ := y
            dsimp only [Hap.cs] at *
            cases htb : tl l i k with
            | false =>
              rw [htb] at KT2
              have HV := Lib.hid (HN.out (.inr (.inl htb)))
              clear htb
              go_wp2_with fail
              refine wp_region_ext (by kernel_rfl) (by kernel_rfl) ?_
              repeat (go_big_quiet_step ((go_at_call 20; exact Calls.ext_of (KT2.out _))))
              refine wpQuiet_nil ?_
              intro _ hw'
              obtain ⟨p, hw''⟩ := hw'
              subst hw''
              have HS2 := Lib.hid (HB.out p)
              go_wp2_with fail
              go_roundw
              case rel => exact ⟨i + 1, by omega, by omega, by go_num, by rw [HV'.out, HV.out]; exact HS2⟩
              case measure => simp [intOf]; omega
            | true =>
              rw [htb] at KT2
              have hF : ∀ p : ExtW wr, p.w'.frozen? ⟨g, k, none⟩ = false := fun p => (HB.out p).scan.frozen k
              by_cases hv0 : v < 0
              · have hd2 : decide (v < 0) = true := by simpa using hv0
                have HV := Lib.hid (HY.out hA2 htb (.inl hv0))
                clear htb
                go_wp2_with fail
                refine wp_region_ext (by kernel_rfl) (by kernel_rfl) ?_
                repeat (go_big_quiet_step ((go_at_call 20; exact Calls.ext_of (KT2.out _))))
                refine wpQuiet_nil ?_
                intro _ hw'
                obtain ⟨p, hw''⟩ := hw'
                subst hw''
                have HS2 := Lib.hid ((HB.out p).set_ (fi + 1))
                have d1 := hC1 p
                have d2 := hC2 p
                have d3 := hF p
                clear hC1 hC2 hF x0 x1 x2 x3 x4 y0 y1 y2 y3 y4
                go_wp2_with fail
                go_roundw
                case rel => exact ⟨i + 1, by omega, by omega, by go_num, by rw [HV'.out, HV.out]; exact HS2⟩
                case measure => simp [intOf]; omega
              · have hd2 : decide (v < 0) = false := by simpa using hv0
                by_cases hv1 : fi + 1 < v
                · have hd3 : decide (fi + 1 < v) = true := by simpa using hv1
                  have HV := Lib.hid (HY.out hA2 htb (.inr hv1))
                  clear htb
                  go_wp2_with fail
                  refine wp_region_ext (by kernel_rfl) (by kernel_rfl) ?_
                  repeat (go_big_quiet_step ((go_at_call 20; exact Calls.ext_of (KT2.out _))))
                  refine wpQuiet_nil ?_
                  intro _ hw'
                  obtain ⟨p, hw''⟩ := hw'
                  subst hw''
                  have HS2 := Lib.hid ((HB.out p).set_ (fi + 1))
                  have d1 := hC1 p
                  have d2 := hC2 p
                  have d3 := hF p
                  clear hC1 hC2 hF x0 x1 x2 x3 x4 y0 y1 y2 y3 y4
                  go_wp2_with fail
                  go_roundw
                  case rel => exact ⟨i + 1, by omega, by omega, by go_num, by rw [HV'.out, HV.out]; exact HS2⟩
                  case measure => simp [intOf]; omega
                · have hd3 : decide (fi + 1 < v) = false := by simpa using hv1
                  have HV := Lib.hid (HN.out (.inr (.inr (by omega))))
                  clear htb
                  go_wp2_with fail
                  refine wp_region_ext (by kernel_rfl) (by kernel_rfl) ?_
                  repeat (go_big_quiet_step ((go_at_call 20; exact Calls.ext_of (KT2.out _))))
                  refine wpQuiet_nil ?_
                  intro _ hw'
                  obtain ⟨p, hw''⟩ := hw'
                  subst hw''
                  have HS2 := Lib.hid (HB.out p)
                  go_wp2_with fail
                  go_roundw
                  case rel => exact ⟨i + 1, by omega, by omega, by go_num, by rw [HV'.out, HV.out]; exact HS2⟩
                  case measure => simp [intOf]; omega
        · obtain rfl : i = k := by omega
          have HFK := Lib.hid (far_k (tl l) a i (by omega))
          obtain ⟨v', hs', hp'⟩ := hst.out.scan.next HFK.out.symm
          have HS2 := Lib.hid (show St True (tl l) a n g w (i + 1) v' wr from ⟨hs', hst.out.bel, hst.out.big⟩)
          have HP2 := Lib.hid (hp' trivial)
          clear hst hs' hp'
          go_wp2_with fail
          go_roundw
          case rel => exact ⟨i + 1, v', by omega, by omega, by go_num, HS2, HP2.out⟩
          case measure => simp [intOf]; omega
    · obtain rfl : k = b + 1 := by omega
      have hc := hst.out.scan.low (Nat.le_of_lt hab) (Nat.lt_succ_self b) (by omega)
      have j1 : (b : Int) < (n : Int) := by omega
      have j0 : (0 : Int) ≤ (b : Int) := by omega
      by_cases hneg : far (tl l) a b < 0
      · have HE := Lib.hid (HNG.out wr (HGN.out hneg) hst.out.bel)
        have hd : decide (far (tl l) a b < 0) = true := by simpa using hneg
        clear hst
        generalize far (tl l) a b = fb at *
        go_wp2_with fail
        go_ret
        exact HE.out
      · have hd : decide (far (tl l) a b < 0) = false := by simpa using hneg
        have HG := Lib.hid (HGD.out (by omega))
        have HI := Lib.hid (sb_init hst.out (by omega))
        clear hst hneg hv0
        generalize far (tl l) a b = fb at *
        go_wp2_with fail
        generalize wr.alloc (.cells #[.int .i64 (b : Int)] 3) = W2 at *
        generalize wr.heap.size = x2 at *
        clear hc
        go_loopw [10, 11, 12] (fun out at_ ii wr => ∃ (k : Nat) (M : List Int) (A : Option Addr) (c : Nat), a ≤ k ∧ k ≤ b ∧ at_ = .int .i64 ((k : Nat) : Int) ∧ out = .slice A M.length c ∧ Hid (Sb (tl l) a b n g w k M A c wr)) (fun _ at_ _ _ => (intOf at_).toNat)
        case atStart => exact ⟨b, [(b : Int)], some ⟨x2, 0, none⟩, 1, by omega, by omega, rfl, rfl, HI.out⟩
        case round =>
          obtain ⟨k, M, A, c2, hk1, hk2, rfl, rfl, hst⟩ := hrel
          clear HI
          have k0 : (0 : Int) ≤ (k : Int) := by omega
          have k1 : (k : Int) < (n : Int) := by omega
          by_cases hka : k = a
          · subst hka
            obtain ⟨⟨x, xo, xs⟩, rfl⟩ : ∃ x, A = some x := by
              cases A with
              | none => exact absurd rfl hst.out.sm
              | some x => exact ⟨x, rfl⟩
            obtain rfl : xs = none := by
              obtain ⟨b', off', cur, e, _⟩ := hst.out.vec.at_ _ rfl
              cases e; rfl
            have KV := Lib.hid (reverse_any x xo M.length c2 M rfl (by have := hst.out.len; omega) wr hst.out.vec)
            have HEnd := Lib.hid (fun W hv ho => sb_end (w' := W) hst.out HG.out hv ho)
            clear hst
            generalize M.length = ml at *
            go_wp2_with fail
            with_reducible (refine Calls.mono KV.out ?_)
            rintro e w5 ⟨rfl, hv5, ho5⟩
            have HE := Lib.hid (HEnd.out _ hv5 ho5)
            clear hv5 ho5 KV HEnd
            go_wp2_with fail
            go_ret
            exact HE.out
          · have hak : a < k := by omega
            have hne : ¬ ((k : Int) = (a : Int)) := by omega
            have hne2 : ((k : Int) != (a : Int)) = true := by simpa using hne
            clear hka
            go_wp2_with fail
            go_loopw [11, 12] (fun at_ ii wr => ∃ i : Nat, a ≤ i ∧ i ≤ k ∧ at_ = .int .i64 ((k : Nat) : Int) ∧ ii = .int .i64 ((i : Nat) : Int) ∧ Hid (∀ i', a ≤ i' → i' < i → far (tl l) a i' = far (tl l) a k - 1 → tl l i' k = true → False) ∧ Hid (Sb (tl l) a b n g w k M A c2 wr)) (fun _ ii _ => k - (intOf ii).toNat)
            case atStart => exact ⟨a, by omega, by omega, rfl, rfl, fun i' g1 g2 => by omega, hst.out⟩
            case round =>
              clear hst
              obtain ⟨i, hi1, hi2, rfl, rfl, hno, hst⟩ := hrel
              by_cases hik : i < k
              · have m0 : (0 : Int) ≤ (i : Int) := by omega
                have m1 : (i : Int) < (k : Int) := by omega
                have m2 : (i : Int) < (n : Int) := by omega
                have hf := far_range (tl l) a hi1
                have hf2 := far_range (tl l) a hk1
                have HB := Lib.hid (fun (p : ExtW wr) => hst.out.below p.ext)
                have hC1 := fun p : ExtW wr => (HB.out p).low hi1 (by omega) hb
                have hC2 := fun p : ExtW wr => (HB.out p).low hk1 (by omega) hb
                have h5 := fun p : ExtW wr => (HH.out.below (HB.out p).bel).five (k := i) (by rw [HL.out]; omega)
                have x0 := fun p => (h5 p).1
                have x1 := fun p => (h5 p).2.1
                have x2 := fun p => (h5 p).2.2.1
                have x3 := fun p => (h5 p).2.2.2.1
                have x4 := fun p => (h5 p).2.2.2.2
                clear h5
                have h5 := fun p : ExtW wr => (HH.out.below (HB.out p).bel).five (k := k) (by rw [HL.out]; omega)
                have y0 := fun p => (h5 p).1
                have y1 := fun p => (h5 p).2.1
                have y2 := fun p => (h5 p).2.2.1
                have y3 := fun p => (h5 p).2.2.2.1
                have y4 := fun p => (h5 p).2.2.2.2
                clear h5
                have HTL := Lib.hid (show tl l i k = tchb (l.getD i hap0).pr (l.getD k hap0).pr from rfl)
                have HNX := Lib.hid (fun (hbad : ¬ (far (tl l) a i = far (tl l) a k - 1 ∧ tl l i k = true)) => (show Hid (∀ i', a ≤ i' → i' < i + 1 → far (tl l) a i' = far (tl l) a k - 1 → tl l i' k = true → False) from fun i' g1 g2 g3 g4 => by
                  by_cases e : i' = i
                  · subst e; exact hbad ⟨g3, g4⟩
                  · exact hno.out i' g1 (by omega) g3 g4))
                have HPR := Lib.hid (fun (h1 : far (tl l) a i = far (tl l) a k - 1) (h2 : tl l i k = true) => (show Pre (tl l) a k i from ⟨hi1, hik, h1, h2, hno.out⟩))
                clear hno
                generalize l.getD i hap0 = x at *
                generalize l.getD k hap0 = y at *
                have KT2 := Lib.hid (fun W => KT.out x y W)
                rw [← HTL.out] at KT2
                obtain ⟨kd1, who1, st1, ch1, peer1⟩ := x
                obtain ⟨kd2, who2, st2, ch2, peer2⟩ := y
                dsimp only [Hap.cs] at *
                generalize far (tl l) a i = fi at *
                generalize far (tl l) a k = fk at *
                by_cases he : fi = fk - 1
                · have hd : (fi == fk - 1) = true := by simpa using he
                  have hd2 : decide (fi = fk - 1) = true := by simpa using he
                  have HE := Lib.hid he
                  clear he
                  cases htb : tl l i k with
                  | false =>
                    rw [htb] at KT2
                    have HV := Lib.hid (HNX.out (by rw [htb]; simp))
                    clear htb HNX HPR
                    go_wp2_with fail
                    refine wp_region_ext (by kernel_rfl) (by kernel_rfl) ?_
                    repeat (go_big_quiet_step ((go_at_call 20; exact Calls.ext_of (KT2.out _))))
                    refine wpQuiet_nil ?_
                    intro _ hw'
                    obtain ⟨p, hw''⟩ := hw'
                    subst hw''
                    have HS2 := Lib.hid (HB.out p)
                    go_wp2_with fail
                    go_roundw
                    case rel => exact ⟨i + 1, by omega, by omega, rfl, by go_num, HV.out, HS2⟩
                    case measure => simp [intOf]; omega
                  | true =>
                    rw [htb] at KT2
                    have HP := Lib.hid (HPR.out HE.out htb)
                    clear htb HNX HPR
                    go_wp2_with fail
                    refine wp_region_ext (by kernel_rfl) (by kernel_rfl) ?_
                    repeat (go_big_quiet_step ((go_at_call 20; exact Calls.ext_of (KT2.out _))))
                    refine wpQuiet_nil ?_
                    intro _ hw'
                    obtain ⟨p, hw''⟩ := hw'
                    subst hw''
                    have hs2 := HB.out p
                    have HS2 := Lib.hid hs2
                    have HV2 := Lib.hid hs2.vec
                    have hml := hs2.len
                    clear hC1 hC2 x0 x1 x2 x3 x4 y0 y1 y2 y3 y4 HB hs2 hst
                    generalize p.w' = W3 at *
                    obtain ⟨ii0, hi, hz0, hz1, hz2⟩ := info_parts int_info
                    go_wp2_with (at_builtin; refine wpList_append_vec _ rfl _ _ 26 rfl 3 ii0 (.int .i64 0) 1 8 Try.underlying26 hi hz0 hz1 hz2 rfl (by decide) A M.length c2 (ints M) rfl (HV2.out.alloc _) ⟨W3.heap.size, 0, none⟩ 1 1 [.int .i64 (i : Int)] rfl rfl (one_new _ _ _) ?cc2 ?cc0 ?cc3 ?cc4 ?_)
                    case cc2 => intro u hu; simp at hu; subst hu; rfl
                    case cc0 => intro _; decide
                    case cc3 => unfold maxLen; omega
                    case cc4 => omega
                    intro A' cap' w5 hv5 ho5 hA5
                    have HS3 := Lib.hid (HS2.out.app HP.out hv5 ho5 (by rw [World.size_alloc]; exact hA5))
                    clear hv5 ho5 hA5 HS2 HV2
                    go_wp2_with fail
                    go_roundw
                    case rel => (repeat apply Exists.intro); exact ⟨⟨i, M ++ [(i : Int)], some A', cap', by omega, by omega, rfl, by rw [List.length_append]; rfl, HS3⟩, rfl⟩
                    case measure => simp [intOf]; omega
                · have hd : (fi == fk - 1) = false := by simpa using he
                  have hd2 : decide (fi = fk - 1) = false := by simpa using he
                  have HV := Lib.hid (HNX.out (fun h => he h.1))
                  clear he HNX HPR
                  go_wp2_with fail
                  refine wp_region_ext (by kernel_rfl) (by kernel_rfl) ?_
                  repeat (go_big_quiet_step ((go_at_call 20; exact Calls.ext_of (KT2.out _))))
                  refine wpQuiet_nil ?_
                  intro _ hw'
                  obtain ⟨p, hw''⟩ := hw'
                  subst hw''
                  have HS2 := Lib.hid (HB.out p)
                  go_wp2_with fail
                  go_roundw
                  case rel => exact ⟨i + 1, by omega, by omega, rfl, by go_num, HV.out, HS2⟩
                  case measure => simp [intOf]; omega
              · obtain rfl : i = k := by omega
                obtain ⟨i', g1, g2, g3, g4⟩ := some_pre (tl l) a hak hst.out.fr
                exact (hno.out i' g1 g2 g3 g4).elim
end Go.Proofs.Ythaofkhjhmcknaa
