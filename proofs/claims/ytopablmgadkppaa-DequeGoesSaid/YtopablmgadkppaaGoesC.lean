/- THE WALK of DequeGoes. No condition. -/
import Derived.Test.YtopablmgadkppaaGoesB
namespace Go.Proofs.Ytopablmgadkppaa
open Go.RowKit Go.Shelf
set_option linter.unusedVariables false
attribute [local go_sem] Oper.semAt_some

theorem str_ne {x y : El} (h : ¬ x = y) : (x.toList == y.toList) = false := by
  rw [beq_eq_false_iff_ne]
  intro e
  exact h (ByteArray.ext (Array.ext' (by rw [← ByteArray.toList_eq, ← ByteArray.toList_eq]; exact e)))
/-- Between two rounds of the first loop. -/
def I1 (w : World) (g Bn : Nat) (A : Option Addr) (n c : Nat) (stop : Int) (more : El) (l : List El) (pre : List El) (W : World) : Prop :=
  Gs w g Bn A n c stop more (List.replicate pre.length more ++ l) pre.length W ∧ pre <+: l
/-- Where a round of the first loop has left. -/
def X1 (w : World) (g Bn : Nat) (A : Option Addr) (n c : Nat) (stop : Int) (more : El) (l : List El) (cd : Code) (pre : List El) (W : World) : Prop :=
  (cd = .ret ∧ ¬ pre <+: l) ∨ (cd = .exit 2 ∧ (pre.length : Int) = stop ∧ Gs w g Bn A n c stop more (List.replicate pre.length more ++ l) pre.length W)
/-- Behind the first loop. -/
def E1 (w : World) (g Bn : Nat) (A : Option Addr) (n c : Nat) (stop : Int) (more : El) (l : List El) (W : World) : Prop :=
  ∃ k : Nat, k ≤ n ∧ (k = n ∨ (k : Int) = stop) ∧ Gs w g Bn A n c stop more (List.replicate k more ++ l) k W
section
variable {w : World} {g Bn n c B : Nat} {A : Option Addr} {stop : Int} {more : El} {l : List El}
theorem i1_own (hB : w.heap.size ≤ B) : OwnFrom B (I1 w g Bn A n c stop more l) := fun pre W W' row h hg hr =>
  ⟨h.1.kept hg (fun r e => ⟨Nat.le_trans hB (hr r e).1, (hr r e).2⟩), h.2⟩
theorem x1_own (hB : w.heap.size ≤ B) (cd : Code) : OwnFrom B (X1 w g Bn A n c stop more l cd) := fun pre W W' row h hg hr => by
  rcases h with h | ⟨h1, h2, h3⟩
  · exact .inl h
  · exact .inr ⟨h1, h2, h3.kept hg (fun r e => ⟨Nat.le_trans hB (hr r e).1, (hr r e).2⟩)⟩
theorem e1_done (hn : l.length = n) (xs : List El) (W : World) (hx : xs = l) (h : I1 w g Bn A n c stop more l xs W) : E1 w g Bn A n c stop more l W := by
  subst hx
  exact ⟨n, Nat.le_refl _, .inl rfl, by have := h.1; rwa [hn] at this⟩
theorem e1_stop (hn : l.length = n) (cd : Code) (pre : List El) (W : World) (hx : pre <+: l) (h : X1 w g Bn A n c stop more l cd pre W) : cd = .exit 2 ∧ E1 w g Bn A n c stop more l W := by
  rcases h with ⟨_, h⟩ | ⟨h1, h2, h3⟩
  · exact (h hx).elim
  · exact ⟨h1, pre.length, by have := hx.length_le; omega, .inr h2, h3⟩
theorem snoc_prefix {pre : List El} {x : El} (h : pre <+: l) (hl : pre.length < l.length) : (x = l.getD pre.length default → pre ++ [x] <+: l) ∧ (¬ x = l.getD pre.length default → ¬ pre ++ [x] <+: l) := by
  obtain ⟨t, rfl⟩ := h
  cases t with
  | nil => simp at hl
  | cons y t =>
    have hg : (pre ++ y :: t).getD pre.length default = y := by simp [List.getD]
    rw [hg]
    refine ⟨fun e => ⟨t, by simp [e]⟩, fun e h => e ?_⟩
    obtain ⟨u, hu⟩ := h
    rw [List.append_assoc] at hu
    have := List.append_cancel_left hu
    simp at this
    exact this.1
theorem gs_len {ds : List El} {j : Int} {W : World} (h : Gs w g Bn A n c stop more ds j W) : Calls Try.prog 19 #[.pointer (some ⟨g, 0, none⟩)] W (RetPost W (.int .i64 ((ds.length : Nat) : Int))) := by
  obtain ⟨cb, hd, _⟩ := h.ba.d
  obtain ⟨cur, L, fr, hd, _⟩ := hd
  have h2 := hd.blk.cell 2
  simp only [List.getElem?_toArray, List.getElem?_cons_zero, List.getElem?_cons_succ] at h2
  exact len_any W g ds.length h2
/-- One is shoved, and counted. -/
theorem one_more {ds : List El} {j : Nat} {W W3 : World} {cb : Option Nat} {n1 : Nat} (h : Gs w g Bn A n c stop more ds j W) (hd : Deq W g cb ds) (hc : ∀ b, cb = some b → w.heap.size + 4 ≤ b) (hl : Lands W g cb (more :: ds) W3) (hB : Bn + 1 < n1) :
    KeepsOthers W (W3.setCell ⟨Bn + 1, 0, none⟩ (.int .i64 ((j : Int) + 1))) ∧ KpD n1 g W (W3.setCell ⟨Bn + 1, 0, none⟩ (.int .i64 ((j : Int) + 1))) ∧ Gs w g Bn A n c stop more (more :: ds) ((j : Int) + 1) (W3.setCell ⟨Bn + 1, 0, none⟩ (.int .i64 ((j : Int) + 1))) ∧
      Gs w g Bn A n c stop more (more :: ds) j W3 := by
  have h3 := h.lands hd hc hl
  have hN := h.gN
  exact ⟨(Lands.others hd hl).trans (KeepsOthers.setCell _ _ _), (Lands.kp hd hl (by omega)).trans (KpD.setCell _ _ _ hB (by show Bn + 1 ≠ g; omega)), h3.count _, h3⟩
end
/-- Between two rounds of the second loop. -/
def I2 (w : World) (g Bn : Nat) (A : Option Addr) (n c : Nat) (stop : Int) (more : El) (ds : List El) (k Bm D : Nat) (pre : List El) (W : World) : Prop :=
  Gs w g Bn A n c stop more ds k W ∧ Blk W Bm 3 #[.int .i64 ((pre.length : Nat) : Int)] ∧ pre <+: ds ∧ W.heap[D]? = some (.deferred (some []))
def X2 (ds : List El) (cd : Code) (pre : List El) (W : World) : Prop := cd = .ret ∧ ¬ pre <+: ds
/-- Behind the second loop. -/
def E2 (w : World) (g Bn : Nat) (A : Option Addr) (n c : Nat) (stop : Int) (more : El) (ds : List El) (k Bm D : Nat) (W : World) : Prop :=
  Gs w g Bn A n c stop more ds k W ∧ Blk W Bm 3 #[.int .i64 ((ds.length : Nat) : Int)] ∧ W.heap[D]? = some (.deferred (some []))
section
variable {w : World} {g Bn n c B k Bm D : Nat} {A : Option Addr} {stop : Int} {more : El} {ds : List El}
theorem i2_own (hB : w.heap.size ≤ B) (hD : D < B) : OwnFrom B (I2 w g Bn A n c stop more ds k Bm D) := fun pre W W' row h hg hr =>
  ⟨h.1.kept hg (fun r e => ⟨Nat.le_trans hB (hr r e).1, (hr r e).2⟩), h.2.1.kept hg (fun r e => (hr r e).2), h.2.2.1, (hg.block D (Array.getElem?_eq_some_iff.1 h.2.2.2).1 (fun e => by have := (hr D e.symm).1; omega)).trans h.2.2.2⟩
theorem x2_own (cd : Code) : OwnFrom B (X2 ds cd) := fun pre W W' row h hg hr => h
theorem e2_done (xs : List El) (W : World) (hx : xs = ds) (h : I2 w g Bn A n c stop more ds k Bm D xs W) : E2 w g Bn A n c stop more ds k Bm D W := by
  subst hx
  exact ⟨h.1, h.2.1, h.2.2.2⟩
theorem e2_stop (cd : Code) (pre : List El) (W : World) (hx : pre <+: ds) (h : X2 ds cd pre W) : cd = .exit 4 ∧ E2 w g Bn A n c stop more ds k Bm D W := (h.2 hx).elim
theorem Gs.store {j : Int} {W : World} (h : Gs w g Bn A n c stop more ds j W) {cs : Array Value} (hb : Blk W Bm 3 cs) (hlt : Bn + 1 < Bm) (v : Value) : Gs w g Bn A n c stop more ds j (W.setCell ⟨Bm, 0, none⟩ v) := by
  have ho : Only (fun i => i = Bm) W (W.setCell ⟨Bm, 0, none⟩ v) := (Only.refl (fun i => i = Bm) W).setCell (p := ⟨Bm, 0, none⟩) (.inl rfl) _
  have hg := h.ba.gB
  have hN := h.gN
  refine ⟨h.ba.only ho (fun i e => by subst e; omega) (fun cb hd b hb' e => ?_), h.bn.only ho (by omega), h.bj.only ho (by omega), h.gN⟩
  subst e
  obtain ⟨cur, L, fr, hd, _⟩ := hd
  exact (hb.ne (hd.row _ hb').2 (by decide)) rfl
/-- One round more is counted. -/
theorem one_round {W : World} {pre : List El} {n1 : Nat} (h : I2 w g Bn A n c stop more ds k Bm D pre W) (hlt : Bn + 1 < Bm) (h1 : Bm < n1) {x : El} (hp : pre ++ [x] <+: ds) {j : Nat} (hj : pre.length = j) :
    KeepsOthers W (W.setCell ⟨Bm, 0, none⟩ (.int .i64 ((j : Int) + 1))) ∧ KpD n1 g W (W.setCell ⟨Bm, 0, none⟩ (.int .i64 ((j : Int) + 1))) ∧ I2 w g Bn A n c stop more ds k Bm D (pre ++ [x]) (W.setCell ⟨Bm, 0, none⟩ (.int .i64 ((j : Int) + 1))) := by
  obtain ⟨hg, hb, _, hk⟩ := h
  have hN := hg.gN
  subst hj
  have ho := KeepsOthers.setCell W ⟨Bm, 0, none⟩ (.int .i64 ((pre.length : Int) + 1))
  refine ⟨ho, KpD.setCell _ _ _ h1 (by show Bm ≠ g; omega), hg.store hb hlt _, ?_, hp, ho.same D _ hk rfl⟩
  have := hb.set_ 0 (.int .i64 ((pre.length : Int) + 1))
  simpa using this
theorem rep_at {l : List El} {i : Nat} (h : i < k) : (List.replicate k more ++ l).getD i default = more := by simp [List.getD, List.getElem?_append_left, h]
theorem rep_at2 {l : List El} {i : Nat} : (List.replicate k more ++ l).getD (k + i) default = l.getD i default := by simp [List.getD, List.getElem?_append_right]
end
section
variable (A : Option Addr) (c : Nat) (l : List El) (stop : Int) (more : El) (w : World)

set_option maxRecDepth 100000 in
set_option maxHeartbeats 2000000 in
theorem goes_big (n : Nat) (h : 100 < n) (hn : n ≤ maxLen) (r : Nat) (hr : 4 ≤ r) : CallsIn Fence.wide r Try.prog 5 #[.slice A n c, .int .i64 stop, V more] w (LivePost w) := by
  unfold maxLen at hn
  have KL := Lib.hid live_any
  refine callsIn_of_wp_marks Try.func5 rfl trivial ?_ rfl
  simp only [Try.ntmps5, List.size_toArray, List.length_cons, List.length_nil, Nat.reduceAdd, Nat.reduceSub, Array.replicate_succ, Array.replicate_zero, List.push_toArray, List.append_toArray, List.nil_append, List.cons_append]
  refine wpIn_wide.2 ?_
  go_wp2_with fail
  with_reducible (refine Calls.mono (KL.out _) ?_)
  rintro e w2 ⟨rfl, hb2⟩
  have h6 := Blk.new (((w.alloc (.cells #[.slice A n c] 25)).alloc (.cells #[.int .i64 stop] 3)).alloc (.cells #[V more] 9)) 4 #[.bool false]
  simp only [World.size_alloc] at h6
  have h6' := h6.below hb2 (by simp)
  have hc2 := h6'.cell 0
  have hf2 := h6'.frozen 0
  simp only [List.getElem?_toArray, List.getElem?_cons_zero] at hc2
  have hB : Below w.heap.size w w2 := ((((((Below.refl w.heap.size w).alloc (Nat.le_refl _) _).alloc (by simp) _).alloc (by simp; omega) _).alloc (by simp; omega) _)).trans (hb2.mono (by simp; omega))
  have HB := Lib.hid hB
  clear h6 h6' hb2 hB
  go_wp2_with fail
  have hc5 := World.cell?_setCell_same' w2 ⟨w.heap.size + 1 + 1 + 1, 0, none⟩ (.bool true) (by rw [hc2]; rfl)
  refine ⟨.bool true, ?_, rfl, HB.out.setCell (p := ⟨w.heap.size + 1 + 1 + 1, 0, none⟩) (by show w.heap.size ≤ w.heap.size + 1 + 1 + 1; omega) _⟩
  simp [results, Try.f5, go_sem, hc5]

set_option maxRecDepth 100000 in
set_option maxHeartbeats 8000000 in
theorem goes_core (hx : Texts w A l) (hn : l.length ≤ 100) (r : Nat) (hr : 4 ≤ r) : CallsIn Fence.wide r Try.prog 5 #[.slice A l.length c, .int .i64 stop, V more] w (LivePost w) := by
  have KL := Lib.hid live_any
  have HX := Lib.hid hx
  unfold Texts at HX
  clear hx
  have HT := Lib.hid (fun k => take_succ' (xs := l) (k := k))
  have HTl := Lib.hid (fun k => show (l.take k).length ≤ k by simp [Nat.min_le_left])
  have HTn := Lib.hid (show l.take l.length = l by simp)
  generalize hnn : l.length = n at *
  have HN := Lib.hid hnn
  clear hnn
  have q1 : decide ((100 : Int) < (n : Int)) = false := by simp; omega
  have hfn : ∀ (a : Addr) W, Sem.run Try.prog (binOp .eql 44 (.func (.func 28) #[] #[.pointer (some a)]) .nilFunc) W = .ok (.bool false) W := fun a W => by kernel_rfl
  have HBA := Lib.hid (fun W1 h => ba_new w A n c stop more (W1 := W1) h)
  refine callsIn_of_wp_marks Try.func5 rfl trivial ?_ rfl
  simp only [Try.ntmps5, List.size_toArray, List.length_cons, List.length_nil, Nat.reduceAdd, Nat.reduceSub, Array.replicate_succ, Array.replicate_zero, List.push_toArray, List.append_toArray, List.nil_append, List.cons_append]
  refine wpIn_wide.2 ?_
  go_wp2_with fail
  with_reducible (refine Calls.mono (KL.out _) ?_)
  rintro e w1 ⟨rfl, hb1⟩
  have h0 := HBA.out w1 (hb1.mono (by simp))
  have HB0 := Lib.hid h0
  clear h0 hb1 HBA
  go_wp2_with fail
  generalize w1.alloc (.cells #[.slice none 0 0, .int .i64 0, .int .i64 0] 27) = W5 at *
  generalize w1.heap.size = g at *
  go_loopw [8] (fun i wr => ∃ k : Nat, k ≤ n ∧ i = .int .i64 ((k : Nat) : Int) ∧ Hid (Ba w g A n c stop more (l.take k) wr)) (fun i _ => n - (intOf i).toNat)
  case atStart => exact ⟨0, Nat.zero_le _, rfl, HB0.out⟩
  case round =>
    obtain ⟨k, hk, rfl, hba⟩ := hrel
    clear HB0
    have e3 := hba.out.b3.cell 0
    simp only [List.getElem?_toArray, List.getElem?_cons_zero] at e3
    by_cases hlt : k < n
    · obtain ⟨tb, to, rfl, htb, htc⟩ := HX.out k hlt
      have e4 := (hba.out.bel.cell (p := ⟨tb, to + k, none⟩) htb).trans htc
      have i1 : (0 : Int) ≤ (k : Int) := by omega
      have i2 : (k : Int) < (n : Int) := by omega
      obtain ⟨cb, hd, hcb⟩ := hba.out.d
      have KP := Lib.hid (push_any wr g cb (l.take k) hd (by have := HTl.out k; omega) (l.getD k default))
      rw [← HT.out k hlt] at KP
      have HD := Lib.hid hd
      have HCB := Lib.hid hcb
      clear htc hd hcb
      generalize l.getD k default = x at *
      go_wp2_with fail
      with_reducible (refine Calls.mono KP.out ?_)
      rintro e w3 ⟨rfl, hl⟩
      have HB := Lib.hid (hba.out.lands HD.out HCB.out hl)
      clear hl KP HD HCB hba e3 e4
      go_wp2_with fail
      go_roundw
      case rel => exact ⟨k + 1, by omega, by go_num, HB⟩
      case measure => simp [intOf]; omega
    · obtain rfl : n = k := by omega
      rw [HTn.out] at hba
      have KA := Lib.hid (all_any (some ⟨g, 0, none⟩) wr)
      go_wp2_with fail
      with_reducible (refine Calls.mono KA.out ?_)
      rintro e w3 ⟨rfl, rfl⟩
      go_wp2_with fail
      have hg6 : Gs w g wr.heap.size A n c stop more l 0 ((wr.alloc (.cells #[.pointer (some ⟨g, 0, none⟩)] 47)).alloc (.cells #[.int .i64 0] 3)) := by
        have k1 := hba.out.kept (World.grownBy_alloc wr (.cells #[.pointer (some ⟨g, 0, none⟩)] 47) none) (fun r e => (nomatch e))
        have k2 := k1.kept (World.grownBy_alloc _ (.cells #[.int .i64 0] 3) none) (fun r e => (nomatch e))
        have k3 := Blk.new (wr.alloc (.cells #[.pointer (some ⟨g, 0, none⟩)] 47)) 3 #[.int .i64 0]
        rw [World.size_alloc] at k3
        obtain ⟨cb, hd, _⟩ := hba.out.d
        obtain ⟨cur, L, fr, hd, _⟩ := hd
        exact ⟨k2, (Blk.new wr 47 #[.pointer (some ⟨g, 0, none⟩)]).alloc _, k3, hd.blk.lt⟩
      generalize ((wr.alloc (.cells #[.pointer (some ⟨g, 0, none⟩)] 47)).alloc (.cells #[.int .i64 0] 3)) = W6 at *
      generalize wr.heap.size = Bn at *
      have HG6 := Lib.hid hg6
      clear hg6 hba KA e3
      obtain ⟨cb6, hd6, hc6⟩ := HG6.out.ba.d
      have hgl6 : g < W6.heap.size := by obtain ⟨cur, L, fr, hd, _⟩ := hd6; exact hd.blk.lt
      have hbl6 := HG6.out.bj.lt
      have hbn6 := HG6.out.bn.cell 0
      simp only [List.getElem?_toArray, List.getElem?_cons_zero] at hbn6
      refine (wpIn_wide (n := r)).1 ?_
      refine range_end (by omega) (gf := 28) (lb := #[.pointer (some ⟨Bn, 0, none⟩)]) rfl (enters_of Try.func28 (by kernel_rfl) rfl)
        (goes_stops g Bn l (by rw [HN.out]; omega) W6 cb6 hd6 hbn6 (r - 1) (by omega)) KpD.trans (fun W l o o' hl h hc _ => KpD.putObj hgl6 W l o o' hl h hc) (fun _ => rfl)
        (I1 w g Bn A n c stop more l) (X1 w g Bn A n c stop more l) (i1_own HG6.out.ba.bel.size) (x1_own HG6.out.ba.bel.size) ⟨HG6.out, List.nil_prefix⟩ (E1 w g Bn A n c stop more l) (e1_done HN.out) (e1_stop HN.out) ?a1 ?assign ?body ?rest
      case assign =>
        intro l x W K hK
        gi_wp2
        exact hK
      case body =>
        rintro lp pre x W ⟨hgs, hpre⟩ hlen
        have h2 : 1 ≤ r - 1 - 1 := by omega
        rw [HN.out] at hlen
        obtain ⟨tb, to, rfl, htb, htc⟩ := HX.out pre.length hlen
        have e7 := (hgs.ba.bel.cell (p := ⟨tb, to + pre.length, none⟩) htb).trans htc
        have e3 := hgs.ba.b3.cell 0
        have e4 := hgs.ba.b4.cell 0
        have e5 := hgs.ba.b5.cell 0
        have e6 := hgs.ba.b6.cell 0
        have f6 := hgs.ba.b6.frozen 0
        have ej := hgs.bj.cell 0
        simp only [List.getElem?_toArray, List.getElem?_cons_zero] at e3 e4 e5 e6 ej
        obtain ⟨cb, hd, hc⟩ := hgs.ba.d
        have hdl : (List.replicate pre.length more ++ l).length ≤ 10000 := by rw [List.length_append, List.length_replicate, HN.out]; omega
        have KS := Lib.hid (shove_any W g cb _ hd hdl more)
        have HM := Lib.hid (fun W3 (hl : Lands W g cb (more :: (List.replicate pre.length more ++ l)) W3) => one_more (n1 := W6.heap.size) hgs hd hc hl (by omega))
        have hpx := snoc_prefix hpre (x := x) (by rw [HN.out]; exact hlen)
        have HX1 := Lib.hid (fun W' (cd : Code) (h : (cd = .ret ∧ ¬ (pre ++ [x]) <+: l) ∨ (cd = .exit 2 ∧ (((pre ++ [x]).length : Nat) : Int) = stop ∧ Gs w g Bn (some ⟨tb, to, none⟩) n c stop more (List.replicate (pre ++ [x]).length more ++ l) ((pre ++ [x]).length : Nat) W')) => (show X1 w g Bn (some ⟨tb, to, none⟩) n c stop more l cd (pre ++ [x]) W' from h))
        have HI1 := Lib.hid (fun W' (h1 : Gs w g Bn (some ⟨tb, to, none⟩) n c stop more (List.replicate (pre ++ [x]).length more ++ l) ((pre ++ [x]).length : Nat) W') (h2 : (pre ++ [x]) <+: l) => (show I1 w g Bn (some ⟨tb, to, none⟩) n c stop more l (pre ++ [x]) W' from ⟨h1, h2⟩))
        have hlx : (pre ++ [x]).length = pre.length + 1 := by simp
        rw [hlx] at HX1 HI1
        rw [List.replicate_succ, List.cons_append] at HX1 HI1
        clear htc hpre hgs hdl hlx
        generalize hk : pre.length = k at *
        have HK := Lib.hid hk
        clear hk
        have i1 : (0 : Int) ≤ (k : Int) := by omega
        have i2 : (k : Int) < (n : Int) := by omega
        have i3 : (k : Int) ≤ 100 := by omega
        generalize hy : l.getD k default = y at *
        clear hy
        by_cases hxy : x = y
        · have hpx1 := Lib.hid (hpx.1 hxy)
          clear hpx
          subst hxy
          have hs1 : (x.toList == x.toList) = true := by simp
          by_cases hst : stop = (k : Int) + 1
          · subst hst
            gi_wp2_with (refine ⟨trivial, ?_⟩; gi_at_call 10; refine (CallsIn.inRound lp (callsIn_wide.2 KS.out)).mono ?_; rintro e w3 ⟨rfl, hl⟩; obtain ⟨m1, m2, m3, m4⟩ := HM.out w3 hl; have ej3 := m4.bj.cell 0; have fj3 := m4.bj.frozen 0; have ej4 := m3.bj.cell 0; have e44 := m3.ba.b4.cell 0; simp only [List.getElem?_toArray, List.getElem?_cons_zero] at ej3 ej4 e44)
            exact ⟨m1, HX1.out _ _ (.inr ⟨rfl, rfl, m3⟩)⟩
          · have hst1 : ((k : Int) + 1 == stop) = false := by simp; omega
            have hst2 : ¬ ((k : Int) + 1 = stop) := by omega
            gi_wp2_with (refine ⟨trivial, ?_⟩; gi_at_call 10; refine (CallsIn.inRound lp (callsIn_wide.2 KS.out)).mono ?_; rintro e w3 ⟨rfl, hl⟩; obtain ⟨m1, m2, m3, m4⟩ := HM.out w3 hl; have ej3 := m4.bj.cell 0; have fj3 := m4.bj.frozen 0; have ej4 := m3.bj.cell 0; have e44 := m3.ba.b4.cell 0; simp only [List.getElem?_toArray, List.getElem?_cons_zero] at ej3 ej4 e44)
            exact ⟨m1, m2, HI1.out _ m3 hpx1.out⟩
        · have hpx2 := Lib.hid (hpx.2 hxy)
          clear hpx
          have hs1 : (x.toList == y.toList) = false := by
            rw [beq_eq_false_iff_ne]
            intro e
            exact hxy (ByteArray.ext (Array.ext' (by rw [← ByteArray.toList_eq, ← ByteArray.toList_eq]; exact e)))
          have HS := Lib.hid (KeepsOthers.setCell W ⟨w.heap.size + 1 + 1 + 1, 0, none⟩ (.bool false))
          gi_wp2
          exact ⟨HS.out, HX1.out _ _ (.inl ⟨rfl, hpx2.out⟩)⟩
      case rest =>
        rintro D W hD ⟨k, hk1, hk2, hgs⟩ hK
        have e3 := hgs.ba.b3.cell 0
        have e4 := hgs.ba.b4.cell 0
        have ej := hgs.bj.cell 0
        simp only [List.getElem?_toArray, List.getElem?_cons_zero] at e3 e4 ej
        have hlen : (((List.replicate k more ++ l).length : Nat) : Int) = (n : Int) + (k : Int) := by rw [List.length_append, List.length_replicate, HN.out]; omega
        have KLen := Lib.hid (fun (W' : World) (h : Gs w g Bn A n c stop more (List.replicate k more ++ l) k W') => gs_len h)
        rw [hlen] at KLen
        have HG := Lib.hid hgs
        have HK := Lib.hid hK
        have KQ := Lib.hid (fun q => (KLen.out (W.drewN q) (hgs.only ((Only.refl (fun _ => False) W).drewN q) (fun i h => h.elim))).mono (fun e w' h => (⟨h.1, h.2.symm⟩ : e = .returned (.int .i64 ((n : Int) + (k : Int))) ∧ w' = W.drewN q)))
        have i0 : (0 : Int) ≤ (k : Int) := by omega
        have i1 : (k : Int) ≤ 100 := by omega
        have i2 : (0 : Int) ≤ (n : Int) := by omega
        have i3 : (n : Int) ≤ 100 := by omega
        clear hgs hK hlen
        have hstep : (k = n) ∨ (¬ k = n ∧ (k : Int) = stop) := by omega
        clear hk2
        have hWz : W6.heap.size ≤ W.heap.size := by have := HG.out.ba.bel.size; have := (Array.getElem?_eq_some_iff.1 HK.out).1; omega
        rcases hstep with hkn | ⟨hkn, hks⟩
        · subst hkn
          go_wp2_with fail
          go_quiet ((go_at_call 19; exact Calls.quiet_of_same (KQ.out _)))
          have HG1 : Hid (Gs w g Bn A k c stop more (List.replicate k more ++ l) k (W.drewN nq)) := HG.out.only ((Only.refl (fun _ => False) W).drewN nq) (fun i h => h.elim)
          have HK1 : Hid ((W.drewN nq).heap[D]? = some (.deferred (some []))) := HK.out
          have HZ1 : Hid (W6.heap.size ≤ (W.drewN nq).heap.size) := hWz
          generalize W.drewN nq = Wq at *
          clear KQ HG HK e3 e4 ej
          have e3 := HG1.out.ba.b3.cell 0
          have e4 := HG1.out.ba.b4.cell 0
          have ej := HG1.out.bj.cell 0
          simp only [List.getElem?_toArray, List.getElem?_cons_zero] at e3 e4 ej
          go_wp2_with fail
          have hg7 : Gs w g Bn A k c stop more (List.replicate k more ++ l) k (Wq.alloc (.cells #[.int .i64 0] 3)) := HG1.out.kept (World.grownBy_alloc Wq _ none) (fun r e => (nomatch e))
          have hm7 := Blk.new Wq 3 #[.int .i64 0]
          have hk7 : (Wq.alloc (.cells #[.int .i64 0] 3)).heap[D]? = some (.deferred (some [])) := (Below.heap_alloc Wq _ D (Array.getElem?_eq_some_iff.1 HK1.out).1).trans HK1.out
          have hDl : D < Wq.heap.size := (Array.getElem?_eq_some_iff.1 HK1.out).1
          have hBq : Bn + 1 < Wq.heap.size := by have := HZ1.out; omega
          have hz7 : (Wq.alloc (.cells #[.int .i64 0] 3)).heap.size = Wq.heap.size + 1 := World.size_alloc _ _
          generalize Wq.alloc (.cells #[.int .i64 0] 3) = W7 at *
          have HZ7 := Lib.hid hz7
          clear hz7
          have HG7 := Lib.hid hg7
          have HM7 := Lib.hid hm7
          have HK7 := Lib.hid hk7
          clear hg7 hm7 hk7 HG1 HK1 e3 e4 ej
          obtain ⟨cb7, hd7, hc7⟩ := HG7.out.ba.d
          have hgl7 : g < W7.heap.size := by obtain ⟨cur, L, fr, hd, _⟩ := hd7; exact hd.blk.lt
          have hbn7 := HG7.out.bn.cell 0
          simp only [List.getElem?_toArray, List.getElem?_cons_zero] at hbn7
          have hw7 := HG7.out.ba.bel.size
          have HL7 := Lib.hid (show (List.replicate k more ++ l).length = k + k by rw [List.length_append, List.length_replicate, HN.out])
          refine (wpIn_wide (n := r)).1 ?_
          refine range_end (by omega) (gf := 28) (lb := #[.pointer (some ⟨Bn, 0, none⟩)]) rfl (enters_of Try.func28 (by kernel_rfl) rfl)
            (goes_stops g Bn (List.replicate k more ++ l) (by rw [HL7.out]; omega) W7 cb7 hd7 hbn7 (r - 1) (by omega)) KpD.trans (fun W l o o' hl h hc _ => KpD.putObj hgl7 W l o o' hl h hc) (fun _ => rfl)
            (I2 w g Bn A k c stop more (List.replicate k more ++ l) k Wq.heap.size D) (X2 (List.replicate k more ++ l)) (i2_own hw7 (by have := HZ7.out; omega)) x2_own ⟨HG7.out, HM7.out, List.nil_prefix, HK7.out⟩ (E2 w g Bn A k c stop more (List.replicate k more ++ l) k Wq.heap.size D) e2_done e2_stop ?a2 ?assign2 ?body2 ?rest2
          case assign2 =>
            intro l x W K hK
            gi_wp2
            exact hK
          case body2 =>
            rintro lp pre x W hi2 hlen
            rw [HL7.out] at hlen
            have hI := Lib.hid hi2
            obtain ⟨hgs, hbm, hpre, _⟩ := hi2
            have e3 := hgs.ba.b3.cell 0
            have e5 := hgs.ba.b5.cell 0
            have e6 := hgs.ba.b6.cell 0
            have f6 := hgs.ba.b6.frozen 0
            have ej := hgs.bj.cell 0
            have em := hbm.cell 0
            have fm := hbm.frozen 0
            simp only [List.getElem?_toArray, List.getElem?_cons_zero] at e3 e5 e6 ej em
            have hpx := snoc_prefix hpre (x := x) (by rw [HL7.out]; exact hlen)
            have HO := Lib.hid (fun hp => one_round (x := x) (n1 := W7.heap.size) hI.out hBq (by have := HZ7.out; omega) hp rfl)
            have HR := Lib.hid (fun (hp : ¬ pre ++ [x] <+: List.replicate k more ++ l) => (⟨KeepsOthers.setCell W ⟨w.heap.size + 1 + 1 + 1, 0, none⟩ (.bool false), rfl, hp⟩ : KeepsOthers W (W.setCell ⟨w.heap.size + 1 + 1 + 1, 0, none⟩ (.bool false)) ∧ X2 (List.replicate k more ++ l) .ret (pre ++ [x]) (W.setCell ⟨w.heap.size + 1 + 1 + 1, 0, none⟩ (.bool false))))
            have hbel := hgs.ba.bel
            clear hpre hgs hbm
            generalize hj : pre.length = j at *
            have HJ := Lib.hid hj
            clear hj
            by_cases hjk : j < k
            · have hat := rep_at (more := more) (l := l) hjk
              rw [hat] at hpx
              clear hat
              have t1 : (j : Int) < (k : Int) := by omega
              have t0 : (0 : Int) ≤ (j : Int) := by omega
              by_cases hxm : x = more
              · have HP := Lib.hid (HO.out (hpx.1 hxm))
                clear hpx HO HR
                subst hxm
                gi_wp2
                exact HP.out
              · have HP := Lib.hid (HR.out (hpx.2 hxm))
                have hs1 : (x.toList == more.toList) = false := str_ne hxm
                have hud : ∀ b : Bool, ¬ (undef = Value.bool b) := fun b h => by cases h
                clear hpx HO HR
                gi_wp2
                exact HP.out
            · obtain ⟨i, rfl⟩ : ∃ i, j = k + i := ⟨j - k, by omega⟩
              have hat := rep_at2 (k := k) (more := more) (l := l) (i := i)
              rw [hat] at hpx
              clear hat hjk
              have hin : i < k := by omega
              obtain ⟨tb, to, rfl, htb, htc⟩ := HX.out i hin
              have e7 := (hbel.cell (p := ⟨tb, to + i, none⟩) htb).trans htc
              clear htc
              have t0 : (0 : Int) ≤ (i : Int) := by omega
              have t1 : (i : Int) < (k : Int) := by omega
              rw [show ((k + i : Nat) : Int) = (k : Int) + (i : Int) by omega] at em HO
              have tsub : (k : Int) + (i : Int) - (k : Int) = (i : Int) := by omega
              generalize hy : l.getD i default = y at *
              clear hy
              by_cases hxm : x = y
              · have HP := Lib.hid (HO.out (hpx.1 hxm))
                clear hpx HO HR
                subst hxm
                gi_wp2
                exact HP.out
              · have HP := Lib.hid (HR.out (hpx.2 hxm))
                have hs1 : (x.toList == y.toList) = false := str_ne hxm
                clear hpx HO HR
                gi_wp2
                exact HP.out
          case rest2 =>
            rintro D2 W hD2 ⟨hgs, hbm, hK1⟩ hK2
            have em := hbm.cell 0
            have e6 := hgs.ba.b6.cell 0
            have f6 := hgs.ba.b6.frozen 0
            simp only [List.getElem?_toArray, List.getElem?_cons_zero] at em e6
            have KL9 := Lib.hid (gs_len (hgs.only ((Only.refl (fun _ => False) W).drewN 1) (fun i h => h.elim)))
            generalize hz : (((List.replicate k more ++ l).length : Nat) : Int) = z at *
            clear hz
            have HB := Lib.hid hgs.ba.bel
            have hml : Wq.heap.size < W.heap.size := hbm.lt
            have h6l : w.heap.size + 3 < W.heap.size := hgs.ba.b6.lt
            have hne1 : w.heap.size + 3 ≠ Wq.heap.size := by have := hgs.gN; have := hgs.ba.gB; omega
            have hDD : D < D2 := by have := HZ7.out; omega
            have hwD : w.heap.size ≤ D := by have := hgs.ba.gB; omega
            have HK1 := Lib.hid hK1
            have HK2 := Lib.hid hK2
            have HE6 := Lib.hid e6
            have HF6 := Lib.hid f6
            have HEM := Lib.hid em
            clear hgs hbm hK1 hK2 e6 f6
            go_wp2_with fail
            go_region_held3 (fun w' => w'.cell? ⟨Wq.heap.size, 0, none⟩ = some (.int .i64 z)) (first | go_keep | exact s5 0) (first | (go_at_call 19; refine KL9.out.mono ?_; rintro e w4 ⟨rfl, rfl⟩) | (go_at_call 8; refine (KL.out _).mono ?_; rintro e w5 ⟨rfl, hb5⟩; have em5 := (hb5.cell (p := ⟨Wq.heap.size, 0, none⟩) hml).trans HEM.out; have e65 := (hb5.cell (p := ⟨w.heap.size + 1 + 1 + 1, 0, none⟩) h6l).trans HE6.out; have f65 := (hb5.frozen (p := ⟨w.heap.size + 1 + 1 + 1, 0, none⟩) h6l).trans HF6.out; have s5 : ∀ (q : Nat), (w5.setCell ⟨w.heap.size + 1 + 1 + 1, 0, none⟩ (.bool true)).cell? ⟨Wq.heap.size, 0, none⟩ = some (.int .i64 z) := fun _ => (World.cell?_setCell_far w5 _ _ _ hne1).trans em5))
            go_wp2_with fail
            have hK2a : w5.heap[D2]? = some (.deferred (some [])) := (hb5.block D2 (Array.getElem?_eq_some_iff.1 HK2.out).1).trans HK2.out
            have hK1a : w5.heap[D]? = some (.deferred (some [])) := (hb5.block D (Array.getElem?_eq_some_iff.1 HK1.out).1).trans HK1.out
            have hK2b := (KeepsOthers.setCell w5 ⟨w.heap.size + 1 + 1 + 1, 0, none⟩ (.bool true)).same D2 _ hK2a rfl
            have hK1b := (KeepsOthers.setCell w5 ⟨w.heap.size + 1 + 1 + 1, 0, none⟩ (.bool true)).same D _ hK1a rfl
            have hc0 := World.cell?_setCell_same' w5 ⟨w.heap.size + 1 + 1 + 1, 0, none⟩ (.bool true) (by rw [e65]; rfl)
            have hBw : Below w.heap.size w (w5.setCell ⟨w.heap.size + 1 + 1 + 1, 0, none⟩ (.bool true)) :=
              (HB.out.trans (show Below w.heap.size W w5 from ⟨hb5.os, hb5.tape, hb5.output, hb5.size, fun i hi => hb5.block i (by have := HB.out.size; show i < W.heap.size; omega)⟩)).setCell (p := ⟨w.heap.size + 1 + 1 + 1, 0, none⟩) (by show w.heap.size ≤ w.heap.size + 1 + 1 + 1; omega) _
            generalize w5.setCell ⟨w.heap.size + 1 + 1 + 1, 0, none⟩ (.bool true) = w6 at *
            have hK1c : (w6.putObj D2 (.deferred none)).heap[D]? = some (.deferred (some [])) := (World.putObj_heap_other (by omega)).trans hK1b
            have hc1 := cell_kept hc0 (grownBy_putObj' w6 D2 (.deferred none)) (fun r e => by cases e; exact ⟨_, hK2b, rfl⟩)
            have hc2 := cell_kept hc1 (grownBy_putObj' (w6.putObj D2 (.deferred none)) D (.deferred none)) (fun r e => by cases e; exact ⟨_, hK1c, rfl⟩)
            have hB2 := (hBw.trans (belowK_b (w := w) (Nat.le_refl _) w6 D2 _ (.deferred none) (by omega) hK2b rfl rfl)).trans (belowK_b (w := w) (Nat.le_refl _) (w6.putObj D2 (.deferred none)) D _ (.deferred none) hwD hK1c rfl rfl)
            refine ⟨by simp, .inl ⟨_, _, rfl, run_takeDeferred hK2b, ⟨by simp, .inl ⟨_, _, rfl, run_takeDeferred hK1c, ?_⟩⟩⟩⟩
            refine ⟨.bool true, ?_, rfl, hB2⟩
            simp [results, Try.f5, go_sem, hc2]
        · subst hks
          have hq1 : ((k : Int) == (n : Int)) = false := by simp; omega
          have hq2 : ((k : Int) != (n : Int)) = true := by simp; omega
          have hq3 : ¬ ((k : Int) = (n : Int)) := by omega
          go_wp2_with fail
          go_quiet ((go_at_call 19; exact Calls.quiet_of_same (KQ.out _)))
          have HG1 : Hid (Gs w g Bn A n c (k : Int) more (List.replicate k more ++ l) k (W.drewN nq)) := HG.out.only ((Only.refl (fun _ => False) W).drewN nq) (fun i h => h.elim)
          have HK1 : Hid ((W.drewN nq).heap[D]? = some (.deferred (some []))) := HK.out
          have HZ1 : Hid (W6.heap.size ≤ (W.drewN nq).heap.size) := hWz
          generalize W.drewN nq = Wq at *
          clear KQ HG HK e3 e4 ej
          have e3 := HG1.out.ba.b3.cell 0
          have e4 := HG1.out.ba.b4.cell 0
          have ej := HG1.out.bj.cell 0
          simp only [List.getElem?_toArray, List.getElem?_cons_zero] at e3 e4 ej
          go_wp2_with fail
          have hg7 : Gs w g Bn A n c (k : Int) more (List.replicate k more ++ l) k (Wq.alloc (.cells #[.int .i64 0] 3)) := HG1.out.kept (World.grownBy_alloc Wq _ none) (fun r e => (nomatch e))
          have hm7 := Blk.new Wq 3 #[.int .i64 0]
          have hk7 : (Wq.alloc (.cells #[.int .i64 0] 3)).heap[D]? = some (.deferred (some [])) := (Below.heap_alloc Wq _ D (Array.getElem?_eq_some_iff.1 HK1.out).1).trans HK1.out
          have hDl : D < Wq.heap.size := (Array.getElem?_eq_some_iff.1 HK1.out).1
          have hBq : Bn + 1 < Wq.heap.size := by have := HZ1.out; omega
          have hz7 : (Wq.alloc (.cells #[.int .i64 0] 3)).heap.size = Wq.heap.size + 1 := World.size_alloc _ _
          generalize Wq.alloc (.cells #[.int .i64 0] 3) = W7 at *
          have HZ7 := Lib.hid hz7
          clear hz7
          have HG7 := Lib.hid hg7
          have HM7 := Lib.hid hm7
          have HK7 := Lib.hid hk7
          clear hg7 hm7 hk7 HG1 HK1 e3 e4 ej
          obtain ⟨cb7, hd7, hc7⟩ := HG7.out.ba.d
          have hgl7 : g < W7.heap.size := by obtain ⟨cur, L, fr, hd, _⟩ := hd7; exact hd.blk.lt
          have hbn7 := HG7.out.bn.cell 0
          simp only [List.getElem?_toArray, List.getElem?_cons_zero] at hbn7
          have hw7 := HG7.out.ba.bel.size
          have HL7 := Lib.hid (show (List.replicate k more ++ l).length = k + n by rw [List.length_append, List.length_replicate, HN.out])
          refine (wpIn_wide (n := r)).1 ?_
          refine range_end (by omega) (gf := 28) (lb := #[.pointer (some ⟨Bn, 0, none⟩)]) rfl (enters_of Try.func28 (by kernel_rfl) rfl)
            (goes_stops g Bn (List.replicate k more ++ l) (by rw [HL7.out]; omega) W7 cb7 hd7 hbn7 (r - 1) (by omega)) KpD.trans (fun W l o o' hl h hc _ => KpD.putObj hgl7 W l o o' hl h hc) (fun _ => rfl)
            (I2 w g Bn A n c (k : Int) more (List.replicate k more ++ l) k Wq.heap.size D) (X2 (List.replicate k more ++ l)) (i2_own hw7 (by have := HZ7.out; omega)) x2_own ⟨HG7.out, HM7.out, List.nil_prefix, HK7.out⟩ (E2 w g Bn A n c (k : Int) more (List.replicate k more ++ l) k Wq.heap.size D) e2_done e2_stop ?a3 ?assign3 ?body3 ?rest3
          case assign3 =>
            intro l x W K hK
            gi_wp2
            exact hK
          case body3 =>
            rintro lp pre x W hi2 hlen
            rw [HL7.out] at hlen
            have hI := Lib.hid hi2
            obtain ⟨hgs, hbm, hpre, _⟩ := hi2
            have e3 := hgs.ba.b3.cell 0
            have e5 := hgs.ba.b5.cell 0
            have e6 := hgs.ba.b6.cell 0
            have f6 := hgs.ba.b6.frozen 0
            have ej := hgs.bj.cell 0
            have em := hbm.cell 0
            have fm := hbm.frozen 0
            simp only [List.getElem?_toArray, List.getElem?_cons_zero] at e3 e5 e6 ej em
            have hpx := snoc_prefix hpre (x := x) (by rw [HL7.out]; exact hlen)
            have HO := Lib.hid (fun hp => one_round (x := x) (n1 := W7.heap.size) hI.out hBq (by have := HZ7.out; omega) hp rfl)
            have HR := Lib.hid (fun (hp : ¬ pre ++ [x] <+: List.replicate k more ++ l) => (⟨KeepsOthers.setCell W ⟨w.heap.size + 1 + 1 + 1, 0, none⟩ (.bool false), rfl, hp⟩ : KeepsOthers W (W.setCell ⟨w.heap.size + 1 + 1 + 1, 0, none⟩ (.bool false)) ∧ X2 (List.replicate k more ++ l) .ret (pre ++ [x]) (W.setCell ⟨w.heap.size + 1 + 1 + 1, 0, none⟩ (.bool false))))
            have hbel := hgs.ba.bel
            clear hpre hgs hbm
            generalize hj : pre.length = j at *
            have HJ := Lib.hid hj
            clear hj
            by_cases hjk : j < k
            · have hat := rep_at (more := more) (l := l) hjk
              rw [hat] at hpx
              clear hat
              have t1 : (j : Int) < (k : Int) := by omega
              have t0 : (0 : Int) ≤ (j : Int) := by omega
              by_cases hxm : x = more
              · have HP := Lib.hid (HO.out (hpx.1 hxm))
                clear hpx HO HR
                subst hxm
                gi_wp2
                exact HP.out
              · have HP := Lib.hid (HR.out (hpx.2 hxm))
                have hs1 : (x.toList == more.toList) = false := str_ne hxm
                have hud : ∀ b : Bool, ¬ (undef = Value.bool b) := fun b h => by cases h
                clear hpx HO HR
                gi_wp2
                exact HP.out
            · obtain ⟨i, rfl⟩ : ∃ i, j = k + i := ⟨j - k, by omega⟩
              have hat := rep_at2 (k := k) (more := more) (l := l) (i := i)
              rw [hat] at hpx
              clear hat hjk
              have hin : i < n := by omega
              obtain ⟨tb, to, rfl, htb, htc⟩ := HX.out i hin
              have e7 := (hbel.cell (p := ⟨tb, to + i, none⟩) htb).trans htc
              clear htc
              have t0 : (0 : Int) ≤ (i : Int) := by omega
              have t1 : (i : Int) < (n : Int) := by omega
              rw [show ((k + i : Nat) : Int) = (k : Int) + (i : Int) by omega] at em HO
              have tsub : (k : Int) + (i : Int) - (k : Int) = (i : Int) := by omega
              generalize hy : l.getD i default = y at *
              clear hy
              by_cases hxm : x = y
              · have HP := Lib.hid (HO.out (hpx.1 hxm))
                clear hpx HO HR
                subst hxm
                gi_wp2
                exact HP.out
              · have HP := Lib.hid (HR.out (hpx.2 hxm))
                have hs1 : (x.toList == y.toList) = false := str_ne hxm
                clear hpx HO HR
                gi_wp2
                exact HP.out
          case rest3 =>
            rintro D2 W hD2 ⟨hgs, hbm, hK1⟩ hK2
            have em := hbm.cell 0
            have e6 := hgs.ba.b6.cell 0
            have f6 := hgs.ba.b6.frozen 0
            simp only [List.getElem?_toArray, List.getElem?_cons_zero] at em e6
            have KL9 := Lib.hid (gs_len (hgs.only ((Only.refl (fun _ => False) W).drewN 1) (fun i h => h.elim)))
            generalize hz : (((List.replicate k more ++ l).length : Nat) : Int) = z at *
            clear hz
            have HB := Lib.hid hgs.ba.bel
            have hml : Wq.heap.size < W.heap.size := hbm.lt
            have h6l : w.heap.size + 3 < W.heap.size := hgs.ba.b6.lt
            have hne1 : w.heap.size + 3 ≠ Wq.heap.size := by have := hgs.gN; have := hgs.ba.gB; omega
            have hDD : D < D2 := by have := HZ7.out; omega
            have hwD : w.heap.size ≤ D := by have := hgs.ba.gB; omega
            have HK1 := Lib.hid hK1
            have HK2 := Lib.hid hK2
            have HE6 := Lib.hid e6
            have HF6 := Lib.hid f6
            have HEM := Lib.hid em
            clear hgs hbm hK1 hK2 e6 f6
            go_wp2_with fail
            go_region_held3 (fun w' => w'.cell? ⟨Wq.heap.size, 0, none⟩ = some (.int .i64 z)) (first | go_keep | exact s5 0) (first | (go_at_call 19; refine KL9.out.mono ?_; rintro e w4 ⟨rfl, rfl⟩) | (go_at_call 8; refine (KL.out _).mono ?_; rintro e w5 ⟨rfl, hb5⟩; have em5 := (hb5.cell (p := ⟨Wq.heap.size, 0, none⟩) hml).trans HEM.out; have e65 := (hb5.cell (p := ⟨w.heap.size + 1 + 1 + 1, 0, none⟩) h6l).trans HE6.out; have f65 := (hb5.frozen (p := ⟨w.heap.size + 1 + 1 + 1, 0, none⟩) h6l).trans HF6.out; have s5 : ∀ (q : Nat), (w5.setCell ⟨w.heap.size + 1 + 1 + 1, 0, none⟩ (.bool true)).cell? ⟨Wq.heap.size, 0, none⟩ = some (.int .i64 z) := fun _ => (World.cell?_setCell_far w5 _ _ _ hne1).trans em5))
            go_wp2_with fail
            have hK2a : w5.heap[D2]? = some (.deferred (some [])) := (hb5.block D2 (Array.getElem?_eq_some_iff.1 HK2.out).1).trans HK2.out
            have hK1a : w5.heap[D]? = some (.deferred (some [])) := (hb5.block D (Array.getElem?_eq_some_iff.1 HK1.out).1).trans HK1.out
            have hK2b := (KeepsOthers.setCell w5 ⟨w.heap.size + 1 + 1 + 1, 0, none⟩ (.bool true)).same D2 _ hK2a rfl
            have hK1b := (KeepsOthers.setCell w5 ⟨w.heap.size + 1 + 1 + 1, 0, none⟩ (.bool true)).same D _ hK1a rfl
            have hc0 := World.cell?_setCell_same' w5 ⟨w.heap.size + 1 + 1 + 1, 0, none⟩ (.bool true) (by rw [e65]; rfl)
            have hBw : Below w.heap.size w (w5.setCell ⟨w.heap.size + 1 + 1 + 1, 0, none⟩ (.bool true)) :=
              (HB.out.trans (show Below w.heap.size W w5 from ⟨hb5.os, hb5.tape, hb5.output, hb5.size, fun i hi => hb5.block i (by have := HB.out.size; show i < W.heap.size; omega)⟩)).setCell (p := ⟨w.heap.size + 1 + 1 + 1, 0, none⟩) (by show w.heap.size ≤ w.heap.size + 1 + 1 + 1; omega) _
            generalize w5.setCell ⟨w.heap.size + 1 + 1 + 1, 0, none⟩ (.bool true) = w6 at *
            have hK1c : (w6.putObj D2 (.deferred none)).heap[D]? = some (.deferred (some [])) := (World.putObj_heap_other (by omega)).trans hK1b
            have hc1 := cell_kept hc0 (grownBy_putObj' w6 D2 (.deferred none)) (fun r e => by cases e; exact ⟨_, hK2b, rfl⟩)
            have hc2 := cell_kept hc1 (grownBy_putObj' (w6.putObj D2 (.deferred none)) D (.deferred none)) (fun r e => by cases e; exact ⟨_, hK1c, rfl⟩)
            have hB2 := (hBw.trans (belowK_b (w := w) (Nat.le_refl _) w6 D2 _ (.deferred none) (by omega) hK2b rfl rfl)).trans (belowK_b (w := w) (Nat.le_refl _) (w6.putObj D2 (.deferred none)) D _ (.deferred none) hwD hK1c rfl rfl)
            refine ⟨by simp, .inl ⟨_, _, rfl, run_takeDeferred hK2b, ⟨by simp, .inl ⟨_, _, rfl, run_takeDeferred hK1c, ?_⟩⟩⟩⟩
            refine ⟨.bool true, ?_, rfl, hB2⟩
            simp [results, Try.f5, go_sem, hc2]
end
end Go.Proofs.Ytopablmgadkppaa
