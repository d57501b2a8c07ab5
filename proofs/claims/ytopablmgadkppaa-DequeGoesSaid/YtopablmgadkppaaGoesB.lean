/- THE STATE of DequeGoes; a range over a function that is left by its end or by one break. No condition. -/
import Derived.Test.YtopablmgadkppaaGoesA
import Derived.Test.YtopablmgadkppaaOrderWalk
namespace Go.Proofs.Ytopablmgadkppaa
open Go.RowKit Go.Shelf
set_option linter.unusedVariables false

theorem range_end {α : Type} {P : Program} {n : Nat} {g : Operand} {ps : Array Tmp} {assign body : Code} {Q : Exit → Act → World → Prop} {a : Act} {w : World} {id : Nat}
    (h1 : 1 ≤ n) {gf : Nat} {lb : Array Value} (hg : a.eval g = .func (.func gf) #[] lb) (eg : ∀ args w, (callFunc gf args).run P w = .ok (.enter gf args) w)
    {encs : α → Array Value} {Kp : World → World → Prop} {S Sp : List α → Prop} {N : Nat} (hseq : SeqStopsK Fence.wide (n - 1) P gf lb encs Kp S Sp N w)
    (hKt : ∀ {A B C : World}, Kp A B → Kp B C → Kp A C) (hKb : ∀ (W : World) (l : Nat) (o o' : Obj), w.heap.size ≤ l → W.heap[l]? = some o → o.isCells = false → o.isWalk = false → Kp W (W.putObj l o')) (hps : ∀ x, (encs x).size = ps.size)
    (I : List α → World → Prop) (Ix : Code → List α → World → Prop) (hI : OwnFrom w.heap.size I) (hIx : ∀ c, OwnFrom w.heap.size (Ix c)) (h0 : I [] w) (E : World → Prop)
    (hdone : ∀ xs W, S xs → I xs W → E W) (hstop : ∀ c pre W, Sp pre → Ix c pre W → c = .exit id ∧ E W) (a₁ : α → Act)
    (hassign : ∀ (l : Nat) (x : α) (W : World) (K : Act → World → Prop), K (a₁ x) W →
      assign.wpIn (Fence.wide.inRound l) (n - 1 - 1) P (Exit.then K (fun _ _ _ => False)) { tmps := (ps.zip (encs x)).foldl (fun t (p, v) => t.setIfInBounds p v) a.tmps, defers := [] } W)
    (hbody : ∀ (l : Nat) (pre : List α) (x : α) (W : World), I pre W → pre.length < N → body.wpIn (Fence.wide.inRound l) (n - 1 - 1) P (ownPostK Kp I Ix (pre ++ [x]) W) (a₁ x) W)
    (hrest : ∀ (D : Nat) (W : World), w.heap.size ≤ D → E W → W.heap[D]? = some (.deferred (some [])) → Q .normal { a with defers := { target := .collected D, args := #[] } :: a.defers } W) :
    (Code.rangeFunc g ps assign body).wpIn Fence.wide n P (Exit.inBlock id Q) a w := by
  refine wpIn_rangeFunc_ownF rfl h1 hg trivial eg hseq hKt hKb (Below.refl _ _) hps I Ix hI hIx h0 a₁ hassign hbody ?_ ?_
  · intro D xs W hD hS hi hK
    exact hrest D W hD (hdone xs W hS hi) hK
  · intro D c pre W hD hS hi hK
    obtain ⟨rfl, hE⟩ := hstop c pre W hS hi
    refine wpIn_exit ?_
    show (if id = id then _ else _)
    rw [if_pos rfl]
    exact hrest D W hD hE hK

theorem Blk.kept {W W' : World} {row : Option Nat} {b : Nat} {t : TypeId} {cs : Array Value} (h : Blk W b t cs) (hg : W.grownBy W' row) (hr : ∀ r, row = some r → ∃ o : Obj, W.heap[r]? = some o ∧ o.isCells = false) : Blk W' b t cs := by
  refine (hg.block b h.lt (fun e => ?_)).trans h
  obtain ⟨o, ho, hc⟩ := hr b e.symm
  unfold Blk at h
  rw [h] at ho
  cases ho
  cases hc
theorem Deq.kept {W W' : World} {row : Option Nat} {g : Nat} {cb : Option Nat} {ds : List El} (h : Deq W g cb ds) (hg : W.grownBy W' row) (hr : ∀ r, row = some r → ∃ o : Obj, W.heap[r]? = some o ∧ o.isCells = false) : Deq W' g cb ds := by
  obtain ⟨cur, L, fr, hd, hx⟩ := h
  exact ⟨cur, L, fr, ⟨hd.blk.kept hg hr, fun b hb => ⟨(hd.row b hb).1, (hd.row b hb).2.kept hg hr⟩, hd.size, hd.none_, hd.nle, hd.fle, hd.big⟩, hx⟩
theorem Only.others {S : Nat → Prop} {W W' : World} (h : Only S W W') (hS : ∀ i, S i → i < W.heap.size → ∃ t cs, Blk W i t cs) : KeepsOthers W W' :=
  ⟨h.size, fun k o hk ho => (h.block k (Array.getElem?_eq_some_iff.1 hk).1 (fun e => by
    obtain ⟨t, cs, hb⟩ := hS k e (Array.getElem?_eq_some_iff.1 hk).1
    unfold Blk at hb
    rw [hb] at hk
    cases hk
    cases ho)).trans hk⟩
theorem Lands.others {W W' : World} {g : Nat} {cb : Option Nat} {ds ds' : List El} (hd : Deq W g cb ds) (h : Lands W g cb ds' W') : KeepsOthers W W' := by
  obtain ⟨cur, L, fr, hd, _⟩ := hd
  obtain ⟨cb', _, ho, _⟩ := h
  refine ho.others fun i hi _ => ?_
  rcases hi with rfl | hi
  · exact ⟨_, _, hd.blk⟩
  · exact ⟨_, _, (hd.row i hi).2⟩
theorem cbAt_of {W : World} {g : Nat} {cb : Option Nat} {ds : List El} (hd : Deq W g cb ds) (b : Nat) : cbAt W g b ↔ cb = some b := by
  obtain ⟨cur, L, fr, hd, _⟩ := hd
  have e0 := hd.blk.cell 0
  simp only [List.getElem?_toArray, List.getElem?_cons_zero] at e0
  constructor
  · rintro ⟨n, c, h⟩
    rw [e0] at h
    cases cb with
    | none => cases h
    | some b' => cases h; rfl
  · rintro rfl
    exact ⟨L, L, e0⟩
theorem Lands.kp {n1 : Nat} {W W' : World} {g : Nat} {cb : Option Nat} {ds ds' : List El} (hd : Deq W g cb ds) (h : Lands W g cb ds' W') (hg : g < n1) : KpD n1 g W W' := by
  obtain ⟨cb', hd', ho, hc⟩ := h
  refine ⟨fun i o hi _ hn hcb => ?_, fun b hb => ?_, ho.size⟩
  · refine (ho.block i (Array.getElem?_eq_some_iff.1 hi).1 (fun e => ?_)).trans hi
    rcases e with e | e
    · omega
    · exact hcb ((cbAt_of hd i).2 e)
  · have hb' := (cbAt_of hd' b).1 hb
    rcases hc with rfl | ⟨b2, rfl, h2⟩
    · exact .inl ((cbAt_of hd b).2 hb')
    · cases hb'
      exact .inr h2
theorem KpD.setCell {n1 g : Nat} (W : World) (p : Addr) (v : Value) (hp : p.block < n1) (hne : p.block ≠ g) : KpD n1 g W (W.setCell p v) := by
  refine ⟨fun i o hi _ hn _ => (Below.heap_setCell W p v i (by omega)).trans hi, fun b hb => ?_, by simp [World.setCell]⟩
  obtain ⟨n, c, hb⟩ := hb
  refine .inl ⟨n, c, ?_⟩
  rw [← hb]
  exact (World.cell?_of_block (w := W.setCell p v) (a := ⟨g, 0, none⟩) (Below.heap_setCell W p v g (Ne.symm hne)).symm)

/-- The boxes of the arguments, the result's, the Deque. -/
structure Ba (w : World) (g : Nat) (A : Option Addr) (n c : Nat) (stop : Int) (more : El) (ds : List El) (W : World) : Prop where
  b3 : Blk W w.heap.size 25 #[.slice A n c]
  b4 : Blk W (w.heap.size + 1) 3 #[.int .i64 stop]
  b5 : Blk W (w.heap.size + 2) 9 #[V more]
  b6 : Blk W (w.heap.size + 3) 4 #[.bool false]
  d : ∃ cb, Deq W g cb ds ∧ ∀ b, cb = some b → w.heap.size + 4 ≤ b
  bel : Below w.heap.size w W
  gB : w.heap.size + 4 ≤ g
section
variable {w : World} {g : Nat} {A : Option Addr} {n c : Nat} {stop : Int} {more : El} {ds : List El} {W W' : World}
theorem Ba.kept (h : Ba w g A n c stop more ds W) {row : Option Nat} (hg : W.grownBy W' row) (hr : ∀ r, row = some r → w.heap.size ≤ r ∧ ∃ o : Obj, W.heap[r]? = some o ∧ o.isCells = false) : Ba w g A n c stop more ds W' := by
  have hr' := fun r e => (hr r e).2
  obtain ⟨cb, hd, hc⟩ := h.d
  exact ⟨h.b3.kept hg hr', h.b4.kept hg hr', h.b5.kept hg hr', h.b6.kept hg hr', ⟨cb, hd.kept hg hr', hc⟩, h.bel.trans (Below.grown (Below.refl _ W) hg h.bel.size (fun k e => (hr k e).1)), h.gB⟩
/-- Other blocks turn. -/
theorem Ba.only (h : Ba w g A n c stop more ds W) {S : Nat → Prop} (ho : Only S W W') (hS : ∀ i, S i → w.heap.size + 4 ≤ i ∧ i ≠ g) (hcb : ∀ cb, Deq W g cb ds → ∀ b, cb = some b → ¬ S b) : Ba w g A n c stop more ds W' := by
  obtain ⟨cb, hd, hc⟩ := h.d
  have h1 : ∀ i, i < w.heap.size + 4 → ¬ S i := fun i hi e => by have := (hS i e).1; omega
  refine ⟨h.b3.only ho (h1 _ (by omega)), h.b4.only ho (h1 _ (by omega)), h.b5.only ho (h1 _ (by omega)), h.b6.only ho (h1 _ (by omega)), ⟨cb, ?_, hc⟩, h.bel.trans (ho.below h.bel.size (fun i e => by have := (hS i e).1; omega)), h.gB⟩
  obtain ⟨cur, L, fr, hd2, hx⟩ := id hd
  exact ⟨cur, L, fr, hd2.only ho (fun e => (hS _ e).2 rfl) (hcb cb hd), hx⟩
theorem Ba.lands (h : Ba w g A n c stop more ds W) {cb : Option Nat} {ds' : List El} (hd : Deq W g cb ds) (hc : ∀ b, cb = some b → w.heap.size + 4 ≤ b) (hl : Lands W g cb ds' W') : Ba w g A n c stop more ds' W' := by
  obtain ⟨cb', hd', ho, hcb⟩ := hl
  have h1 : ∀ i, i < w.heap.size + 4 → ¬ Its g cb i := fun i hi e => by
    rcases e with e | e
    · have := h.gB; omega
    · have := hc i e; omega
  refine ⟨h.b3.only ho (h1 _ (by omega)), h.b4.only ho (h1 _ (by omega)), h.b5.only ho (h1 _ (by omega)), h.b6.only ho (h1 _ (by omega)), ⟨cb', hd', fun b hb => ?_⟩, h.bel.trans (ho.below h.bel.size (fun i e => by
    rcases e with e | e
    · have := h.gB; omega
    · have := hc i e; omega)), h.gB⟩
  rcases hcb with rfl | ⟨b2, rfl, h2⟩
  · exact hc b hb
  · cases hb
    have := h.b6.lt
    omega
theorem ba_new (w : World) (A : Option Addr) (n c : Nat) (stop : Int) (more : El) {W1 : World}
    (h : Below (w.heap.size + 4) ((((w.alloc (.cells #[.slice A n c] 25)).alloc (.cells #[.int .i64 stop] 3)).alloc (.cells #[V more] 9)).alloc (.cells #[.bool false] 4)) W1) :
    Ba w W1.heap.size A n c stop more [] (W1.alloc (.cells #[.slice none 0 0, .int .i64 0, .int .i64 0] 27)) := by
  have hz := h.size
  simp at hz
  have h3 := (((Blk.new w 25 #[.slice A n c]).alloc (.cells #[.int .i64 stop] 3)).alloc (.cells #[V more] 9)).alloc (.cells #[.bool false] 4)
  have h4 := ((Blk.new (w.alloc (.cells #[.slice A n c] 25)) 3 #[.int .i64 stop]).alloc (.cells #[V more] 9)).alloc (.cells #[.bool false] 4)
  have h5 := (Blk.new ((w.alloc (.cells #[.slice A n c] 25)).alloc (.cells #[.int .i64 stop] 3)) 9 #[V more]).alloc (.cells #[.bool false] 4)
  have h6 := Blk.new (((w.alloc (.cells #[.slice A n c] 25)).alloc (.cells #[.int .i64 stop] 3)).alloc (.cells #[V more] 9)) 4 #[.bool false]
  simp only [World.size_alloc] at h4 h5 h6
  refine ⟨(h3.below h (by omega)).alloc _, (h4.below h (by omega)).alloc _, (h5.below h (by omega)).alloc _, (h6.below h (by omega)).alloc _, ⟨none, deq_new W1, fun b hb => (nomatch hb)⟩, ?_, hz⟩
  exact (((((((Below.refl w.heap.size w).alloc (Nat.le_refl _) _).alloc (by simp) _).alloc (by simp; omega) _).alloc (by simp; omega) _)).trans (h.mono (by omega))).alloc (by omega) _
end

/-- .. the box of the going over, a counter. -/
structure Gs (w : World) (g Bn : Nat) (A : Option Addr) (n c : Nat) (stop : Int) (more : El) (ds : List El) (j : Int) (W : World) : Prop where
  ba : Ba w g A n c stop more ds W
  bn : Blk W Bn 47 #[.pointer (some ⟨g, 0, none⟩)]
  bj : Blk W (Bn + 1) 3 #[.int .i64 j]
  gN : g < Bn
section
variable {w : World} {g Bn : Nat} {A : Option Addr} {n c : Nat} {stop : Int} {more : El} {ds : List El} {j : Int} {W W' : World}
theorem Blk.ne {W : World} {b b' : Nat} {t t' : TypeId} {cs cs' : Array Value} (h : Blk W b t cs) (h' : Blk W b' t' cs') (hne : t ≠ t') : b ≠ b' := fun e => by
  subst e
  unfold Blk at h h'
  rw [h] at h'
  cases h'
  exact hne rfl
theorem Gs.kept (h : Gs w g Bn A n c stop more ds j W) {row : Option Nat} (hg : W.grownBy W' row) (hr : ∀ r, row = some r → w.heap.size ≤ r ∧ ∃ o : Obj, W.heap[r]? = some o ∧ o.isCells = false) : Gs w g Bn A n c stop more ds j W' :=
  ⟨h.ba.kept hg hr, h.bn.kept hg (fun r e => (hr r e).2), h.bj.kept hg (fun r e => (hr r e).2), h.gN⟩
/-- A block of another type than a Deque's is none of a Deque's. -/
theorem not_its {cb : Option Nat} (hd : Deq W g cb ds) {b : Nat} {t : TypeId} {cs : Array Value} (h : Blk W b t cs) (h9 : t ≠ 9) (h27 : t ≠ 27) : ¬ Its g cb b := by
  obtain ⟨cur, L, fr, hd, _⟩ := hd
  rintro (rfl | e)
  · exact h.ne hd.blk h27 rfl
  · exact h.ne (hd.row b e).2 h9 rfl
theorem Gs.lands (h : Gs w g Bn A n c stop more ds j W) {cb : Option Nat} {ds' : List El} (hd : Deq W g cb ds) (hc : ∀ b, cb = some b → w.heap.size + 4 ≤ b) (hl : Lands W g cb ds' W') : Gs w g Bn A n c stop more ds' j W' := by
  have hb := h.ba.lands hd hc hl
  obtain ⟨cb', hd', ho, hcb⟩ := hl
  exact ⟨hb, h.bn.only ho (not_its hd h.bn (by decide) (by decide)), h.bj.only ho (not_its hd h.bj (by decide) (by decide)), h.gN⟩
theorem Gs.count (h : Gs w g Bn A n c stop more ds j W) (u : Int) : Gs w g Bn A n c stop more ds u (W.setCell ⟨Bn + 1, 0, none⟩ (.int .i64 u)) := by
  have ho : Only (fun i => i = Bn + 1) W (W.setCell ⟨Bn + 1, 0, none⟩ (.int .i64 u)) := (Only.refl (fun i => i = Bn + 1) W).setCell (p := ⟨Bn + 1, 0, none⟩) (.inl rfl) _
  have hg := h.ba.gB
  have hN := h.gN
  refine ⟨h.ba.only ho (fun i e => by subst e; omega) (fun cb hd b hb e => ?_), h.bn.only ho (by omega), by simpa using h.bj.set_ 0 (.int .i64 u), h.gN⟩
  subst e
  obtain ⟨cur, L, fr, hd, _⟩ := hd
  exact (h.bj.ne (hd.row _ hb).2 (by decide)) rfl
theorem Gs.only (h : Gs w g Bn A n c stop more ds j W) {S : Nat → Prop} (ho : Only S W W') (hS : ∀ i, S i → W.heap.size ≤ i) : Gs w g Bn A n c stop more ds j W' := by
  have h1 := h.bj.lt
  have h2 := h.gN
  have h3 := h.ba.gB
  refine ⟨h.ba.only ho (fun i e => by have := hS i e; omega) (fun cb hd b hb e => ?_), h.bn.only ho (fun e => by have := hS _ e; omega), h.bj.only ho (fun e => by have := hS _ e; omega), h.gN⟩
  obtain ⟨cur, L, fr, hd, _⟩ := hd
  have := (hd.row _ hb).2.lt
  have := hS _ e
  omega
end
end Go.Proofs.Ytopablmgadkppaa
