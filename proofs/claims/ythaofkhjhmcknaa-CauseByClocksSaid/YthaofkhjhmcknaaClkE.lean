/- WORDS for the walk of Clocks. -/
import Derived.Test.YthaofkhjhmcknaaClkD
import Derived.Lib.JoinLaws
namespace Go.Proofs.Ythaofkhjhmcknaa
open Go.RowKit
set_option linter.unusedVariables false

/-- The boxes, and each one's clock behind k steps. -/
structure Bx (w0 : World) (g3 g6 gO D : Nat) (s : Nat → Int × Int) (k m : Nat) (V : Nat → Value) (w : World) : Prop where
  wide : Blk w g3 3 #[.int .i64 (D : Int)]
  box : Blk w g6 29 #[.slice (some ⟨gO, 0, none⟩) D D]
  own : Blk w gO 26 (vrow D V)
  clks : ∀ i : Nat, i < m → Clk w (V i) D (fun x => ck s k i x)
  bel : Below w0.heap.size w0 w
  big : w0.heap.size ≤ g3 ∧ w0.heap.size ≤ g6 ∧ w0.heap.size ≤ gO
/-- What is out, behind k steps. -/
structure Ou (w0 : World) (gO D : Nat) (s : Nat → Int × Int) (k : Nat) (A : Option Addr) (c : Nat) (U : Nat → Value) (w : World) : Prop where
  vec : Vec w 26 1 A k c ((List.range k).map U)
  clks : ∀ j : Nat, j < k → Clk w (U j) D (st s j)
  far : ∀ b, In A b → b ≠ gO ∧ w0.heap.size ≤ b
section
variable {w0 w w' : World} {g3 g6 gO D k m c : Nat} {s : Nat → Int × Int} {A : Option Addr} {V U : Nat → Value}
theorem Bx.below (h : Bx w0 g3 g6 gO D s k m V w) (hb : Below w.heap.size w w') : Bx w0 g3 g6 gO D s k m V w' :=
  ⟨h.wide.below hb h.wide.lt, h.box.below hb h.box.lt, h.own.below hb h.own.lt, fun i hi => (h.clks i hi).below hb, h.bel.trans (hb.mono h.bel.size), h.big⟩
theorem Ou.below (h : Ou w0 gO D s k A c U w) (hb : Below w.heap.size w w') : Ou w0 gO D s k A c U w' :=
  ⟨h.vec.only (Only.of_below hb (fun _ => False)) (fun _ _ h => h), fun j hj => (h.clks j hj).below hb, h.far⟩
end
/-- The state of the first loop. -/
structure Wd (w0 : World) (g3 : Nat) (v : Int) (w : World) : Prop where
  blk : Blk w g3 3 #[.int .i64 v]
  bel : Below w0.heap.size w0 w
  big : w0.heap.size ≤ g3
section
variable {w0 w w' : World} {g3 : Nat} {v : Int}
theorem Wd.below (h : Wd w0 g3 v w) (hb : Below w.heap.size w w') : Wd w0 g3 v w' := ⟨h.blk.below hb h.blk.lt, h.bel.trans (hb.mono h.bel.size), h.big⟩
theorem Wd.drewN (h : Wd w0 g3 v w) (q : Nat) : Wd w0 g3 v (w.drewN q) := ⟨h.blk.drewN q, below_drew h.bel q, h.big⟩
theorem Wd.set_ (h : Wd w0 g3 v w) (u : Int) : Wd w0 g3 u (w.setCell ⟨g3, 0, none⟩ (.int .i64 u)) := ⟨by have := h.blk.set_ 0 (.int .i64 u); simpa using this, h.bel.setCell (p := ⟨g3, 0, none⟩) h.big _, h.big⟩
theorem Wd.cell (h : Wd w0 g3 v w) : w.cell? ⟨g3, 0, none⟩ = some (.int .i64 v) := by rw [h.blk.cell]; rfl
end
/-- What Clocks answers. -/
def ClocksPost (w : World) (n D : Nat) (s : Nat → Int × Int) (e : Ending) (w' : World) : Prop :=
  ∃ A c U, e = .returned (.slice A n c) ∧ Vec w' 26 1 A n c ((List.range n).map U) ∧ (∀ j : Nat, j < n → Clk w' (U j) D (st s j)) ∧ Below w.heap.size w w'

section
variable {w0 w w' : World} {g3 g6 gO D k m c : Nat} {s : Nat → Int × Int} {A : Option Addr} {V U : Nat → Value}
theorem Bx.drewN (h : Bx w0 g3 g6 gO D s k m V w) (q : Nat) : Bx w0 g3 g6 gO D s k m V (w.drewN q) := h.below ⟨rfl, rfl, rfl, Nat.le_refl _, fun _ _ => rfl⟩
theorem Bx.cells (h : Bx w0 g3 g6 gO D s k m V w) : w.cell? ⟨g3, 0, none⟩ = some (.int .i64 (D : Int)) ∧ w.cell? ⟨g6, 0, none⟩ = some (.slice (some ⟨gO, 0, none⟩) D D) := ⟨by rw [h.wide.cell]; rfl, by rw [h.box.cell]; rfl⟩
/-- A store into own. -/
theorem Bx.set_ (h : Bx w0 g3 g6 gO D s k m V w) (i : Nat) (v : Value) : Blk (w.setCell ⟨gO, i, none⟩ v) g3 3 #[.int .i64 (D : Int)] ∧ Blk (w.setCell ⟨gO, i, none⟩ v) g6 29 #[.slice (some ⟨gO, 0, none⟩) D D] ∧ Blk (w.setCell ⟨gO, i, none⟩ v) gO 26 (vrow D (fun j => if j = i then v else V j)) ∧ Below w0.heap.size w0 (w.setCell ⟨gO, i, none⟩ v) :=
  ⟨h.wide.far (p := ⟨gO, i, none⟩) (h.wide.ne h.own (by decide)) v, h.box.far (p := ⟨gO, i, none⟩) (h.box.ne h.own (by decide)) v, by rw [← vrow_set]; exact h.own.set_ i v, h.bel.setCell (p := ⟨gO, i, none⟩) h.big.2.2 v⟩
/-- One more row is laid. -/
theorem Bx.lay (h : Bx w0 g3 g6 gO D s 0 m V w) (hD : D ≤ maxLen) : Bx w0 g3 g6 gO D s 0 (m + 1) (fun j => if j = m then .slice (some ⟨w.heap.size, 0, none⟩) D D else V j) ((w.alloc (.cells (row D fun _ => 0) 3)).setCell ⟨gO, m, none⟩ (.slice (some ⟨w.heap.size, 0, none⟩) D D)) := by
  have h1 := h.below (w' := w.alloc (.cells (row D fun _ => 0) 3)) ((Below.refl _ _).alloc (Nat.le_refl _) _)
  obtain ⟨a, b, c, d⟩ := h1.set_ m (.slice (some ⟨w.heap.size, 0, none⟩) D D)
  refine ⟨a, b, c, fun i hi => ?_, d, h.big⟩
  by_cases e : i = m
  · subst e
    rw [if_pos rfl]
    exact (Clk.of_row (H := fun _ => 0) (Blk.new w 3 _) hD (fun _ _ => rfl)).far h1.own _
  · rw [if_neg e]
    exact (h1.clks i (by omega)).far h1.own _
theorem bx_new (h : Wd w0 g3 (D : Int) w) : Bx w0 g3 (w.heap.size + 1) w.heap.size D s 0 0 (fun _ => .slice none 0 0) ((w.alloc (.cells (vrow D fun _ => .slice none 0 0) 26)).alloc (.cells #[.slice (some ⟨w.heap.size, 0, none⟩) D D] 29)) := by
  have h2 := Blk.new (w.alloc (.cells (vrow D fun _ => .slice none 0 0) 26)) 29 #[.slice (some ⟨w.heap.size, 0, none⟩) D D]
  rw [World.size_alloc] at h2
  have hs := h.bel.size
  exact ⟨(h.blk.alloc _).alloc _, h2, (Blk.new w 26 _).alloc _, fun i hi => by omega, (h.bel.alloc h.bel.size _).alloc (by rw [World.size_alloc]; omega) _, h.big, by omega, hs⟩
theorem ou_new (n : Nat) (hn : n ≤ maxLen) (hw : Below w0.heap.size w0 w) (hg : gO < w.heap.size) : Ou w0 gO D s 0 (some ⟨w.heap.size, 0, none⟩) n U (w.alloc (.cells (vrow n fun _ => .slice none 0 0) 26)) :=
  ⟨⟨by simp, Nat.zero_le _, hn, fun a ha => by cases ha; exact ⟨_, 0, _, rfl, Blk.new _ _ _, by rw [vrow_size]; omega, fun j hj => by omega⟩, fun h => (nomatch h)⟩, fun j hj => by omega, fun b hb => by cases hb; exact ⟨by show w.heap.size ≠ gO; omega, hw.size⟩⟩
/-- The closure, in a world that comes of a round's first one by growth. -/
theorem fold_at (h : Bx w0 g3 g6 gO D s k D V w) {gn q : Nat} {N : Int → Int} (hg : w.heap.size ≤ gn) (hb : Below w.heap.size w w') (hn : Blk w' gn 3 (row D fun i => N i)) (hq : q < D) (hD : D ≤ 65) :
    Calls Try.prog 26 #[.slice (some ⟨gn, 0, none⟩) D D, .int .i64 (q : Int), .pointer (some ⟨g3, 0, none⟩), .pointer (some ⟨g6, 0, none⟩)] w' fun e w2 => e = .returned (.tuple #[]) ∧ Blk w2 gn 3 (row D fun i => max (N i) (ck s k q i)) ∧ Only (fun b => b = gn) w' w2 := by
  obtain ⟨b, off, c, hv, hV⟩ := h.clks q hq
  have h1 := h.below hb
  refine fold_any g3 g6 gO gn D q V N (fun x => ck s k q x) w' h1.wide h1.box h1.own b off c hv (hV.only (Only.of_below hb (fun _ => False)) (fun _ _ h => h)) hn hq hD ?_ ?_
  · have := hV.lt b rfl; omega
  · have := h.wide.lt; omega
end
theorem top_snoc (f : Int → Int) (L : List Int) (x : Int) : top f (L ++ [x]) = max (top f L) (f x) := by simp [top, List.foldl_append]
theorem take_next {L : List Int} {j : Nat} (h : j < L.length) : L.take (j + 1) = L.take j ++ [L.getD j 0] := by
  rw [List.take_add_one]
  simp [List.getD, h]
theorem parts_nodup (h : Int × Int) : (parts h).Nodup := by
  unfold parts
  split
  · rename_i h1
    simp only [List.nodup_cons, List.mem_singleton, List.not_mem_nil, not_false_eq_true, List.nodup_nil, and_true]
    exact fun e => h1.2 e.symm
  · simp
theorem parts_len (h : Int × Int) : 1 ≤ (parts h).length ∧ (parts h).length ≤ 2 := by unfold parts; split <;> simp
theorem fresh_at {L : List Int} (hL : L.Nodup) {j : Nat} (h : j < L.length) : L.getD j 0 ∉ L.take j := by
  have h1 : (L.take (j + 1)).Nodup := hL.sublist (List.take_sublist _ _)
  rw [take_next h, List.nodup_append] at h1
  exact fun hm => h1.2.2 _ hm _ (List.mem_singleton.2 rfl) rfl
/-- The clock before its own step is counted, of the first j who have a part. -/
def tk (s : Nat → Int × Int) (k : Nat) (j : Nat) (i : Int) : Int := top (fun p => ck s k p i) ((parts (s k)).take j)
theorem tk_next (s : Nat → Int × Int) (k : Nat) {j : Nat} (h : j < (parts (s k)).length) (i : Int) : max (tk s k j i) (ck s k ((parts (s k)).getD j 0) i) = tk s k (j + 1) i := by
  unfold tk
  rw [take_next h, top_snoc]
/-- .. with one added, for the first j of them. -/
def gk (s : Nat → Int × Int) (k : Nat) (j : Nat) (i : Int) : Int := top (fun p => ck s k p i) (parts (s k)) + (if i ∈ (parts (s k)).take j then 1 else 0)
theorem gk_next (s : Nat → Int × Int) (k : Nat) {j : Nat} (h : j < (parts (s k)).length) (i : Int) : (if i = (parts (s k)).getD j 0 then gk s k j ((parts (s k)).getD j 0) + 1 else gk s k j i) = gk s k (j + 1) i := by
  have hf := fresh_at (parts_nodup (s k)) h
  unfold gk
  rw [take_next h, if_neg hf]
  by_cases e : i = (parts (s k)).getD j 0
  · rw [if_pos e, if_pos (by simp [e]), e]; omega
  · rw [if_neg e]
    by_cases hm : i ∈ (parts (s k)).take j
    · rw [if_pos hm, if_pos (List.mem_append.2 (.inl hm))]
    · rw [if_neg hm, if_neg (fun h => (List.mem_append.1 h).elim hm (fun h => e (List.mem_singleton.1 h)))]
theorem gk_zero (s : Nat → Int × Int) (k : Nat) (i : Int) : tk s k (parts (s k)).length i = gk s k 0 i := by simp [tk, gk]
theorem gk_done (s : Nat → Int × Int) (k : Nat) (i : Int) : gk s k (parts (s k)).length i = st s k i := by
  unfold gk st
  rw [List.take_length]
  by_cases h : has (s k) i
  · rw [if_pos h, if_pos ((mem_parts _ _).2 h)]
  · rw [if_neg h, if_neg (fun g => h ((mem_parts _ _).1 g))]
theorem gk_range (s : Nat → Int × Int) (k j : Nat) (i : Int) : 0 ≤ gk s k j i ∧ gk s k j i ≤ k + 2 := by
  have h1 := st_range s k i
  have h2 := top_nn (fun p => ck s k p i) (parts (s k))
  have h3 : top (fun p => ck s k p i) (parts (s k)) ≤ k + 1 := by unfold st at h1; split at h1 <;> omega
  unfold gk
  split <;> omega
/-- own, when the first j who have a part have the new clock. -/
def vk (s : Nat → Int × Int) (k : Nat) (V : Nat → Value) (v : Value) (j i : Nat) : Value := if (i : Int) ∈ (parts (s k)).take j then v else V i
theorem vk_next (s : Nat → Int × Int) (k : Nat) (V : Nat → Value) (v : Value) {j q : Nat} (h : j < (parts (s k)).length) (hq : (parts (s k)).getD j 0 = q) (i : Nat) : (if i = q then v else vk s k V v j i) = vk s k V v (j + 1) i := by
  unfold vk
  rw [take_next h, hq]
  by_cases e : i = q
  · rw [if_pos e, if_pos (by simp [e])]
  · rw [if_neg e]
    by_cases hm : (i : Int) ∈ (parts (s k)).take j
    · rw [if_pos hm, if_pos (List.mem_append.2 (.inl hm))]
    · rw [if_neg hm, if_neg (fun h => (List.mem_append.1 h).elim hm (fun h => by have := List.mem_singleton.1 h; omega))]
section
variable {w0 w w8 w' : World} {g3 g6 gO D k c : Nat} {s : Nat → Int × Int} {A : Option Addr} {V U : Nat → Value} {v : Value}
theorem bx_next (h : Bx w0 g3 g6 gO D s k D V w) (hb : Below w.heap.size w w8) (hv : Clk w8 v D (st s k)) (ho : Only (fun b => b = gO) w8 w') (hV : Blk w' gO 26 (vrow D (vk s k V v (parts (s k)).length))) :
    Bx w0 g3 g6 gO D s (k + 1) D (vk s k V v (parts (s k)).length) w' := by
  have h8 := h.below hb
  refine ⟨h8.wide.only ho (h8.wide.ne h8.own (by decide)), h8.box.only ho (h8.box.ne h8.own (by decide)), hV, fun i hi => ?_, h8.bel.trans (ho.below h8.bel.size (fun i e => by subst e; exact h.big.2.2)), h.big⟩
  unfold vk
  rw [List.take_length]
  by_cases hh : has (s k) i
  · rw [if_pos ((mem_parts _ _).2 hh)]
    exact (hv.only ho (fun b cs hb e => hb.ne h8.own (by decide) e)).congr (fun j _ => (ck_yes s hh).symm)
  · rw [if_neg (fun g => hh ((mem_parts _ _).1 g))]
    exact ((h8.clks i hi).only ho (fun b cs hb e => hb.ne h8.own (by decide) e)).congr (fun j _ => (ck_no s hh).symm)
theorem Vec.tag {e : TypeId} {size n cap : Nat} {xs : List Value} {b : Nat} (h : Vec w e size A n cap xs) (hb : In A b) : ∃ cur, Blk w b e cur := by
  cases A with
  | none => cases hb
  | some a =>
    obtain ⟨b', off, cur, rfl, h1, _⟩ := h.at_ a rfl
    cases hb
    exact ⟨cur, h1⟩
theorem out_next {A' : Addr} {c' m : Nat} (h : Bx w0 g3 g6 gO D s m D V w) (hu : Ou w0 gO D s k A c U w) (hv : Clk w v D (st s k)) (o : Obj)
    (hvec : Vec w' 26 1 (some A') (k + 1) c' ((List.range k).map U ++ [v])) (ho : Only (In A) (w.alloc o) w') (hA : some A' = A ∨ ∃ g, A' = ⟨g, 0, none⟩ ∧ (w.alloc o).heap.size ≤ g) :
    Bx w0 g3 g6 gO D s m D V w' ∧ Ou w0 gO D s (k + 1) (some A') c' (fun j => if j = k then v else U j) w' := by
  have hb : Below w.heap.size w (w.alloc o) := (Below.refl _ _).alloc (Nat.le_refl _) _
  have h1 := h.below hb
  have hu1 := hu.below hb
  have hv1 := hv.below hb
  have ht : ∀ b cs t, t ≠ 26 → Blk (w.alloc o) b t cs → ¬ In A b := fun b cs t hne hbk hi => by
    obtain ⟨cur, h2⟩ := hu1.vec.tag hi
    exact hbk.ne h2 hne rfl
  refine ⟨⟨h1.wide.only ho (ht _ _ 3 (by decide) h1.wide), h1.box.only ho (ht _ _ 29 (by decide) h1.box), h1.own.only ho (fun hi => (hu.far _ hi).1 rfl), fun i hi => (h1.clks i hi).only ho (fun b cs hb => ht b cs 3 (by decide) hb), h1.bel.trans (ho.below h1.bel.size (fun i hi => (hu.far i hi).2)), h.big⟩, ?_, fun j hj => ?_, fun b hb => ?_⟩
  · rw [List.range_succ, List.map_append, List.map_singleton, if_pos rfl, List.map_congr_left (fun x hx => if_neg (by have := List.mem_range.1 hx; omega))]
    exact hvec
  · by_cases e : j = k
    · subst e; rw [if_pos rfl]; exact hv1.only ho (fun b cs hb => ht b cs 3 (by decide) hb)
    · rw [if_neg e]; exact (hu1.clks j (by omega)).only ho (fun b cs hb => ht b cs 3 (by decide) hb)
  · rcases hA with e | ⟨g, e, hg⟩
    · rw [e] at hb; exact hu.far b hb
    · subst e; cases hb
      have h2 := h1.own.lt
      have h3 := h1.bel.size
      exact ⟨by show g ≠ gO; omega, by show w0.heap.size ≤ g; omega⟩
end
section
variable {w0 w w8 w' : World} {g3 g6 gO D k c : Nat} {s : Nat → Int × Int} {A : Option Addr} {V U : Nat → Value} {v : Value}
theorem ou_own (h : Ou w0 gO D s k A c U w) {cs : Array Value} (hO : Blk w gO 26 cs) (ho : Only (fun b => b = gO) w w') : Ou w0 gO D s k A c U w' :=
  ⟨h.vec.only ho (fun b hb e => (h.far b hb).1 e), fun j hj => (h.clks j hj).only ho (fun b cs hb e => hb.ne hO (by decide) e), h.far⟩
end
/-- A clock that is made anew. -/
def ClkPost (w : World) (D : Nat) (F : Int → Int) (e : Ending) (w' : World) : Prop :=
  ∃ b off c, e = .returned (.slice (some ⟨b, off, none⟩) D c) ∧ Vec w' 3 1 (some ⟨b, off, none⟩) D c (ints (clk D F)) ∧ w.heap.size ≤ b ∧ Below w.heap.size w w'
theorem clone_clk (w : World) (D : Nat) (F : Int → Int) (b off c : Nat) (h : Vec w 3 1 (some ⟨b, off, none⟩) D c (ints (clk D F))) (h1 : 1 ≤ D) (h2 : D ≤ 65) :
    Calls Try.prog 27 #[.slice (some ⟨b, off, none⟩) D c] w (ClkPost w D F) := by
  have := clone_any w ⟨b, off, none⟩ c (clk D F) (Rd.of_vec h (by decide)) (by rw [clk_len]; omega)
  unfold IntsPost at this
  rw [clk_len] at this
  refine this.mono fun e w' h => ?_
  obtain ⟨A', c', rfl, hv, hi, hb⟩ := h
  obtain ⟨b', off', rfl, _⟩ := hv.cell (by omega)
  exact ⟨b', off', c', rfl, hv, hi b' rfl, hb⟩
/-- The parts, made anew. -/
def PartsPost (w : World) (L : List Int) (n : Nat) (e : Ending) (w' : World) : Prop :=
  ∃ b off c, e = .returned (.slice (some ⟨b, off, none⟩) n c) ∧ Vec w' 3 1 (some ⟨b, off, none⟩) n c (ints L) ∧ w.heap.size ≤ b ∧ Below w.heap.size w w'
theorem parts_at (h : Hap) (w : World) : Calls Try.prog 25 #[.agg h.cs.toArray] w (PartsPost w (parts h.pr) (parts h.pr).length) := by
  refine (parts_any h w).mono fun e w' hp => ?_
  obtain ⟨A', c', rfl, hv, hi, hb⟩ := hp
  obtain ⟨b', off', rfl, _⟩ := hv.cell (parts_len h.pr).1
  exact ⟨b', off', c', rfl, hv, hi b' rfl, hb⟩
theorem row_vec {w : World} {g D : Nat} {F : Int → Int} (h : Blk w g 3 (row D fun i => F i)) (hD : D ≤ maxLen) : Vec w 3 1 (some ⟨g, 0, none⟩) D D (ints (clk D F)) := vec_row h hD (fun _ _ => rfl)
theorem tk_zero (s : Nat → Int × Int) (k : Nat) (i : Int) : tk s k 0 i = 0 := by simp [tk, top]
theorem vk_zero (s : Nat → Int × Int) (k : Nat) (V : Nat → Value) (v : Value) (i : Nat) : vk s k V v 0 i = V i := by simp [vk]
theorem vrow_congr {n : Nat} {V U : Nat → Value} (h : ∀ i, i < n → V i = U i) : vrow n V = vrow n U := by
  unfold vrow
  rw [List.map_congr_left fun i hi => h i (List.mem_range.1 hi)]
/-- One more is added to. -/
theorem gk_step {w : World} {s : Nat → Int × Int} {k j q D c b off : Nat} (hv : Vec w 3 1 (some ⟨b, off, none⟩) D c (ints (clk D (gk s k j)))) (hj : j < (parts (s k)).length) (hq : (parts (s k)).getD j 0 = q) (hqD : q < D) :
    Vec (w.setCell ⟨b, off + q, none⟩ (.int .i64 (gk s k j q + 1))) 3 1 (some ⟨b, off, none⟩) D c (ints (clk D (gk s k (j + 1)))) := by
  have h1 := hv.set_ hqD (.int .i64 (gk s k j q + 1))
  rw [← ints_set, clk_set, clk_congr (fun i _ => by rw [← hq]; exact gk_next s k hj i)] at h1
  exact h1
end Go.Proofs.Ythaofkhjhmcknaa
