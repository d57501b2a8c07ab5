/- THE WALK of the reference's oracle: Ask over a log. -/
import Derived.Test.YtbggoelfnolldaaWalkF
import Derived.Test.YtbggoelfnolldaaLogB
namespace Go.Proofs.Ytbggoelfnolldaa
open Go.RowKit
set_option linter.unusedVariables false

def RoPostL (w : World) (D : Nat → Prop) (ro s : Nat) (p q : Option Addr) (r : Int × Int) (l : List (Int × Int)) (k : Nat) (ev : List (Int × Int)) (A : Option Addr) (e : Ending) (w' : World) : Prop :=
  e = .returned (.agg #[.int .i64 r.1, .int .i64 r.2]) ∧ Lg 55 w' D s l k ∧ RoLeft w ro s p q ev A w'

/-- The end: the result's own blocks were written. -/
theorem rol_fin {w w2 w3 : World} {D : Nat → Prop} {ro s : Nat} {p q : Option Addr} {l : List (Int × Int)} {k : Nat} {ev : List (Int × Int)} {A : Option Addr} {r : Int × Int} {x y : Int} (hr : r = (x, y)) (hs : Lg 55 w2 D s l k) (hl : RoLeft w ro s p q ev A w2) (hD : ∀ b, D b → b < s)
    (hsl : s < w.heap.size) (hrl : ro < w.heap.size) {c0 c1 : Array Value} (h0 : Blk w2 w.heap.size 37 c0) (h1 : Blk w2 (w.heap.size + 1) 37 c1) (ho : Only (fun b => b = w.heap.size ∨ b = w.heap.size + 1) w2 w3) :
    RoPostL w D ro s p q r l k ev A (.returned (.agg #[.int .i64 x, .int .i64 y])) w3 := by
  subst hr
  obtain ⟨⟨A', c', hr', hA'⟩, hl2⟩ := hl
  refine ⟨rfl, hs.only ho (fun e => by rcases e with e | e <;> omega) (fun b hb e => by have := hD b hb; rcases e with e | e <;> omega), ⟨A', c', hr'.only ho (fun e => by rcases e with e | e <;> omega) (fun b hb e => ?_), hA'⟩, hl2.trans ho (fun i hi e => by rcases e with e | e <;> omega)⟩
  rcases e with e | e
  · exact hr'.vec.ne_ h0 (by decide) (e ▸ hb)
  · exact hr'.vec.ne_ h1 (by decide) (e ▸ hb)

set_option maxRecDepth 100000 in
set_option maxHeartbeats 1600000 in
theorem rol_any (w : World) (D : Nat → Prop) (ro s : Nat) (l : List (Int × Int)) (k : Nat) (ev : List (Int × Int)) (A : Option Addr) (c : Nat) (kd n : Int) (ht : Ro w ro none (some ⟨s, 0, none⟩) ev A c) (hn : In64 n)
    (hs : Lg 55 w D s l k) (hD : ∀ b, D b → b < s) (hD2 : ¬ D ro) (hD3 : ∀ b, In A b → ¬ D b) (hb : l.length ≤ 10000) (hev : ev.length ≤ 10000) :
    Calls Try.prog 13 #[.pointer (some ⟨ro, 0, none⟩), .int .i64 kd, .int .i64 n] w
      (RoPostL w D ro s none (some ⟨s, 0, none⟩) (lans l k kd n) l (lrest l k kd n) (noted ev kd (lans l k kd n)) A) := by
  obtain ⟨As, cs, hsb⟩ := id hs
  have hsl := hsb.blk.lt
  have hrl := ht.blk.lt
  have hne : ro ≠ s := ht.blk.ne_ hsb.blk (by decide)
  have hnA : ¬ In A s := ht.vec.ne_ hsb.blk (by decide)
  have oq : Only (fun _ => False) w ((w.alloc (.cells #[.int .i64 0, .int .i64 0] 37)).alloc (.cells #[.int .i64 0, .int .i64 0] 37)) := ((Only.refl _ _).alloc _).alloc _
  have ht1 := ht.only oq (fun h => h) (fun _ _ h => h)
  have hs1 := hs.only oq (fun h => h) (fun _ _ h => h)
  have h0 := ht1.blk.cell 0
  have h1 := ht1.blk.cell 1
  have h2 := ht1.blk.cell 2
  simp at h0 h1 h2
  have KA := Lib.hid (rlog_any _ D s l k kd n hs1 hD hb)
  generalize lrest l k kd n = k' at *
  generalize hr : lans l k kd n = r at *
  obtain ⟨rx, ry⟩ := r
  have HTQ := Lib.hid ht1
  clear hs1 ht1
  go_enter Try.func13, Try.ntmps13
  go_wp2_with fail
  with_reducible (refine Calls.mono KA.out ?_)
  rintro e w1 hp
  obtain ⟨rfl, hs1, ho1⟩ := hp
  have B0 : Blk w1 w.heap.size 37 #[.int .i64 0, .int .i64 0] := ((Blk.new w 37 #[.int .i64 0, .int .i64 0]).alloc _).only ho1 (by omega)
  have B1 : Blk w1 (w.heap.size + 1) 37 #[.int .i64 0, .int .i64 0] := by
    have := Blk.new (w.alloc (.cells #[.int .i64 0, .int .i64 0] 37)) 37 #[.int .i64 0, .int .i64 0]
    rw [World.size_alloc] at this
    exact this.only ho1 (by omega)
  have ht1 := HTQ.out.only ho1 hne (fun b hb e => hnA (e ▸ hb))
  have HOA := Lib.hid ((oq.mono (S' := fun b => b = s) (fun i h => h.elim)).trans ho1 (fun i _ h => h))
  have b0 := B0.cell 0
  have b1 := B0.cell 1
  have b2 := B1.cell 0
  have b3 := B1.cell 1
  have f0 := B0.frozen 0
  have f1 := B0.frozen 1
  have f2 := B1.frozen 0
  have f3 := B1.frozen 1
  simp at b0 b1 b2 b3
  have g2 := ht1.blk.cell 2
  have fg := ht1.blk.frozen 2
  simp at g2
  have hz1 : w.heap.size + 2 ≤ w1.heap.size := by have := ho1.size; simpa using this
  clear h0 h1 h2
  by_cases hy : ry = 0
  · subst hy
    have HW2 : Only (fun b => b = w.heap.size ∨ b = w.heap.size + 1) w1 ((w1.setCell ⟨w.heap.size + 1, 0, none⟩ (.int .i64 rx)).setCell ⟨w.heap.size + 1, 1, none⟩ (.int .i64 0)) :=
      ((Only.refl (fun b => b = w.heap.size ∨ b = w.heap.size + 1) w1).setCell (p := ⟨w.heap.size + 1, 0, none⟩) (.inl (.inr rfl)) _).setCell (p := ⟨w.heap.size + 1, 1, none⟩) (.inl (.inr rfl)) _
    have nb0 : ¬ (ro = w.heap.size ∨ ro = w.heap.size + 1) := fun e => by rcases e with e | e <;> omega
    have hs2 := hs1.only HW2 (fun e => by rcases e with e | e <;> omega) (fun b hb e => by have := hD b hb; rcases e with e | e <;> omega)
    have ht2 := ht1.only HW2 nb0 (fun b hb e => by
      rcases e with e | e
      · exact ht1.vec.ne_ B0 (by decide) (e ▸ hb)
      · exact ht1.vec.ne_ B1 (by decide) (e ▸ hb))
    have C0 : Blk ((w1.setCell ⟨w.heap.size + 1, 0, none⟩ (.int .i64 rx)).setCell ⟨w.heap.size + 1, 1, none⟩ (.int .i64 0)) w.heap.size 37 #[.int .i64 0, .int .i64 0] :=
      (B0.far (p := ⟨w.heap.size + 1, 0, none⟩) (by simp) _).far (p := ⟨w.heap.size + 1, 1, none⟩) (by simp) _
    have C1 : Blk ((w1.setCell ⟨w.heap.size + 1, 0, none⟩ (.int .i64 rx)).setCell ⟨w.heap.size + 1, 1, none⟩ (.int .i64 0)) (w.heap.size + 1) 37 #[.int .i64 rx, .int .i64 0] :=
      (B1.set_ 0 (.int .i64 rx)).set_ 1 (.int .i64 0)
    have HOB := Lib.hid (HOA.out.trans HW2 (fun i hi e => by rcases e with e | e <;> omega))
    obtain ⟨i0, hi, hz0, hz1', hz2⟩ := info_parts ev_info
    clear B0 B1 ht1 hs1 ho1 oq b0 b1 f0 f1 fg g2 HOA
    go_wp2_with fail
    clear f2 f3 b2 b3
    generalize ((w1.setCell ⟨w.heap.size + 1, 0, none⟩ (.int .i64 rx)).setCell ⟨w.heap.size + 1, 1, none⟩ (.int .i64 0)) = w2 at *
    have b0 := C0.cell 0
    have b1 := C0.cell 1
    have b2 := C1.cell 0
    have b3 := C1.cell 1
    have f0 := C0.frozen 0
    have f1 := C0.frozen 1
    have g2 := ht2.blk.cell 2
    have fg := ht2.blk.frozen 2
    simp at b0 b1 b2 b3 g2
    have HT2 := Lib.hid ht2
    have HS2 := Lib.hid hs2
    have HC0 := Lib.hid C0
    have HC1 := Lib.hid C1
    have HW2' := Lib.hid HW2
    have HK : Hid (∀ w3 o, Only (In A) (w2.alloc o).drew w3 → w3.cell? ⟨ro, 2, none⟩ = some (.slice A ev.length c) ∧ w3.frozen? ⟨ro, 2, none⟩ = false) := fun w3 o ho3 => by
      have hb3 := (show Blk (w2.alloc o).drew ro 46 _ from ht2.blk.alloc o).only ho3 (ht2.vec.ne_ ht2.blk (by decide))
      exact ⟨by have := hb3.cell 2; simpa using this, hb3.frozen 2⟩
    have g2a : ∀ o, (w2.alloc o).cell? ⟨ro, 2, none⟩ = some (.slice A ev.length c) := fun o => by have := (ht2.blk.alloc o).cell 2; simpa using this
    have b2a : ∀ o, (w2.alloc o).cell? ⟨w.heap.size + 1, 0, none⟩ = some (.int .i64 rx) := fun o => by have := (C1.alloc o).cell 0; simpa using this
    clear ht2 hs2 C0 C1 HW2 ht hs hsb
    go_region_law (refine step_append_vec (by rfl) _ _ _ (by rfl) 64 i0 (.agg #[.int .i64 0, .int .i64 0]) 2 16 Try.underlying44 hi hz0 hz1' hz2 rfl (by decide) A ev.length c (evs ev) (by rfl) (HT2.out.vec.alloc _).drew ⟨w2.heap.size, 0, none⟩ 1 1 [.int .i64 kd, .int .i64 rx] (by rfl) (by rfl) (pair_new _ _ _ _) (by simp [Value.oneCell']) (by simp) (by unfold maxLen; omega) (by omega) ?_; intro A2 c2 w3 hv3 ho3 hA3; obtain ⟨g3, fg3⟩ := HK.out _ _ ho3)
    all_goals
      have hW4 : Only (fun b => In A b ∨ b = ro) w2 (w3.setCell ⟨ro, 2, none⟩ (.slice (some A2) (ev.length + 1) c2)) :=
        ((((Only.refl (fun b => In A b ∨ b = ro) w2).alloc _).drewN 1).trans ho3 (fun i _ h => .inl h)).setCell (p := ⟨ro, 2, none⟩) (.inl (.inr rfl)) _
      have hl4 := ro_app HT2.out HOB.out hv3 ho3 (by simpa using hA3)
      have hs4 := HS2.out.only hW4 (fun e => by
        rcases e with e | e
        · exact hnA e
        · exact hne e.symm) (fun b hb e => by
        rcases e with e | e
        · exact hD3 b e hb
        · exact hD2 (e ▸ hb))
      have D0 := HC0.out.only hW4 (fun e => by
        rcases e with e | e
        · exact HT2.out.vec.ne_ HC0.out (by decide) e
        · omega)
      have D1 := HC1.out.only hW4 (fun e => by
        rcases e with e | e
        · exact HT2.out.vec.ne_ HC1.out (by decide) e
        · omega)
      generalize w3.setCell ⟨ro, 2, none⟩ (.slice (some A2) (ev.length + 1) c2) = w4 at *
      have d0 := D0.cell 0
      have d1 := D0.cell 1
      have d2 := D1.cell 0
      have d3 := D1.cell 1
      have e0 := D0.frozen 0
      have e1 := D0.frozen 1
      simp at d0 d1 d2 d3
      have hfin := rol_fin (l := l) (k := k') (r := (rx, 0)) (ev := noted ev kd (rx, 0)) (A := A) rfl hs4 (by rw [noted, if_pos rfl]; exact hl4) hD hsl hrl D0 D1
        (((Only.refl (fun b => b = w.heap.size ∨ b = w.heap.size + 1) w4).setCell (p := ⟨w.heap.size, 0, none⟩) (.inl (.inl rfl)) (.int .i64 rx)).setCell (p := ⟨w.heap.size, 1, none⟩) (.inl (.inl rfl)) (.int .i64 0))
      have HF := Lib.hid hfin
      clear hfin hs4 hl4 hW4 D0 D1 hv3 ho3 hA3 b0 b1 b2 b3 f0 f1 g2 fg g2a b2a g3 fg3
      go_wp2
      exact bodyPost_ret (v := .agg #[.int .i64 rx, .int .i64 0]) (by simp [results, Try.results13, go_sem, d0, d1]) rfl HF.out
  · have hy' : (ry == 0) = false := by simp [hy]
    have hfin := rol_fin (l := l) (k := k') (r := (rx, ry)) (ev := noted ev kd (rx, ry)) (A := A) rfl hs1 ⟨⟨A, c, by rw [noted, if_neg (by exact hy)]; exact ht1, fun b hb => .inl hb⟩, HOA.out.mono (fun i h => .inl h)⟩ hD hsl hrl B0 B1
      ((((Only.refl (fun b => b = w.heap.size ∨ b = w.heap.size + 1) w1).setCell (p := ⟨w.heap.size + 1, 0, none⟩) (.inl (.inr rfl)) (.int .i64 rx)).setCell (p := ⟨w.heap.size + 1, 1, none⟩) (.inl (.inr rfl)) (.int .i64 ry)).setCell (p := ⟨w.heap.size, 0, none⟩) (.inl (.inl rfl)) (.int .i64 rx) |>.setCell (p := ⟨w.heap.size, 1, none⟩) (.inl (.inl rfl)) (.int .i64 ry))
    have HF := Lib.hid hfin
    clear hfin hy ht hs hsb B0 B1 ht1 hs1 ho1 oq
    go_wp2_with fail
    exact bodyPost_ret (v := .agg #[.int .i64 rx, .int .i64 ry]) (by simp [results, Try.results13, go_sem, b0, b1]) rfl HF.out
end Go.Proofs.Ytbggoelfnolldaa
