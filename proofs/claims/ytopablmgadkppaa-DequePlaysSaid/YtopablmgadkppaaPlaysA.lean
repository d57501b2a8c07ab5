/- WORDS FOR THE WALK OF DequePlays: the Deque beside the reference's list; what each step leaves. No condition. -/
import Derived.Test.YtopablmgadkppaaOrderWalk
namespace Go.Proofs.Ytopablmgadkppaa
open Go.RowKit
set_option linter.unusedVariables false

/-- The Deque at g holds ds; the reference's list (at A) holds hs; what was taken last lies at gg; nothing below B has turned. -/
structure PSC (B : Nat) (w0 : World) (g gg : Nat) (av : Option (Nat × Array Value)) (ds hs : List El) (A : Option Addr) (cap : Nat) (w : World) (cb : Option Nat) : Prop where
  deq : Deq w g cb ds
  cbs : ∀ b, cb = some b → B ≤ b ∧ b ≠ gg
  bel : Below B w0 w
  size : B ≤ w.heap.size
  vec : Vec w 9 1 A hs.length cap (vals hs)
  sep : ∀ b, In A b → B ≤ b ∧ b ≠ g ∧ b ≠ gg ∧ cb ≠ some b
  got : ∃ y ok, Blk w gg 29 #[V y, .bool ok]
  act : ∀ p, av = some p → Blk w p.1 31 p.2 ∧ p.1 ≠ g ∧ p.1 ≠ gg ∧ cb ≠ some p.1 ∧ ¬ In A p.1
def PS (B : Nat) (w0 : World) (g gg : Nat) (av : Option (Nat × Array Value)) (ds hs : List El) (A : Option Addr) (cap : Nat) (w : World) : Prop := ∃ cb, PSC B w0 g gg av ds hs A cap w cb

section
variable {B g gg : Nat} {av : Option (Nat × Array Value)} {w0 w w' : World} {ds ds' hs hs' : List El} {A A' : Option Addr} {cap cap' : Nat}
theorem Deq.only {cb : Option Nat} {S : Nat → Prop} (h : Deq w g cb ds) (ho : Only S w w') (hg : ¬ S g) (hc : ∀ b, cb = some b → ¬ S b) : Deq w' g cb ds := by
  obtain ⟨cur, L, fr, hd, hx⟩ := h
  exact ⟨cur, L, fr, hd.only ho hg hc, hx⟩
theorem Deq.cb_lt {cb : Option Nat} (h : Deq w g cb ds) (b : Nat) (hb : cb = some b) : b < w.heap.size := by
  obtain ⟨cur, L, fr, hd, hx⟩ := h
  exact (hd.row b hb).2.lt
theorem Deq.cb_ne {cb : Option Nat} (h : Deq w g cb ds) (b : Nat) (hb : cb = some b) : b ≠ g := by
  obtain ⟨cur, L, fr, hd, hx⟩ := h
  exact (hd.row b hb).1

/-- Nothing that was there has turned. -/
theorem PS.quiet (h : PS B w0 g gg av ds hs A cap w) (ho : Only (fun _ => False) w w') : PS B w0 g gg av ds hs A cap w' := by
  obtain ⟨cb, h⟩ := h
  obtain ⟨y, ok, hb⟩ := h.got
  exact ⟨cb, h.deq.only ho (fun h => h) (fun _ _ h => h), h.cbs, h.bel.trans (ho.below h.size (fun i hi => hi.elim)), Nat.le_trans h.size ho.size, h.vec.only ho (fun _ _ h => h), h.sep, ⟨y, ok, hb.only ho (fun h => h)⟩, fun p hp => ⟨(h.act p hp).1.only ho (fun h => h), (h.act p hp).2⟩⟩
theorem PS.alloc (h : PS B w0 g gg av ds hs A cap w) (o : Obj) : PS B w0 g gg av ds hs A cap (w.alloc o) := h.quiet ((Only.refl _ _).alloc o)
theorem PS.drewN (h : PS B w0 g gg av ds hs A cap w) (k : Nat) : PS B w0 g gg av ds hs A cap (w.drewN k) := h.quiet ((Only.refl _ _).drewN k)
theorem PS.below (h : PS B w0 g gg av ds hs A cap w) (hb : Below w.heap.size w w') : PS B w0 g gg av ds hs A cap w' := h.quiet (Only.of_below hb _)
theorem PS.bel (h : PS B w0 g gg av ds hs A cap w) : Below B w0 w ∧ B ≤ w.heap.size := by obtain ⟨cb, h⟩ := h; exact ⟨h.bel, h.size⟩

/-- The Deque was worked on. -/
theorem PS.lands {cb : Option Nat} (h : PSC B w0 g gg av ds hs A cap w cb) (hg : B ≤ g) (hgg : g ≠ gg) (hl : Lands w g cb ds' w') : PS B w0 g gg av ds' hs A cap w' := by
  obtain ⟨cb', hd, ho, hcb⟩ := hl
  obtain ⟨y, ok, hb⟩ := h.got
  refine ⟨cb', hd, fun b hb' => ?_, h.bel.trans (ho.below h.size (fun i hi => ?_)), Nat.le_trans h.size ho.size, h.vec.only ho (fun b hb' hS => ?_), fun b hb' => ?_, ⟨y, ok, hb.only ho (fun hS => ?_)⟩, fun p hp => ?_⟩
  · rcases hcb with rfl | ⟨b', rfl, h'⟩
    · exact h.cbs b hb'
    · cases hb'
      have := hb.lt
      have := h.size
      exact ⟨by omega, by omega⟩
  · rcases hi with rfl | hi
    · exact hg
    · exact (h.cbs i hi).1
  · obtain ⟨_, s1, s2, s3⟩ := h.sep b hb'
    rcases hS with rfl | hS
    · exact s1 rfl
    · exact s3 hS
  · obtain ⟨s0, s1, s2, s3⟩ := h.sep b hb'
    refine ⟨s0, s1, s2, fun e => ?_⟩
    rcases hcb with rfl | ⟨b', rfl, h'⟩
    · exact s3 e
    · cases e
      have := h.vec.lt b hb'
      omega
  · rcases hS with hS | hS
    · exact hgg hS.symm
    · exact (h.cbs gg hS).2 rfl
  · obtain ⟨a1, a2, a3, a4, a5⟩ := h.act p hp
    refine ⟨a1.only ho (fun hS => ?_), a2, a3, fun e => ?_, a5⟩
    · rcases hS with hS | hS
      · exact a2 hS
      · exact a4 hS
    · rcases hcb with rfl | ⟨b', rfl, h'⟩
      · exact a4 e
      · cases e
        have := a1.lt
        omega

/-- The list was worked on. -/
theorem PS.have_ {S : Nat → Prop} (h : PS B w0 g gg av ds hs A cap w) (ho : Only S w w') (hS : ∀ b, S b → In A b) (hv : Vec w' 9 1 A' hs'.length cap' (vals hs')) (hA : ∀ b, In A' b → In A b ∨ w.heap.size ≤ b) : PS B w0 g gg av ds hs' A' cap' w' := by
  obtain ⟨cb, h⟩ := h
  obtain ⟨y, ok, hb⟩ := h.got
  have hgl : g < w.heap.size := by obtain ⟨cur, L, fr, hd, _⟩ := h.deq; exact hd.blk.lt
  refine ⟨cb, h.deq.only ho (fun hs => ?_) (fun b hb' hs => ?_), h.cbs, h.bel.trans (ho.below h.size (fun i hi => (h.sep i (hS i hi)).1)), Nat.le_trans h.size ho.size, hv, fun b hb' => ?_, ⟨y, ok, hb.only ho (fun hs => ?_)⟩, fun p hp => ?_⟩
  · exact (h.sep g (hS g hs)).2.1 rfl
  · exact (h.sep b (hS b hs)).2.2.2 hb'
  · rcases hA b hb' with hin | hge
    · exact h.sep b hin
    · have := h.size
      have := hb.lt
      refine ⟨by omega, by omega, by omega, fun e => ?_⟩
      have := h.deq.cb_lt b e
      omega
  · exact (h.sep gg (hS gg hs)).2.2.1 rfl
  · obtain ⟨a1, a2, a3, a4, a5⟩ := h.act p hp
    refine ⟨a1.only ho (fun hs => a5 (hS _ hs)), a2, a3, a4, fun hin => ?_⟩
    rcases hA _ hin with hin | hge
    · exact a5 hin
    · have := a1.lt
      omega

theorem PS.append {A3 : Addr} {o : Obj} {x : El} (h : PS B w0 g gg av ds hs A cap w) (hv : Vec w' 9 1 (some A3) (hs.length + 1) cap' (vals hs ++ [V x])) (ho : Only (In A) (w.alloc o) w') (hA : some A3 = A ∨ ∃ g', A3 = ⟨g', 0, none⟩ ∧ (w.alloc o).heap.size ≤ g') : PS B w0 g gg av ds (hs ++ [x]) (some A3) cap' w' := by
  refine (h.alloc o).have_ ho (fun b h => h) (by rw [List.length_append, vals_append]; exact hv) (fun b hb => ?_)
  rcases hA with rfl | ⟨g', rfl, hge⟩
  · exact .inl hb
  · cases hb; exact .inr hge

/-- What was taken was noted. -/
theorem PS.note (h : PS B w0 g gg av ds hs A cap w) (hg : B ≤ gg) (hgg : g ≠ gg) (y : El) (ok : Bool) : PS B w0 g gg av ds hs A cap ((w.setCell ⟨gg, 0, none⟩ (V y)).setCell ⟨gg, 1, none⟩ (.bool ok)) := by
  obtain ⟨cb, h⟩ := h
  obtain ⟨y0, ok0, hb⟩ := h.got
  have ho : Only (fun b => b = gg) w ((w.setCell ⟨gg, 0, none⟩ (V y)).setCell ⟨gg, 1, none⟩ (.bool ok)) :=
    ((Only.refl (fun b => b = gg) w).setCell (p := ⟨gg, 0, none⟩) (.inl rfl) _).setCell (p := ⟨gg, 1, none⟩) (.inl rfl) _
  exact ⟨cb, h.deq.only ho hgg (fun b hb' => (h.cbs b hb').2), h.cbs, h.bel.trans (ho.below h.size (fun i hi => by subst hi; exact hg)), Nat.le_trans h.size ho.size, h.vec.only ho (fun b hb' => (h.sep b hb').2.2.1), h.sep,
    ⟨y, ok, (hb.set_ 0 (V y)).set_ 1 (.bool ok)⟩, fun p hp => ⟨(h.act p hp).1.only ho (h.act p hp).2.2.1, (h.act p hp).2⟩⟩
/-- An act is laid beside them. -/
theorem PS.with_ (h : PS B w0 g gg av ds hs A cap w) (cs : Array Value) : PS B w0 g gg (some (w.heap.size, cs)) ds hs A cap (w.alloc (.cells cs 31)) := by
  obtain ⟨cb, h⟩ := h
  obtain ⟨y, ok, hb⟩ := h.got
  have ho : Only (fun _ => False) w (w.alloc (.cells cs 31)) := (Only.refl _ _).alloc _
  refine ⟨cb, h.deq.only ho (fun h => h) (fun _ _ h => h), h.cbs, h.bel.trans (ho.below h.size (fun i hi => hi.elim)), Nat.le_trans h.size ho.size, h.vec.only ho (fun _ _ h => h), h.sep, ⟨y, ok, hb.only ho (fun h => h)⟩, fun p hp => ?_⟩
  cases hp
  refine ⟨Blk.new _ _ _, ?_, ?_, fun e => ?_, fun hin => ?_⟩
  · obtain ⟨cur, L, fr, hd, _⟩ := h.deq
    have := hd.blk.lt
    omega
  · have := hb.lt
    omega
  · have := h.deq.cb_lt _ e
    omega
  · have := h.vec.lt _ hin
    omega
theorem PS.forget (h : PS B w0 g gg av ds hs A cap w) : PS B w0 g gg none ds hs A cap w := by
  obtain ⟨cb, h⟩ := h
  exact ⟨cb, h.deq, h.cbs, h.bel, h.size, h.vec, h.sep, h.got, fun p hp => (nomatch hp)⟩
theorem PS.act (h : PS B w0 g gg av ds hs A cap w) (p : Nat × Array Value) (hp : av = some p) : Blk w p.1 31 p.2 := by
  obtain ⟨cb, h⟩ := h
  exact (h.act p hp).1
theorem PS.cells (h : PS B w0 g gg av ds hs A cap w) : ∃ y ok, w.cell? ⟨gg, 0, none⟩ = some (V y) ∧ w.cell? ⟨gg, 1, none⟩ = some (.bool ok) ∧ w.frozen? ⟨gg, 0, none⟩ = false ∧ w.frozen? ⟨gg, 1, none⟩ = false := by
  obtain ⟨cb, h⟩ := h
  obtain ⟨y, ok, hb⟩ := h.got
  exact ⟨y, ok, hb.cell 0, hb.cell 1, hb.frozen 0, hb.frozen 1⟩

theorem PS.push (h : PS B w0 g gg av ds hs A cap w) (hg : B ≤ g) (hgg : g ≠ gg) (hb : ds.length ≤ 10000) (x : El) : Calls Try.prog 9 #[.pointer (some ⟨g, 0, none⟩), V x] w fun e w' => e = .returned (.tuple #[]) ∧ PS B w0 g gg av (ds ++ [x]) hs A cap w' := by
  obtain ⟨cb, h⟩ := h
  exact (push_any w g cb ds h.deq hb x).mono fun e w' ⟨he, hl⟩ => ⟨he, PS.lands h hg hgg hl⟩
theorem PS.shove (h : PS B w0 g gg av ds hs A cap w) (hg : B ≤ g) (hgg : g ≠ gg) (hb : ds.length ≤ 10000) (x : El) : Calls Try.prog 10 #[.pointer (some ⟨g, 0, none⟩), V x] w fun e w' => e = .returned (.tuple #[]) ∧ PS B w0 g gg av (x :: ds) hs A cap w' := by
  obtain ⟨cb, h⟩ := h
  exact (shove_any w g cb ds h.deq hb x).mono fun e w' ⟨he, hl⟩ => ⟨he, PS.lands h hg hgg hl⟩
theorem PS.pop (x : El) (h : PS B w0 g gg av (x :: ds) hs A cap w) (hg : B ≤ g) (hgg : g ≠ gg) (hb : ds.length < 10000) : Calls Try.prog 12 #[.pointer (some ⟨g, 0, none⟩)] w fun e w' => e = .returned (.tuple #[V x, .bool true]) ∧ PS B w0 g gg av ds hs A cap w' := by
  obtain ⟨cb, h⟩ := h
  exact (pop_some w g cb ds x h.deq hb).mono fun e w' ⟨he, hl⟩ => ⟨he, PS.lands h hg hgg hl⟩
theorem PS.pop0 (h : PS B w0 g gg av [] hs A cap w) (hg : B ≤ g) (hgg : g ≠ gg) : Calls Try.prog 12 #[.pointer (some ⟨g, 0, none⟩)] w fun e w' => e = .returned (.tuple #[zero, .bool false]) ∧ PS B w0 g gg av [] hs A cap w' := by
  obtain ⟨cb, h⟩ := h
  exact (pop_none w g cb h.deq).mono fun e w' ⟨he, hl⟩ => ⟨he, PS.lands h hg hgg hl⟩
theorem PS.drop (x : El) (h : PS B w0 g gg av (ds ++ [x]) hs A cap w) (hg : B ≤ g) (hgg : g ≠ gg) (hb : ds.length < 10000) : Calls Try.prog 15 #[.pointer (some ⟨g, 0, none⟩)] w fun e w' => e = .returned (.tuple #[V x, .bool true]) ∧ PS B w0 g gg av ds hs A cap w' := by
  obtain ⟨cb, h⟩ := h
  exact (drop_some w g cb ds x h.deq hb).mono fun e w' ⟨he, hl⟩ => ⟨he, PS.lands h hg hgg hl⟩
theorem PS.drop0 (h : PS B w0 g gg av [] hs A cap w) (hg : B ≤ g) (hgg : g ≠ gg) : Calls Try.prog 15 #[.pointer (some ⟨g, 0, none⟩)] w fun e w' => e = .returned (.tuple #[zero, .bool false]) ∧ PS B w0 g gg av [] hs A cap w' := by
  obtain ⟨cb, h⟩ := h
  exact (drop_none w g cb h.deq).mono fun e w' ⟨he, hl⟩ => ⟨he, PS.lands h hg hgg hl⟩
theorem PS.len (h : PS B w0 g gg av ds hs A cap w) : Calls Try.prog 19 #[.pointer (some ⟨g, 0, none⟩)] w (RetPost w (.int .i64 (ds.length : Int))) := by
  obtain ⟨cb, h⟩ := h
  obtain ⟨cur, L, fr, hd, _⟩ := h.deq
  exact len_any w g ds.length (by have h2 := hd.blk.cell 2; simpa using h2)
theorem PS.at_in (h : PS B w0 g gg av ds hs A cap w) (hb : ds.length ≤ 10000) (i : Nat) (hi : i < ds.length) : Calls Try.prog 17 #[.pointer (some ⟨g, 0, none⟩), .int .i64 (i : Int)] w (AtPost w (V (ds.getD i default)) true) := by
  obtain ⟨cb, h⟩ := h
  obtain ⟨cur, L, fr, hd, hx⟩ := h.deq
  exact Go.Proofs.Ytopablmgadkppaa.at_in w g cb cur L fr ds.length ds hd hx rfl hb i hi
theorem PS.at_out (h : PS B w0 g gg av ds hs A cap w) (hb : ds.length ≤ 10000) (i : Int) (hi : i < 0 ∨ (ds.length : Int) ≤ i) : Calls Try.prog 17 #[.pointer (some ⟨g, 0, none⟩), .int .i64 i] w (AtPost w zero false) := by
  obtain ⟨cb, h⟩ := h
  obtain ⟨cur, L, fr, hd, hx⟩ := h.deq
  exact Go.Proofs.Ytopablmgadkppaa.at_out w g cb cur L fr ds.length hd hb i hi
theorem PS.vec (h : PS B w0 g gg av ds hs A cap w) : Vec w 9 1 A hs.length cap (vals hs) := by obtain ⟨cb, h⟩ := h; exact h.vec

theorem PS.ahead (h : PS B w0 g gg av ds hs A cap w) (hb : hs.length ≤ 10000) (x : El) : Calls Try.prog 11 #[V x, .slice A hs.length cap] w fun e w' => ∃ A' cap', e = .returned (.slice A' (x :: hs).length cap') ∧ PS B w0 g gg av ds (x :: hs) A' cap' w' :=
  (ahead_any w x A cap hs h.vec hb).mono fun e w' ⟨A', cap', he, hv, hbl, hA⟩ => ⟨A', cap', he, h.have_ (S := fun _ => False) (Only.of_below hbl _) (fun b h => h.elim) hv (fun b hb => .inr (hA b hb))⟩
theorem PS.first (y : El) (h : PS B w0 g gg av ds (y :: hs) A cap w) (hb : hs.length < 10000) : Calls Try.prog 13 #[.slice A (hs.length + 1) cap] w fun e w' => ∃ A' cap', e = .returned (.tuple #[.agg #[V y, .bool true], .slice A' hs.length cap']) ∧ PS B w0 g gg av ds hs A' cap' w' :=
  (first_some w A (hs.length + 1) cap y hs rfl (by have := h.vec; exact this) (by omega)).mono fun e w' ⟨A', cap', he, hv, hbl, hA⟩ => ⟨A', cap', he, h.have_ (S := fun _ => False) (Only.of_below hbl _) (fun b h => h.elim) hv (fun b hb => .inl (hA b hb))⟩
theorem PS.first0 (h : PS B w0 g gg av ds [] A cap w) : Calls Try.prog 13 #[.slice A 0 cap] w fun e w' => ∃ A' cap', e = .returned (.tuple #[.agg #[zero, .bool false], .slice A' 0 cap']) ∧ PS B w0 g gg av ds [] A' cap' w' :=
  (first_none w A cap).mono fun e w' ⟨A', cap', he, hv, hbl, hA⟩ => ⟨A', cap', he, h.have_ (S := fun _ => False) (Only.of_below hbl _) (fun b h => h.elim) hv (fun b hb => .inl (hA b hb))⟩
theorem PS.last (y : El) (h : PS B w0 g gg av ds (hs ++ [y]) A cap w) (hb : hs.length < 10000) : Calls Try.prog 16 #[.slice A (hs.length + 1) cap] w fun e w' => ∃ A' cap', e = .returned (.tuple #[.agg #[V y, .bool true], .slice A' hs.length cap']) ∧ PS B w0 g gg av ds hs A' cap' w' :=
  (last_some w A (hs.length + 1) cap y hs rfl (by have := h.vec; rw [List.length_append] at this; exact this) (by omega)).mono fun e w' ⟨A', cap', he, hv, hbl, hA⟩ => ⟨A', cap', he, h.have_ (S := fun _ => False) (Only.of_below hbl _) (fun b h => h.elim) hv (fun b hb => .inl (hA b hb))⟩
theorem PS.last0 (h : PS B w0 g gg av ds [] A cap w) : Calls Try.prog 16 #[.slice A 0 cap] w fun e w' => ∃ A' cap', e = .returned (.tuple #[.agg #[zero, .bool false], .slice A' 0 cap']) ∧ PS B w0 g gg av ds [] A' cap' w' :=
  (last_none w A cap).mono fun e w' ⟨A', cap', he, hv, hbl, hA⟩ => ⟨A', cap', he, h.have_ (S := fun _ => False) (Only.of_below hbl _) (fun b h => h.elim) hv (fun b hb => .inl (hA b hb))⟩
end
end Go.Proofs.Ytopablmgadkppaa
