/- THE WALK of the tape's Ask over a script. -/
import Derived.Test.YtbggoelfnolldaaWalkD
namespace Go.Proofs.Ytbggoelfnolldaa
open Go.RowKit
set_option linter.unusedVariables false

theorem Blk.ne_ {w : World} {g g' : Nat} {t t' : TypeId} {cs cs' : Array Value} (h : Blk w g t cs) (h' : Blk w g' t' cs') (hne : t ≠ t') : g ≠ g' := by
  rintro rfl
  unfold Blk at h h'
  rw [h] at h'
  injection h' with h'
  injection h' with _ ht
  exact hne ht
theorem Vec.ne_ {w : World} {e : TypeId} {size n cap : Nat} {A : Option Addr} {xs : List Value} (h : Vec w e size A n cap xs) {g : Nat} {t : TypeId} {cs : Array Value} (hb : Blk w g t cs) (hne : e ≠ t) : ¬ In A g := by
  intro hin
  cases A with
  | none => cases hin
  | some a =>
    obtain ⟨b, off, cur, rfl, hk, _⟩ := h.at_ a rfl
    cases hin
    exact Blk.ne_ hk hb hne rfl

/-- A tape over some oracle v: who is asked, and what was noted. -/
structure Tp (w : World) (tp : Nat) (v : Value) (ev : List (Int × Int)) (A : Option Addr) (c : Nat) : Prop where
  blk : Blk w tp 60 #[v, .slice A ev.length c]
  vec : Vec w 64 2 A ev.length c (evs ev)
theorem Tp.only {w w' : World} {tp : Nat} {v : Value} {ev : List (Int × Int)} {A : Option Addr} {c : Nat} {S : Nat → Prop} (h : Tp w tp v ev A c) (ho : Only S w w') (h1 : ¬ S tp) (h2 : ∀ b, In A b → ¬ S b) : Tp w' tp v ev A c :=
  ⟨h.blk.only ho h1, h.vec.only ho h2⟩

theorem method_script (a : Addr) (w : World) : (method 185 27 (.pointer (some a)) "Ask").run Try.prog w = .ok (12, .pointer (some a)) w := by kernel_rfl

/-- What is noted of an answer. -/
def noted (ev : List (Int × Int)) (kd : Int) (r : Int × Int) : List (Int × Int) := if r.2 = 0 then ev ++ [(kd, r.1)] else ev

/-- What the tape's Ask leaves: the tape; nothing but the tape, its list, and the block s has turned. -/
def TapeLeft (w : World) (tp s : Nat) (v : Value) (ev : List (Int × Int)) (A : Option Addr) (w' : World) : Prop :=
  (∃ A' c', Tp w' tp v ev A' c' ∧ ∀ b, In A' b → In A b ∨ w.heap.size ≤ b) ∧ Only (fun b => b = s ∨ b = tp ∨ In A b) w w'

theorem tape_end {w w1 w2 : World} {tp s : Nat} {v : Value} {ev : List (Int × Int)} {A : Option Addr} {c c2 : Nat} {A2 : Addr} {x y : Int} {o : Obj} (ht : Tp w1 tp v ev A c) (ho : Only (fun b => b = s) w w1)
    (hv : Vec w2 64 2 (some A2) (ev.length + 1) c2 (evs ev ++ [.int .i64 x, .int .i64 y])) (ho2 : Only (In A) (w1.alloc o) w2) (hA : some A2 = A ∨ ∃ g, A2 = ⟨g, 0, none⟩ ∧ w1.heap.size + 1 ≤ g) :
    TapeLeft w tp s v (ev ++ [(x, y)]) A (w2.setCell ⟨tp, 1, none⟩ (.slice (some A2) (ev.length + 1) c2)) := by
  have hnA : ¬ In A tp := ht.vec.ne_ ht.blk (by decide)
  have hb2 : Blk w2 tp 60 _ := (ht.blk.alloc o).only ho2 hnA
  have hnA2 : ¬ In (some A2) tp := by
    rcases hA with h | ⟨g, rfl, hg⟩
    · rw [h]; exact hnA
    · intro h
      have e : g = tp := by cases h; rfl
      have := ht.blk.lt
      omega
  refine ⟨⟨some A2, c2, ⟨?_, ?_⟩, fun b hb => ?_⟩, ?_⟩
  · have := hb2.set_ 1 (.slice (some A2) (ev.length + 1) c2)
    rw [List.length_append]
    exact this
  · rw [List.length_append, evs_append]
    exact hv.only (S := fun b => b = tp) ((Only.refl (fun b => b = tp) w2).setCell (p := ⟨tp, 1, none⟩) (.inl rfl) _) (fun b hb e => hnA2 (e ▸ hb))
  · rcases hA with h | ⟨g, rfl, hg⟩
    · rw [h] at hb; exact .inl hb
    · have e : g = b := by cases hb; rfl
      have := ho.size
      exact .inr (by omega)
  · have h1 : Only (fun b => b = s ∨ b = tp ∨ In A b) w w1 := ho.mono (fun i h => .inl h)
    have h2 : Only (fun b => b = s ∨ b = tp ∨ In A b) w w2 := (h1.alloc o).trans ho2 (fun i _ h => .inr (.inr h))
    exact h2.setCell (p := ⟨tp, 1, none⟩) (.inl (.inr (.inl rfl))) _

theorem pair_new (w : World) (x y : Value) (t : TypeId) : ∀ (j : Nat) (u : Value), [x, y][j]? = some u → (w.alloc (.cells #[x, y] t)).cell? ((⟨w.heap.size, 0, none⟩ : Addr).add j) = some u := by
  intro j u hu
  rw [show ((⟨w.heap.size, 0, none⟩ : Addr).add j) = ⟨w.heap.size, j, none⟩ by unfold Addr.add; split <;> simp_all, World.cell?_alloc_new]
  match j, hu with
  | 0, h => exact h
  | 1, h => exact h

def TapePost (w : World) (D : Nat → Prop) (tp s : Nat) (v : Value) (r : Int × Int) (xs : List Int) (ev : List (Int × Int)) (A : Option Addr) (e : Ending) (w' : World) : Prop :=
  e = .returned (.tuple #[.int .i64 r.1, .int .i64 r.2]) ∧ Script 63 w' D s xs ∧ TapeLeft w tp s v ev A w'

theorem tapeLeft_same {w : World} {tp s : Nat} {v : Value} {ev : List (Int × Int)} {A : Option Addr} {c : Nat} {w' : World} (ht : Tp w' tp v ev A c) (ho : Only (fun b => b = s) w w') : TapeLeft w tp s v ev A w' :=
  ⟨⟨A, c, ht, fun b hb => .inl hb⟩, ho.mono (fun i h => .inl h)⟩

set_option maxHeartbeats 800000 in
theorem tape_any (w : World) (D : Nat → Prop) (tp s : Nat) (xs : List Int) (ev : List (Int × Int)) (A : Option Addr) (c : Nat) (kd n : Int) (ht : Tp w tp (.iface 27 (.pointer (some ⟨s, 0, none⟩))) ev A c) (hn : In64 n)
    (hs : Script 63 w D s xs) (hD : ∀ b, D b → b < s) (hD2 : ¬ D tp) (hD3 : ∀ b, In A b → ¬ D b) (hb : xs.length ≤ 10000) (hev : ev.length ≤ 10000) :
    Calls Try.prog 11 #[.pointer (some ⟨tp, 0, none⟩), .int .i64 kd, .int .i64 n] w
      (TapePost w D tp s (.iface 27 (.pointer (some ⟨s, 0, none⟩))) (ans xs n) (rest xs n) (noted ev kd (ans xs n)) A) := by
  have h0 := ht.blk.cell 0
  have h1 := ht.blk.cell 1
  simp at h0 h1
  by_cases hlt : n < 1
  · have hr : ans xs n = (0, 1) := by simp [ans, hlt]
    have hrest : rest xs n = xs := by rw [rest, if_pos hlt]
    rw [hr, hrest, show noted ev kd (0, 1) = ev by simp [noted]]
    have hfin := Lib.hid (show TapePost w D tp s (.iface 27 (.pointer (some ⟨s, 0, none⟩))) (0, 1) xs ev A (.returned (.tuple #[.int .i64 0, .int .i64 1])) w from ⟨rfl, hs, tapeLeft_same ht (Only.refl _ _)⟩)
    clear ht hs hr hrest
    go_enter Try.func11, Try.ntmps11
    go_wp2_with fail
    go_ret2
    exact hfin.out
  · have hms := fun (a : Addr) (w : World) => method_script a w
    have hsb := hs
    obtain ⟨As, cs, hsb⟩ := hsb
    have hne : tp ≠ s := ht.blk.ne_ hsb.blk (by decide)
    have hnA : ¬ In A s := ht.vec.ne_ hsb.blk (by decide)
    have hr0 : (ans xs n).2 = 0 := by cases xs <;> simp [ans, hlt]
    have KA := Lib.hid (ask_any w D s xs kd n hs (fun h => Nat.lt_irrefl _ (hD s h)) hn hb)
    have HT := Lib.hid ht
    have HE := Lib.hid (show noted ev kd (ans xs n) = ev ++ [(kd, (ans xs n).1)] by rw [noted, if_pos hr0])
    obtain ⟨i0, hi, hz0, hz1, hz2⟩ := info_parts ev_info
    generalize ans xs n = r at *
    obtain ⟨rx, ry⟩ := r
    simp only at hr0
    subst hr0
    generalize rest xs n = xs' at *
    clear ht hs hsb
    go_enter Try.func11, Try.ntmps11
    go_wp2_with fail
    with_reducible (refine Calls.mono KA.out ?_)
    rintro e w1 hp
    obtain ⟨rfl, hs1, ho1⟩ := hp
    have ht1 := HT.out.only ho1 hne (fun b hb e => hnA (e ▸ hb))
    have h0 := ht1.blk.cell 0
    have h1 := ht1.blk.cell 1
    have f1 := ht1.blk.frozen 1
    simp at h0 h1
    have HT1 := Lib.hid ht1
    have HS1 := Lib.hid hs1
    have HO1 := Lib.hid ho1
    clear ht1 hs1 ho1
    go_wp2_with (at_builtin; refine wpList_append_vec _ rfl _ _ 44 rfl 64 i0 (.agg #[.int .i64 0, .int .i64 0]) 2 16 Try.underlying44 hi hz0 hz1 hz2 rfl (by decide) _ _ _ _ rfl (HT1.out.vec.alloc _) ⟨w1.heap.size, 0, none⟩ 1 1 [.int .i64 kd, .int .i64 rx] rfl rfl ?c1 ?c2 ?c0 ?c3 ?c4 ?_)
    case c1 => exact pair_new _ _ _ _
    case c2 => intro u hu; simp at hu; rcases hu with rfl | rfl <;> rfl
    case c0 => intro _; decide
    case c3 => unfold maxLen; omega
    case c4 => omega
    intro A2 c2 w2 hv ho2 hA2
    have hfin := Lib.hid (tape_end HT1.out HO1.out hv ho2 hA2)
    have hb2 := (HT1.out.blk.alloc (.cells #[.int .i64 kd, .int .i64 rx] 64)).only ho2 (HT1.out.vec.ne_ HT1.out.blk (by decide))
    have g1 := hb2.cell 1
    have g2 := hb2.frozen 1
    simp at g1
    have HOO := Lib.hid ho2
    have HFS : Hid (Script 63 (w2.setCell ⟨tp, 1, none⟩ (.slice (some A2) (ev.length + 1) c2)) D s xs') := by
      have q1 := (HS1.out.alloc (.cells #[.int .i64 kd, .int .i64 rx] 64)).only ho2 hnA (fun b hb e => hD3 b e hb)
      exact q1.only (S := fun b => b = tp) ((Only.refl (fun b => b = tp) w2).setCell (p := ⟨tp, 1, none⟩) (.inl rfl) _) (fun e => hne e.symm) (fun b hb e => hD2 (e ▸ hb))
    clear hv ho2 hA2 hb2 h0 h1 f1
    go_wp2
    go_ret2
    rw [HE.out]
    exact ⟨rfl, HFS.out, hfin.out⟩
end Go.Proofs.Ytbggoelfnolldaa
