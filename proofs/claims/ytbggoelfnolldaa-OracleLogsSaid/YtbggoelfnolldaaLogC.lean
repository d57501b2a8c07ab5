/- THE WALK of the tape's Ask over a log. -/
import Derived.Test.YtbggoelfnolldaaLogA
namespace Go.Proofs.Ytbggoelfnolldaa
open Go.RowKit
set_option linter.unusedVariables false

theorem method_log (a : Addr) (w : World) : (method 185 50 (.pointer (some a)) "Ask").run Try.prog w = .ok (17, .pointer (some a)) w := by kernel_rfl

def TapePostL (w : World) (D : Nat → Prop) (tp s : Nat) (v : Value) (r : Int × Int) (l : List (Int × Int)) (k : Nat) (ev : List (Int × Int)) (A : Option Addr) (e : Ending) (w' : World) : Prop :=
  e = .returned (.tuple #[.int .i64 r.1, .int .i64 r.2]) ∧ Lg 67 w' D s l k ∧ TapeLeft w tp s v ev A w'

set_option maxRecDepth 100000 in
set_option maxHeartbeats 800000 in
theorem tapel_any (w : World) (D : Nat → Prop) (tp s : Nat) (l : List (Int × Int)) (k : Nat) (ev : List (Int × Int)) (A : Option Addr) (c : Nat) (kd n : Int) (ht : Tp w tp (.iface 50 (.pointer (some ⟨s, 0, none⟩))) ev A c) (hn : In64 n)
    (hs : Lg 67 w D s l k) (hD : ¬ D s) (hD2 : ¬ D tp) (hD3 : ∀ b, In A b → ¬ D b) (hb : l.length ≤ 10000) (hev : ev.length ≤ 10000) :
    Calls Try.prog 11 #[.pointer (some ⟨tp, 0, none⟩), .int .i64 kd, .int .i64 n] w
      (TapePostL w D tp s (.iface 50 (.pointer (some ⟨s, 0, none⟩))) (lans l k kd n) l (lrest l k kd n) (noted ev kd (lans l k kd n)) A) := by
  have h0 := ht.blk.cell 0
  have h1 := ht.blk.cell 1
  simp at h0 h1
  by_cases hlt : n < 1
  · have hr : lans l k kd n = (0, 1) := by simp [lans, hlt]
    have hrest : lrest l k kd n = k := by simp [lrest, hr]
    rw [hr, hrest, show noted ev kd (0, 1) = ev by simp [noted]]
    have hfin := Lib.hid (show TapePostL w D tp s (.iface 50 (.pointer (some ⟨s, 0, none⟩))) (0, 1) l k ev A (.returned (.tuple #[.int .i64 0, .int .i64 1])) w from ⟨rfl, hs, tapeLeft_same ht (Only.refl _ _)⟩)
    clear ht hs hr hrest
    go_enter Try.func11, Try.ntmps11
    go_wp2_with fail
    go_ret2
    exact hfin.out
  · have hms := fun (a : Addr) (w : World) => method_log a w
    have hsb := hs
    obtain ⟨As, cs, hsb⟩ := hsb
    have hne : tp ≠ s := ht.blk.ne_ hsb.blk (by decide)
    have hnA : ¬ In A s := ht.vec.ne_ hsb.blk (by decide)
    have KA := Lib.hid (log_any w D s l k kd n hs hD hb)
    have HT := Lib.hid ht
    obtain ⟨i0, hi, hz0, hz1, hz2⟩ := info_parts ev_info
    generalize lans l k kd n = r at *
    obtain ⟨rx, ry⟩ := r
    generalize lrest l k kd n = k' at *
    clear ht hs hsb
    go_enter Try.func11, Try.ntmps11
    go_wp2_with fail
    with_reducible (refine Calls.mono KA.out ?_)
    rintro e w1 hp
    obtain ⟨rfl, hs1, ho1⟩ := hp
    have ht1 := HT.out.only ho1 hne (fun b hb e => hnA (e ▸ hb))
    have h0 := ht1.blk.cell 0
    have h1 := ht1.blk.cell 1
    have f1 := ht1.blk.frozen 1
    simp at h0 h1
    have HT1 := Lib.hid ht1
    have HS1 := Lib.hid hs1
    have HO1 := Lib.hid ho1
    by_cases hy : ry = 0
    rotate_left
    · have hy' : (ry == 0) = false := by simp [hy]
      have HF := Lib.hid (show TapePostL w D tp s (.iface 50 (.pointer (some ⟨s, 0, none⟩))) (rx, ry) l k' (noted ev kd (rx, ry)) A (.returned (.tuple #[.int .i64 rx, .int .i64 ry])) w1 from ⟨rfl, hs1, by rw [noted, if_neg (by exact hy)]; exact tapeLeft_same ht1 ho1⟩)
      clear ht1 hs1 ho1 hy
      go_wp2_with fail
      go_ret2
      exact HF.out
    subst hy
    have HE := Lib.hid (show noted ev kd (rx, 0) = ev ++ [(kd, rx)] by rw [noted, if_pos rfl])
    clear ht1 hs1 ho1
    go_wp2_with (at_builtin; refine wpList_append_vec _ rfl _ _ 44 rfl 64 i0 (.agg #[.int .i64 0, .int .i64 0]) 2 16 Try.underlying44 hi hz0 hz1 hz2 rfl (by decide) _ _ _ _ rfl (HT1.out.vec.alloc _) ⟨w1.heap.size, 0, none⟩ 1 1 [.int .i64 kd, .int .i64 rx] rfl rfl ?c1 ?c2 ?c0 ?c3 ?c4 ?_)
    case c1 => exact pair_new _ _ _ _
    case c2 => intro u hu; simp at hu; rcases hu with rfl | rfl <;> rfl
    case c0 => intro _; decide
    case c3 => unfold maxLen; omega
    case c4 => omega
    intro A2 c2 w2 hv ho2 hA2
    have hfin := Lib.hid (tape_end HT1.out HO1.out hv ho2 hA2)
    have hb2 := (HT1.out.blk.alloc (.cells #[.int .i64 kd, .int .i64 rx] 64)).only ho2 (HT1.out.vec.ne_ HT1.out.blk (by decide))
    have g1 := hb2.cell 1
    have g2 := hb2.frozen 1
    simp at g1
    have HOO := Lib.hid ho2
    have HFS : Hid (Lg 67 (w2.setCell ⟨tp, 1, none⟩ (.slice (some A2) (ev.length + 1) c2)) D s l k') := by
      have q1 := (HS1.out.alloc (.cells #[.int .i64 kd, .int .i64 rx] 64)).only ho2 hnA (fun b hb e => hD3 b e hb)
      exact q1.only (S := fun b => b = tp) ((Only.refl (fun b => b = tp) w2).setCell (p := ⟨tp, 1, none⟩) (.inl rfl) _) (fun e => hne e.symm) (fun b hb e => hD2 (e ▸ hb))
    clear hv ho2 hA2 hb2 h0 h1 f1
    go_wp2
    go_ret2
    rw [HE.out]
    exact ⟨rfl, HFS.out, hfin.out⟩
end Go.Proofs.Ytbggoelfnolldaa
