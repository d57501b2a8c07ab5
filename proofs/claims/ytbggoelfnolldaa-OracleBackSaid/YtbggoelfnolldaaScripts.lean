/- THE WALK of OracleScripts: true, whatever comes in. -/
import Derived.Test.YtbggoelfnolldaaStateA
namespace Go.Proofs.Ytbggoelfnolldaa
open Go.RowKit
set_option linter.unusedVariables false

/-- Questions in memory. -/
def Asks (w : World) (A : Option Addr) (l : List (Int × Int)) : Prop := ∀ k, k < l.length → ∃ b off, A = some ⟨b, off, none⟩ ∧ b < w.heap.size ∧
  w.cell? ⟨b, off + k * 2, none⟩ = some (.int .i64 (l.getD k (0, 0)).1) ∧ w.cell? ⟨b, off + k * 2 + 1, none⟩ = some (.int .i64 (l.getD k (0, 0)).2) ∧ In64 (l.getD k (0, 0)).2

theorem below_only {w w' : World} (h : Below w.heap.size w w') : Only (fun _ => False) w w' := Only.of_below h _

theorem os_init {w w1 w2 w3 : World} {xs : List Int} {s1 s2 : Nat} (h1 : w.heap.size ≤ s1) (h1' : s1 < w1.heap.size) (a1 : Script 63 w1 (fun b => w.heap.size ≤ b ∧ b < s1) s1 xs) (b1 : Below w.heap.size w w1)
    (h2 : w1.heap.size + 1 ≤ s2) (h2' : s2 < w2.heap.size) (a2 : Script 63 w2 (fun b => w1.heap.size + 1 ≤ b ∧ b < s2) s2 xs) (b2 : Below (w1.heap.size + 1) (w1.alloc (.cells #[.iface 27 (.pointer (some ⟨s1, 0, none⟩)), .slice none 0 0] 60)) w2)
    (a3 : Script 41 w3 (fun b => b < w.heap.size) w2.heap.size xs) (a4 : Blk w3 (w2.heap.size + 1) 46 #[.pointer (some ⟨w2.heap.size, 0, none⟩), .pointer none, .slice none 0 0]) (b3 : Below w2.heap.size w2 w3) (h3 : w2.heap.size + 1 < w3.heap.size) :
    OS w.heap.size w s1 w1.heap.size s2 w2.heap.size (w2.heap.size + 1) (w2.heap.size + 2) (fun b => w.heap.size ≤ b ∧ b < s1) (fun b => w1.heap.size + 1 ≤ b ∧ b < s2) xs xs xs [] [] w3 ∧
      Places w.heap.size s1 w1.heap.size s2 w2.heap.size (w2.heap.size + 1) (w2.heap.size + 2) (fun b => w.heap.size ≤ b ∧ b < s1) (fun b => w1.heap.size + 1 ≤ b ∧ b < s2) := by
  have o1 : Only (fun _ => False) w1 (w1.alloc (.cells #[.iface 27 (.pointer (some ⟨s1, 0, none⟩)), .slice none 0 0] 60)) := (Only.refl _ _).alloc _
  have o2 : Only (fun _ => False) (w1.alloc (.cells #[.iface 27 (.pointer (some ⟨s1, 0, none⟩)), .slice none 0 0] 60)) w2 := below_only (by rw [World.size_alloc]; exact b2)
  have o3 := below_only b3
  have t0 : Blk (w1.alloc (.cells #[.iface 27 (.pointer (some ⟨s1, 0, none⟩)), .slice none 0 0] 60)) w1.heap.size 60 #[.iface 27 (.pointer (some ⟨s1, 0, none⟩)), .slice none 0 0] := Blk.new _ _ _
  have z1 := b1.size
  have z2 : w1.heap.size + 1 ≤ w2.heap.size := by have := b2.size; simpa using this
  refine ⟨⟨none, 0, none, 0, ⟨(t0.only o2 (fun h => h)).only o3 (fun h => h), Vec.nil_ _ _ _⟩, ((a1.only o1 (fun h => h) (fun _ _ h => h)).only o2 (fun h => h) (fun _ _ h => h)).only o3 (fun h => h) (fun _ _ h => h), a2.only o3 (fun h => h) (fun _ _ h => h), a3, ⟨a4, Vec.nil_ _ _ _⟩, ?_, by omega, fun b h => (nomatch h), fun b h => (nomatch h)⟩,
    ⟨h1, h1', by omega, h2', by omega, by omega, fun b h => h.2, fun b h => ⟨by omega, h.2⟩⟩⟩
  exact ((b1.trans ((Below.refl _ _).alloc z1 _)).trans (b2.mono (by omega))).trans (b3.mono (by omega))

theorem rest_len (xs : List Int) (n : Int) : (rest xs n).length ≤ xs.length := by
  unfold rest; split
  · exact Nat.le_refl _
  · simp
theorem noted_len (ev : List (Int × Int)) (kd : Int) (r : Int × Int) : (noted ev kd r).length ≤ ev.length + 1 := by
  unfold noted; split <;> simp

theorem far2 {W : World} {b g o : Nat} {x y v : Value} (h : b ≠ g) (hc : W.cell? ⟨b, o, none⟩ = some v) : ((W.setCell ⟨g, 0, none⟩ x).setCell ⟨g, 1, none⟩ y).cell? ⟨b, o, none⟩ = some v := by
  rw [World.cell?_of_block (w := W) (a := ⟨b, o, none⟩) ?_]
  · exact hc
  · exact (Below.heap_setCell _ ⟨g, 1, none⟩ y b h).trans (Below.heap_setCell W ⟨g, 0, none⟩ x b h)

theorem below_drew {B : Nat} {w w' : World} (h : Below B w w') (q : Nat) : Below B w (w'.drewN q) := ⟨h.os, h.tape, h.output, h.size, h.block⟩
section
variable (A A2 : Option Addr) (c c2 : Nat) (xs : List Int) (l : List (Int × Int)) (w : World)

set_option maxHeartbeats 800000 in
theorem scripts_big (n m : Nat) (h : 100 < n ∨ 100 < m) (hn : n ≤ maxLen) (hm : m ≤ maxLen) :
    Calls Try.prog 3 #[.slice A n c, .slice A2 m c2] w (LivePost w) := by
  unfold maxLen at hn hm
  have KL := Lib.hid live_any
  by_cases h1 : 100 < n
  · clear h
    go_enter Try.func3, Try.ntmps3
    go_wp2_with fail
    with_reducible (refine Calls.mono (KL.out _) ?_)
    rintro e w5 hp
    obtain ⟨rfl, hb5⟩ := hp
    go_wp2_with fail
    go_ret
    exact ⟨rfl, hb5⟩
  · have h2 : 100 < m := by omega
    clear h
    go_enter Try.func3, Try.ntmps3
    go_wp2_with fail
    with_reducible (refine Calls.mono (KL.out _) ?_)
    rintro e w5 hp
    obtain ⟨rfl, hb5⟩ := hp
    go_wp2_with fail
    go_ret
    exact ⟨rfl, hb5⟩

set_option maxRecDepth 100000 in
set_option maxHeartbeats 4000000 in
theorem scripts_core (hx : Rd w (fun b => b < w.heap.size) A (ints xs)) (hl : Asks w A2 l) (hn : xs.length ≤ 100) (hm : l.length ≤ 100) (hc : xs.length ≤ c) (hA : A = none → xs = []) (hf : ∀ x ∈ xs, In64 x) :
    Calls Try.prog 3 #[.slice A xs.length c, .slice A2 l.length c2] w (LivePost w) := by
  have KL := Lib.hid live_any
  have KO := Lib.hid (fun W (h : Rd W (fun b => b < w.heap.size) A (ints xs)) => of_any W _ A c xs h (by omega) hA hf)
  have KB := Lib.hid (fun W (h : Rd W (fun b => b < w.heap.size) A (ints xs)) hB => by_any W w.heap.size A c xs h hB hc hf)
  have R0 := Lib.hid hx
  have HL := Lib.hid hl
  unfold Asks at HL
  clear hx hl hA hc hf
  generalize hN : xs.length = n at *
  have HN := Lib.hid hN
  clear hN
  generalize hM : l.length = m at *
  have HM := Lib.hid hM
  clear hM
  have q1 : decide ((100 : Int) < (n : Int)) = false := by simp; omega
  have q2 : decide ((100 : Int) < (m : Int)) = false := by simp; omega
  go_enter Try.func3, Try.ntmps3
  go_wp2_with fail
  with_reducible (refine Calls.mono (KO.out _ R0.out) ?_)
  rintro e w1 hp
  obtain ⟨s1, rfl, h1, h1', a1, b1⟩ := hp
  have KR := Lib.hid (record_any w1 s1)
  have R1 := Lib.hid (R0.out.quiet (below_only b1))
  have HA1 := Lib.hid a1
  have HB1 := Lib.hid b1
  clear a1 b1
  go_wp2_with fail
  with_reducible (refine Calls.mono KR.out ?_)
  rintro e w1' hp
  obtain ⟨rfl, rfl⟩ := hp
  have R2 := Lib.hid (R1.out.quiet ((Only.refl _ _).alloc (.cells #[.iface 27 (.pointer (some ⟨s1, 0, none⟩)), .slice none 0 0] 60)))
  go_wp2_with fail
  with_reducible (refine Calls.mono (KO.out _ R2.out) ?_)
  rintro e w2 hp
  obtain ⟨s2, rfl, h2, h2', a2, b2⟩ := hp
  rw [World.size_alloc] at h2 a2 b2
  have R3 := Lib.hid (R2.out.quiet (below_only (by rw [World.size_alloc]; exact b2)))
  have hz2 := b2.size
  rw [World.size_alloc] at hz2
  have hz1 := HB1.out.size
  have HA2 := Lib.hid a2
  have HB2 := Lib.hid b2
  clear a2 b2
  go_wp2_with fail
  with_reducible (refine Calls.mono (KB.out _ R3.out (by omega)) ?_)
  rintro e w3 hp
  obtain ⟨rfl, a3, a4, b3, h3⟩ := hp
  have hinit := os_init h1 h1' HA1.out HB1.out h2 h2' HA2.out HB2.out a3 a4 b3 h3
  generalize w1.heap.size = tp at *
  generalize w2.heap.size = rs at *
  have hinit2 : ∃ D1 D2, OS w.heap.size w s1 tp s2 rs (rs + 1) (rs + 2) D1 D2 xs xs xs [] [] w3 ∧ Places w.heap.size s1 tp s2 rs (rs + 1) (rs + 2) D1 D2 := ⟨_, _, hinit⟩
  clear hinit a3 a4 b3 HA1 HB1 HA2 HB2
  obtain ⟨D1, D2, hos0, hpl⟩ := hinit2
  have HI := Lib.hid hos0
  have HP := Lib.hid hpl
  clear hos0 hpl
  clear R0 R1 R2 R3 KO KB KR h1 h1' h2 h2' hz1 hz2 h3
  go_wp2_with fail
  go_loopw [8] (fun i wr => ∃ (k : Nat) (ys : List Int) (ev : List (Int × Int)), k ≤ m ∧ i = .int .i64 k ∧ ys.length ≤ 100 ∧ ev.length ≤ k ∧ OS w.heap.size w s1 tp s2 rs (rs + 1) (rs + 2) D1 D2 ys ys ys ev ev wr) (fun i _ => m - (intOf i).toNat)
  case atStart => exact ⟨0, xs, [], by omega, rfl, by rw [HN.out]; exact hn, Nat.le_refl _, HI.out⟩
  case round =>
    obtain ⟨k, ys, ev, hk, rfl, hys, hev, hos⟩ := hrel
    by_cases hlt : k < m
    · obtain ⟨b, off, rfl, hb, c1, c2', hin⟩ := HL.out k hlt
      generalize (l.getD k (0, 0)).1 = kd at *
      generalize (l.getD k (0, 0)).2 = nn at *
      have hcells : ∀ W xa xb xr ea er, OS w.heap.size w s1 tp s2 rs (rs + 1) (rs + 2) D1 D2 xa xb xr ea er W → W.cell? ⟨b, off + k * 2, none⟩ = some (.int .i64 kd) ∧ W.cell? ⟨b, off + k * 2 + 1, none⟩ = some (.int .i64 nn) := by
        intro W xa xb xr ea er hW
        obtain ⟨_, _, _, _, hW⟩ := hW
        exact ⟨(hW.bel.cell (p := ⟨b, off + k * 2, none⟩) hb).trans c1, (hW.bel.cell (p := ⟨b, off + k * 2 + 1, none⟩) hb).trans c2'⟩
      have HC := Lib.hid hcells
      have i1 : (0 : Int) ≤ (k : Int) := by omega
      have i2 : (k : Int) < (m : Int) := by omega
      obtain ⟨d1, d2⟩ := hcells _ _ _ _ _ _ hos
      have KT := Lib.hid ((hos.quiet HP.out ((Only.refl _ _).drewN 1)).tape HP.out kd nn hin (by omega) (by omega))
      have KS := Lib.hid (fun W (hW : OS w.heap.size w s1 tp s2 rs (rs + 1) (rs + 2) D1 D2 (rest ys nn) ys ys (noted ev kd (ans ys nn)) ev W) => (hW.quiet HP.out ((Only.refl _ _).drewN 1)).script HP.out kd nn hin (by omega))
      have KRA := Lib.hid (fun W (hW : OS w.heap.size w s1 tp s2 rs (rs + 1) (rs + 2) D1 D2 (rest ys nn) (rest ys nn) ys (noted ev kd (ans ys nn)) ev W) => (hW.quiet HP.out (((Only.refl _ _).alloc (.cells #[.int .i64 0, .int .i64 0] 37)).drewN 1)).ref HP.out kd nn hin (by omega) (by omega))
      have KRB := Lib.hid (fun W (hW : OS w.heap.size w s1 tp s2 rs (rs + 1) (rs + 2) D1 D2 (rest ys nn) (rest ys nn) ys (noted ev kd (ans ys nn)) ev W) => (hW.quiet HP.out ((Only.refl _ _).drewN 1)).ref HP.out kd nn hin (by omega) (by omega))
      have HNE := Lib.hid (fun W xa xb xr ea er (hW : OS w.heap.size w s1 tp s2 rs (rs + 1) (rs + 2) D1 D2 xa xb xr ea er W) => show b ≠ W.heap.size from by
        obtain ⟨_, _, _, _, hW⟩ := hW
        have := hW.bel.size
        omega)
      have hl1 : (rest ys nn).length ≤ 100 := Nat.le_trans (rest_len ys nn) hys
      have hl2 : (noted ev kd (ans ys nn)).length ≤ k + 1 := Nat.le_trans (noted_len _ _ _) (by omega)
      clear hcells c1 c2' hos hys hev hin
      generalize ans ys nn = r at *
      obtain ⟨rx, ry⟩ := r
      dsimp only at KT KS KRA KRB
      generalize rest ys nn = zs at *
      generalize noted ev kd (rx, ry) = ew at *
      go_wp2_with fail
      go_region_held3 (fun w' => w'.cell? ⟨b, off + k * 2, none⟩ = some (.int .i64 kd) ∧ w'.cell? ⟨b, off + k * 2 + 1, none⟩ = some (.int .i64 nn)) (go_keep)
        (first | (go_at_call 11; refine KT.out.mono ?_; rintro e w4 ⟨rfl, hos1⟩; obtain ⟨d3, d4⟩ := HC.out _ _ _ _ _ _ hos1))
      clear KT d1 d2
      have KS2 := Lib.hid (KS.out _ hos1)
      clear KS hos1
      go_wp2_with fail
      go_region_held3 (fun w' => w'.cell? ⟨b, off + k * 2, none⟩ = some (.int .i64 kd) ∧ w'.cell? ⟨b, off + k * 2 + 1, none⟩ = some (.int .i64 nn)) (go_keep)
        (first | (go_at_call 12; refine KS2.out.mono ?_; rintro e w5 ⟨rfl, hos2⟩; obtain ⟨d5, d6⟩ := HC.out _ _ _ _ _ _ hos2))
      clear KS2 d3 d4
      have KRA2 := Lib.hid (KRA.out _ hos2)
      have KRB2 := Lib.hid (KRB.out _ hos2)
      have hg0 := hos2.size
      have hne := HNE.out _ _ _ _ _ _ hos2
      clear KRA KRB hos2
      go_wp2_with fail
      go_region_held3 (fun w' => w'.cell? ⟨b, off + k * 2, none⟩ = some (.int .i64 kd) ∧ w'.cell? ⟨b, off + k * 2 + 1, none⟩ = some (.int .i64 nn)) (first | go_keep | (constructor <;> (refine far2 ?_ ?_ <;> assumption)))
        (first
        | (go_at_call 13; refine KRA2.out.mono ?_; rintro e w6 ⟨rfl, hos3, hv⟩; obtain ⟨d7, d8⟩ := HC.out _ _ _ _ _ _ hos3; have hbv := hv _ _ ((Blk.new w5 37 #[.int .i64 0, .int .i64 0]).drewN 1) hg0; have e0 := hbv.cell 0; have e1 := hbv.cell 1; simp at e0 e1; have f0 := hbv.frozen 0; have f1 := hbv.frozen 1)
        | (go_at_call 13; refine KRB2.out.mono ?_; rintro e w6 ⟨rfl, hos3, hv⟩; obtain ⟨d7, d8⟩ := HC.out _ _ _ _ _ _ hos3; have hne6 := HNE.out _ _ _ _ _ _ hos3))
      rotate_left
      · have hW := (OS.var hos3 HP.out hbv hg0 (((Only.refl (fun b => b = w5.heap.size) w6).setCell (p := ⟨w5.heap.size, 0, none⟩) (.inl rfl) (.int .i64 rx)).setCell (p := ⟨w5.heap.size, 1, none⟩) (.inl rfl) (.int .i64 ry)))
        have hbx := (hbv.set_ 0 (.int .i64 rx)).set_ 1 (.int .i64 ry)
        simp at hbx
        generalize ((w6.setCell ⟨w5.heap.size, 0, none⟩ (.int .i64 rx)).setCell ⟨w5.heap.size, 1, none⟩ (.int .i64 ry)) = W7 at *
        generalize w5.heap.size = g at *
        clear hos3 hbv e0 e1 f0 f1 hv d7 d8
        have KL2 := Lib.hid (fun q => (hW.quiet HP.out ((Only.refl _ _).drewN q)).left.1.mono (fun e w' h => (⟨h.1, h.2.symm⟩ : e = _ ∧ w' = W7.drewN q)))
        obtain ⟨-, ⟨A3, c3, g0⟩, g1⟩ := hW.left
        have g2 := hbx.cell 0
        have g3 := hbx.cell 1
        simp at g2 g3
        have HW := Lib.hid hW
        clear hW hbx
        go_wp2_with fail
        go_quiet ((go_at_call 14; exact Calls.quiet_of_same (KL2.out _)))
        go_wp2_with fail
        go_roundw
        case rel => exact ⟨k + 1, zs, ew, by omega, by go_num, hl1, hl2, HW.out.quiet HP.out ((Only.refl _ _).drewN _)⟩
        case measure => simp [intOf]; omega
      · have hW := hos3.quiet HP.out ((Only.refl _ _).alloc (.cells #[.int .i64 rx, .int .i64 ry] 37))
        have hbx := Blk.new w6 37 #[.int .i64 rx, .int .i64 ry]
        generalize (w6.alloc (.cells #[.int .i64 rx, .int .i64 ry] 37)) = W7 at *
        generalize w6.heap.size = g at *
        clear hos3 hv d7 d8
        have KL2 := Lib.hid (fun q => (hW.quiet HP.out ((Only.refl _ _).drewN q)).left.1.mono (fun e w' h => (⟨h.1, h.2.symm⟩ : e = _ ∧ w' = W7.drewN q)))
        obtain ⟨-, ⟨A3, c3, g0⟩, g1⟩ := hW.left
        have g2 := hbx.cell 0
        have g3 := hbx.cell 1
        simp at g2 g3
        have HW := Lib.hid hW
        clear hW hbx
        go_wp2_with fail
        go_quiet ((go_at_call 14; exact Calls.quiet_of_same (KL2.out _)))
        go_wp2_with fail
        go_roundw
        case rel => exact ⟨k + 1, zs, ew, by omega, by go_num, hl1, hl2, HW.out.quiet HP.out ((Only.refl _ _).drewN _)⟩
        case measure => simp [intOf]; omega
    · obtain ⟨AE, cE, AR, cR, ho⟩ := hos
      have pe := HP.out.e
      have pf := HP.out.f
      have hz := ho.size
      have KE := Lib.hid (events_any (wr.drewN 1) tp _ ev AE cE (ho.t.only ((Only.refl (fun _ => False) _).drewN 1) (fun h => h) (fun _ _ h => h)) (by omega))
      have r2 := ho.o.blk.cell 2
      simp at r2
      have KS := Lib.hid (fun W A' c' (hv : Vec W 64 2 A' ev.length c' (evs ev)) (hb : Below wr.heap.size wr W) => same_any W (fun b => In A' b) (fun b => In AR b) A' AR c' cR ev (Rd.of_vec hv (by decide) (fun b h => h))
        (Rd.of_vec (ho.o.vec.only (below_only hb) (fun _ _ h => h)) (by decide) (fun b h => h)) (by omega))
      have HBL := Lib.hid ho.bel
      have HCL := Lib.hid (fun W (hb : Below wr.heap.size wr W) => (hb.cell (p := ⟨rs + 1, 2, none⟩) (by show rs + 1 < _; omega)).trans r2)
      have hw0 : w.heap.size ≤ wr.heap.size := by have := ho.bel.size; omega
      clear ho
      generalize ev.length = en at *
      go_wp2_with fail
      go_region_held3 (fun w' => w'.cell? ⟨rs + 1, 2, none⟩ = some (.slice AR en cR)) (go_keep)
        (first
        | (go_at_call 16; refine KE.out.mono ?_; rintro e w8 ⟨A', c', rfl, hv, _, hb8⟩; have hb9 : Below wr.heap.size wr w8 := ⟨hb8.os, hb8.tape, hb8.output, hb8.size, hb8.block⟩; have r3 := HCL.out _ hb9)
        | (go_at_call 15; refine (KS.out _ _ _ hv hb9).mono ?_; rintro e w10 ⟨rfl, q, rfl⟩)
        | (go_at_call 7; refine (KL.out _).mono ?_; rintro e w11 ⟨rfl, hb11⟩; have hb12 := (below_drew hb9 q).trans (Below.mono hb11 hb9.size); have r4 := HCL.out _ hb12))
      have HF := Lib.hid (show LivePost w (.returned (.bool true)) w11 from ⟨rfl, HBL.out.trans (hb12.mono hw0)⟩)
      clear hb11 hb12 hb9 hb8 hv r3 r4
      go_wp2_with fail
      go_ret
      exact HF.out
end
end Go.Proofs.Ytbggoelfnolldaa
