/- THE WALK of OracleBack: true, whatever comes in. -/
import Derived.Test.YtbggoelfnolldaaStateB
import Derived.Test.YtbggoelfnolldaaScripts
namespace Go.Proofs.Ytbggoelfnolldaa
open Go.RowKit
set_option linter.unusedVariables false

theorem bk_init {w w1 : World} {xs : List Int} {s1 : Nat} (h1 : w.heap.size ≤ s1) (h1' : s1 < w1.heap.size) (a1 : Script 63 w1 (fun b => w.heap.size ≤ b ∧ b < s1) s1 xs) (b1 : Below w.heap.size w w1) :
    BKC w.heap.size w s1 w1.heap.size (w1.heap.size + 1) (fun b => w.heap.size ≤ b ∧ b < s1) xs [] [] (w1.alloc (.cells #[.iface 27 (.pointer (some ⟨s1, 0, none⟩)), .slice none 0 0] 60)) none 0 none 0 :=
  ⟨⟨Blk.new _ _ _, Vec.nil_ _ _ _⟩, a1.only ((Only.refl (fun _ => False) _).alloc _) (fun h => h) (fun _ _ h => h), Vec.nil_ _ _ _, b1.trans ((Below.refl _ _).alloc b1.size _), by simp, fun b h => (nomatch h), fun b h => (nomatch h)⟩

theorem one_new (w : World) (x : Value) (t : TypeId) : ∀ (j : Nat) (u : Value), [x][j]? = some u → (w.alloc (.cells #[x] t)).cell? ((⟨w.heap.size, 0, none⟩ : Addr).add j) = some u := by
  intro j u hu
  rw [show ((⟨w.heap.size, 0, none⟩ : Addr).add j) = ⟨w.heap.size, j, none⟩ by unfold Addr.add; split <;> simp_all, World.cell?_alloc_new]
  match j, hu with
  | 0, h => exact h
section
variable (A A2 : Option Addr) (c c2 : Nat) (xs : List Int) (l : List (Int × Int)) (w : World)

set_option maxHeartbeats 800000 in
theorem back_big (n m : Nat) (h : 100 < n ∨ 100 < m) (hn : n ≤ maxLen) (hm : m ≤ maxLen) :
    Calls Try.prog 6 #[.slice A n c, .slice A2 m c2] w (LivePost w) := by
  unfold maxLen at hn hm
  have KL := Lib.hid live_any
  by_cases h1 : 100 < n
  · clear h
    go_enter Try.func6, Try.ntmps6
    go_wp2_with fail
    with_reducible (refine Calls.mono (KL.out _) ?_)
    rintro e w5 hp
    obtain ⟨rfl, hb5⟩ := hp
    go_wp2_with fail
    go_ret
    exact ⟨rfl, hb5⟩
  · have h2 : 100 < m := by omega
    clear h
    go_enter Try.func6, Try.ntmps6
    go_wp2_with fail
    with_reducible (refine Calls.mono (KL.out _) ?_)
    rintro e w5 hp
    obtain ⟨rfl, hb5⟩ := hp
    go_wp2_with fail
    go_ret
    exact ⟨rfl, hb5⟩

set_option maxRecDepth 100000 in
set_option maxHeartbeats 4000000 in
theorem back_core (hx : Rd w (fun b => b < w.heap.size) A (ints xs)) (hl : Asks w A2 l) (hn : xs.length ≤ 100) (hm : l.length ≤ 100) (hA : A = none → xs = []) (hf : ∀ x ∈ xs, In64 x) :
    Calls Try.prog 6 #[.slice A xs.length c, .slice A2 l.length c2] w (LivePost w) := by
  have KL := Lib.hid live_any
  have KO := Lib.hid (of_any w _ A c xs hx (by omega) hA hf)
  have HL := Lib.hid hl
  unfold Asks at HL
  clear hx hl hA hf
  generalize hN : xs.length = n at *
  have HN := Lib.hid hN
  clear hN
  generalize hM : l.length = m at *
  have HM := Lib.hid hM
  clear hM
  have q1 : decide ((100 : Int) < (n : Int)) = false := by simp; omega
  have q2 : decide ((100 : Int) < (m : Int)) = false := by simp; omega
  go_enter Try.func6, Try.ntmps6
  go_wp2_with fail
  with_reducible (refine Calls.mono KO.out ?_)
  rintro e w1 hp
  obtain ⟨s1, rfl, h1, h1', a1, b1⟩ := hp
  have KR := Lib.hid (record_any w1 s1)
  have HI := Lib.hid (bk_init h1 h1' a1 b1)
  clear a1 b1
  go_wp2_with fail
  with_reducible (refine Calls.mono KR.out ?_)
  rintro e w2 hp
  obtain ⟨rfl, rfl⟩ := hp
  generalize w1.alloc (.cells #[.iface 27 (.pointer (some ⟨s1, 0, none⟩)), .slice none 0 0] 60) = w2 at *
  generalize w1.heap.size = tp at *
  go_wp2_with fail
  go_loopw [6, 7] (fun g i wr => ∃ (k : Nat) (ys gl : List Int) (ev : List (Int × Int)) (AE : Option Addr) (cE : Nat) (AG : Option Addr) (cG : Nat), k ≤ m ∧ i = .int .i64 k ∧ g = .slice AG k cG ∧ ys.length ≤ 100 ∧ ev.length ≤ k ∧ Back l k gl ev ∧ BKC w.heap.size w s1 tp (tp + 1) (fun b => w.heap.size ≤ b ∧ b < s1) ys ev gl wr AE cE AG cG) (fun _ i _ => m - (intOf i).toNat)
  case atStart => exact ⟨0, xs, [], [], none, 0, none, 0, by omega, rfl, rfl, by rw [HN.out]; exact hn, Nat.le_refl _, Back.zero l, HI.out⟩
  case round =>
    obtain ⟨k, ys, gl, ev, AE, cE, AG, cG, hk, rfl, rfl, hys, hev, hbk, hst⟩ := hrel
    by_cases hlt : k < m
    · obtain ⟨b, off, rfl, hb, c1, c2', hin⟩ := HL.out k hlt
      have hnx := hbk.next ys
      generalize (l.getD k (0, 0)).1 = kd at *
      generalize (l.getD k (0, 0)).2 = nn at *
      have hcells : ∀ W xa ea gg B1 d1 B2 d2, BKC w.heap.size w s1 tp (tp + 1) (fun b => w.heap.size ≤ b ∧ b < s1) xa ea gg W B1 d1 B2 d2 → W.cell? ⟨b, off + k * 2, none⟩ = some (.int .i64 kd) ∧ W.cell? ⟨b, off + k * 2 + 1, none⟩ = some (.int .i64 nn) := by
        intro W xa ea gg B1 d1 B2 d2 hW
        exact ⟨(hW.bel.cell (p := ⟨b, off + k * 2, none⟩) hb).trans c1, (hW.bel.cell (p := ⟨b, off + k * 2 + 1, none⟩) hb).trans c2'⟩
      have HC := Lib.hid hcells
      have i1 : (0 : Int) ≤ (k : Int) := by omega
      have i2 : (k : Int) < (m : Int) := by omega
      obtain ⟨d1, d2⟩ := hcells _ _ _ _ _ _ _ _ hst
      have KT := Lib.hid ((hst.quiet (by omega) ((Only.refl _ _).drewN 1)).tape h1 h1' (by omega) (fun b hb => hb.2) kd nn hin (by omega) (by omega))
      have hl1 : (rest ys nn).length ≤ 100 := Nat.le_trans (rest_len ys nn) hys
      have hl2 : (noted ev kd (ans ys nn)).length ≤ k + 1 := Nat.le_trans (noted_len _ _ _) (by omega)
      clear hcells c1 c2' hst hys hev hin
      generalize ans ys nn = r at *
      obtain ⟨rx, ry⟩ := r
      dsimp only at KT hnx
      generalize rest ys nn = zs at *
      generalize noted ev kd (rx, ry) = ew at *
      go_wp2_with fail
      go_region_held3 (fun w' => w'.cell? ⟨b, off + k * 2, none⟩ = some (.int .i64 kd) ∧ w'.cell? ⟨b, off + k * 2 + 1, none⟩ = some (.int .i64 nn)) (go_keep)
        (first | (go_at_call 11; refine KT.out.mono ?_; rintro e w4 ⟨rfl, AE2, cE2, hst1⟩; obtain ⟨d3, d4⟩ := HC.out _ _ _ _ _ _ _ _ hst1))
      have hg : Vec w4 3 1 AG k cG (ints gl) := by have := hst1.g; rwa [hbk.len] at this
      have HG := Lib.hid hg
      have HK := Lib.hid hbk.len
      have HS := Lib.hid hst1
      have HX := Lib.hid hnx
      obtain ⟨i0, hi, hz0, hz1, hz2⟩ := info_parts int_info
      clear hg hst1 hbk hnx KT
      go_wp2_with (at_builtin; refine wpList_append_vec _ rfl _ _ 22 rfl 3 i0 (.int .i64 0) 1 8 Try.underlying22 hi hz0 hz1 hz2 rfl (by decide) _ _ _ _ rfl (HG.out.alloc _) ⟨w4.heap.size, 0, none⟩ 1 1 [.int .i64 rx] rfl rfl ?c1 ?c2 ?c0 ?c3 ?c4 ?_)
      case c1 => exact one_new _ _ _
      case c2 => intro u hu; simp at hu; subst hu; rfl
      case c0 => intro _; decide
      case c3 => unfold maxLen; omega
      case c4 => omega
      intro A' cap' w5 hv5 ho5 hA5
      have HV := Lib.hid (HS.out.app (by omega) (by omega) (by omega) (fun b hb => hb.2) (by rw [HK.out]; exact hv5) ho5 (by rw [World.size_alloc]; exact hA5))
      clear hv5 ho5 hA5
      go_wp2_with fail
      go_roundw
      case rel => exact ⟨k + 1, zs, gl ++ [rx], ew, AE2, cE2, some A', cap', by omega, by go_num, by go_num, hl1, hl2, HX.out, HV.out⟩
      case measure => simp [intOf]; omega
    · obtain rfl : m = k := by omega
      have HB := Lib.hid hbk
      have HT := Lib.hid hst
      have KE := Lib.hid (events_any wr tp _ ev AE cE hst.t (by omega))
      have KR := Lib.hid (fun W A' c' (hv : Vec W 64 2 A' ev.length c' (evs ev)) => replay_any W (fun b => In A' b) A' c' ev (Rd.of_vec hv (by decide) (fun b h => h)) (by omega) (fun e => by have := hv.none_ e; have := hv.le; exact List.eq_nil_of_length_eq_zero (by omega)))
      clear hbk hst
      generalize ev.length = en at *
      go_wp2_with fail
      with_reducible (refine Calls.mono KE.out ?_)
      rintro e w8 ⟨A8, c8, rfl, hv8, -, hb8⟩
      have KR2 := Lib.hid (KR.out _ _ _ hv8)
      clear KE KR hv8
      go_wp2_with fail
      with_reducible (refine Calls.mono KR2.out ?_)
      rintro e w9 ⟨s2, rfl, h29, h29', l9, b9⟩
      have H2 := Lib.hid (bc2_init HT.out (by omega) hb8 h29 h29' l9 b9)
      clear KR2 hb8 l9 b9 h29 h29' HI HT
      generalize hD2 : (fun b => w8.heap.size ≤ b ∧ b < s2) = D2 at *
      clear hD2
      have HEL := Lib.hid HB.out.evl
      have hev2 : ev.length ≤ 10000 := by rw [HEL.out]; have := cnt_le l m; omega
      have hgl := Lib.hid HB.out.len
      have HE2 := Lib.hid hev2
      clear hev2
      go_wp2_with fail
      go_loopw [11, 12] (fun nn i wr => ∃ (k : Nat), k ≤ m ∧ i = .int .i64 k ∧ nn = .int .i64 (cnt l k) ∧ BC2 w s2 D2 gl ev AG cG (cnt l k) wr) (fun _ i _ => m - (intOf i).toNat)
      case atStart => exact ⟨0, by omega, rfl, rfl, H2.out⟩
      case round =>
        obtain ⟨k, hk, rfl, rfl, hst⟩ := hrel
        by_cases hlt : k < m
        · obtain ⟨b, off, rfl, hb, c1, c2', hin⟩ := HL.out k hlt
          have hcells : ∀ W q, BC2 w s2 D2 gl ev AG cG q W → W.cell? ⟨b, off + k * 2, none⟩ = some (.int .i64 (l.getD k (0, 0)).1) ∧ W.cell? ⟨b, off + k * 2 + 1, none⟩ = some (.int .i64 (l.getD k (0, 0)).2) := by
            intro W q hW
            exact ⟨(hW.bel.cell (p := ⟨b, off + k * 2, none⟩) hb).trans c1, (hW.bel.cell (p := ⟨b, off + k * 2 + 1, none⟩) hb).trans c2'⟩
          obtain ⟨d1, d2⟩ := hcells _ _ hst
          have hq := hst.quiet ((Only.refl _ _).drewN 1)
          have i1 : (0 : Int) ≤ (k : Int) := by omega
          have i2 : (k : Int) < (m : Int) := by omega
          have hcl := cnt_le l k
          by_cases hlow : (l.getD k (0, 0)).2 < 1
          · have hlo := Back.low (ev := ev) hlow
            rw [cnt_low hlow] at hlo
            have KT := Lib.hid (hq.ask (l.getD k (0, 0)).1 (l.getD k (0, 0)).2 HE2.out hlo)
            have HC := Lib.hid hcells
            have HN0 := Lib.hid (cnt_low hlow)
            clear hcells c1 c2' hst hq hlo
            generalize (l.getD k (0, 0)).1 = kd at *
            generalize (l.getD k (0, 0)).2 = nn at *
            dsimp only at KT
            go_wp2_with fail
            go_region_held3 (fun w' => w'.cell? ⟨b, off + k * 2, none⟩ = some (.int .i64 kd) ∧ w'.cell? ⟨b, off + k * 2 + 1, none⟩ = some (.int .i64 nn)) (go_keep)
              (first | (go_at_call 17; refine KT.out.mono ?_; rintro e w4 ⟨rfl, hst1⟩; obtain ⟨d3, d4⟩ := HC.out _ _ hst1))
            have HS := Lib.hid hst1
            clear hst1 KT
            go_wp2_with fail
            go_roundw
            case rel => exact ⟨k + 1, by omega, by go_num, by rw [HN0.out], by rw [HN0.out]; exact HS.out⟩
            case measure => simp [intOf]; omega
          · have hup := HB.out.again hlt hlow
            obtain ⟨-, a1, a2⟩ := HB.out.at_ k hlt hlow
            have KT := Lib.hid (hq.ask (l.getD k (0, 0)).1 (l.getD k (0, 0)).2 HE2.out hup)
            have HC := Lib.hid hcells
            have HN0 := Lib.hid (cnt_up hlow)
            obtain ⟨gb, go, rfl, hgc⟩ := hst.cell (k := k) (by rw [hgl.out]; exact hlt)
            have HG := Lib.hid hgc
            have hcl2 := cnt_le l (k + 1)
            clear hcells c1 c2' hst hq hup hgc
            generalize (l.getD k (0, 0)).1 = kd at *
            generalize (l.getD k (0, 0)).2 = nn at *
            generalize gl.getD k 0 = gk at *
            dsimp only at KT
            go_wp2_with fail
            go_region_held3 (fun w' => w'.cell? ⟨b, off + k * 2, none⟩ = some (.int .i64 kd) ∧ w'.cell? ⟨b, off + k * 2 + 1, none⟩ = some (.int .i64 nn)) (go_keep)
              (first | (go_at_call 17; refine KT.out.mono ?_; rintro e w4 ⟨rfl, hst1⟩; obtain ⟨d3, d4⟩ := HC.out _ _ hst1; have d5 := HG.out _ _ hst1))
            have HS := Lib.hid hst1
            clear hst1 KT
            go_wp2_with fail
            go_roundw
            case rel => exact ⟨k + 1, by omega, by go_num, by rw [HN0.out]; go_num, HS.out⟩
            case measure => simp [intOf]; omega
        · obtain rfl : m = k := by omega
          have hen := HB.out.end_
          have KT := Lib.hid (hst.ask 1 1 HE2.out hen)
          have KR := Lib.hid (fun W (hW : BC2 w s2 D2 gl ev AG cG (cnt l m) W) => read_any W _ s2 ev (cnt l m) hW.lg)
          have hcl := cnt_le l m
          clear hst hen
          generalize cnt l m = q at *
          dsimp only at KT
          go_wp2_with fail
          with_reducible (refine Calls.mono KT.out ?_)
          rintro e w10 ⟨rfl, hst1⟩
          have HS := Lib.hid hst1
          have KR2 := Lib.hid (KR.out _ hst1)
          clear hst1 KT KR
          go_wp2_with fail
          with_reducible (refine Calls.mono KR2.out ?_)
          rintro e w11 ⟨rfl, rfl⟩
          go_wp2_with fail
          with_reducible (refine Calls.mono (KL.out _) ?_)
          rintro e w12 ⟨rfl, hb12⟩
          have HF := Lib.hid (show LivePost w (.returned (.bool true)) w12 from ⟨rfl, HS.out.bel.trans (hb12.mono (by have := HS.out.bel.size; omega))⟩)
          clear hb12
          go_wp2_with fail
          go_ret
          exact HF.out
end
end Go.Proofs.Ytbggoelfnolldaa
