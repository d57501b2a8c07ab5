/- THE WALK of DequePlays: true, whatever comes in. The slice is nil or holds its acts. -/
import Derived.Test.YtopablmgadkppaaPlaysB
namespace Go.Proofs.Ytopablmgadkppaa
open Go.RowKit
set_option linter.unusedVariables false

theorem PS.init {B : Nat} {w0 w1 : World} (hb : Below B w0 w1) (hB : B ≤ w1.heap.size) :
    PS B w0 w1.heap.size (w1.heap.size + 1) none [] [] none 0 ((w1.alloc (.cells #[.slice none 0 0, .int .i64 0, .int .i64 0] 27)).alloc (.cells #[zero, .bool false] 29)) := by
  have hd := (deq_new w1).only ((Only.refl (fun _ => False) _).alloc (.cells #[zero, .bool false] 29)) (fun h => h) (fun _ _ h => h)
  refine ⟨none, hd, fun b h => (nomatch h), (hb.alloc hB _).alloc (by simp; omega) _, by simp; omega, Vec.nil_ _ _ _, fun b h => (nomatch h), ⟨ByteArray.mk #[], false, ?_⟩, fun p hp => (nomatch hp)⟩
  have := Blk.new (w1.alloc (.cells #[.slice none 0 0, .int .i64 0, .int .i64 0] 27)) 29 #[zero, .bool false]
  rw [World.size_alloc] at this
  exact this

theorem nil_or_snoc (xs : List El) : xs = [] ∨ ∃ ys y, xs = ys ++ [y] := by
  rcases List.eq_nil_or_concat xs with h | ⟨a, b, h⟩
  · exact .inl h
  · exact .inr ⟨a, b, by rw [h, List.concat_eq_append]⟩

section
variable (A : Option Addr) (c : Nat) (l : List (Int × El × Int)) (w : World)

set_option maxRecDepth 100000 in
set_option maxHeartbeats 4000000 in
theorem plays_walk (hl : Acts w A l) (hm : l.length ≤ maxLen) :
    Calls Try.prog 3 #[.slice A l.length c] w (LivePost w) := by
  have KL := Lib.hid live_any
  have KG := Lib.hid (long_any w A c l hl hm)
  have HL := Lib.hid hl
  unfold Acts at HL
  obtain ⟨i0, hi, hz0, hz1, hz2⟩ := info_parts el_info
  clear hl
  unfold maxLen at hm
  generalize hn : l.length = m at *
  have HN := Lib.hid hn
  clear hn
  go_enter Try.func3, Try.ntmps3
  go_wp2_with fail
  with_reducible (refine Calls.mono KG.out ?_)
  rintro e w1 hp
  obtain ⟨bl, rfl, hbl, rfl⟩ := hp
  cases bl with
  | true =>
    go_wp2_with fail
    with_reducible (refine Calls.mono (KL.out _) ?_)
    rintro e w5 hp
    obtain ⟨rfl, hb5⟩ := hp
    go_wp2_with fail
    go_ret
    exact ⟨rfl, hb5⟩
  | false =>
    have h200 := hbl rfl
    clear hbl
    go_wp2_with fail
    with_reducible (refine Calls.mono (KL.out _) ?_)
    rintro e w1 hp
    obtain ⟨rfl, hb1⟩ := hp
    have hPS := PS.init hb1 hb1.size
    have HPS := Lib.hid hPS
    have hBg := hb1.size
    have HB := Lib.hid hb1
    clear hPS hb1
    go_wp2_with fail
    generalize w1.heap.size = g at *
    have hgg : g ≠ g + 1 := by omega
    have hBgg : w.heap.size ≤ g + 1 := by omega
    go_loopw [4, 6] (fun v i wr => ∃ (k : Nat) (A' : Option Addr) (cap' : Nat) (xs : List El), k ≤ m ∧ i = .int .i64 k ∧ v = .slice A' xs.length cap' ∧ xs.length ≤ k ∧ PS w.heap.size w g (g + 1) none xs xs A' cap' wr) (fun _ i _ => m - (intOf i).toNat)
    case atStart => exact ⟨0, none, 0, [], by omega, rfl, rfl, Nat.le_refl _, HPS.out⟩
    case round =>
      obtain ⟨k, A', cap', xs, hk, rfl, rfl, hxk, hps⟩ := hrel
      have hxb : xs.length ≤ 10000 := by omega
      by_cases hlt : k < m
      · obtain ⟨b, off, rfl, hb, c0, c1, c2⟩ := HL.out k hlt
        generalize (l.getD k default).1 = kd at *
        generalize (l.getD k default).2.1 = x at *
        generalize (l.getD k default).2.2 = nn at *
        have d0 : wr.cell? ⟨b, off + k * 3, none⟩ = some (.int .i64 kd) := ((hps.bel).1.cell (p := ⟨b, off + k * 3, none⟩) hb).trans c0
        have d1 : wr.cell? ⟨b, off + k * 3 + 1, none⟩ = some (V x) := ((hps.bel).1.cell (p := ⟨b, off + k * 3 + 1, none⟩) hb).trans c1
        have d2 : wr.cell? ⟨b, off + k * 3 + 2, none⟩ = some (.int .i64 nn) := ((hps.bel).1.cell (p := ⟨b, off + k * 3 + 2, none⟩) hb).trans c2
        have HP := Lib.hid (hps.with_ #[.int .i64 kd, V x, .int .i64 nn])
        have hwr := hps.bel.2
        clear c0 c1 c2 hps
        by_cases k0 : kd = 0
        · subst k0
          have HQ := Lib.hid (HP.out.push hBg hgg hxb x)
          go_wp2_with fail
          with_reducible (refine Calls.mono HQ.out ?_)
          rintro e w2 hp
          obtain ⟨rfl, hp2⟩ := hp
          have HP2 := Lib.hid hp2
          have ha := hp2.act _ rfl
          have a1 := ha.cell 1
          have a2 := ha.cell 2
          simp at a1 a2
          clear hp2 ha
          go_wp2_with (at_builtin; refine wpList_append_vec _ rfl _ _ 25 rfl 9 i0 zero 1 16 Try.underlying25 hi hz0 hz1 hz2 rfl (by decide) _ _ _ _ rfl (HP2.out.vec.alloc _) ⟨w2.heap.size, 0, none⟩ 1 1 [V x] rfl rfl ?c1 ?c2 ?c0 ?c3 ?c4 ?_)
          case c1 => exact cell_one_new _ _ _
          case c2 => intro u hu; simp at hu; subst hu; rfl
          case c0 => decide
          case c3 => unfold maxLen; omega
          case c4 => omega
          intro A3 cap3 w3 hv3 ho3 hA3
          have hp3 := HP2.out.append hv3 ho3 (by simpa using hA3)
          have HP3 := Lib.hid hp3.forget
          have HL3 := Lib.hid hp3.len
          rw [show ((xs ++ [x]).length : Int) = (xs.length : Int) + 1 by simp] at HL3
          clear hp3 hv3 ho3 hA3 a1 a2
          go_wp2_with fail
          with_reducible (refine Calls.mono HL3.out ?_)
          rintro e w4 hp
          obtain ⟨rfl, rfl⟩ := hp
          go_wp2_with fail
          go_roundw
          case rel => exact ⟨k + 1, some A3, cap3, xs ++ [x], by omega, by go_num, by rw [List.length_append]; rfl, by rw [List.length_append]; simp; omega, HP3.out⟩
          case measure => simp [intOf]; omega
        by_cases k1 : kd = 1
        · subst k1
          have HQ := Lib.hid (HP.out.shove hBg hgg hxb x)
          go_wp2_with fail
          with_reducible (refine Calls.mono HQ.out ?_)
          rintro e w2 hp
          obtain ⟨rfl, hp2⟩ := hp
          have HQ2 := Lib.hid (hp2.ahead hxb x)
          have a1 := (hp2.act _ rfl).cell 1
          simp at a1
          clear hp2
          go_wp2_with fail
          with_reducible (refine Calls.mono HQ2.out ?_)
          rintro e w3 hp
          obtain ⟨A3, cap3, rfl, hp3⟩ := hp
          have HP5 := Lib.hid hp3.forget
          have HL3 := Lib.hid hp3.len
          clear hp3 a1
          go_wp2_with fail
          with_reducible (refine Calls.mono HL3.out ?_)
          rintro e w6 hp
          obtain ⟨rfl, rfl⟩ := hp
          go_wp2_with fail
          go_roundw
          case rel => exact ⟨k + 1, A3, cap3, (x :: xs), by omega, by go_num, rfl, by rw [List.length_cons]; omega, HP5.out⟩
          case measure => simp [intOf]; omega
        by_cases k2 : kd = 2
        · subst k2
          cases xs with
          | nil =>
            have HQ := Lib.hid (HP.out.pop0 hBg hgg)
            go_wp2_with fail
            with_reducible (refine Calls.mono HQ.out ?_)
            rintro e w2 hp
            obtain ⟨rfl, hp2⟩ := hp
            have HQ2 := Lib.hid (hp2.first0)
            clear hp2
            go_wp2_with fail
            with_reducible (refine Calls.mono HQ2.out ?_)
            rintro e w3 hp
            obtain ⟨A3, cap3, rfl, hp3⟩ := hp
            have HP3 := Lib.hid (hp3.note hBgg hgg (ByteArray.mk #[]) false)
            obtain ⟨y0, ok0, c0, c1, f0, f1⟩ := hp3.cells
            obtain ⟨y1, ok1, e0, e1, _, _⟩ := HP3.out.cells
            clear hp3 e0 e1
            have HT := Lib.hid (fun W => took_any W (ByteArray.mk #[]) false)
            go_wp2_with fail
            with_reducible (refine Calls.mono (HT.out _) ?_)
            rintro e w4 hp
            obtain ⟨rfl, hb4⟩ := hp
            have hp4 := HP3.out.below hb4
            have HP5 := Lib.hid hp4.forget
            have HL3 := Lib.hid hp4.len
            clear hp4 hb4
            go_wp2_with fail
            with_reducible (refine Calls.mono HL3.out ?_)
            rintro e w6 hp
            obtain ⟨rfl, rfl⟩ := hp
            go_wp2_with fail
            go_roundw
            case rel => exact ⟨k + 1, A3, cap3, [], by omega, by go_num, rfl, by first | omega | (simp; omega) | simp, HP5.out⟩
            case measure => simp [intOf]; omega
          | cons y ys =>
            rw [List.length_cons] at hxb hxk
            have HQ := Lib.hid (HP.out.pop y hBg hgg (by omega))
            go_wp2_with fail
            with_reducible (refine Calls.mono HQ.out ?_)
            rintro e w2 hp
            obtain ⟨rfl, hp2⟩ := hp
            have HQ2 := Lib.hid (hp2.first y (by omega))
            clear hp2
            go_wp2_with fail
            with_reducible (refine Calls.mono HQ2.out ?_)
            rintro e w3 hp
            obtain ⟨A3, cap3, rfl, hp3⟩ := hp
            have HP3 := Lib.hid (hp3.note hBgg hgg y true)
            obtain ⟨y0, ok0, c0, c1, f0, f1⟩ := hp3.cells
            obtain ⟨y1, ok1, e0, e1, _, _⟩ := HP3.out.cells
            clear hp3 e0 e1
            have HT := Lib.hid (fun W => took_any W y true)
            go_wp2_with fail
            with_reducible (refine Calls.mono (HT.out _) ?_)
            rintro e w4 hp
            obtain ⟨rfl, hb4⟩ := hp
            have hp4 := HP3.out.below hb4
            have HP5 := Lib.hid hp4.forget
            have HL3 := Lib.hid hp4.len
            clear hp4 hb4
            go_wp2_with fail
            with_reducible (refine Calls.mono HL3.out ?_)
            rintro e w6 hp
            obtain ⟨rfl, rfl⟩ := hp
            go_wp2_with fail
            go_roundw
            case rel => exact ⟨k + 1, A3, cap3, ys, by omega, by go_num, rfl, by first | omega | (simp; omega) | simp, HP5.out⟩
            case measure => simp [intOf]; omega
        by_cases k3 : kd = 3
        · subst k3
          rcases nil_or_snoc xs with rfl | ⟨ys, y, rfl⟩
          case inl =>
            have HQ := Lib.hid (HP.out.drop0 hBg hgg)
            go_wp2_with fail
            with_reducible (refine Calls.mono HQ.out ?_)
            rintro e w2 hp
            obtain ⟨rfl, hp2⟩ := hp
            have HQ2 := Lib.hid (hp2.last0)
            clear hp2
            go_wp2_with fail
            with_reducible (refine Calls.mono HQ2.out ?_)
            rintro e w3 hp
            obtain ⟨A3, cap3, rfl, hp3⟩ := hp
            have HP3 := Lib.hid (hp3.note hBgg hgg (ByteArray.mk #[]) false)
            obtain ⟨y0, ok0, c0, c1, f0, f1⟩ := hp3.cells
            obtain ⟨y1, ok1, e0, e1, _, _⟩ := HP3.out.cells
            clear hp3 e0 e1
            have HT := Lib.hid (fun W => took_any W (ByteArray.mk #[]) false)
            go_wp2_with fail
            with_reducible (refine Calls.mono (HT.out _) ?_)
            rintro e w4 hp
            obtain ⟨rfl, hb4⟩ := hp
            have hp4 := HP3.out.below hb4
            have HP5 := Lib.hid hp4.forget
            have HL3 := Lib.hid hp4.len
            clear hp4 hb4
            go_wp2_with fail
            with_reducible (refine Calls.mono HL3.out ?_)
            rintro e w6 hp
            obtain ⟨rfl, rfl⟩ := hp
            go_wp2_with fail
            go_roundw
            case rel => exact ⟨k + 1, A3, cap3, [], by omega, by go_num, rfl, by first | omega | (simp; omega) | simp, HP5.out⟩
            case measure => simp [intOf]; omega
          case inr =>
            have hle : (ys ++ [y]).length = ys.length + 1 := by simp
            rw [hle] at hxb hxk
            rw [hle]
            clear hle
            have HQ := Lib.hid (HP.out.drop y hBg hgg (by omega))
            go_wp2_with fail
            with_reducible (refine Calls.mono HQ.out ?_)
            rintro e w2 hp
            obtain ⟨rfl, hp2⟩ := hp
            have HQ2 := Lib.hid (hp2.last y (by omega))
            clear hp2
            go_wp2_with fail
            with_reducible (refine Calls.mono HQ2.out ?_)
            rintro e w3 hp
            obtain ⟨A3, cap3, rfl, hp3⟩ := hp
            have HP3 := Lib.hid (hp3.note hBgg hgg y true)
            obtain ⟨y0, ok0, c0, c1, f0, f1⟩ := hp3.cells
            obtain ⟨y1, ok1, e0, e1, _, _⟩ := HP3.out.cells
            clear hp3 e0 e1
            have HT := Lib.hid (fun W => took_any W y true)
            go_wp2_with fail
            with_reducible (refine Calls.mono (HT.out _) ?_)
            rintro e w4 hp
            obtain ⟨rfl, hb4⟩ := hp
            have hp4 := HP3.out.below hb4
            have HP5 := Lib.hid hp4.forget
            have HL3 := Lib.hid hp4.len
            clear hp4 hb4
            go_wp2_with fail
            with_reducible (refine Calls.mono HL3.out ?_)
            rintro e w6 hp
            obtain ⟨rfl, rfl⟩ := hp
            go_wp2_with fail
            go_roundw
            case rel => exact ⟨k + 1, A3, cap3, ys, by omega, by go_num, rfl, by first | omega | (simp; omega) | simp, HP5.out⟩
            case measure => simp [intOf]; omega
        have e0 : (kd == 0) = false := by simp [k0]
        have e1 : (kd == 1) = false := by simp [k1]
        have e2 : (kd == 2) = false := by simp [k2]
        have e3 : (kd == 3) = false := by simp [k3]
        clear k0 k1 k2 k3
        have hact := (HP.out.act _ rfl).cell 2
        simp at hact
        by_cases hin : 0 ≤ nn ∧ nn < (xs.length : Int)
        · obtain ⟨nn', rfl⟩ := Int.eq_ofNat_of_zero_le hin.1
          have hin2 : nn' < xs.length := by omega
          have HQ := Lib.hid (HP.out.at_in hxb nn' hin2)
          have HQ2 := Lib.hid (fun W hv => atref_in W A' cap' xs hv hxb nn' hin2)
          clear hin
          generalize xs.getD nn' default = y at *
          go_wp2_with fail
          with_reducible (refine Calls.mono HQ.out ?_)
          rintro e w2 hp
          obtain ⟨rfl, q, rfl⟩ := hp
          have HP2 := Lib.hid (HP.out.drewN q)
          have HR := Lib.hid (HQ2.out _ HP2.out.vec)
          go_wp2_with fail
          with_reducible (refine Calls.mono HR.out ?_)
          rintro e w3 hp
          obtain ⟨rfl, hb3⟩ := hp
          have HP3 := Lib.hid (HP2.out.below hb3)
          have HT := Lib.hid (fun W => took_any W y true)
          clear hb3
          go_wp2_with fail
          with_reducible (refine Calls.mono (HT.out _) ?_)
          rintro e w4 hp
          obtain ⟨rfl, hb4⟩ := hp
          have hp4 := HP3.out.below hb4
          have HP5 := Lib.hid hp4.forget
          have HL3 := Lib.hid hp4.len
          clear hp4 hb4
          go_wp2_with fail
          with_reducible (refine Calls.mono HL3.out ?_)
          rintro e w6 hp
          obtain ⟨rfl, rfl⟩ := hp
          go_wp2_with fail
          go_roundw
          case rel => exact ⟨k + 1, A', cap', xs, by omega, by go_num, rfl, by omega, HP5.out⟩
          case measure => simp [intOf]; omega
        · have hin2 : nn < 0 ∨ (xs.length : Int) ≤ nn := by omega
          have HQ := Lib.hid (HP.out.at_out hxb nn hin2)
          have HQ2 := Lib.hid (fun W (_ : Vec W 9 1 A' xs.length cap' (vals xs)) => atref_out W A' xs.length cap' hxb nn hin2)
          clear hin hin2
          go_wp2_with fail
          with_reducible (refine Calls.mono HQ.out ?_)
          rintro e w2 hp
          obtain ⟨rfl, q, rfl⟩ := hp
          have HP2 := Lib.hid (HP.out.drewN q)
          have HR := Lib.hid (HQ2.out _ HP2.out.vec)
          go_wp2_with fail
          with_reducible (refine Calls.mono HR.out ?_)
          rintro e w3 hp
          obtain ⟨rfl, hb3⟩ := hp
          have HP3 := Lib.hid (HP2.out.below hb3)
          have HT := Lib.hid (fun W => took_any W (ByteArray.mk #[]) false)
          clear hb3
          go_wp2_with fail
          with_reducible (refine Calls.mono (HT.out _) ?_)
          rintro e w4 hp
          obtain ⟨rfl, hb4⟩ := hp
          have hp4 := HP3.out.below hb4
          have HP5 := Lib.hid hp4.forget
          have HL3 := Lib.hid hp4.len
          clear hp4 hb4
          go_wp2_with fail
          with_reducible (refine Calls.mono HL3.out ?_)
          rintro e w6 hp
          obtain ⟨rfl, rfl⟩ := hp
          go_wp2_with fail
          go_roundw
          case rel => exact ⟨k + 1, A', cap', xs, by omega, by go_num, rfl, by omega, HP5.out⟩
          case measure => simp [intOf]; omega
      · obtain rfl : m = k := by omega
        have HP := Lib.hid hps
        clear hps
        go_wp2_with fail
        obtain ⟨wo, rfl⟩ : ∃ wo : World, wo = wr := ⟨_, rfl⟩
        go_loopw [14] (fun i wr => ∃ j : Nat, j ≤ xs.length ∧ i = .int .i64 j ∧ PS w.heap.size w g (g + 1) none xs xs A' cap' wr) (fun i _ => xs.length - (intOf i).toNat)
        case atStart => exact ⟨0, by omega, rfl, HP.out⟩
        case round =>
          obtain ⟨j, hj, rfl, hps⟩ := hrel
          by_cases hlt2 : j < xs.length
          · obtain ⟨b, off, rfl, hb, hc⟩ := hps.vec.cell (by omega)
            have hcj := hc j (V (xs.getD j default)) (by rw [vals_at hlt2]; simp [List.getD, hlt2])
            have HQ := Lib.hid (hps.at_in hxb j hlt2)
            have HP1 := Lib.hid hps
            generalize xs.getD j default = y at *
            clear hc hps
            go_wp2_with fail
            with_reducible (refine Calls.mono HQ.out ?_)
            rintro e w2 hp
            obtain ⟨rfl, q, rfl⟩ := hp
            go_wp2_with fail
            go_roundw
            case rel => exact ⟨j + 1, by omega, by go_num, HP1.out.drewN q⟩
            case measure => simp [intOf]; omega
          · obtain rfl : xs.length = j := by omega
            obtain ⟨hbl, hbs⟩ := hps.bel
            clear hps
            go_wp2_with fail
            with_reducible (refine Calls.mono (KL.out _) ?_)
            rintro e w5 hp
            obtain ⟨rfl, hb5⟩ := hp
            go_wp2_with fail
            go_ret
            exact ⟨rfl, hbl.trans (hb5.mono hbs)⟩
end
end Go.Proofs.Ytopablmgadkppaa
