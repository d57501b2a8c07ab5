/- THE WALK of DequeOrder: true, whatever comes in. The slices are nil or hold their texts. -/
import Derived.Test.YtopablmgadkppaaLive
import Derived.Test.YtopablmgadkppaaRefs2
namespace Go.Proofs.Ytopablmgadkppaa
open Go.RowKit
set_option linter.unusedVariables false

theorem lands_next {w0 W W' : World} {B g : Nat} {cb : Option Nat} {xs : List El} (hB : Below B w0 W) (hg : B ≤ g) (hc : ∀ b, cb = some b → B ≤ b) (hs : B ≤ W.heap.size) (h : Lands W g cb xs W') :
    ∃ cb', Deq W' g cb' xs ∧ (∀ b, cb' = some b → B ≤ b) ∧ Below B w0 W' ∧ B ≤ W'.heap.size := by
  obtain ⟨cb', hd, ho, hcb⟩ := h
  refine ⟨cb', hd, fun b hb => ?_, hB.trans (ho.below hs (fun i hi => ?_)), Nat.le_trans hs ho.size⟩
  · rcases hcb with rfl | ⟨b', rfl, h'⟩
    · exact hc b hb
    · cases hb; omega
  · rcases hi with rfl | hi
    · exact hg
    · exact hc i hi

theorem deq_new (w : World) : Deq (w.alloc (.cells #[.slice none 0 0, .int .i64 0, .int .i64 0] 27)) w.heap.size none [] :=
  ⟨#[], 0, 0, ⟨Blk.new _ _ _, fun b hb => (nomatch hb), rfl, fun _ => rfl, Nat.le_refl _, .inr ⟨rfl, rfl⟩, by omega⟩, Has.nil_ _ _ _⟩

/-- The Deque at g, made by the call, holds xs; nothing below B has turned. -/
def DS (B : Nat) (w0 : World) (g : Nat) (xs : List El) (w : World) : Prop := ∃ cb, Deq w g cb xs ∧ (∀ b, cb = some b → B ≤ b) ∧ Below B w0 w ∧ B ≤ w.heap.size

section
variable {B g : Nat} {w0 w : World} {xs : List El}
theorem DS.push (h : DS B w0 g xs w) (hg : B ≤ g) (hb : xs.length ≤ 10000) (x : El) : Calls Try.prog 9 #[.pointer (some ⟨g, 0, none⟩), V x] w fun e w' => e = .returned (.tuple #[]) ∧ DS B w0 g (xs ++ [x]) w' := by
  obtain ⟨cb, h1, h2, h3, h4⟩ := h
  exact (push_any w g cb xs h1 hb x).mono fun e w' ⟨he, hl⟩ => ⟨he, lands_next h3 hg h2 h4 hl⟩
theorem DS.shove (h : DS B w0 g xs w) (hg : B ≤ g) (hb : xs.length ≤ 10000) (x : El) : Calls Try.prog 10 #[.pointer (some ⟨g, 0, none⟩), V x] w fun e w' => e = .returned (.tuple #[]) ∧ DS B w0 g (x :: xs) w' := by
  obtain ⟨cb, h1, h2, h3, h4⟩ := h
  exact (shove_any w g cb xs h1 hb x).mono fun e w' ⟨he, hl⟩ => ⟨he, lands_next h3 hg h2 h4 hl⟩
theorem DS.pop (x : El) (h : DS B w0 g (x :: xs) w) (hg : B ≤ g) (hb : xs.length < 10000) : Calls Try.prog 12 #[.pointer (some ⟨g, 0, none⟩)] w fun e w' => e = .returned (.tuple #[V x, .bool true]) ∧ DS B w0 g xs w' := by
  obtain ⟨cb, h1, h2, h3, h4⟩ := h
  exact (pop_some w g cb xs x h1 hb).mono fun e w' ⟨he, hl⟩ => ⟨he, lands_next h3 hg h2 h4 hl⟩
theorem DS.pop0 (h : DS B w0 g [] w) (hg : B ≤ g) : Calls Try.prog 12 #[.pointer (some ⟨g, 0, none⟩)] w fun e w' => e = .returned (.tuple #[zero, .bool false]) ∧ DS B w0 g [] w' := by
  obtain ⟨cb, h1, h2, h3, h4⟩ := h
  exact (pop_none w g cb h1).mono fun e w' ⟨he, hl⟩ => ⟨he, lands_next h3 hg h2 h4 hl⟩
theorem DS.drop (x : El) (h : DS B w0 g (xs ++ [x]) w) (hg : B ≤ g) (hb : xs.length < 10000) : Calls Try.prog 15 #[.pointer (some ⟨g, 0, none⟩)] w fun e w' => e = .returned (.tuple #[V x, .bool true]) ∧ DS B w0 g xs w' := by
  obtain ⟨cb, h1, h2, h3, h4⟩ := h
  exact (drop_some w g cb xs x h1 hb).mono fun e w' ⟨he, hl⟩ => ⟨he, lands_next h3 hg h2 h4 hl⟩
theorem DS.drop0 (h : DS B w0 g [] w) (hg : B ≤ g) : Calls Try.prog 15 #[.pointer (some ⟨g, 0, none⟩)] w fun e w' => e = .returned (.tuple #[zero, .bool false]) ∧ DS B w0 g [] w' := by
  obtain ⟨cb, h1, h2, h3, h4⟩ := h
  exact (drop_none w g cb h1).mono fun e w' ⟨he, hl⟩ => ⟨he, lands_next h3 hg h2 h4 hl⟩
theorem DS.len (h : DS B w0 g xs w) : Calls Try.prog 19 #[.pointer (some ⟨g, 0, none⟩)] w (RetPost w (.int .i64 (xs.length : Int))) := by
  obtain ⟨cb, ⟨cur, L, fr, hd, _⟩, _⟩ := h
  exact len_any w g xs.length (by have h2 := hd.blk.cell 2; simpa using h2)
theorem DS.at_in (h : DS B w0 g xs w) (hb : xs.length ≤ 10000) (i : Nat) (hi : i < xs.length) : Calls Try.prog 17 #[.pointer (some ⟨g, 0, none⟩), .int .i64 (i : Int)] w (AtPost w (V (xs.getD i default)) true) := by
  obtain ⟨cb, ⟨cur, L, fr, hd, hx⟩, _⟩ := h
  exact Go.Proofs.Ytopablmgadkppaa.at_in w g cb cur L fr xs.length xs hd hx rfl hb i hi
theorem DS.at_out (h : DS B w0 g xs w) (hb : xs.length ≤ 10000) (i : Int) (hi : i < 0 ∨ (xs.length : Int) ≤ i) : Calls Try.prog 17 #[.pointer (some ⟨g, 0, none⟩), .int .i64 i] w (AtPost w zero false) := by
  obtain ⟨cb, ⟨cur, L, fr, hd, hx⟩, _⟩ := h
  exact Go.Proofs.Ytopablmgadkppaa.at_out w g cb cur L fr xs.length hd hb i hi
theorem DS.below (h : DS B w0 g xs w) : Below B w0 w ∧ B ≤ w.heap.size := by
  obtain ⟨_, _, _, h3, h4⟩ := h; exact ⟨h3, h4⟩
theorem DS.new (w : World) : DS w.heap.size w w.heap.size [] (w.alloc (.cells #[.slice none 0 0, .int .i64 0, .int .i64 0] 27)) :=
  ⟨none, deq_new w, fun b h => (nomatch h), (Below.refl _ _).alloc (Nat.le_refl _) _, by simp⟩
theorem DS.of_only (h : DS B w0 g xs w) {w' : World} {S : Nat → Prop} (ho : Only S w w') (hg : ¬ S g) (hS : ∀ b, S b → B ≤ b) (hne : ∀ cb, Deq w g cb xs → ∀ b, cb = some b → ¬ S b) : DS B w0 g xs w' := by
  obtain ⟨cb, h1, h2, h3, h4⟩ := h
  have hn := hne cb h1
  obtain ⟨cur, L, fr, hd, hx⟩ := h1
  exact ⟨cb, ⟨cur, L, fr, hd.only ho hg hn, hx⟩, h2, h3.trans (ho.below h4 hS), Nat.le_trans h4 ho.size⟩
end

/-- A slice of texts that came in. -/
def Texts (w : World) (A : Option Addr) (xs : List El) : Prop := ∀ k, k < xs.length → ∃ b off, A = some ⟨b, off, none⟩ ∧ b < w.heap.size ∧ w.cell? ⟨b, off + k, none⟩ = some (V (xs.getD k default))

theorem take_succ' {xs : List El} {k : Nat} (h : k < xs.length) : xs.take (k + 1) = xs.take k ++ [xs.getD k default] := by
  rw [List.take_succ_eq_append_getElem h]; simp [List.getD, h]
theorem drop_cons' {xs : List El} {k : Nat} (h : k < xs.length) : xs.drop k = xs.getD k default :: xs.drop (k + 1) := by
  rw [List.drop_eq_getElem_cons h]; simp [List.getD, h]

section
variable (A A2 : Option Addr) (c c2 : Nat) (gone l : List El) (back : Bool) (w : World)

set_option maxHeartbeats 800000 in
theorem order_big (n m : Nat) (h : 100 < n ∨ 100 < m) (hn : n ≤ maxLen) (hm : m ≤ maxLen) :
    Calls Try.prog 4 #[.slice A n c, .slice A2 m c2, .bool back] w (LivePost w) := by
  unfold maxLen at hn hm
  have KL := Lib.hid live_any
  by_cases h1 : 100 < n
  · clear h
    go_enter Try.func4, Try.ntmps4
    go_wp2_with fail
    with_reducible (refine Calls.mono (KL.out _) ?_)
    rintro e w5 hp
    obtain ⟨rfl, hb5⟩ := hp
    go_wp2_with fail
    go_ret
    exact ⟨rfl, hb5⟩
  · have h2 : 100 < m := by omega
    clear h
    go_enter Try.func4, Try.ntmps4
    go_wp2_with fail
    with_reducible (refine Calls.mono (KL.out _) ?_)
    rintro e w5 hp
    obtain ⟨rfl, hb5⟩ := hp
    go_wp2_with fail
    go_ret
    exact ⟨rfl, hb5⟩

set_option maxHeartbeats 800000 in
theorem order_core (hx : Texts w A gone) (hl : Texts w A2 l) (h1 : gone.length ≤ 100) (h2 : l.length ≤ 100) :
    Calls Try.prog 4 #[.slice A gone.length c, .slice A2 l.length c2, .bool back] w (LivePost w) := by
  have KL := Lib.hid live_any
  have HX := Lib.hid hx
  have HL := Lib.hid hl
  have HG1 := Lib.hid (fun k => take_succ' (xs := gone) (k := k))
  have HG2 := Lib.hid (fun k => drop_cons' (xs := gone) (k := k))
  have HG0 := Lib.hid (show gone.take gone.length = gone.drop 0 by simp)
  have HGn := Lib.hid (show gone.drop gone.length = [] by simp)
  have HL1 := Lib.hid (fun k => take_succ' (xs := l) (k := k))
  have HL2 := Lib.hid (fun k => drop_cons' (xs := l) (k := k))
  have HGl := Lib.hid (fun k => show (gone.take k).length ≤ k by simp [Nat.min_le_left])
  have HGd := Lib.hid (fun k => show (gone.drop k).length ≤ gone.length by simp)
  have HLl := Lib.hid (fun k => show (l.take k).length ≤ k by simp [Nat.min_le_left])
  have HLd := Lib.hid (fun k => show (l.drop k).length ≤ l.length by simp)
  have HLm := Lib.hid (show l.take l.length = l.drop 0 by simp)
  have HLn := Lib.hid (show l.drop l.length = [] by simp)
  have hN0 := DS.new w
  have hN := Lib.hid hN0
  clear hx hl hN0
  unfold Texts at HX HL
  generalize hn : gone.length = n at *
  generalize hm : l.length = m at *
  have HNn := Lib.hid hn
  have HMm := Lib.hid hm
  clear hn hm
  have q1 : decide ((100 : Int) < (n : Int)) = false := by simp; omega
  have q2 : decide ((100 : Int) < (m : Int)) = false := by simp; omega
  go_enter Try.func4, Try.ntmps4
  go_wp2_with fail
  go_loopw [8] (fun i wr => ∃ k : Nat, k ≤ n ∧ i = .int .i64 k ∧ DS w.heap.size w w.heap.size (gone.take k) wr) (fun i _ => n - (intOf i).toNat)
  case atStart => exact ⟨0, by omega, rfl, hN.out⟩
  case round =>
    obtain ⟨k, hk, rfl, hds⟩ := hrel
    by_cases hlt : k < n
    · obtain ⟨b, off, rfl, hb, hc⟩ := HX.out k hlt
      have hcr := ((hds.below).1.cell (p := ⟨b, off + k, none⟩) hb).trans hc
      have hg1 := HG1.out k hlt
      generalize gone.getD k default = x at *
      have HG := Lib.hid hg1
      have HP := Lib.hid (hds.push (Nat.le_refl _) (by have := HGl.out k; omega) x)
      clear hg1 hc hds
      go_wp2_with fail
      with_reducible (refine Calls.mono HP.out ?_)
      rintro e w1 hp
      obtain ⟨rfl, hd1⟩ := hp
      have HD := Lib.hid hd1
      clear hd1
      go_wp2_with fail
      go_roundw
      case rel => exact ⟨k + 1, by omega, by go_num, by rw [HG.out]; exact HD.out⟩
      case measure => simp [intOf]; omega
    · obtain rfl : n = k := by omega
      rw [HG0.out] at hds
      have HD := Lib.hid hds
      clear hds
      go_wp2_with fail
      obtain ⟨wo, rfl⟩ : ∃ wo : World, wo = wr := ⟨_, rfl⟩
      go_loopw [9] (fun i wr => ∃ k : Nat, k ≤ n ∧ i = .int .i64 k ∧ DS w.heap.size w w.heap.size (gone.drop k) wr) (fun i _ => n - (intOf i).toNat)
      case atStart => exact ⟨0, by omega, rfl, HD.out⟩
      case round =>
        obtain ⟨k, hk, rfl, hds⟩ := hrel
        by_cases hlt : k < n
        · have hg2 := HG2.out k hlt
          have hlen := HGd.out (k + 1)
          rw [hg2] at hds
          have HP := Lib.hid (hds.pop _ (Nat.le_refl _) (by omega))
          clear hg2 hds hlen
          go_wp2_with fail
          with_reducible (refine Calls.mono HP.out ?_)
          rintro e w1 hp
          obtain ⟨rfl, hd1⟩ := hp
          have HD1 := Lib.hid hd1
          clear hd1
          go_wp2_with fail
          go_roundw
          case rel => exact ⟨k + 1, by omega, by go_num, HD1.out⟩
          case measure => simp [intOf]; omega
        · obtain rfl : n = k := by omega
          rw [HGn.out] at hds
          have HD2 := Lib.hid hds
          clear hds
          go_wp2_with fail
          obtain ⟨wo2, rfl⟩ : ∃ wo2 : World, wo2 = wr := ⟨_, rfl⟩
          go_loopw [10] (fun i wr => ∃ k : Nat, k ≤ m ∧ i = .int .i64 k ∧ DS w.heap.size w w.heap.size (l.take k) wr) (fun i _ => m - (intOf i).toNat)
          case atStart => exact ⟨0, by omega, rfl, HD2.out⟩
          case round =>
            obtain ⟨k, hk, rfl, hds⟩ := hrel
            by_cases hlt : k < m
            · obtain ⟨b, off, rfl, hb, hc⟩ := HL.out k hlt
              have hcr := ((hds.below).1.cell (p := ⟨b, off + k, none⟩) hb).trans hc
              have hg1 := HL1.out k hlt
              generalize l.getD k default = x at *
              have HG := Lib.hid hg1
              have HP := Lib.hid (hds.push (Nat.le_refl _) (by have := HLl.out k; omega) x)
              clear hg1 hc hds
              go_wp2_with fail
              with_reducible (refine Calls.mono HP.out ?_)
              rintro e w1 hp
              obtain ⟨rfl, hd1⟩ := hp
              have HD1 := Lib.hid hd1
              clear hd1
              go_wp2_with fail
              go_roundw
              case rel => exact ⟨k + 1, by omega, by go_num, by rw [HG.out]; exact HD1.out⟩
              case measure => simp [intOf]; omega
            · obtain rfl : m = k := by omega
              have HD3 := Lib.hid hds
              clear hds
              cases back with
              | true =>
                go_wp2_with fail
                obtain ⟨wo3, rfl⟩ : ∃ wo3 : World, wo3 = wr := ⟨_, rfl⟩
                go_loopw [11] (fun i wr => ∃ k : Nat, k ≤ m ∧ i = .int .i64 k ∧ DS w.heap.size w w.heap.size (l.take (m - k)) wr) (fun i _ => m - (intOf i).toNat)
                case atStart => exact ⟨0, by omega, rfl, by rw [Nat.sub_zero]; exact HD3.out⟩
                case round =>
                  obtain ⟨k, hk, rfl, hds⟩ := hrel
                  by_cases hlt : k < m
                  · obtain ⟨b, off, rfl, hb, hc⟩ := HL.out (m - 1 - k) (by omega)
                    have hg1 := HL1.out (m - 1 - k) (by omega)
                    rw [show m - 1 - k + 1 = m - k by omega] at hg1
                    rw [hg1] at hds
                    have hsum : (m : Int) - 1 - (k : Int) = ((m - 1 - k : Nat) : Int) := by omega
                    generalize l.getD (m - 1 - k) default = x at *
                    have HP := Lib.hid (hds.drop x (Nat.le_refl _) (by have := HLl.out (m - 1 - k); omega))
                    have hcell : ∀ W, Below w.heap.size w W → W.cell? ⟨b, off + (m - 1 - k), none⟩ = some (V x) := fun W hW => (hW.cell (p := ⟨b, off + (m - 1 - k), none⟩) hb).trans hc
                    have HC := Lib.hid hcell
                    have HG := Lib.hid hg1
                    clear hg1 hc hds hcell hsum
                    go_wp2_with fail
                    with_reducible (refine Calls.mono HP.out ?_)
                    rintro e w1 hp
                    obtain ⟨rfl, hd1⟩ := hp
                    have hcr := HC.out w1 hd1.below.1
                    have HD4 := Lib.hid hd1
                    clear hd1
                    go_wp2_with fail
                    go_roundw
                    case rel => exact ⟨k + 1, by omega, by go_num, by rw [show m - (k + 1) = m - 1 - k by omega]; exact HD4.out⟩
                    case measure => simp [intOf]; omega
                  · obtain rfl : m = k := by omega
                    rw [Nat.sub_self, List.take_zero] at hds
                    have HP0 := Lib.hid (hds.pop0 (Nat.le_refl _))
                    clear hds
                    go_wp2_with fail
                    with_reducible (refine Calls.mono HP0.out ?_)
                    rintro e w1 hp
                    obtain ⟨rfl, hd1⟩ := hp
                    have HP1 := Lib.hid hd1.len
                    obtain ⟨hbl, hbs⟩ := hd1.below
                    rw [show (([] : List El).length : Int) = 0 from rfl] at HP1
                    clear hd1
                    go_wp2_with fail
                    with_reducible (refine Calls.mono HP1.out ?_)
                    rintro e w2 hp
                    obtain ⟨rfl, rfl⟩ := hp
                    go_wp2_with fail
                    with_reducible (refine Calls.mono (KL.out _) ?_)
                    rintro e w3 hp
                    obtain ⟨rfl, hb3⟩ := hp
                    go_wp2_with fail
                    go_ret
                    exact ⟨rfl, hbl.trans (hb3.mono hbs)⟩
              | false =>
                rw [HLm.out] at HD3
                go_wp2_with fail
                obtain ⟨wo3, rfl⟩ : ∃ wo3 : World, wo3 = wr := ⟨_, rfl⟩
                go_loopw [11] (fun i wr => ∃ k : Nat, k ≤ m ∧ i = .int .i64 k ∧ DS w.heap.size w w.heap.size (l.drop k) wr) (fun i _ => m - (intOf i).toNat)
                case atStart => exact ⟨0, by omega, rfl, HD3.out⟩
                case round =>
                  obtain ⟨k, hk, rfl, hds⟩ := hrel
                  by_cases hlt : k < m
                  · obtain ⟨b, off, rfl, hb, hc⟩ := HL.out k hlt
                    have hg2 := HL2.out k hlt
                    have hlen := HLd.out (k + 1)
                    rw [hg2] at hds
                    generalize l.getD k default = x at *
                    have HP := Lib.hid (hds.pop x (Nat.le_refl _) (by omega))
                    have hcell : ∀ W, Below w.heap.size w W → W.cell? ⟨b, off + k, none⟩ = some (V x) := fun W hW => (hW.cell (p := ⟨b, off + k, none⟩) hb).trans hc
                    have HC := Lib.hid hcell
                    clear hg2 hc hds hcell hlen
                    go_wp2_with fail
                    with_reducible (refine Calls.mono HP.out ?_)
                    rintro e w1 hp
                    obtain ⟨rfl, hd1⟩ := hp
                    have hcr := HC.out w1 hd1.below.1
                    have HD4 := Lib.hid hd1
                    clear hd1
                    go_wp2_with fail
                    go_roundw
                    case rel => exact ⟨k + 1, by omega, by go_num, HD4.out⟩
                    case measure => simp [intOf]; omega
                  · obtain rfl : m = k := by omega
                    rw [HLn.out] at hds
                    have HP0 := Lib.hid (hds.pop0 (Nat.le_refl _))
                    clear hds
                    go_wp2_with fail
                    with_reducible (refine Calls.mono HP0.out ?_)
                    rintro e w1 hp
                    obtain ⟨rfl, hd1⟩ := hp
                    have HP1 := Lib.hid hd1.len
                    obtain ⟨hbl, hbs⟩ := hd1.below
                    rw [show (([] : List El).length : Int) = 0 from rfl] at HP1
                    clear hd1
                    go_wp2_with fail
                    with_reducible (refine Calls.mono HP1.out ?_)
                    rintro e w2 hp
                    obtain ⟨rfl, rfl⟩ := hp
                    go_wp2_with fail
                    with_reducible (refine Calls.mono (KL.out _) ?_)
                    rintro e w3 hp
                    obtain ⟨rfl, hb3⟩ := hp
                    go_wp2_with fail
                    go_ret
                    exact ⟨rfl, hbl.trans (hb3.mono hbs)⟩

theorem order_walk (hx : Texts w A gone) (hl : Texts w A2 l) (h1 : gone.length ≤ maxLen) (h2 : l.length ≤ maxLen) :
    Calls Try.prog 4 #[.slice A gone.length c, .slice A2 l.length c2, .bool back] w (LivePost w) := by
  by_cases h : 100 < gone.length ∨ 100 < l.length
  · exact order_big A A2 c c2 back w _ _ h h1 h2
  · exact order_core A A2 c c2 gone l back w hx hl (by omega) (by omega)
end
end Go.Proofs.Ytopablmgadkppaa
