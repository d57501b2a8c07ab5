/- THE WALK of CauseTells: true, whatever comes in. -/
import Derived.Test.YthaofkhjhmcknaaWalkO
namespace Go.Proofs.Ythaofkhjhmcknaa
open Go.RowKit
set_option linter.unusedVariables false

set_option maxHeartbeats 400000 in
theorem tells_big (A : Option Addr) (n c : Nat) (a b : Int) (w : World) (h : 40 < n) : Calls Try.prog 3 #[.slice A n c, .int .i64 a, .int .i64 b] w (BoolPost w true) := by
  have KL := Lib.hid live_any
  go_enter Try.func3, Try.ntmps3
  go_wp2_with fail
  with_reducible (refine Calls.mono (KL.out _) ?_)
  rintro e w1 ⟨rfl, hb1⟩
  go_wp2_with fail
  go_ret
  exact ⟨rfl, hb1⟩

/-- Are both there, and two? -/
def both (n : Nat) (a b : Int) : Bool := decide (0 ≤ a) && decide (0 ≤ b) && decide (a < n) && decide (b < n) && decide (a ≠ b)
theorem free_both (l : List Hap) (n : Nat) (a b : Int) : free l n a b = (both n a b && !good l a b && !good l b a) := by
  unfold free both isIn
  congr 2
  rw [Bool.eq_iff_iff]
  simp
  omega

/-- A contract that hands back a slice of ints of its own, in whatever world comes of w by growth. -/
def IntsAt (w W : World) (Q : List Int → Prop) (e : Ending) (w' : World) : Prop := ∃ L A' c', Q L ∧ e = .returned (.slice A' L.length c') ∧ Rd w' A' (ints L) ∧ Below W.heap.size W w' ∧ Below w.heap.size w w'
theorem grown_path {w W : World} {f : FuncId} {args : Array Value} {l : List Hap} {a b : Int} (hW : Below w.heap.size w W) (h : Calls Try.prog f args W (PathPost W l a b)) : Calls Try.prog f args W (IntsAt w W (PathOf l a b)) :=
  h.mono fun e w' ⟨L, hL, A', c', he, hv, _, hb⟩ => ⟨L, A', c', hL, he, Rd.of_vec hv (by decide), hb, hW.trans (hb.mono hW.size)⟩

set_option maxRecDepth 100000 in
set_option maxHeartbeats 4000000 in
theorem tells_core (l : List Hap) (n : Nat) (hl : l.length = n) (hn : n ≤ 40) (A : Option Addr) (c : Nat) (a b : Int) (w : World) (h : Hs w A l) :
    Calls Try.prog 3 #[.slice A n c, .int .i64 a, .int .i64 b] w (BoolPost w true) := by
  have KL := Lib.hid (fun W (hW : Below w.heap.size w W) => grown_bool hW (live_any W))
  have Kab := Lib.hid (fun W (hW : Below w.heap.size w W) => before_at l n hl (by omega) A c a b w h W hW)
  have Rab := Lib.hid (fun W (hW : Below w.heap.size w W) => refBefore_at l n hl (by omega) A c a b w h W hW)
  have Rba := Lib.hid (fun W (hW : Below w.heap.size w W) => refBefore_at l n hl (by omega) A c b a w h W hW)
  have Fab := Lib.hid (fun W (hW : Below w.heap.size w W) => free_at l n hl (by omega) A c a b w h W hW)
  have Pab := Lib.hid (fun W (hW : Below w.heap.size w W) => grown_path hW (path_any l n hl (by omega) A c a b W (h.below hW)))
  have Qab := Lib.hid (fun W (hW : Below w.heap.size w W) => grown_path hW (refPath_any l n hl (by omega) A c a (b.toNat + 1) b W (Nat.lt_succ_self _) (h.below hW)))
  rw [free_both] at Fab
  have B0 := Below.refl w.heap.size w
  have HN := Lib.hid hl
  have q1 : decide ((40 : Int) < (n : Int)) = false := by simp; omega
  have hbo := show both n a b = (decide (0 ≤ a) && decide (0 ≤ b) && decide (a < n) && decide (b < n) && decide (a ≠ b)) from rfl
  clear h hl
  generalize good l a b = p1 at *
  generalize good l b a = p2 at *
  have HBO := Lib.hid hbo
  clear hbo
  generalize both n a b = f at *
  have hne1 : a ≠ b → (a != b) = true := fun h => by simpa using h
  have hne2 : a = b → (a != b) = false := fun h => by simp [h]
  by_cases h1 : 0 ≤ a
  · by_cases h2 : 0 ≤ b
    · by_cases h3 : a < n
      · by_cases h4 : b < n
        · by_cases h5 : a = b
          · have h6 := hne2 h5
            clear hne1 hne2
            obtain rfl : f = false := by rw [HBO.out]; simp; omega
            clear HBO h5
            cases p1 <;> cases p2
            all_goals
              go_enter Try.func3, Try.ntmps3
              go_wp2_with fail
              with_reducible (refine Calls.mono (Rab.out _ B0) ?_)
              rintro e w1 ⟨rfl, hb1⟩
              go_wp2_with fail
              with_reducible (refine Calls.mono (Rba.out _ hb1) ?_)
              rintro e w2 ⟨rfl, hb2⟩
              go_wp2_with fail
              with_reducible (refine Calls.mono (Kab.out _ hb2) ?_)
              rintro e w3 ⟨rfl, hb3⟩
              go_wp2_with fail
              with_reducible (refine Calls.mono (Fab.out _ hb3) ?_)
              rintro e w4 ⟨rfl, hb4⟩
              go_wp2_with fail
              with_reducible (refine Calls.mono (Pab.out _ hb4) ?_)
              rintro e w5 ⟨L, A1, c1, hL, rfl, hr1, -, hb5⟩
              have HL1 := Lib.hid hL
              have HR1 := Lib.hid hr1
              clear hL hr1
              go_wp2_with fail
              with_reducible (refine Calls.mono (Qab.out _ hb5) ?_)
              rintro e w6 ⟨M, A2, c2, hM, rfl, hr2, hg6, hb6⟩
              obtain rfl : L = M := HL1.out.uniq hM
              have KS := Lib.hid (same_any L A1 A2 c1 c2 w6 (HR1.out.below hg6) hr2 (by have := HL1.out.len; rw [HN.out] at this; omega))
              have HB6 := Lib.hid hb6
              clear HL1 HR1 hM hr2 hg6
              generalize L.length = m at *
              go_wp2_with fail
              with_reducible (refine Calls.mono KS.out ?_)
              rintro e w7 ⟨rfl, hs7⟩
              have hb7 := HB6.out.trans (hs7.mono HB6.out.size)
              clear KS hs7
              go_wp2_with fail
              with_reducible (refine Calls.mono (KL.out _ hb7) ?_)
              rintro e w8 ⟨rfl, hb8⟩
              go_wp2_with fail
              go_ret
              exact ⟨rfl, hb8⟩
          · have h6 := hne1 h5
            clear hne1 hne2
            obtain rfl : f = true := by rw [HBO.out]; simp; omega
            clear HBO h5
            cases p1 <;> cases p2
            all_goals
              go_enter Try.func3, Try.ntmps3
              go_wp2_with fail
              with_reducible (refine Calls.mono (Rab.out _ B0) ?_)
              rintro e w1 ⟨rfl, hb1⟩
              go_wp2_with fail
              with_reducible (refine Calls.mono (Rba.out _ hb1) ?_)
              rintro e w2 ⟨rfl, hb2⟩
              go_wp2_with fail
              with_reducible (refine Calls.mono (Kab.out _ hb2) ?_)
              rintro e w3 ⟨rfl, hb3⟩
              go_wp2_with fail
              with_reducible (refine Calls.mono (Fab.out _ hb3) ?_)
              rintro e w4 ⟨rfl, hb4⟩
              go_wp2_with fail
              with_reducible (refine Calls.mono (Pab.out _ hb4) ?_)
              rintro e w5 ⟨L, A1, c1, hL, rfl, hr1, -, hb5⟩
              have HL1 := Lib.hid hL
              have HR1 := Lib.hid hr1
              clear hL hr1
              go_wp2_with fail
              with_reducible (refine Calls.mono (Qab.out _ hb5) ?_)
              rintro e w6 ⟨M, A2, c2, hM, rfl, hr2, hg6, hb6⟩
              obtain rfl : L = M := HL1.out.uniq hM
              have KS := Lib.hid (same_any L A1 A2 c1 c2 w6 (HR1.out.below hg6) hr2 (by have := HL1.out.len; rw [HN.out] at this; omega))
              have HB6 := Lib.hid hb6
              clear HL1 HR1 hM hr2 hg6
              generalize L.length = m at *
              go_wp2_with fail
              with_reducible (refine Calls.mono KS.out ?_)
              rintro e w7 ⟨rfl, hs7⟩
              have hb7 := HB6.out.trans (hs7.mono HB6.out.size)
              clear KS hs7
              go_wp2_with fail
              with_reducible (refine Calls.mono (KL.out _ hb7) ?_)
              rintro e w8 ⟨rfl, hb8⟩
              go_wp2_with fail
              go_ret
              exact ⟨rfl, hb8⟩
        · clear hne1 hne2
          obtain rfl : f = false := by rw [HBO.out]; simp; omega
          clear HBO
          cases p1 <;> cases p2
          all_goals
            go_enter Try.func3, Try.ntmps3
            go_wp2_with fail
            with_reducible (refine Calls.mono (Rab.out _ B0) ?_)
            rintro e w1 ⟨rfl, hb1⟩
            go_wp2_with fail
            with_reducible (refine Calls.mono (Rba.out _ hb1) ?_)
            rintro e w2 ⟨rfl, hb2⟩
            go_wp2_with fail
            with_reducible (refine Calls.mono (Kab.out _ hb2) ?_)
            rintro e w3 ⟨rfl, hb3⟩
            go_wp2_with fail
            with_reducible (refine Calls.mono (Fab.out _ hb3) ?_)
            rintro e w4 ⟨rfl, hb4⟩
            go_wp2_with fail
            with_reducible (refine Calls.mono (Pab.out _ hb4) ?_)
            rintro e w5 ⟨L, A1, c1, hL, rfl, hr1, -, hb5⟩
            have HL1 := Lib.hid hL
            have HR1 := Lib.hid hr1
            clear hL hr1
            go_wp2_with fail
            with_reducible (refine Calls.mono (Qab.out _ hb5) ?_)
            rintro e w6 ⟨M, A2, c2, hM, rfl, hr2, hg6, hb6⟩
            obtain rfl : L = M := HL1.out.uniq hM
            have KS := Lib.hid (same_any L A1 A2 c1 c2 w6 (HR1.out.below hg6) hr2 (by have := HL1.out.len; rw [HN.out] at this; omega))
            have HB6 := Lib.hid hb6
            clear HL1 HR1 hM hr2 hg6
            generalize L.length = m at *
            go_wp2_with fail
            with_reducible (refine Calls.mono KS.out ?_)
            rintro e w7 ⟨rfl, hs7⟩
            have hb7 := HB6.out.trans (hs7.mono HB6.out.size)
            clear KS hs7
            go_wp2_with fail
            with_reducible (refine Calls.mono (KL.out _ hb7) ?_)
            rintro e w8 ⟨rfl, hb8⟩
            go_wp2_with fail
            go_ret
            exact ⟨rfl, hb8⟩
      · clear hne1 hne2
        obtain rfl : f = false := by rw [HBO.out]; simp; omega
        clear HBO
        cases p1 <;> cases p2
        all_goals
          go_enter Try.func3, Try.ntmps3
          go_wp2_with fail
          with_reducible (refine Calls.mono (Rab.out _ B0) ?_)
          rintro e w1 ⟨rfl, hb1⟩
          go_wp2_with fail
          with_reducible (refine Calls.mono (Rba.out _ hb1) ?_)
          rintro e w2 ⟨rfl, hb2⟩
          go_wp2_with fail
          with_reducible (refine Calls.mono (Kab.out _ hb2) ?_)
          rintro e w3 ⟨rfl, hb3⟩
          go_wp2_with fail
          with_reducible (refine Calls.mono (Fab.out _ hb3) ?_)
          rintro e w4 ⟨rfl, hb4⟩
          go_wp2_with fail
          with_reducible (refine Calls.mono (Pab.out _ hb4) ?_)
          rintro e w5 ⟨L, A1, c1, hL, rfl, hr1, -, hb5⟩
          have HL1 := Lib.hid hL
          have HR1 := Lib.hid hr1
          clear hL hr1
          go_wp2_with fail
          with_reducible (refine Calls.mono (Qab.out _ hb5) ?_)
          rintro e w6 ⟨M, A2, c2, hM, rfl, hr2, hg6, hb6⟩
          obtain rfl : L = M := HL1.out.uniq hM
          have KS := Lib.hid (same_any L A1 A2 c1 c2 w6 (HR1.out.below hg6) hr2 (by have := HL1.out.len; rw [HN.out] at this; omega))
          have HB6 := Lib.hid hb6
          clear HL1 HR1 hM hr2 hg6
          generalize L.length = m at *
          go_wp2_with fail
          with_reducible (refine Calls.mono KS.out ?_)
          rintro e w7 ⟨rfl, hs7⟩
          have hb7 := HB6.out.trans (hs7.mono HB6.out.size)
          clear KS hs7
          go_wp2_with fail
          with_reducible (refine Calls.mono (KL.out _ hb7) ?_)
          rintro e w8 ⟨rfl, hb8⟩
          go_wp2_with fail
          go_ret
          exact ⟨rfl, hb8⟩
    · clear hne1 hne2
      obtain rfl : f = false := by rw [HBO.out]; simp; omega
      clear HBO
      cases p1 <;> cases p2
      all_goals
        go_enter Try.func3, Try.ntmps3
        go_wp2_with fail
        with_reducible (refine Calls.mono (Rab.out _ B0) ?_)
        rintro e w1 ⟨rfl, hb1⟩
        go_wp2_with fail
        with_reducible (refine Calls.mono (Rba.out _ hb1) ?_)
        rintro e w2 ⟨rfl, hb2⟩
        go_wp2_with fail
        with_reducible (refine Calls.mono (Kab.out _ hb2) ?_)
        rintro e w3 ⟨rfl, hb3⟩
        go_wp2_with fail
        with_reducible (refine Calls.mono (Fab.out _ hb3) ?_)
        rintro e w4 ⟨rfl, hb4⟩
        go_wp2_with fail
        with_reducible (refine Calls.mono (Pab.out _ hb4) ?_)
        rintro e w5 ⟨L, A1, c1, hL, rfl, hr1, -, hb5⟩
        have HL1 := Lib.hid hL
        have HR1 := Lib.hid hr1
        clear hL hr1
        go_wp2_with fail
        with_reducible (refine Calls.mono (Qab.out _ hb5) ?_)
        rintro e w6 ⟨M, A2, c2, hM, rfl, hr2, hg6, hb6⟩
        obtain rfl : L = M := HL1.out.uniq hM
        have KS := Lib.hid (same_any L A1 A2 c1 c2 w6 (HR1.out.below hg6) hr2 (by have := HL1.out.len; rw [HN.out] at this; omega))
        have HB6 := Lib.hid hb6
        clear HL1 HR1 hM hr2 hg6
        generalize L.length = m at *
        go_wp2_with fail
        with_reducible (refine Calls.mono KS.out ?_)
        rintro e w7 ⟨rfl, hs7⟩
        have hb7 := HB6.out.trans (hs7.mono HB6.out.size)
        clear KS hs7
        go_wp2_with fail
        with_reducible (refine Calls.mono (KL.out _ hb7) ?_)
        rintro e w8 ⟨rfl, hb8⟩
        go_wp2_with fail
        go_ret
        exact ⟨rfl, hb8⟩
  · clear hne1 hne2
    obtain rfl : f = false := by rw [HBO.out]; simp; omega
    clear HBO
    cases p1 <;> cases p2
    all_goals
      go_enter Try.func3, Try.ntmps3
      go_wp2_with fail
      with_reducible (refine Calls.mono (Rab.out _ B0) ?_)
      rintro e w1 ⟨rfl, hb1⟩
      go_wp2_with fail
      with_reducible (refine Calls.mono (Rba.out _ hb1) ?_)
      rintro e w2 ⟨rfl, hb2⟩
      go_wp2_with fail
      with_reducible (refine Calls.mono (Kab.out _ hb2) ?_)
      rintro e w3 ⟨rfl, hb3⟩
      go_wp2_with fail
      with_reducible (refine Calls.mono (Fab.out _ hb3) ?_)
      rintro e w4 ⟨rfl, hb4⟩
      go_wp2_with fail
      with_reducible (refine Calls.mono (Pab.out _ hb4) ?_)
      rintro e w5 ⟨L, A1, c1, hL, rfl, hr1, -, hb5⟩
      have HL1 := Lib.hid hL
      have HR1 := Lib.hid hr1
      clear hL hr1
      go_wp2_with fail
      with_reducible (refine Calls.mono (Qab.out _ hb5) ?_)
      rintro e w6 ⟨M, A2, c2, hM, rfl, hr2, hg6, hb6⟩
      obtain rfl : L = M := HL1.out.uniq hM
      have KS := Lib.hid (same_any L A1 A2 c1 c2 w6 (HR1.out.below hg6) hr2 (by have := HL1.out.len; rw [HN.out] at this; omega))
      have HB6 := Lib.hid hb6
      clear HL1 HR1 hM hr2 hg6
      generalize L.length = m at *
      go_wp2_with fail
      with_reducible (refine Calls.mono KS.out ?_)
      rintro e w7 ⟨rfl, hs7⟩
      have hb7 := HB6.out.trans (hs7.mono HB6.out.size)
      clear KS hs7
      go_wp2_with fail
      with_reducible (refine Calls.mono (KL.out _ hb7) ?_)
      rintro e w8 ⟨rfl, hb8⟩
      go_wp2_with fail
      go_ret
      exact ⟨rfl, hb8⟩
end Go.Proofs.Ythaofkhjhmcknaa
