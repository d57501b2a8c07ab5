/- THE WALK of Shove. At most 10000 are there. -/
import Derived.Test.YtopablmgadkppaaWalkD
namespace Go.Proofs.Ytopablmgadkppaa
open Go.RowKit
set_option linter.unusedVariables false

/-- The end of Shove. -/
theorem shove_end {w w1 : World} {g b k q p : Nat} {cb : Option Nat} {cur : Array Value} {L fr n : Nat} {xs : List El} {x : El} (hd : Dq 27 9 w1 g (some b) cur L fr n) (hx : Has cur L fr (vals xs)) (hn : xs.length = n) (hlt : n < L)
    (honly : Only (· = g) w w1) (hcb : some b = cb ∨ ∃ b', some b = some b' ∧ w.heap.size ≤ b') (hp : (fr + (L - 1)) % L = p) :
    Lands w g cb (x :: xs) (((((w1.drewN k).setCell ⟨g, 1, none⟩ (.int .i64 (p : Int))).drewN q).setCell ⟨b, p, none⟩ (V x)).setCell ⟨g, 2, none⟩ (.int .i64 ((n : Int) + 1))) := by
  obtain ⟨hne, hrow⟩ := hd.row b rfl
  subst hp
  have hpl : (fr + (L - 1)) % L < L := Nat.mod_lt _ (by omega)
  have hg := ((((hd.blk.drewN k).set_ 1 (.int .i64 (((fr + (L - 1)) % L : Nat) : Int))).drewN q).far (p := ⟨b, (fr + (L - 1)) % L, none⟩) (Ne.symm hne) (V x)).set_ 2 (.int .i64 ((n : Int) + 1))
  have hb := ((((hrow.drewN k).far (p := ⟨g, 1, none⟩) hne (.int .i64 (((fr + (L - 1)) % L : Nat) : Int))).drewN q).set_ ((fr + (L - 1)) % L) (V x)).far (p := ⟨g, 2, none⟩) hne (.int .i64 ((n : Int) + 1))
  refine ⟨some b, ⟨cur.setIfInBounds ((fr + (L - 1)) % L) (V x), L, (fr + (L - 1)) % L, ⟨?_, fun b' hb' => ?_, ?_, fun h => (nomatch h), ?_, .inl hpl, hd.big⟩, ?_⟩, ?_, hcb⟩
  · have e : ((x :: xs).length : Int) = (n : Int) + 1 := by simp [hn]
    rw [e]; exact hg
  · cases hb'; exact ⟨hne, hb⟩
  · rw [Array.size_setIfInBounds]; exact hd.size
  · rw [List.length_cons, hn]; omega
  · exact hx.shove hd.size (by rw [vals_len]; omega) (V x)
  · have ho : Only (Its g cb) w w1 := honly.mono (fun i h => .inl h)
    have hbS : Its g cb b ∨ w.heap.size ≤ b := by
      rcases hcb with h | ⟨b', h, h'⟩
      · exact .inl (.inr h.symm)
      · cases h; exact .inr h'
    exact ((((ho.drewN k).setCell (p := ⟨g, 1, none⟩) (.inl (.inl rfl)) _).drewN q).setCell (p := ⟨b, (fr + (L - 1)) % L, none⟩) hbS _).setCell (p := ⟨g, 2, none⟩) (.inl (.inl rfl)) _

section
variable (w : World) (g : Nat) (cb : Option Nat) (xs : List El)

set_option maxHeartbeats 800000 in
theorem shove_any (hd0 : Deq w g cb xs) (hb : xs.length ≤ 10000) (x : El) :
    Calls Try.prog 10 #[.pointer (some ⟨g, 0, none⟩), V x] w (PushPost w g cb (x :: xs)) := by
  obtain ⟨cur0, L0, fr0, hd, hx⟩ := hd0
  have KR := Lib.hid (room_any w g cb cur0 L0 fr0 xs.length xs hd hx rfl hb)
  clear hd hx
  generalize hN : xs.length = n at *
  have HN := Lib.hid hN
  clear hN
  go_enter Try.func10, Try.ntmps10
  go_wp2_with fail
  with_reducible (refine Calls.mono KR.out ?_)
  rintro e w1 hp
  obtain ⟨rfl, cb', cur, L, fr, hd, hx, hlt, honly, hcb⟩ := hp
  obtain ⟨b, rfl⟩ : ∃ b, cb' = some b := by
    cases cb' with
    | none => have := hd.none_ rfl; omega
    | some b => exact ⟨b, rfl⟩
  have h0 := hd.blk.cell 0
  have h1 := hd.blk.cell 1
  have h2 := hd.blk.cell 2
  simp only [List.getElem?_toArray, List.getElem?_cons_zero, List.getElem?_cons_succ, Option.map_some] at h0 h1 h2
  obtain ⟨hne, hrow⟩ := hd.row b rfl
  obtain ⟨p, hpe⟩ : ∃ p, (fr + (L - 1)) % L = p := ⟨_, rfl⟩
  have hp : p < L := by rw [← hpe]; exact Nat.mod_lt _ (by omega)
  have c3 : ∃ u, w1.cell? ⟨b, p, none⟩ = some u := ⟨_, (hrow.cell p).trans (Array.getElem?_eq_getElem (by rw [hd.size]; exact hp))⟩
  obtain ⟨u, c3⟩ := c3
  have f3 := hrow.frozen p
  have f2 := hd.blk.frozen 2
  have f1 := hd.blk.frozen 1
  have hbig := hd.big
  have hfr : fr < L := by rcases hd.fle with h | h <;> omega
  have KP := Lib.hid (fun W h0 h1 => place_q g (some ⟨b, 0, none⟩) L fr (L - 1) p W (by omega) (by omega) (by omega) hpe h0 h1)
  rw [show ((L - 1 : Nat) : Int) = (L : Int) - 1 by omega] at KP
  have i3 : (0 : Int) ≤ (p : Int) := by omega
  have i4 : (p : Int) < (L : Int) := by omega
  have HD := Lib.hid hd
  have HX := Lib.hid hx
  have HO := Lib.hid honly
  have HC := Lib.hid hcb
  have HP := Lib.hid hpe
  have hgl := hd.blk.lt
  clear hd hx hrow honly hcb hpe
  go_wp2_with fail
  with_reducible (refine Calls.mono (KP.out _ h0 h1) ?_)
  rintro e w2 hp2
  obtain ⟨rfl, nq, rfl⟩ := hp2
  go_wp2_with fail
  have HE := Lib.hid (fun q => shove_end (k := nq) (q := q) (x := x) HD.out HX.out HN.out hlt HO.out HC.out HP.out)
  have hg := ((HD.out.blk.drewN nq).set_ 1 (.int .i64 (p : Int)))
  have hr := (((HD.out.row b rfl).2.drewN nq).far (p := ⟨g, 1, none⟩) hne (.int .i64 (p : Int)))
  have hsz := HD.out.size
  generalize (w1.drewN nq).setCell ⟨g, 1, none⟩ (.int .i64 (p : Int)) = w2 at *
  clear h0 h1 h2 c3 f3 f2 f1 KP
  have h0 := hg.cell 0
  have h1 := hg.cell 1
  have h2 := hg.cell 2
  have f2 := hg.frozen 2
  have f3 := hr.frozen p
  have c3 := hr.cell p
  rw [Array.getElem?_eq_getElem (by rw [hsz]; exact hp)] at c3
  generalize cur[p]'(by rw [hsz]; exact hp) = u at *
  simp at h0 h1 h2
  clear hg hr hsz
  go_region_held3 (fun w' => w'.cell? ⟨g, 0, none⟩ = some (.slice (some ⟨b, 0, none⟩) L L) ∧ w'.cell? ⟨g, 1, none⟩ = some (.int .i64 (p : Int)) ∧ w'.cell? ⟨g, 2, none⟩ = some (.int .i64 (n : Int))) (go_keep) (fail)
  go_wp2
  exact bodyPost_end (results_none rfl _ _ _) rfl ⟨rfl, HE.out _⟩
end
end Go.Proofs.Ytopablmgadkppaa
