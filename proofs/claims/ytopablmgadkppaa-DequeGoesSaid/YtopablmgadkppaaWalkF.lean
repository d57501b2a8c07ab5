/- THE WALKS of Pop and Drop. At most 10000 are there. -/
import Derived.Test.YtopablmgadkppaaWalkE
namespace Go.Proofs.Ytopablmgadkppaa
open Go.RowKit
set_option linter.unusedVariables false

def TakePost (w : World) (g : Nat) (cb : Option Nat) (v : Value) (ok : Bool) (xs : List El) (e : Ending) (w' : World) : Prop :=
  e = .returned (.tuple #[v, .bool ok]) ∧ Lands w g cb xs w'

theorem lands_drew {w : World} {g : Nat} {cb : Option Nat} {xs : List El} (h : Deq w g cb xs) (k : Nat) : Lands w g cb xs (w.drewN k) := by
  obtain ⟨cur, L, fr, hd, hx⟩ := h
  exact ⟨cb, ⟨cur, L, fr, hd.only ((Only.refl (fun _ => False) _).drewN k) (fun h => h) (fun _ _ h => h), hx⟩, (Only.refl _ _).drewN k, .inl rfl⟩

/-- The end of Pop. -/
theorem pop_end {w : World} {g b j k q p : Nat} {cur : Array Value} {L fr n : Nat} {xs : List El} {x : El} (hd : Dq 27 9 w g (some b) cur L fr n) (hx : Has cur L fr (vals (x :: xs))) (hn : (x :: xs).length = n)
    (hp : (fr + 1) % L = p) :
    Lands w g (some b) xs ((((((w.drewN j).setCell ⟨b, fr, none⟩ zero).drewN k).setCell ⟨g, 1, none⟩ (.int .i64 (p : Int))).drewN q).setCell ⟨g, 2, none⟩ (.int .i64 ((n : Int) - 1))) := by
  obtain ⟨hne, hrow⟩ := hd.row b rfl
  have hnL := hd.nle
  rw [List.length_cons] at hn
  have hfr : fr < L := by rcases hd.fle with h | h <;> omega
  subst hp
  have hpl : (fr + 1) % L < L := Nat.mod_lt _ (by omega)
  have hg := (((((hd.blk.drewN j).far (p := ⟨b, fr, none⟩) (Ne.symm hne) zero).drewN k).set_ 1 (.int .i64 (((fr + 1) % L : Nat) : Int))).drewN q).set_ 2 (.int .i64 ((n : Int) - 1))
  have hb := (((((hrow.drewN j).set_ fr zero).drewN k).far (p := ⟨g, 1, none⟩) hne (.int .i64 (((fr + 1) % L : Nat) : Int))).drewN q).far (p := ⟨g, 2, none⟩) hne (.int .i64 ((n : Int) - 1))
  refine ⟨some b, ⟨cur.setIfInBounds fr zero, L, (fr + 1) % L, ⟨?_, fun b' hb' => ?_, ?_, fun h => (nomatch h), ?_, .inl hpl, hd.big⟩, ?_⟩, ?_, .inl rfl⟩
  · have e : (xs.length : Int) = (n : Int) - 1 := by omega
    rw [e]; exact hg
  · cases hb'; exact ⟨hne, hb⟩
  · rw [Array.size_setIfInBounds]; exact hd.size
  · omega
  · exact Has.pop (x := V x) (xs := vals xs) hx hfr (by rw [vals_len]; omega) zero
  · exact (((((Only.refl (Its g (some b)) w).drewN j).setCell (p := ⟨b, fr, none⟩) (.inl (.inr rfl)) _).drewN k).setCell (p := ⟨g, 1, none⟩) (.inl (.inl rfl)) _ |>.drewN q).setCell (p := ⟨g, 2, none⟩) (.inl (.inl rfl)) _

section
variable (w : World) (g : Nat) (cb : Option Nat) (xs : List El)

set_option maxHeartbeats 800000 in
theorem pop_none (hd0 : Deq w g cb []) :
    Calls Try.prog 12 #[.pointer (some ⟨g, 0, none⟩)] w (TakePost w g cb zero false []) := by
  have hL := Lib.hid (lands_drew hd0)
  obtain ⟨cur, L, fr, hd, hx⟩ := hd0
  have KA := Lib.hid (at_out w g cb cur L fr 0 hd (by omega) 0 (.inr (by omega)))
  clear hd hx
  go_enter Try.func12, Try.ntmps12
  go_wp2_with fail
  with_reducible (refine Calls.mono KA.out ?_)
  rintro e w1 hp
  obtain ⟨rfl, k, rfl⟩ := hp
  go_wp2_with fail
  go_ret2
  exact ⟨rfl, hL.out k⟩

set_option maxHeartbeats 800000 in
theorem pop_some (x : El) (hd0 : Deq w g cb (x :: xs)) (hb : xs.length < 10000) :
    Calls Try.prog 12 #[.pointer (some ⟨g, 0, none⟩)] w (TakePost w g cb (V x) true xs) := by
  obtain ⟨cur, L, fr, hd, hx⟩ := hd0
  have hnL := hd.nle
  rw [List.length_cons] at hnL
  obtain ⟨b, rfl⟩ : ∃ b, cb = some b := by
    cases cb with
    | none => have := hd.none_ rfl; omega
    | some b => exact ⟨b, rfl⟩
  have hn1 : (x :: xs).length = xs.length + 1 := List.length_cons
  rw [hn1] at hd
  have KA := Lib.hid (at_in w g (some b) cur L fr (xs.length + 1) (x :: xs) hd hx hn1 (by omega) 0 (by omega))
  rw [show (x :: xs).getD 0 default = x from rfl] at KA
  have hfr : fr < L := by rcases hd.fle with h | h <;> omega
  have hbig := hd.big
  obtain ⟨p, hpe⟩ : ∃ p, (fr + 1) % L = p := ⟨_, rfl⟩
  obtain ⟨n, hn⟩ : ∃ n, xs.length + 1 = n := ⟨_, rfl⟩
  rw [hn] at hd hn1 hnL
  have HE := Lib.hid (fun j k q => pop_end (j := j) (k := k) (q := q) hd hx hn1 hpe)
  have KP := Lib.hid (fun W h0 h1 => place_q g (some ⟨b, 0, none⟩) L fr 1 p W (by omega) (by omega) (by omega) hpe h0 h1)
  rw [show ((1 : Nat) : Int) = 1 from rfl] at KP
  rw [show ((0 : Nat) : Int) = 0 from rfl] at KA
  obtain ⟨hne, hrow⟩ := hd.row b rfl
  have hblk := hd.blk
  have hsz := hd.size
  have hnb : 1 ≤ n ∧ n ≤ 10000 := by omega
  clear hd hx hn1 hpe hn
  obtain ⟨hnb1, hnb2⟩ := hnb
  have i3 : (0 : Int) ≤ (fr : Int) := by omega
  have i4 : (fr : Int) < (L : Int) := by omega
  go_enter Try.func12, Try.ntmps12
  go_wp2_with fail
  with_reducible (refine Calls.mono KA.out ?_)
  rintro e w1 hp
  obtain ⟨rfl, j, rfl⟩ := hp
  have h0 := (hblk.drewN j).cell 0
  have h1 := (hblk.drewN j).cell 1
  have h2 := (hblk.drewN j).cell 2
  have c3 := (hrow.drewN j).cell fr
  have f3 := (hrow.drewN j).frozen fr
  rw [Array.getElem?_eq_getElem (by rw [hsz]; exact hfr)] at c3
  generalize cur[fr]'(by rw [hsz]; exact hfr) = u at *
  simp at h0 h1 h2 c3 f3
  go_wp2_with fail
  go_region_held3 (fun w' => w'.cell? ⟨g, 0, none⟩ = some (.slice (some ⟨b, 0, none⟩) L L) ∧ w'.cell? ⟨g, 1, none⟩ = some (.int .i64 (fr : Int))) (go_keep) (fail)
  go_wp2_with fail
  have HE2 := Lib.hid (fun k q => HE.out (j + 1) k q)
  have hg := ((hblk.drewN (j + 1)).far (p := ⟨b, fr, none⟩) (Ne.symm hne) zero)
  generalize (w.drewN (j + 1)).setCell ⟨b, fr, none⟩ zero = w2 at *
  clear h0 h1 h2 c3 f3 HE KA
  have h0 := hg.cell 0
  have h1 := hg.cell 1
  have h2 := hg.cell 2
  have f1 := hg.frozen 1
  have f2 := hg.frozen 2
  simp at h0 h1 h2
  with_reducible (refine Calls.mono (KP.out _ h0 h1) ?_)
  rintro e w3 hp2
  obtain ⟨rfl, k, rfl⟩ := hp2
  go_wp2
  go_ret2
  exact ⟨rfl, HE2.out _ 0⟩
end
end Go.Proofs.Ytopablmgadkppaa
