/- THE WALK of Drop. At most 10000 are there. -/
import Derived.Test.YtopablmgadkppaaWalkF
namespace Go.Proofs.Ytopablmgadkppaa
open Go.RowKit
set_option linter.unusedVariables false

/-- The end of Drop. -/
theorem drop_end {w : World} {g b j k p : Nat} {cur : Array Value} {L fr n : Nat} {xs : List El} {x : El} (hd : Dq 27 9 w g (some b) cur L fr n) (hx : Has cur L fr (vals (xs ++ [x]))) (hn : xs.length + 1 = n)
    (hp : (fr + xs.length) % L = p) :
    Lands w g (some b) xs ((((w.drewN j).setCell ⟨g, 2, none⟩ (.int .i64 ((n : Int) - 1))).drewN k).setCell ⟨b, p, none⟩ zero) := by
  obtain ⟨hne, hrow⟩ := hd.row b rfl
  have hnL := hd.nle
  have hfr : fr < L := by rcases hd.fle with h | h <;> omega
  subst hp
  have hpl : (fr + xs.length) % L < L := Nat.mod_lt _ (by omega)
  have hg := (((hd.blk.drewN j).set_ 2 (.int .i64 ((n : Int) - 1))).drewN k).far (p := ⟨b, (fr + xs.length) % L, none⟩) (Ne.symm hne) zero
  have hb := (((hrow.drewN j).far (p := ⟨g, 2, none⟩) hne (.int .i64 ((n : Int) - 1))).drewN k).set_ ((fr + xs.length) % L) zero
  refine ⟨some b, ⟨cur.setIfInBounds ((fr + xs.length) % L) zero, L, fr, ⟨?_, fun b' hb' => ?_, ?_, fun h => (nomatch h), ?_, .inl hfr, hd.big⟩, ?_⟩, ?_, .inl rfl⟩
  · have e : (xs.length : Int) = (n : Int) - 1 := by omega
    rw [e]; exact hg
  · cases hb'; exact ⟨hne, hb⟩
  · rw [Array.size_setIfInBounds]; exact hd.size
  · omega
  · rw [vals_append] at hx
    have := Has.drop (x := V x) (xs := vals xs) hx (by rw [vals_len]; omega) zero
    rw [vals_len] at this
    exact this
  · exact ((((Only.refl (Its g (some b)) w).drewN j).setCell (p := ⟨g, 2, none⟩) (.inl (.inl rfl)) _).drewN k).setCell (p := ⟨b, (fr + xs.length) % L, none⟩) (.inl (.inr rfl)) _

section
variable (w : World) (g : Nat) (cb : Option Nat) (xs : List El)

set_option maxHeartbeats 800000 in
theorem drop_none (hd0 : Deq w g cb []) :
    Calls Try.prog 15 #[.pointer (some ⟨g, 0, none⟩)] w (TakePost w g cb zero false []) := by
  have hL := Lib.hid (lands_drew hd0)
  obtain ⟨cur, L, fr, hd, hx⟩ := hd0
  have KA := Lib.hid (at_out w g cb cur L fr 0 hd (by omega) (-1) (.inl (by omega)))
  have KN := Lib.hid (len_any w g 0 (by have h2 := hd.blk.cell 2; simpa using h2))
  rw [show ((0 : Nat) : Int) = 0 from rfl] at KN
  clear hd hx
  go_enter Try.func15, Try.ntmps15
  go_wp2_with fail
  with_reducible (refine Calls.mono KN.out ?_)
  rintro e w1 hp
  obtain ⟨rfl, rfl⟩ := hp
  go_wp2_with fail
  with_reducible (refine Calls.mono KA.out ?_)
  rintro e w1 hp
  obtain ⟨rfl, k, rfl⟩ := hp
  go_wp2_with fail
  go_ret2
  exact ⟨rfl, hL.out k⟩

set_option maxHeartbeats 800000 in
theorem drop_some (x : El) (hd0 : Deq w g cb (xs ++ [x])) (hb : xs.length < 10000) :
    Calls Try.prog 15 #[.pointer (some ⟨g, 0, none⟩)] w (TakePost w g cb (V x) true xs) := by
  obtain ⟨cur, L, fr, hd, hx⟩ := hd0
  have hn1 : (xs ++ [x]).length = xs.length + 1 := by simp
  rw [hn1] at hd
  have hnL := hd.nle
  obtain ⟨b, rfl⟩ : ∃ b, cb = some b := by
    cases cb with
    | none => have := hd.none_ rfl; omega
    | some b => exact ⟨b, rfl⟩
  have KA := Lib.hid (at_in w g (some b) cur L fr (xs.length + 1) (xs ++ [x]) hd hx hn1 (by omega) xs.length (by omega))
  rw [show (xs ++ [x]).getD xs.length default = x by simp] at KA
  have hfr : fr < L := by rcases hd.fle with h | h <;> omega
  have hbig := hd.big
  obtain ⟨p, hpe⟩ : ∃ p, (fr + xs.length) % L = p := ⟨_, rfl⟩
  have hpl : p < L := by rw [← hpe]; exact Nat.mod_lt _ (by omega)
  obtain ⟨n, hn⟩ : ∃ n, xs.length + 1 = n := ⟨_, rfl⟩
  have HE := Lib.hid (fun j k => drop_end (j := j) (k := k) (hn ▸ hd) hx hn hpe)
  have KP := Lib.hid (fun W h0 h1 => place_q g (some ⟨b, 0, none⟩) L fr xs.length p W (by omega) (by omega) (by omega) hpe h0 h1)
  rw [hn] at hd hn1 hnL
  rw [show ((xs.length : Nat) : Int) = (n : Int) - 1 by omega] at KA KP
  obtain ⟨hne, hrow⟩ := hd.row b rfl
  have hblk := hd.blk
  have hsz := hd.size
  have KN := Lib.hid (len_any w g n (by have h2 := hd.blk.cell 2; simpa using h2))
  have hnb : 1 ≤ n ∧ n ≤ 10000 := by omega
  clear hd hx hn1 hpe hn
  obtain ⟨hnb1, hnb2⟩ := hnb
  have i3 : (0 : Int) ≤ (p : Int) := by omega
  have i4 : (p : Int) < (L : Int) := by omega
  go_enter Try.func15, Try.ntmps15
  go_wp2_with fail
  with_reducible (refine Calls.mono KN.out ?_)
  rintro e w1 hp
  obtain ⟨rfl, rfl⟩ := hp
  go_wp2_with fail
  with_reducible (refine Calls.mono KA.out ?_)
  rintro e w1 hp
  obtain ⟨rfl, j, rfl⟩ := hp
  have h2 := (hblk.drewN j).cell 2
  have f2 := (hblk.drewN j).frozen 2
  simp at h2 f2
  go_wp2_with fail
  have HE2 := Lib.hid (fun k => HE.out j k)
  have hg := ((hblk.drewN j).set_ 2 (.int .i64 ((n : Int) - 1)))
  have hr := ((hrow.drewN j).far (p := ⟨g, 2, none⟩) hne (.int .i64 ((n : Int) - 1)))
  generalize (w.drewN j).setCell ⟨g, 2, none⟩ (.int .i64 ((n : Int) - 1)) = w2 at *
  clear h2 f2 HE KA KN
  have h0 := hg.cell 0
  have h1 := hg.cell 1
  have h2 := hg.cell 2
  have c3 := hr.cell p
  have f3 := hr.frozen p
  rw [Array.getElem?_eq_getElem (by rw [hsz]; exact hpl)] at c3
  generalize cur[p]'(by rw [hsz]; exact hpl) = u at *
  simp at h0 h1 h2 c3 f3
  go_region_held3 (fun w' => w'.cell? ⟨g, 0, none⟩ = some (.slice (some ⟨b, 0, none⟩) L L) ∧ w'.cell? ⟨g, 1, none⟩ = some (.int .i64 (fr : Int)) ∧ w'.cell? ⟨g, 2, none⟩ = some (.int .i64 ((n : Int) - 1))) (go_keep)
    (first | (go_at_call 27; refine (KP.out _ ?_ ?_).mono ?_; (simp [*]); (simp [*]); rintro e w' ⟨rfl, nq2, rfl⟩))
  go_wp2
  go_ret2
  exact ⟨rfl, HE2.out _⟩
end
end Go.Proofs.Ytopablmgadkppaa
