/- THE WALKS of Len, At, Push. At most 10000 are there. -/
import Derived.Test.YtopablmgadkppaaWalkB
import Derived.StillTailTactics
namespace Go.Proofs.Ytopablmgadkppaa
open Go.RowKit
set_option linter.unusedVariables false

theorem place_q (g : Nat) (A : Option Addr) (L from_ i p : Nat) (w : World)
    (hL : 0 < L) (hb : from_ + i ≤ 4611686018427387904) (hL2 : L ≤ 4611686018427387904) (hp : (from_ + i) % L = p)
    (h0 : w.cell? ⟨g, 0, none⟩ = some (.slice A L L)) (h1 : w.cell? ⟨g, 1, none⟩ = some (.int .i64 (from_ : Int))) :
    Calls Try.prog 27 #[.pointer (some ⟨g, 0, none⟩), .int .i64 (i : Int)] w fun e w' => e = .returned (.int .i64 p) ∧ ∃ n, w' = w.drewN n :=
  place_any g A L from_ i p w hL hb hL2 hp h0 h1

def RetPost (w : World) (v : Value) (e : Ending) (w' : World) : Prop := e = .returned v ∧ w = w'

set_option maxHeartbeats 400000 in
theorem len_any (w : World) (g n : Nat) (h2 : w.cell? ⟨g, 2, none⟩ = some (.int .i64 (n : Int))) :
    Calls Try.prog 19 #[.pointer (some ⟨g, 0, none⟩)] w (RetPost w (.int .i64 (n : Int))) := by
  go_enter Try.func19, Try.ntmps19
  go_wp2
  go_ret
  exact ⟨rfl, rfl⟩

def AtPost (w : World) (v : Value) (ok : Bool) (e : Ending) (w' : World) : Prop := e = .returned (.tuple #[v, .bool ok]) ∧ ∃ k, w' = w.drewN k

section
variable (w : World) (g : Nat) (cb : Option Nat) (cur : Array Value) (L fr n : Nat) (xs : List El)

set_option maxHeartbeats 400000 in
theorem at_out (hd : Dq 27 9 w g cb cur L fr n) (hb : n ≤ 10000) (i : Int) (hi : i < 0 ∨ (n : Int) ≤ i) :
    Calls Try.prog 17 #[.pointer (some ⟨g, 0, none⟩), .int .i64 i] w (AtPost w zero false) := by
  have h2 := hd.blk.cell 2
  simp only [List.getElem?_toArray, List.getElem?_cons_zero, List.getElem?_cons_succ] at h2
  have KL := Lib.hid (len_any w g n h2)
  clear hd
  by_cases h0 : i < 0
  · clear hi
    go_enter Try.func17, Try.ntmps17
    go_wp2_with fail
    go_ret2
    exact ⟨rfl, 0, rfl⟩
  · have h1 : (n : Int) ≤ i := by omega
    clear hi
    go_enter Try.func17, Try.ntmps17
    go_wp2_with fail
    with_reducible (refine Calls.mono KL.out ?_)
    rintro e w1 hp
    obtain ⟨rfl, rfl⟩ := hp
    go_wp2_with fail
    go_ret2
    exact ⟨rfl, 0, rfl⟩

set_option maxHeartbeats 800000 in
theorem at_in (hd : Dq 27 9 w g cb cur L fr n) (hx : Has cur L fr (vals xs)) (hn : xs.length = n) (hb : n ≤ 10000) (i : Nat) (hi : i < n) :
    Calls Try.prog 17 #[.pointer (some ⟨g, 0, none⟩), .int .i64 (i : Int)] w (AtPost w (V (xs.getD i default)) true) := by
  have h0 := hd.blk.cell 0
  have h1 := hd.blk.cell 1
  have h2 := hd.blk.cell 2
  simp only [List.getElem?_toArray, List.getElem?_cons_zero, List.getElem?_cons_succ] at h0 h1 h2
  have hnL := hd.nle
  have hbig := hd.big
  obtain ⟨b, rfl, r1, r2⟩ : ∃ b, cb = some b ∧ b ≠ g ∧ Blk w b 9 cur := by
    cases cb with
    | none => have := hd.none_ rfl; omega
    | some b => exact ⟨b, rfl, hd.row b rfl⟩
  simp only [Option.map_some] at h0
  have hfr : fr < L := by rcases hd.fle with h | h <;> omega
  obtain ⟨p, hpe⟩ : ∃ p, (fr + i) % L = p := ⟨_, rfl⟩
  have hp : p < L := by rw [← hpe]; exact Nat.mod_lt _ (by omega)
  have h3 := hx i (by rw [vals_len]; omega)
  rw [vals_at (by omega), hpe] at h3
  have c2 : w.cell? ⟨b, p, none⟩ = some (V (xs.getD i default)) := by
    rw [r2.cell, h3]; simp [List.getD, show i < xs.length by omega]
  have KL := Lib.hid (len_any w g n h2)
  have KP := Lib.hid (fun W h0 h1 => place_q g (some ⟨b, 0, none⟩) L fr i p W (by omega) (by omega) (by omega) hpe h0 h1)
  generalize xs.getD i default = x at *
  have i1 : (0 : Int) ≤ (i : Int) := by omega
  have i2 : (i : Int) < (n : Int) := by omega
  have i3 : (0 : Int) ≤ (p : Int) := by omega
  have i4 : (p : Int) < (L : Int) := by omega
  clear hd hx hn h3 hpe r2 r1 h2
  go_enter Try.func17, Try.ntmps17
  go_wp2_with fail
  with_reducible (refine Calls.mono KL.out ?_)
  rintro e w1 hp
  obtain ⟨rfl, rfl⟩ := hp
  go_wp2_with fail
  go_quiet ((go_at_call 27; exact Calls.quiet_of (KP.out _ h0 h1)))
  go_wp2
  go_ret2
  exact ⟨rfl, _, rfl⟩
end
end Go.Proofs.Ytopablmgadkppaa
