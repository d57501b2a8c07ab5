/- THE WALKS of Push and Shove. At most 10000 are there. -/
import Derived.Test.YtopablmgadkppaaWalkC
namespace Go.Proofs.Ytopablmgadkppaa
open Go.RowKit
set_option linter.unusedVariables false

/-- What the Deque at g reads as, somewhere. -/
def Deq (w : World) (g : Nat) (cb : Option Nat) (xs : List El) : Prop := ∃ cur L fr, Dq 27 9 w g cb cur L fr xs.length ∧ Has cur L fr (vals xs)

def Lands (w : World) (g : Nat) (cb : Option Nat) (xs : List El) (w' : World) : Prop :=
  ∃ cb', Deq w' g cb' xs ∧ Only (Its g cb) w w' ∧ (cb' = cb ∨ ∃ b, cb' = some b ∧ w.heap.size ≤ b)

def PushPost (w : World) (g : Nat) (cb : Option Nat) (xs : List El) (e : Ending) (w' : World) : Prop := e = .returned (.tuple #[]) ∧ Lands w g cb xs w'

theorem vals_append (xs ys : List El) : vals (xs ++ ys) = vals xs ++ vals ys := by simp [vals]

theorem push_end {w w1 : World} {g b k : Nat} {cb : Option Nat} {cur : Array Value} {L fr n p : Nat} {xs : List El} {x : El} (hd : Dq 27 9 w1 g (some b) cur L fr n) (hx : Has cur L fr (vals xs)) (hn : xs.length = n) (hlt : n < L)
    (honly : Only (· = g) w w1) (hcb : some b = cb ∨ ∃ b', some b = some b' ∧ w.heap.size ≤ b') (hp : (fr + n) % L = p) :
    Lands w g cb (xs ++ [x]) (((w1.drewN k).setCell ⟨b, p, none⟩ (V x)).setCell ⟨g, 2, none⟩ (.int .i64 ((n : Int) + 1))) := by
  obtain ⟨hne, hrow⟩ := hd.row b rfl
  subst hp
  have hg : Blk (((w1.drewN k).setCell ⟨b, (fr + n) % L, none⟩ (V x)).setCell ⟨g, 2, none⟩ (.int .i64 ((n : Int) + 1))) g 27 _ := ((hd.blk.drewN k).far (p := ⟨b, (fr + n) % L, none⟩) (Ne.symm hne) _).set_ 2 _
  have hb : Blk (((w1.drewN k).setCell ⟨b, (fr + n) % L, none⟩ (V x)).setCell ⟨g, 2, none⟩ (.int .i64 ((n : Int) + 1))) b 9 _ := ((hrow.drewN k).set_ ((fr + n) % L) (V x)).far (p := ⟨g, 2, none⟩) hne _
  refine ⟨some b, ⟨cur.setIfInBounds ((fr + n) % L) (V x), L, fr, ⟨?_, fun b' hb' => ?_, ?_, fun h => (nomatch h), ?_, hd.fle, hd.big⟩, ?_⟩, ?_, hcb⟩
  · have e : ((xs ++ [x]).length : Int) = (n : Int) + 1 := by simp [hn]
    rw [e]; exact hg
  · cases hb'; exact ⟨hne, hb⟩
  · rw [Array.size_setIfInBounds]; exact hd.size
  · rw [List.length_append, hn]; simp; omega
  · rw [vals_append]
    have := hx.push hd.size (by rw [vals_len]; omega) (V x)
    rw [vals_len, hn] at this
    exact this
  · have ho : Only (Its g cb) w w1 := honly.mono (fun i h => .inl h)
    have hbS : Its g cb b ∨ w.heap.size ≤ b := by
      rcases hcb with h | ⟨b', h, h'⟩
      · exact .inl (.inr h.symm)
      · cases h; exact .inr h'
    exact ((ho.drewN k).setCell (p := ⟨b, (fr + n) % L, none⟩) hbS _).setCell (p := ⟨g, 2, none⟩) (.inl (.inl rfl)) _

section
variable (w : World) (g : Nat) (cb : Option Nat) (xs : List El)

set_option maxHeartbeats 800000 in
theorem push_any (hd0 : Deq w g cb xs) (hb : xs.length ≤ 10000) (x : El) :
    Calls Try.prog 9 #[.pointer (some ⟨g, 0, none⟩), V x] w (PushPost w g cb (xs ++ [x])) := by
  obtain ⟨cur0, L0, fr0, hd, hx⟩ := hd0
  have KR := Lib.hid (room_any w g cb cur0 L0 fr0 xs.length xs hd hx rfl hb)
  clear hd hx
  generalize hN : xs.length = n at *
  have HN := Lib.hid hN
  clear hN
  go_enter Try.func9, Try.ntmps9
  go_wp2_with fail
  with_reducible (refine Calls.mono KR.out ?_)
  rintro e w1 hp
  obtain ⟨rfl, cb', cur, L, fr, hd, hx, hlt, honly, hcb⟩ := hp
  obtain ⟨b, rfl⟩ : ∃ b, cb' = some b := by
    cases cb' with
    | none => have := hd.none_ rfl; omega
    | some b => exact ⟨b, rfl⟩
  have h0 := hd.blk.cell 0
  have h1 := hd.blk.cell 1
  have h2 := hd.blk.cell 2
  simp only [List.getElem?_toArray, List.getElem?_cons_zero, List.getElem?_cons_succ, Option.map_some] at h0 h1 h2
  obtain ⟨hne, hrow⟩ := hd.row b rfl
  obtain ⟨p, hpe⟩ : ∃ p, (fr + n) % L = p := ⟨_, rfl⟩
  have hp : p < L := by rw [← hpe]; exact Nat.mod_lt _ (by omega)
  have c3 : ∃ u, w1.cell? ⟨b, p, none⟩ = some u := ⟨_, (hrow.cell p).trans (Array.getElem?_eq_getElem (by rw [hd.size]; exact hp))⟩
  obtain ⟨u, c3⟩ := c3
  have f3 := hrow.frozen p
  have f2 := hd.blk.frozen 2
  have hbig := hd.big
  have hfr : fr < L := by rcases hd.fle with h | h <;> omega
  have KP := Lib.hid (fun W h0 h1 => place_q g (some ⟨b, 0, none⟩) L fr n p W (by omega) (by omega) (by omega) hpe h0 h1)
  have HE := Lib.hid (fun k => push_end (k := k) (x := x) hd hx HN.out hlt honly hcb hpe)
  have i3 : (0 : Int) ≤ (p : Int) := by omega
  have i4 : (p : Int) < (L : Int) := by omega
  clear hd hx hrow honly hcb hpe
  go_wp2_with fail
  go_region_held3 (fun w' => w'.cell? ⟨g, 0, none⟩ = some (.slice (some ⟨b, 0, none⟩) L L) ∧ w'.cell? ⟨g, 1, none⟩ = some (.int .i64 (fr : Int)) ∧ w'.cell? ⟨g, 2, none⟩ = some (.int .i64 (n : Int))) (go_keep)
    (first | (go_at_call 27; refine (KP.out _ ?_ ?_).mono ?_; (simp [*]); (simp [*]); rintro e w' ⟨rfl, nq2, rfl⟩))
  go_wp2
  exact bodyPost_end (results_none rfl _ _ _) rfl ⟨rfl, HE.out _⟩
end
end Go.Proofs.Ytopablmgadkppaa
