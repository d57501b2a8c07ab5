/- CauseByClocks returns true at every input, and leaves its arguments as they were. No condition. -/
import Derived.Test.YthaofkhjhmcknaaOpen
import Derived.Test.YthaofkhjhmcknaaClkH
namespace Go.Proofs.Ythaofkhjhmcknaa.causeByClocksLaw
open Go.ChangeShapes Go.WideShapes Go.ChangeAt Go.RowKit
set_option linter.unusedVariables false

theorem byClocks_walk (w : World) (A : Option Addr) (c : Nat) (l : List Hap) (a b : Int) (h : Hs w A l) (hm : l.length ≤ maxLen) : Calls Try.prog 6 #[.slice A l.length c, .int .i64 a, .int .i64 b] w (BoolPost w true) := by
  by_cases hb : 40 < l.length ∨ a < 0 ∨ b < 0 ∨ l.length ≤ a ∨ l.length ≤ b
  · exact byClocks_bad A _ c a b w hm hb
  · have := byClocks_core l _ rfl (by omega) A c a.toNat b.toNat (by omega) (by omega) w h
    rw [show ((a.toNat : Nat) : Int) = a by omega, show ((b.toNat : Nat) : Int) = b by omega] at this
    exact this

set_option maxRecDepth 100000 in
theorem lifted (os : Os) (started : os.Started) (H : Type) (enc : TypeId × Value → H) :
    ReturnsInHanded {} Try.checked os 6 .any (Rows.causeByClocksSpec.pre6 enc Try.prog Try.f6 Rows.causeByClocksRow.domain false) (Rows.causeByClocksSpec.post enc Try.prog Try.f6 false true false false) := by
  refine returnsInHanded_of_change (C := Try.checked) own started (by kernel_rfl) Try.func6
    (ChangeSpec.witness6 (enc := enc) (C := Try.checked) false ⟨#[], #[.slice none 0 0, .int .i64 0, .int .i64 0], []⟩ 8 (by kernel_rfl) (by kernel_rfl) (by kernel_rfl) (by kernel_rfl)) ?_
  intro W base args ds gs before hval0 hW hcnd _
  have hval : ∀ (j : Nat) t v, Try.f6.params[j]? = some t → args[j]? = some v → Value.okWide Try.prog W .any base t v := hval0
  have hW' := hW
  obtain ⟨p, q, hA0, hV, rfl, hfz, hnd⟩ := hW
  have hA : DataW.TrodAll enc Try.prog W 0 (fun _ => true) true Try.f6.params.toList args.toList ds p := hA0
  rw [Try.params6] at hA hval
  obtain ⟨v0, vs0, d0, ds0, p0, q0, hargs, rfl, rfl, h0, r0⟩ := trodAll_cons hA
  obtain ⟨v1, vs1, d1, ds1, p1, q1, rfl, rfl, rfl, h1, r1⟩ := trodAll_cons r0
  obtain ⟨v2, vs2, d2, ds2, p2, q2, rfl, rfl, rfl, h2, r2⟩ := trodAll_cons r1
  obtain ⟨rfl, rfl, rfl⟩ := trodAll_nil r2
  obtain rfl : args = #[v0, v1, v2] := by cases args; simp_all
  obtain ⟨rfl, rfl⟩ := trodVars_none hV
  have k0 := h0
  have lt0 : ∀ x ∈ p0, x.block < W.heap.size := by obtain ⟨m, hm⟩ := k0; exact DataW.trod_lt m _ _ _ hm
  have k1 := h1
  have lt1 : ∀ x ∈ p1, x.block < W.heap.size := by obtain ⟨m, hm⟩ := k1; exact DataW.trod_lt m _ _ _ hm
  have k2 := h2
  have lt2 : ∀ x ∈ p2, x.block < W.heap.size := by obtain ⟨m, hm⟩ := k2; exact DataW.trod_lt m _ _ _ hm
  obtain ⟨A, c, l, rfl, hs, hm⟩ := open_haps (hval 0 22 v0 rfl rfl) h0
  obtain ⟨x1, rfl⟩ := open_number (hval 1 3 v1 rfl rfl) h1
  obtain ⟨x2, rfl⟩ := open_number (hval 2 3 v2 rfl rfl) h2
  clear hA0 hval0
  refine (byClocks_walk W A c l x1 x2 hs hm).mono fun e W' hww => ?_
  obtain ⟨he, bel⟩ := hww
  subst he
  exact ⟨_, rfl, _, _, _, [], _, [], hW', trodAll_mk1 (shut_bool Try.underlying4 _), (trodAll_cons_mk (Below.trod laidOut (by kernel_rfl) (of_decide_eq_true (by kernel_rfl)) k0 bel lt0) (trodAll_cons_mk (Below.trod laidOut (by kernel_rfl) (of_decide_eq_true (by kernel_rfl)) k1 bel lt1) (trodAll_cons_mk (Below.trod laidOut (by kernel_rfl) (of_decide_eq_true (by kernel_rfl)) k2 bel lt2) trodAll_mk0))), rfl, bel.frame _, fun h => by cases h⟩

theorem over : Rows.causeByClocksRow.holds Try.pinned (OpenSpec.ofChange Rows.causeByClocksSpec) :=
  OpenClaim.holds_of_wide 6 Try.f6 rfl rfl rfl rfl rfl rfl rfl ⟨rfl, rfl, rfl, rfl, rfl⟩ rfl rfl rfl rfl rfl (by kernel_rfl) Try.func6 (by kernel_rfl)
    (of_decide_eq_true (by kernel_rfl)) (by unfold Func.isWrapper; first | (rw [if_pos (by decide +kernel)]; kernel_rfl) | (rw [if_neg (by decide +kernel)]; exact ⟨rfl, rfl⟩))
    (fun os started H enc _ => lifted os started H enc)
end Go.Proofs.Ythaofkhjhmcknaa.causeByClocksLaw
namespace Go.Proofs.Ythaofkhjhmcknaa
/-- THE STATEMENT. -/
theorem causeByClocks_holds : Rows.CauseByClocksSaid := causeByClocksLaw.over
#print axioms causeByClocks_holds
end Go.Proofs.Ythaofkhjhmcknaa
