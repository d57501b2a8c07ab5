/- OracleBack returns true at every input, and leaves its arguments as they were. No condition. -/
import Derived.Test.YtbggoelfnolldaaOpen
import Derived.Test.YtbggoelfnolldaaBack
namespace Go.Proofs.Ytbggoelfnolldaa.oracleBackLaw
open Go.ChangeShapes Go.WideShapes Go.ChangeAt Go.RowKit
set_option linter.unusedVariables false

theorem back_walk (w : World) (A A2 : Option Addr) (c c2 : Nat) (xs : List Int) (l : List (Int × Int)) (hx : Rd w (fun b => b < w.heap.size) A (ints xs)) (hm : xs.length ≤ maxLen) (hA : A = none → xs = []) (hf : ∀ x ∈ xs, In64 x)
    (hl : Asks w A2 l) (hm2 : l.length ≤ maxLen) : Calls Try.prog 6 #[.slice A xs.length c, .slice A2 l.length c2] w (LivePost w) := by
  by_cases h : 100 < xs.length ∨ 100 < l.length
  · exact back_big A A2 c c2 w _ _ h hm hm2
  · exact back_core A A2 c c2 xs l w hx hl (by omega) (by omega) hA hf

set_option maxRecDepth 100000 in
theorem lifted (os : Os) (started : os.Started) (H : Type) (enc : TypeId × Value → H) :
    ReturnsInHanded {} Try.checked os 6 .any (Rows.oracleBackSpec.pre6 enc Try.prog Try.f6 Rows.oracleBackRow.domain false) (Rows.oracleBackSpec.post enc Try.prog Try.f6 false true false false) := by
  refine returnsInHanded_of_change (C := Try.checked) own started (by kernel_rfl) Try.func6
    (ChangeSpec.witness6 (enc := enc) (C := Try.checked) false ⟨#[], #[.slice none 0 0, .slice none 0 0], []⟩ 8 (by kernel_rfl) (by kernel_rfl) (by kernel_rfl) (by kernel_rfl)) ?_
  intro W base args ds gs before hval0 hW hcnd _
  have hval : ∀ (j : Nat) t v, Try.f6.params[j]? = some t → args[j]? = some v → Value.okWide Try.prog W .any base t v := hval0
  have hW' := hW
  obtain ⟨p, q, hA0, hV, rfl, hfz, hnd⟩ := hW
  have hA : DataW.TrodAll enc Try.prog W 0 (fun _ => true) true Try.f6.params.toList args.toList ds p := hA0
  rw [Try.params6] at hA hval
  obtain ⟨v0, vs0, d0, ds0, p0, q0, hargs, rfl, rfl, h0, r0⟩ := trodAll_cons hA
  obtain ⟨v1, vs1, d1, ds1, p1, q1, rfl, rfl, rfl, h1, r1⟩ := trodAll_cons r0
  obtain ⟨rfl, rfl, rfl⟩ := trodAll_nil r1
  obtain rfl : args = #[v0, v1] := by cases args; simp_all
  obtain ⟨rfl, rfl⟩ := trodVars_none hV
  have k0 := h0
  have lt0 : ∀ x ∈ p0, x.block < W.heap.size := by obtain ⟨m, hm⟩ := k0; exact DataW.trod_lt m _ _ _ hm
  have k1 := h1
  have lt1 : ∀ x ∈ p1, x.block < W.heap.size := by obtain ⟨m, hm⟩ := k1; exact DataW.trod_lt m _ _ _ hm
  obtain ⟨A, c, xs, rfl, hrd, hcl, hml, hnil, hfit⟩ := open_nums (hval 0 22 v0 rfl rfl) h0
  obtain ⟨A2, c2, l, rfl, hasks, hml2⟩ := open_asks (hval 1 23 v1 rfl rfl) h1
  clear hA0 hval0
  refine (back_walk W A A2 c c2 xs l hrd hml hnil hfit hasks hml2).mono fun e W' hww => ?_
  obtain ⟨he, bel⟩ := hww
  subst he
  exact ⟨_, rfl, _, _, _, [], _, [], hW', trodAll_mk1 (shut_bool Try.underlying4 _), (trodAll_cons_mk (Below.trod laidOut (by kernel_rfl) (of_decide_eq_true (by kernel_rfl)) k0 bel lt0) (trodAll_cons_mk (Below.trod laidOut (by kernel_rfl) (of_decide_eq_true (by kernel_rfl)) k1 bel lt1) trodAll_mk0)), rfl, bel.frame _, fun h => by cases h⟩

theorem over : Rows.oracleBackRow.holds Try.pinned (OpenSpec.ofChange Rows.oracleBackSpec) :=
  OpenClaim.holds_of_wide 6 Try.f6 rfl rfl rfl rfl rfl rfl rfl ⟨rfl, rfl, rfl, rfl, rfl⟩ rfl rfl rfl rfl rfl (by kernel_rfl) Try.func6 (by kernel_rfl)
    (of_decide_eq_true (by kernel_rfl)) (by unfold Func.isWrapper; first | (rw [if_pos (by decide +kernel)]; kernel_rfl) | (rw [if_neg (by decide +kernel)]; exact ⟨rfl, rfl⟩))
    (fun os started H enc _ => lifted os started H enc)
end Go.Proofs.Ytbggoelfnolldaa.oracleBackLaw
namespace Go.Proofs.Ytbggoelfnolldaa
/-- THE STATEMENT. -/
theorem oracleBack_holds : Rows.OracleBackSaid := oracleBackLaw.over
#print axioms oracleBack_holds
end Go.Proofs.Ytbggoelfnolldaa
