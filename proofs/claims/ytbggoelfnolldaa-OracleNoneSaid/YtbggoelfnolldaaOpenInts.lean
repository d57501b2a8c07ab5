/- HOW AN ARGUMENT THAT IS A NUMBER IS OPENED. No condition. -/
import Derived.Test.YtbggoelfnolldaaRows
import Derived.Test.YtbggoelfnolldaaNone
import Derived.ProofKit
import Derived.OpenShut
import Derived.ChangeOld
namespace Go.Proofs.Ytbggoelfnolldaa
open Go.ChangeShapes Go.WideShapes Go.ChangeAt Go.RowKit
set_option linter.unusedVariables false
namespace One
theorem own : ownKnob Try.prog.godebug = none := by kernel_rfl
theorem laidOut : laidOutB Try.prog = true := by kernel_rfl
theorem open_number {H : Type} {enc : TypeId × Value → H} {W : World} {base : Nat} {r : Reach} {b0 : Nat} {v : Value} {d : DataW H} {p : List MemPlace} (hv : Value.okWide Try.prog W r b0 3 v) (h : DataW.Trod enc Try.prog W base (fun _ => true) true 3 v d p) :
    ∃ x : Int, v = .int .i64 x := okWide_int Try.underlying3 hv
end One
end Go.Proofs.Ytbggoelfnolldaa
