/- THE WALKS of place and Len. No condition but what is read. -/
import Derived.Test.YtopablmgadkppaaProg
import Derived.WalkKit
import Derived.WalkSpells
import Derived.WalkLawsBesides
import Derived.Lib.Hide
import Derived.ProofKit
import Derived.Deep.QuietTactic
import Derived.BigQuiet
import Derived.Deep.RegionHeld3
import Derived.RegionTactic
import Derived.ChangeAlike
namespace Go.Proofs.Ytopablmgadkppaa
open Go.RowKit
set_option linter.unusedVariables false

def PlacePost (w : World) (p : Nat) (e : Ending) (w' : World) : Prop := e = .returned (.int .i64 p) ∧ ∃ n, w' = w.drewN n

set_option maxHeartbeats 400000 in
theorem place_any (g : Nat) (A : Option Addr) (L from_ i p : Nat) (w : World)
    (hL : 0 < L) (hb : from_ + i ≤ 4611686018427387904) (hL2 : L ≤ 4611686018427387904) (hp : (from_ + i) % L = p)
    (h0 : w.cell? ⟨g, 0, none⟩ = some (.slice A L L)) (h1 : w.cell? ⟨g, 1, none⟩ = some (.int .i64 (from_ : Int))) :
    Calls Try.prog 27 #[.pointer (some ⟨g, 0, none⟩), .int .i64 (i : Int)] w (PlacePost w p) := by
  have hpi : ((from_ : Int) + (i : Int)) % (L : Int) = (p : Int) := by subst hp; simp
  have HP := Lib.hid hpi
  clear hp hpi
  have hLz : ((L : Int) == 0) = false := by simp; omega
  have hL1 : (1 : Int) ≤ (L : Int) := by omega
  have hs0 : (0 : Int) ≤ (from_ : Int) + (i : Int) := by omega
  have hwr : IntKind.i64.wrap ((from_ : Int) + (i : Int)) = (from_ : Int) + (i : Int) := IntWalk.i64_in _ (by omega)
  go_enter Try.func27, Try.ntmps27
  go_wp2_with fail
  go_quiet (fail)
  go_wp2
  go_ret
  exact ⟨congrArg (fun x => Ending.returned (.int .i64 x)) HP.out, _, rfl⟩
end Go.Proofs.Ytopablmgadkppaa
