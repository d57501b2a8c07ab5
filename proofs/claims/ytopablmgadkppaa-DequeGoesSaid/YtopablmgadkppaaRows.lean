/-
  No cell of these rows narrows 'for every input' (looked for: loops, veiled, ifaces, maps, wideKeys, modest, calm, conditions, laid).
  DERIVED. THE GIVEN ROWS OF THIS SEAT. 4 by the template 'for every input the law returns true; each argument reads behind the call as it read before'; 0 by the template 'total and deterministic' (their statements: YtopablmgadkppaaTotals.lean).
  GIVEN WITH THE SEED: the statements are not yours to turn. If you find one false, say at which input.
  Laid BY PROGRAM, IN A SANDBOX (cutbox-rows.mjs): the forced cells as the released guide's own fill.sh prints them over the translation 6e444b4d28c6f89c… (all of the seat's roots in one cut). By AI agents, Wed Nov 11 2026. No macro, syntax, notation, axiom, sorry.
-/
import Derived.Test.YtopablmgadkppaaChecked
import GoSem.Claim
import GoSem.ClaimJoined
import GoSem.ClaimMapViews
import Derived.JoinedTies
import Derived.KernelRfl
namespace Go.Proofs.Ytopablmgadkppaa
/- THE CELL 'sum', in the pinned program and in every row, IS THE sha256 OF THE DUMP (.gsa) THAT YtopablmgadkppaaProg.lean LOADS. Nothing in Lean hashes anything: it is a label: what it is worth is what the hold of that sum in a sandbox is worth. -/
noncomputable def Try.pinned : Pinned := { name := "ytopablmgadkppaa", sum := "6e444b4d28c6f89cbe6da588cd952a58d89eeb13050cab76735c2a3b66ba8e77", checked := Try.checked }
namespace Rows
def none {H : Type} : Left H := { results := [], args := [] }

/-- 'retracelaw05.DequePlays': WHATEVER THE INPUT: true; the input reads as it did. -/
def dequePlaysSpec : ChangeSpec := { name := "dequePlays", fn := fun _ => fun
  | [d] => { results := [.lit (.bool true)], args := [d] }
  | _ => none }
def dequePlaysRow : OpenClaim := { program := "ytopablmgadkppaa", sum := "6e444b4d28c6f89cbe6da588cd952a58d89eeb13050cab76735c2a3b66ba8e77", func := "retrace/retracelaw05.DequePlays", spec := "dequePlays", apart := false }
def DequePlaysSaid : Prop := dequePlaysRow.holds Try.pinned (OpenSpec.ofChange dequePlaysSpec)

/-- ITS FALSE NEIGHBOUR: 'it returns false'. Refute it at one input. -/
def dequePlaysWrong : ChangeSpec := { name := "dequePlays", fn := fun _ => fun
  | [d] => { results := [.lit (.bool false)], args := [d] }
  | _ => none }
def DequePlaysWrongFalsely : Prop := dequePlaysRow.holds Try.pinned (OpenSpec.ofChange dequePlaysWrong)

/-- 'retracelaw05.DequeOrder': WHATEVER THE INPUT: true; the input reads as it did. -/
def dequeOrderSpec : ChangeSpec := { name := "dequeOrder", fn := fun _ => fun
  | [d1, d2, d3] => { results := [.lit (.bool true)], args := [d1, d2, d3] }
  | _ => none }
def dequeOrderRow : OpenClaim := { program := "ytopablmgadkppaa", sum := "6e444b4d28c6f89cbe6da588cd952a58d89eeb13050cab76735c2a3b66ba8e77", func := "retrace/retracelaw05.DequeOrder", spec := "dequeOrder", apart := false }
def DequeOrderSaid : Prop := dequeOrderRow.holds Try.pinned (OpenSpec.ofChange dequeOrderSpec)

/-- ITS FALSE NEIGHBOUR: 'it returns false'. Refute it at one input. -/
def dequeOrderWrong : ChangeSpec := { name := "dequeOrder", fn := fun _ => fun
  | [d1, d2, d3] => { results := [.lit (.bool false)], args := [d1, d2, d3] }
  | _ => none }
def DequeOrderWrongFalsely : Prop := dequeOrderRow.holds Try.pinned (OpenSpec.ofChange dequeOrderWrong)

/-- 'retracelaw05.DequeGoes': WHATEVER THE INPUT: true; the input reads as it did. -/
def dequeGoesSpec : ChangeSpec := { name := "dequeGoes", fn := fun _ => fun
  | [d1, d2, d3] => { results := [.lit (.bool true)], args := [d1, d2, d3] }
  | _ => none }
def dequeGoesRow : OpenClaim := { program := "ytopablmgadkppaa", sum := "6e444b4d28c6f89cbe6da588cd952a58d89eeb13050cab76735c2a3b66ba8e77", func := "retrace/retracelaw05.DequeGoes", spec := "dequeGoes", unfollowed := true, recurses := true, apart := false }
def DequeGoesSaid : Prop := dequeGoesRow.holds Try.pinned (OpenSpec.ofChange dequeGoesSpec)

/-- ITS FALSE NEIGHBOUR: 'it returns false'. Refute it at one input. -/
def dequeGoesWrong : ChangeSpec := { name := "dequeGoes", fn := fun _ => fun
  | [d1, d2, d3] => { results := [.lit (.bool false)], args := [d1, d2, d3] }
  | _ => none }
def DequeGoesWrongFalsely : Prop := dequeGoesRow.holds Try.pinned (OpenSpec.ofChange dequeGoesWrong)

/-- 'retracelaw05.DequeNone': WHATEVER THE INPUT: true; the input reads as it did. -/
def dequeNoneSpec : ChangeSpec := { name := "dequeNone", fn := fun _ => fun
  | [d1, d2] => { results := [.lit (.bool true)], args := [d1, d2] }
  | _ => none }
def dequeNoneRow : OpenClaim := { program := "ytopablmgadkppaa", sum := "6e444b4d28c6f89cbe6da588cd952a58d89eeb13050cab76735c2a3b66ba8e77", func := "retrace/retracelaw05.DequeNone", spec := "dequeNone", unfollowed := true, recurses := true, apart := false }
def DequeNoneSaid : Prop := dequeNoneRow.holds Try.pinned (OpenSpec.ofChange dequeNoneSpec)

/-- ITS FALSE NEIGHBOUR: 'it returns false'. Refute it at one input. -/
def dequeNoneWrong : ChangeSpec := { name := "dequeNone", fn := fun _ => fun
  | [d1, d2] => { results := [.lit (.bool false)], args := [d1, d2] }
  | _ => none }
def DequeNoneWrongFalsely : Prop := dequeNoneRow.holds Try.pinned (OpenSpec.ofChange dequeNoneWrong)

/- THE SECOND FORM. 'bulk': how many values and letters a reading holds, each counted each time it is reached (what is shared counts as often as it is met; a slice's spare places count too). A statement '..UptoSaid' is the law's where the arguments, and the package variables that the reading takes, are together of bulk at most 1048576: NARROWER than '..Said'. Prove '..Said' where nothing that the law and all that it calls make is longer than what came in: it says more and counts as full. Else prove '..UptoSaid'. A law counts once. -/
mutual
def uptoBulk {H : Type} : DataW H → Nat
  | .lit (.string bytes) => bytes.length + 1
  | .lit _ => 1
  | .nil => 1
  | .ptr d => uptoBulk d + 1
  | .slice elems spare => uptoBulkAll elems + uptoBulkAll spare + 1
  | .agg parts => uptoBulkAll parts + 1
  | .iface _ d => uptoBulk d + 1
  | .map entries => uptoBulkEntries entries + 1
  | .held _ => 1
def uptoBulkAll {H : Type} : List (DataW H) → Nat
  | [] => 0
  | d :: r => uptoBulk d + uptoBulkAll r
def uptoBulkEntries {H : Type} : List (Lit × DataW H) → Nat
  | [] => 0
  | x :: r => uptoBulkEntry x + uptoBulkEntries r
def uptoBulkEntry {H : Type} : Lit × DataW H → Nat
  | (.string bytes, d) => bytes.length + uptoBulk d + 1
  | (_, d) => uptoBulk d + 1
 end
def uptoSmall : (H : Type) → List (DataW H) → Bool := fun _ ds => decide (uptoBulkAll ds ≤ 1048576)
def OpenSpec.upto (s : _root_.Go.ChangeSpec) : _root_.Go.OpenSpec := { _root_.Go.OpenSpec.ofChange s with cond := some uptoSmall }

/-- 'retracelaw05.DequePlays', WHERE WHAT IT READS IS OF BULK AT MOST 1048576: true; the input reads as it did. -/
def dequePlaysUptoRow : OpenClaim := { program := "ytopablmgadkppaa", sum := "6e444b4d28c6f89cbe6da588cd952a58d89eeb13050cab76735c2a3b66ba8e77", func := "retrace/retracelaw05.DequePlays", spec := "dequePlays", apart := false, narrowed := true }
def DequePlaysUptoSaid : Prop := dequePlaysUptoRow.holds Try.pinned (OpenSpec.upto dequePlaysSpec)

/-- 'retracelaw05.DequeOrder', WHERE WHAT IT READS IS OF BULK AT MOST 1048576: true; the input reads as it did. -/
def dequeOrderUptoRow : OpenClaim := { program := "ytopablmgadkppaa", sum := "6e444b4d28c6f89cbe6da588cd952a58d89eeb13050cab76735c2a3b66ba8e77", func := "retrace/retracelaw05.DequeOrder", spec := "dequeOrder", apart := false, narrowed := true }
def DequeOrderUptoSaid : Prop := dequeOrderUptoRow.holds Try.pinned (OpenSpec.upto dequeOrderSpec)

/-- 'retracelaw05.DequeGoes', WHERE WHAT IT READS IS OF BULK AT MOST 1048576: true; the input reads as it did. -/
def dequeGoesUptoRow : OpenClaim := { program := "ytopablmgadkppaa", sum := "6e444b4d28c6f89cbe6da588cd952a58d89eeb13050cab76735c2a3b66ba8e77", func := "retrace/retracelaw05.DequeGoes", spec := "dequeGoes", unfollowed := true, recurses := true, apart := false, narrowed := true }
def DequeGoesUptoSaid : Prop := dequeGoesUptoRow.holds Try.pinned (OpenSpec.upto dequeGoesSpec)

/-- 'retracelaw05.DequeNone', WHERE WHAT IT READS IS OF BULK AT MOST 1048576: true; the input reads as it did. -/
def dequeNoneUptoRow : OpenClaim := { program := "ytopablmgadkppaa", sum := "6e444b4d28c6f89cbe6da588cd952a58d89eeb13050cab76735c2a3b66ba8e77", func := "retrace/retracelaw05.DequeNone", spec := "dequeNone", unfollowed := true, recurses := true, apart := false, narrowed := true }
def DequeNoneUptoSaid : Prop := dequeNoneUptoRow.holds Try.pinned (OpenSpec.upto dequeNoneSpec)

end Rows
end Go.Proofs.Ytopablmgadkppaa
