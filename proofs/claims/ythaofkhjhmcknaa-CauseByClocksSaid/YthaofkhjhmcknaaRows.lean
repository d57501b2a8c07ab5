/-
  No cell of these rows narrows 'for every input' (looked for: loops, veiled, ifaces, maps, wideKeys, modest, calm, conditions, laid).
  DERIVED. THE GIVEN ROWS OF THIS SEAT. 4 by the template 'for every input the law returns true; each argument reads behind the call as it read before'; 0 by the template 'total and deterministic' (their statements: YthaofkhjhmcknaaTotals.lean).
  GIVEN WITH THE SEED: the statements are not yours to turn. If you find one false, say at which input.
  Laid BY PROGRAM, IN A SANDBOX (cutbox-rows.mjs): the forced cells as the released guide's own fill.sh prints them over the translation ece6607a21594528… (all of the seat's roots in one cut). By AI agents, Wed Nov 11 2026. No macro, syntax, notation, axiom, sorry.
-/
import Derived.Test.YthaofkhjhmcknaaChecked
import GoSem.Claim
import GoSem.ClaimJoined
import GoSem.ClaimMapViews
import Derived.JoinedTies
import Derived.KernelRfl
namespace Go.Proofs.Ythaofkhjhmcknaa
/- THE CELL 'sum', in the pinned program and in every row, IS THE sha256 OF THE DUMP (.gsa) THAT YthaofkhjhmcknaaProg.lean LOADS. Nothing in Lean hashes anything: it is a label: what it is worth is what the hold of that sum in a sandbox is worth. -/
noncomputable def Try.pinned : Pinned := { name := "ythaofkhjhmcknaa", sum := "ece6607a21594528b1f94369b21d7fefe09babf73ebbfad72826e856d15e0210", checked := Try.checked }
namespace Rows
def none {H : Type} : Left H := { results := [], args := [] }

/-- 'retracelaw41.CauseTells': WHATEVER THE INPUT: true; the input reads as it did. -/
def causeTellsSpec : ChangeSpec := { name := "causeTells", fn := fun _ => fun
  | [d1, d2, d3] => { results := [.lit (.bool true)], args := [d1, d2, d3] }
  | _ => none }
def causeTellsRow : OpenClaim := { program := "ythaofkhjhmcknaa", sum := "ece6607a21594528b1f94369b21d7fefe09babf73ebbfad72826e856d15e0210", func := "retrace/retracelaw41.CauseTells", spec := "causeTells", unfollowed := true, recurses := true, apart := false }
def CauseTellsSaid : Prop := causeTellsRow.holds Try.pinned (OpenSpec.ofChange causeTellsSpec)

/-- ITS FALSE NEIGHBOUR: 'it returns false'. Refute it at one input. -/
def causeTellsWrong : ChangeSpec := { name := "causeTells", fn := fun _ => fun
  | [d1, d2, d3] => { results := [.lit (.bool false)], args := [d1, d2, d3] }
  | _ => none }
def CauseTellsWrongFalsely : Prop := causeTellsRow.holds Try.pinned (OpenSpec.ofChange causeTellsWrong)

/-- 'retracelaw41.CauseOrders': WHATEVER THE INPUT: true; the input reads as it did. -/
def causeOrdersSpec : ChangeSpec := { name := "causeOrders", fn := fun _ => fun
  | [d1, d2, d3, d4] => { results := [.lit (.bool true)], args := [d1, d2, d3, d4] }
  | _ => none }
def causeOrdersRow : OpenClaim := { program := "ythaofkhjhmcknaa", sum := "ece6607a21594528b1f94369b21d7fefe09babf73ebbfad72826e856d15e0210", func := "retrace/retracelaw41.CauseOrders", spec := "causeOrders", unfollowed := true, recurses := true, apart := false }
def CauseOrdersSaid : Prop := causeOrdersRow.holds Try.pinned (OpenSpec.ofChange causeOrdersSpec)

/-- ITS FALSE NEIGHBOUR: 'it returns false'. Refute it at one input. -/
def causeOrdersWrong : ChangeSpec := { name := "causeOrders", fn := fun _ => fun
  | [d1, d2, d3, d4] => { results := [.lit (.bool false)], args := [d1, d2, d3, d4] }
  | _ => none }
def CauseOrdersWrongFalsely : Prop := causeOrdersRow.holds Try.pinned (OpenSpec.ofChange causeOrdersWrong)

/-- 'retracelaw41.CauseClocks': WHATEVER THE INPUT: true; the input reads as it did. -/
def causeClocksSpec : ChangeSpec := { name := "causeClocks", fn := fun _ => fun
  | [d] => { results := [.lit (.bool true)], args := [d] }
  | _ => none }
def causeClocksRow : OpenClaim := { program := "ythaofkhjhmcknaa", sum := "ece6607a21594528b1f94369b21d7fefe09babf73ebbfad72826e856d15e0210", func := "retrace/retracelaw41.CauseClocks", spec := "causeClocks", unfollowed := true, recurses := true, apart := false }
def CauseClocksSaid : Prop := causeClocksRow.holds Try.pinned (OpenSpec.ofChange causeClocksSpec)

/-- ITS FALSE NEIGHBOUR: 'it returns false'. Refute it at one input. -/
def causeClocksWrong : ChangeSpec := { name := "causeClocks", fn := fun _ => fun
  | [d] => { results := [.lit (.bool false)], args := [d] }
  | _ => none }
def CauseClocksWrongFalsely : Prop := causeClocksRow.holds Try.pinned (OpenSpec.ofChange causeClocksWrong)

/-- 'retracelaw41.CauseByClocks': WHATEVER THE INPUT: true; the input reads as it did. -/
def causeByClocksSpec : ChangeSpec := { name := "causeByClocks", fn := fun _ => fun
  | [d1, d2, d3] => { results := [.lit (.bool true)], args := [d1, d2, d3] }
  | _ => none }
def causeByClocksRow : OpenClaim := { program := "ythaofkhjhmcknaa", sum := "ece6607a21594528b1f94369b21d7fefe09babf73ebbfad72826e856d15e0210", func := "retrace/retracelaw41.CauseByClocks", spec := "causeByClocks", unfollowed := true, recurses := true, apart := false }
def CauseByClocksSaid : Prop := causeByClocksRow.holds Try.pinned (OpenSpec.ofChange causeByClocksSpec)

/-- ITS FALSE NEIGHBOUR: 'it returns false'. Refute it at one input. -/
def causeByClocksWrong : ChangeSpec := { name := "causeByClocks", fn := fun _ => fun
  | [d1, d2, d3] => { results := [.lit (.bool false)], args := [d1, d2, d3] }
  | _ => none }
def CauseByClocksWrongFalsely : Prop := causeByClocksRow.holds Try.pinned (OpenSpec.ofChange causeByClocksWrong)

/- THE SECOND FORM. 'bulk': how many values and letters a reading holds, each counted each time it is reached (what is shared counts as often as it is met; a slice's spare places count too). A statement '..UptoSaid' is the law's where the arguments, and the package variables that the reading takes, are together of bulk at most 1048576: NARROWER than '..Said'. Prove '..Said' where nothing that the law and all that it calls make is longer than what came in: it says more and counts as full. Else prove '..UptoSaid'. A law counts once. -/
mutual
def uptoBulk {H : Type} : DataW H → Nat
  | .lit (.string bytes) => bytes.length + 1
  | .lit _ => 1
  | .nil => 1
  | .ptr d => uptoBulk d + 1
  | .slice elems spare => uptoBulkAll elems + uptoBulkAll spare + 1
  | .agg parts => uptoBulkAll parts + 1
  | .iface _ d => uptoBulk d + 1
  | .map entries => uptoBulkEntries entries + 1
  | .held _ => 1
def uptoBulkAll {H : Type} : List (DataW H) → Nat
  | [] => 0
  | d :: r => uptoBulk d + uptoBulkAll r
def uptoBulkEntries {H : Type} : List (Lit × DataW H) → Nat
  | [] => 0
  | x :: r => uptoBulkEntry x + uptoBulkEntries r
def uptoBulkEntry {H : Type} : Lit × DataW H → Nat
  | (.string bytes, d) => bytes.length + uptoBulk d + 1
  | (_, d) => uptoBulk d + 1
 end
def uptoSmall : (H : Type) → List (DataW H) → Bool := fun _ ds => decide (uptoBulkAll ds ≤ 1048576)
def OpenSpec.upto (s : _root_.Go.ChangeSpec) : _root_.Go.OpenSpec := { _root_.Go.OpenSpec.ofChange s with cond := some uptoSmall }

/-- 'retracelaw41.CauseTells', WHERE WHAT IT READS IS OF BULK AT MOST 1048576: true; the input reads as it did. -/
def causeTellsUptoRow : OpenClaim := { program := "ythaofkhjhmcknaa", sum := "ece6607a21594528b1f94369b21d7fefe09babf73ebbfad72826e856d15e0210", func := "retrace/retracelaw41.CauseTells", spec := "causeTells", unfollowed := true, recurses := true, apart := false, narrowed := true }
def CauseTellsUptoSaid : Prop := causeTellsUptoRow.holds Try.pinned (OpenSpec.upto causeTellsSpec)

/-- 'retracelaw41.CauseOrders', WHERE WHAT IT READS IS OF BULK AT MOST 1048576: true; the input reads as it did. -/
def causeOrdersUptoRow : OpenClaim := { program := "ythaofkhjhmcknaa", sum := "ece6607a21594528b1f94369b21d7fefe09babf73ebbfad72826e856d15e0210", func := "retrace/retracelaw41.CauseOrders", spec := "causeOrders", unfollowed := true, recurses := true, apart := false, narrowed := true }
def CauseOrdersUptoSaid : Prop := causeOrdersUptoRow.holds Try.pinned (OpenSpec.upto causeOrdersSpec)

/-- 'retracelaw41.CauseClocks', WHERE WHAT IT READS IS OF BULK AT MOST 1048576: true; the input reads as it did. -/
def causeClocksUptoRow : OpenClaim := { program := "ythaofkhjhmcknaa", sum := "ece6607a21594528b1f94369b21d7fefe09babf73ebbfad72826e856d15e0210", func := "retrace/retracelaw41.CauseClocks", spec := "causeClocks", unfollowed := true, recurses := true, apart := false, narrowed := true }
def CauseClocksUptoSaid : Prop := causeClocksUptoRow.holds Try.pinned (OpenSpec.upto causeClocksSpec)

/-- 'retracelaw41.CauseByClocks', WHERE WHAT IT READS IS OF BULK AT MOST 1048576: true; the input reads as it did. -/
def causeByClocksUptoRow : OpenClaim := { program := "ythaofkhjhmcknaa", sum := "ece6607a21594528b1f94369b21d7fefe09babf73ebbfad72826e856d15e0210", func := "retrace/retracelaw41.CauseByClocks", spec := "causeByClocks", unfollowed := true, recurses := true, apart := false, narrowed := true }
def CauseByClocksUptoSaid : Prop := causeByClocksUptoRow.holds Try.pinned (OpenSpec.upto causeByClocksSpec)

end Rows
end Go.Proofs.Ythaofkhjhmcknaa
