/-
  No cell of these rows narrows 'for every input' (looked for: loops, veiled, ifaces, maps, wideKeys, modest, calm, conditions, laid).
  DERIVED. THE GIVEN ROWS OF THIS SEAT. 4 by the template 'for every input the law returns true; each argument reads behind the call as it read before'; 0 by the template 'total and deterministic' (their statements: YtbggoelfnolldaaTotals.lean).
  GIVEN WITH THE SEED: the statements are not yours to turn. If you find one false, say at which input.
  Laid BY PROGRAM, IN A SANDBOX (cutbox-rows.mjs): the forced cells as the released guide's own fill.sh prints them over the translation 40d9538d6ebcf753… (all of the seat's roots in one cut). By AI agents, Wed Nov 11 2026. No macro, syntax, notation, axiom, sorry.
-/
import Derived.Test.YtbggoelfnolldaaChecked
import GoSem.Claim
import GoSem.ClaimJoined
import GoSem.ClaimMapViews
import Derived.JoinedTies
import Derived.KernelRfl
namespace Go.Proofs.Ytbggoelfnolldaa
/- THE CELL 'sum', in the pinned program and in every row, IS THE sha256 OF THE DUMP (.gsa) THAT YtbggoelfnolldaaProg.lean LOADS. Nothing in Lean hashes anything: it is a label: what it is worth is what the hold of that sum in a sandbox is worth. -/
noncomputable def Try.pinned : Pinned := { name := "ytbggoelfnolldaa", sum := "40d9538d6ebcf753f460c5cef980c8bf8fe5f506085e33b50e02db161382ae92", checked := Try.checked }
namespace Rows
def none {H : Type} : Left H := { results := [], args := [] }

/-- 'retracelaw27.OracleScripts': WHATEVER THE INPUT: true; the input reads as it did. -/
def oracleScriptsSpec : ChangeSpec := { name := "oracleScripts", fn := fun _ => fun
  | [d1, d2] => { results := [.lit (.bool true)], args := [d1, d2] }
  | _ => none }
def oracleScriptsRow : OpenClaim := { program := "ytbggoelfnolldaa", sum := "40d9538d6ebcf753f460c5cef980c8bf8fe5f506085e33b50e02db161382ae92", func := "retrace/retracelaw27.OracleScripts", spec := "oracleScripts", unfollowed := true, recurses := true, apart := false }
def OracleScriptsSaid : Prop := oracleScriptsRow.holds Try.pinned (OpenSpec.ofChange oracleScriptsSpec)

/-- ITS FALSE NEIGHBOUR: 'it returns false'. Refute it at one input. -/
def oracleScriptsWrong : ChangeSpec := { name := "oracleScripts", fn := fun _ => fun
  | [d1, d2] => { results := [.lit (.bool false)], args := [d1, d2] }
  | _ => none }
def OracleScriptsWrongFalsely : Prop := oracleScriptsRow.holds Try.pinned (OpenSpec.ofChange oracleScriptsWrong)

/-- 'retracelaw27.OracleNone': WHATEVER THE INPUT: true; the input reads as it did. -/
def oracleNoneSpec : ChangeSpec := { name := "oracleNone", fn := fun _ => fun
  | [d1, d2] => { results := [.lit (.bool true)], args := [d1, d2] }
  | _ => none }
def oracleNoneRow : OpenClaim := { program := "ytbggoelfnolldaa", sum := "40d9538d6ebcf753f460c5cef980c8bf8fe5f506085e33b50e02db161382ae92", func := "retrace/retracelaw27.OracleNone", spec := "oracleNone", unfollowed := true, recurses := true, apart := false }
def OracleNoneSaid : Prop := oracleNoneRow.holds Try.pinned (OpenSpec.ofChange oracleNoneSpec)

/-- ITS FALSE NEIGHBOUR: 'it returns false'. Refute it at one input. -/
def oracleNoneWrong : ChangeSpec := { name := "oracleNone", fn := fun _ => fun
  | [d1, d2] => { results := [.lit (.bool false)], args := [d1, d2] }
  | _ => none }
def OracleNoneWrongFalsely : Prop := oracleNoneRow.holds Try.pinned (OpenSpec.ofChange oracleNoneWrong)

/-- 'retracelaw27.OracleLogs': WHATEVER THE INPUT: true; the input reads as it did. -/
def oracleLogsSpec : ChangeSpec := { name := "oracleLogs", fn := fun _ => fun
  | [d1, d2] => { results := [.lit (.bool true)], args := [d1, d2] }
  | _ => none }
def oracleLogsRow : OpenClaim := { program := "ytbggoelfnolldaa", sum := "40d9538d6ebcf753f460c5cef980c8bf8fe5f506085e33b50e02db161382ae92", func := "retrace/retracelaw27.OracleLogs", spec := "oracleLogs", unfollowed := true, recurses := true, apart := false }
def OracleLogsSaid : Prop := oracleLogsRow.holds Try.pinned (OpenSpec.ofChange oracleLogsSpec)

/-- ITS FALSE NEIGHBOUR: 'it returns false'. Refute it at one input. -/
def oracleLogsWrong : ChangeSpec := { name := "oracleLogs", fn := fun _ => fun
  | [d1, d2] => { results := [.lit (.bool false)], args := [d1, d2] }
  | _ => none }
def OracleLogsWrongFalsely : Prop := oracleLogsRow.holds Try.pinned (OpenSpec.ofChange oracleLogsWrong)

/-- 'retracelaw27.OracleBack': WHATEVER THE INPUT: true; the input reads as it did. -/
def oracleBackSpec : ChangeSpec := { name := "oracleBack", fn := fun _ => fun
  | [d1, d2] => { results := [.lit (.bool true)], args := [d1, d2] }
  | _ => none }
def oracleBackRow : OpenClaim := { program := "ytbggoelfnolldaa", sum := "40d9538d6ebcf753f460c5cef980c8bf8fe5f506085e33b50e02db161382ae92", func := "retrace/retracelaw27.OracleBack", spec := "oracleBack", unfollowed := true, recurses := true, apart := false }
def OracleBackSaid : Prop := oracleBackRow.holds Try.pinned (OpenSpec.ofChange oracleBackSpec)

/-- ITS FALSE NEIGHBOUR: 'it returns false'. Refute it at one input. -/
def oracleBackWrong : ChangeSpec := { name := "oracleBack", fn := fun _ => fun
  | [d1, d2] => { results := [.lit (.bool false)], args := [d1, d2] }
  | _ => none }
def OracleBackWrongFalsely : Prop := oracleBackRow.holds Try.pinned (OpenSpec.ofChange oracleBackWrong)

/- THE SECOND FORM. 'bulk': how many values and letters a reading holds, each counted each time it is reached (what is shared counts as often as it is met; a slice's spare places count too). A statement '..UptoSaid' is the law's where the arguments, and the package variables that the reading takes, are together of bulk at most 1048576: NARROWER than '..Said'. Prove '..Said' where nothing that the law and all that it calls make is longer than what came in: it says more and counts as full. Else prove '..UptoSaid'. A law counts once. -/
mutual
def uptoBulk {H : Type} : DataW H → Nat
  | .lit (.string bytes) => bytes.length + 1
  | .lit _ => 1
  | .nil => 1
  | .ptr d => uptoBulk d + 1
  | .slice elems spare => uptoBulkAll elems + uptoBulkAll spare + 1
  | .agg parts => uptoBulkAll parts + 1
  | .iface _ d => uptoBulk d + 1
  | .map entries => uptoBulkEntries entries + 1
  | .held _ => 1
def uptoBulkAll {H : Type} : List (DataW H) → Nat
  | [] => 0
  | d :: r => uptoBulk d + uptoBulkAll r
def uptoBulkEntries {H : Type} : List (Lit × DataW H) → Nat
  | [] => 0
  | x :: r => uptoBulkEntry x + uptoBulkEntries r
def uptoBulkEntry {H : Type} : Lit × DataW H → Nat
  | (.string bytes, d) => bytes.length + uptoBulk d + 1
  | (_, d) => uptoBulk d + 1
 end
def uptoSmall : (H : Type) → List (DataW H) → Bool := fun _ ds => decide (uptoBulkAll ds ≤ 1048576)
def OpenSpec.upto (s : _root_.Go.ChangeSpec) : _root_.Go.OpenSpec := { _root_.Go.OpenSpec.ofChange s with cond := some uptoSmall }

/-- 'retracelaw27.OracleScripts', WHERE WHAT IT READS IS OF BULK AT MOST 1048576: true; the input reads as it did. -/
def oracleScriptsUptoRow : OpenClaim := { program := "ytbggoelfnolldaa", sum := "40d9538d6ebcf753f460c5cef980c8bf8fe5f506085e33b50e02db161382ae92", func := "retrace/retracelaw27.OracleScripts", spec := "oracleScripts", unfollowed := true, recurses := true, apart := false, narrowed := true }
def OracleScriptsUptoSaid : Prop := oracleScriptsUptoRow.holds Try.pinned (OpenSpec.upto oracleScriptsSpec)

/-- 'retracelaw27.OracleNone', WHERE WHAT IT READS IS OF BULK AT MOST 1048576: true; the input reads as it did. -/
def oracleNoneUptoRow : OpenClaim := { program := "ytbggoelfnolldaa", sum := "40d9538d6ebcf753f460c5cef980c8bf8fe5f506085e33b50e02db161382ae92", func := "retrace/retracelaw27.OracleNone", spec := "oracleNone", unfollowed := true, recurses := true, apart := false, narrowed := true }
def OracleNoneUptoSaid : Prop := oracleNoneUptoRow.holds Try.pinned (OpenSpec.upto oracleNoneSpec)

/-- 'retracelaw27.OracleLogs', WHERE WHAT IT READS IS OF BULK AT MOST 1048576: true; the input reads as it did. -/
def oracleLogsUptoRow : OpenClaim := { program := "ytbggoelfnolldaa", sum := "40d9538d6ebcf753f460c5cef980c8bf8fe5f506085e33b50e02db161382ae92", func := "retrace/retracelaw27.OracleLogs", spec := "oracleLogs", unfollowed := true, recurses := true, apart := false, narrowed := true }
def OracleLogsUptoSaid : Prop := oracleLogsUptoRow.holds Try.pinned (OpenSpec.upto oracleLogsSpec)

/-- 'retracelaw27.OracleBack', WHERE WHAT IT READS IS OF BULK AT MOST 1048576: true; the input reads as it did. -/
def oracleBackUptoRow : OpenClaim := { program := "ytbggoelfnolldaa", sum := "40d9538d6ebcf753f460c5cef980c8bf8fe5f506085e33b50e02db161382ae92", func := "retrace/retracelaw27.OracleBack", spec := "oracleBack", unfollowed := true, recurses := true, apart := false, narrowed := true }
def OracleBackUptoSaid : Prop := oracleBackUptoRow.holds Try.pinned (OpenSpec.upto oracleBackSpec)

end Rows
end Go.Proofs.Ytbggoelfnolldaa
