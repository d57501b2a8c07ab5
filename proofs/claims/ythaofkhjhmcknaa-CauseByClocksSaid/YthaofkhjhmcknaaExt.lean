/- A REGION THAT DRAWS ITS ORDER, whose callees make memory but turn nothing of what was there: one walk, in the order of the text. No condition. -/
import Derived.Deep.QuietTactic
import Derived.BigQuiet
import Derived.Below
import Derived.WalkKit
namespace Go.Proofs.Ythaofkhjhmcknaa
open Go.RowKit
set_option linter.unusedVariables false

/-- A world in which all that lay in w lies as it lay. -/
structure ExtW (w : World) where
  w' : World
  ext : Below w.heap.size w w'
instance (w : World) : Inhabited (ExtW w) := ⟨⟨w, Below.refl w.heap.size w⟩⟩
theorem wp_region_ext {P : Program} {id : Nat} {Q : Exit → Act → World → Prop} {a : Act} {w : World} {l : List Oper} (hm : P.follows .mixedOrders = true) (hB : Region.lexB .any l.toArray = true)
    (h : wpQuiet P l.toArray (fun w' => ∃ p : ExtW w, w' = p.w') (fun a' => ∀ w', (∃ p : ExtW w, w' = p.w') → Q .normal a' w') l a) : (Code.region id l.toArray true).wp P Q a w :=
  wp_region_quiet (C := fun w' => ∃ p : ExtW w, w' = p.w') hm hB ⟨⟨_, (Below.refl w.heap.size w).drew⟩, rfl⟩ (by simpa using h)
theorem Calls.ext_of {P : Program} {f : FuncId} {args : Array Value} {w : World} {p : ExtW w} {v : Value}
    (h : Calls P f args p.w' fun e w' => e = .returned v ∧ Below p.w'.heap.size p.w' w') : Calls P f args p.w' fun e w'' => e = .returned v ∧ ∃ q : ExtW w, w'' = q.w' :=
  h.mono fun _ w'' ⟨he, hb⟩ => ⟨he, ⟨w'', p.ext.trans (hb.mono p.ext.size)⟩, rfl⟩
end Go.Proofs.Ythaofkhjhmcknaa
