/- WORDS FOR MEMORY THAT IS READ: a run of cells as a list. No condition. -/
import Derived.WalkKit
import Derived.Below
namespace Go.Proofs.Ytfffaefmnjaccaa
open Go.RowKit

/-- The slice whose first cell is at A holds just these cells. -/
def Rd (w : World) (A : Option Addr) (xs : List Value) : Prop :=
  0 < xs.length → ∃ b off, A = some ⟨b, off, none⟩ ∧ ∀ j u, xs[j]? = some u → w.cell? ⟨b, off + j, none⟩ = some u

section
variable {w w' : World} {A : Option Addr} {xs : List Value}
theorem Rd.nil_ : Rd w A [] := fun h => absurd h (by simp)
theorem Rd.keep (h : Rd w A xs) (hk : ∀ p : Addr, p.block < w.heap.size → w'.cell? p = w.cell? p) : Rd w' A xs := fun hn => by
  obtain ⟨b, off, e, hc⟩ := h hn
  refine ⟨b, off, e, fun j u hu => ?_⟩
  have h1 := hc j u hu
  rw [hk _ (World.block_lt_of_cell? w _ h1)]
  exact h1
theorem Rd.below (h : Rd w A xs) (hb : Below w.heap.size w w') : Rd w' A xs := h.keep fun _ hp => hb.cell hp
theorem Rd.drew (h : Rd w A xs) : Rd w.drew A xs := h
theorem Rd.alloc (h : Rd w A xs) (o : Obj) : Rd (w.alloc o) A xs := h.keep fun _ hp => World.cell?_alloc_lt w o _ hp
/-- Cut at its head. -/
theorem Rd.cut (h : Rd w A xs) (k cap : Nat) (hk : k ≤ xs.length) (hc : xs.length ≤ cap) : Rd w (if cap = k then A else A.map (·.add k)) (xs.drop k) := fun hn => by
  rw [List.length_drop] at hn
  obtain ⟨b, off, rfl, hcell⟩ := h (by omega)
  rw [if_neg (by omega)]
  refine ⟨b, off + k, ?_, fun j u hu => ?_⟩
  · simp only [Option.map_some, Addr.add]
    split <;> simp_all
  · rw [Nat.add_assoc]
    exact hcell _ u (by rw [← hu, List.getElem?_drop])
end
end Go.Proofs.Ytfffaefmnjaccaa
