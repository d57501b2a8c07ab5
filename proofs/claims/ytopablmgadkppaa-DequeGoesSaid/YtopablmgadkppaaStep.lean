/- append, wherever the slice begins, as one step of a region that draws its order. No condition. -/
import Derived.Test.YtopablmgadkppaaVec
import Derived.Deep.RegionLaw
import Derived.Deep.RegionLawGrows
namespace Go.Proofs.Ytopablmgadkppaa
open Go.RowKit
set_option linter.unusedVariables false

theorem step_append_vec {P : Program} {ops : Array Oper} {o : Oper} {a : Act} {w : World} {K : Act → World → Prop} {Q : Exit → Act → World → Prop} {E : Prop}
    (hg : o.guard = none) (s x : Operand) (t : TypeId) (hop : o.op = Op.call { callee := Callee.builtin Builtin.append, args := #[s, x], argTypes := #[t, t] })
    (e : TypeId) (i : TypeInfo) (z : Value) (size bytes : Nat) (h1 : P.underlying t = some (.slice e)) (h2 : P.info? e = some i) (h3 : i.zero = some z) (h4 : i.size = size) (h5 : i.bytes = bytes) (h6 : z.cells.size = size) (h7 : 0 < size)
    (A : Option Addr) (n cap : Nat) (xs : List Value) (hs : a.eval s = .slice A n cap) (hv : Vec w e size A n cap xs)
    (ad : Addr) (m c : Nat) (news : List Value) (hx : a.eval x = .slice (some ad) m c) (hn : news.length = m * size) (hc : ∀ j u, news[j]? = some u → w.cell? (ad.add j) = some u) (h1c : ∀ u ∈ news, u.oneCell' = true) (hm : A = none → 0 < m)
    (b1 : n + m ≤ maxLen) (b2 : (n + m) * bytes ≤ 140737488355328)
    (hK : ∀ A' cap' w', Vec w' e size (some A') (n + m) cap' (xs ++ news) → Only (In A) w w' → (some A' = A ∨ ∃ g, A' = ⟨g, 0, none⟩ ∧ w.heap.size ≤ g) → K (a.put o.dst (.slice (some A') (n + m) cap')) w') :
    if Region.wanted o (yielded ops a.tmps) = true then Oper.wp P o a w K Q else E := by
  have hgrown : 0 < m → ∀ v' w', w'.ownsRow w.heap.size e size v' (n + m) (xs ++ news) → w.grownBy w' none → K (a.put o.dst v') w' := by
    intro hm0 v' w' hown hgr
    obtain ⟨A', cap', rfl, hv', hA'⟩ := Vec.of_own hown
    have ho : Only (In A) w w' := (Only.refl _ _).grown hgr (fun k h => (nomatch h))
    rcases hA' with rfl | ⟨g, rfl, hge⟩
    · have := hv'.none_ rfl; have := hv'.le; omega
    · exact hK _ _ _ hv' ho (.inr ⟨g, rfl, hge⟩)
  have hholds : ∀ b, A = some b → ∀ j u, xs[j]? = some u → w.cell? (b.add j) = some u := by
    intro a0 hA j u hu
    obtain ⟨b, off, cur, rfl, hb, hsz, hcur⟩ := hv.at_ a0 hA
    have hj : j < n * size := by rw [← hv.len]; exact (List.getElem?_eq_some_iff.1 hu).1
    rw [show ((⟨b, off, none⟩ : Addr).add j) = ⟨b, off + j, none⟩ by unfold Addr.add; split <;> simp_all, hb.cell, hcur j hj, hu]
  have hle := hv.le
  cases hA : A with
  | none =>
    have hc0 := hv.none_ hA
    have hm0 := hm hA
    exact step_append_grows hg s x t hop e i z size bytes h1 h2 h3 h4 h5 h6 h7 A n cap xs hs (fun _ => ⟨by omega, hc0⟩) hv.len hholds ad m c news hx hn hc h1c (by omega) b1 b2 (hgrown hm0)
  | some a0 =>
    by_cases hr : n + m ≤ cap
    · obtain ⟨b, off, cur, rfl, hb, hsz, hcur⟩ := hv.at_ a0 hA
      have hle2 : (n + m) * size ≤ cap * size := Nat.mul_le_mul_right size hr
      rw [Nat.add_mul] at hle2
      refine step_append_room hg s x t hop e i size h1 h2 h4 b off n cap (by rw [hs, hA]) ad m c news hx hn hc h1c hr (fun j hj => ?_) ?_
      · refine ⟨?_, hb.frozen _⟩
        rw [hb.cell, Array.getElem?_eq_getElem (by omega)]
        rfl
      · obtain ⟨cur', k1, k2, k3, k4, k5, _⟩ := setCells_blk b news (off + n * size) w cur hb
        refine hK _ _ _ ⟨by rw [List.length_append, hv.len, hn, Nat.add_mul], hr, hv.max, fun a ha => ?_, fun h => (nomatch h)⟩ (k5.mono (fun i h => by rw [hA]; subst h; rfl)) (.inl hA.symm)
        cases ha
        refine ⟨b, off, cur', rfl, k1, by omega, fun j hj => ?_⟩
        rw [Nat.add_mul] at hj
        by_cases hlt : j < n * size
        · rw [k3 _ (by omega), hcur j hlt, List.getElem?_append_left (by rw [hv.len]; exact hlt)]
        · rw [List.getElem?_append_right (by rw [hv.len]; omega), hv.len, ← k4 (j - n * size) (by omega) (by omega)]
          congr 1
          omega
    · exact step_append_grows hg s x t hop e i z size bytes h1 h2 h3 h4 h5 h6 h7 A n cap xs hs (fun h => by rw [hA] at h; cases h) hv.len hholds ad m c news hx hn hc h1c (by omega) b1 b2 (hgrown (by omega))
end Go.Proofs.Ytopablmgadkppaa
