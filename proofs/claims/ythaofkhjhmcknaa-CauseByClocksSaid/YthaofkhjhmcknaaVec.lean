/- A SLICE IN MEMORY, wherever it begins in its array: read, cut, appended to. No condition. -/
import Derived.Test.YthaofkhjhmcknaaWords
import Derived.ArgAppend
import Derived.OwnWalk
import Derived.RegionTactic
namespace Go.Proofs.Ythaofkhjhmcknaa
open Go.RowKit
set_option linter.unusedVariables false

/-- The slice '.slice A n cap' of elements of type e (size cells each) holds the cells xs; its array is a block of such cells. -/
structure Vec (w : World) (e : TypeId) (size : Nat) (A : Option Addr) (n cap : Nat) (xs : List Value) : Prop where
  len : xs.length = n * size
  le : n ≤ cap
  max : cap ≤ maxLen
  at_ : ∀ a, A = some a → ∃ b off cur, a = ⟨b, off, none⟩ ∧ Blk w b e cur ∧ off + cap * size ≤ cur.size ∧ ∀ j, j < n * size → cur[off + j]? = xs[j]?
  none_ : A = none → cap = 0

/-- The block of a slice's array. -/
def In (A : Option Addr) (b : Nat) : Prop := A.map (·.block) = some b

section
variable {w w' : World} {e : TypeId} {size : Nat} {A : Option Addr} {n cap : Nat} {xs : List Value} {S : Nat → Prop}
theorem Vec.nil_ (w : World) (e : TypeId) (size : Nat) : Vec w e size none 0 0 [] := ⟨by simp, Nat.le_refl _, Nat.zero_le _, fun a h => (nomatch h), fun _ => rfl⟩
theorem Vec.only (h : Vec w e size A n cap xs) (ho : Only S w w') (hS : ∀ b, In A b → ¬ S b) : Vec w' e size A n cap xs :=
  ⟨h.len, h.le, h.max, fun a ha => by
    obtain ⟨b, off, cur, rfl, hb, hs, hc⟩ := h.at_ a ha
    exact ⟨b, off, cur, rfl, hb.only ho (hS b (by rw [ha]; rfl)), hs, hc⟩, h.none_⟩
theorem Vec.alloc (h : Vec w e size A n cap xs) (o : Obj) : Vec (w.alloc o) e size A n cap xs := h.only (S := fun _ => False) ((Only.refl _ _).alloc o) (fun _ _ h => h)
theorem Vec.drewN (h : Vec w e size A n cap xs) (k : Nat) : Vec (w.drewN k) e size A n cap xs := h.only (S := fun _ => False) ((Only.refl _ _).drewN k) (fun _ _ h => h)
theorem Vec.lt (h : Vec w e size A n cap xs) (b : Nat) (hb : In A b) : b < w.heap.size := by
  cases A with
  | none => cases hb
  | some a =>
    obtain ⟨b', off, cur, rfl, hk, _⟩ := h.at_ a rfl
    cases hb
    exact hk.lt
/-- The cell of an element. -/
theorem Vec.cell (h : Vec w e size A n cap xs) (hn : 0 < n) : ∃ b off, A = some ⟨b, off, none⟩ ∧ b < w.heap.size ∧ ∀ j u, xs[j]? = some u → w.cell? ⟨b, off + j, none⟩ = some u := by
  cases A with
  | none => have := h.none_ rfl; have := h.le; omega
  | some a =>
    obtain ⟨b, off, cur, rfl, hb, hs, hc⟩ := h.at_ a rfl
    refine ⟨b, off, rfl, hb.lt, fun j u hu => ?_⟩
    have hj : j < n * size := by rw [← h.len]; exact (List.getElem?_eq_some_iff.1 hu).1
    rw [hb.cell, hc j hj, hu]
theorem Vec.take (h : Vec w e size A n cap xs) {m : Nat} (hm : m ≤ n) : Vec w e size A m cap (xs.take (m * size)) := by
  have hms : m * size ≤ n * size := Nat.mul_le_mul_right size hm
  exact ⟨by rw [List.length_take, h.len]; omega, Nat.le_trans hm h.le, h.max, fun a ha => by
    obtain ⟨b, off, cur, rfl, hb, hs, hc⟩ := h.at_ a ha
    exact ⟨b, off, cur, rfl, hb, hs, fun j hj => by rw [hc j (by omega), List.getElem?_take, if_pos hj]⟩, h.none_⟩
theorem Vec.drop (h : Vec w e size A n cap xs) {m : Nat} (hm : m ≤ n) : Vec w e size (if cap = m then A else A.map (·.add (m * size))) (n - m) (cap - m) (xs.drop (m * size)) := by
  have hms : m * size ≤ n * size := Nat.mul_le_mul_right size hm
  have hle := h.le
  refine ⟨by rw [List.length_drop, h.len, Nat.sub_mul], by omega, Nat.le_trans (Nat.sub_le _ _) h.max, fun a ha => ?_, fun ha => ?_⟩
  · by_cases hc : cap = m
    · rw [if_pos hc] at ha
      obtain ⟨b, off, cur, rfl, hb, hs, hcc⟩ := h.at_ a ha
      refine ⟨b, off, cur, rfl, hb, by rw [hc, Nat.sub_self, Nat.zero_mul]; omega, fun j hj => ?_⟩
      rw [show n - m = 0 by omega] at hj
      omega
    · rw [if_neg hc] at ha
      cases A with
      | none => cases ha
      | some a0 =>
        obtain ⟨b, off, cur, rfl, hb, hs, hcc⟩ := h.at_ a0 rfl
        have ea : a = ⟨b, off + m * size, none⟩ := by
          simp only [Option.map_some, Option.some.injEq] at ha
          rw [← ha]
          unfold Addr.add
          split <;> simp_all
        refine ⟨b, off + m * size, cur, ea, hb, ?_, fun j hj => ?_⟩
        · rw [Nat.add_assoc, ← Nat.add_mul, show m + (cap - m) = cap by omega]; exact hs
        · rw [Nat.sub_mul] at hj
          rw [Nat.add_assoc, hcc _ (by omega), List.getElem?_drop]
  · by_cases hc : cap = m
    · omega
    · rw [if_neg hc] at ha
      cases A with
      | none => have := h.none_ rfl; omega
      | some a0 => cases ha
theorem Vec.of_own {base : Nat} {v : Value} (h : w.ownsRow base e size v n xs) : ∃ A cap, v = .slice A n cap ∧ Vec w e size A n cap xs ∧ (A = none ∨ ∃ g, A = some ⟨g, 0, none⟩ ∧ base ≤ g) := by
  obtain ⟨hl, h2⟩ := h
  rcases h2 with ⟨rfl, rfl⟩ | ⟨g, cap, cur, rfl, hg, hh, hn, hm, hs, ht⟩
  · exact ⟨none, 0, rfl, ⟨hl, Nat.le_refl _, Nat.zero_le _, fun a h => (nomatch h), fun _ => rfl⟩, .inl rfl⟩
  · refine ⟨some ⟨g, 0, none⟩, cap, rfl, ⟨hl, hn, hm, fun a ha => ?_, fun h => (nomatch h)⟩, .inr ⟨g, rfl, hg⟩⟩
    cases ha
    refine ⟨g, 0, cur, rfl, hh, by rw [Nat.zero_add, hs]; exact Nat.le_refl _, fun j hj => ?_⟩
    rw [← ht, List.getElem?_take, if_pos hj, Nat.zero_add]
    simp
end

/-- Several cells stored in a row. -/
theorem setCells_blk {e : TypeId} (b : Nat) : ∀ (vs : List Value) (o : Nat) (w : World) (cur : Array Value), Blk w b e cur →
    ∃ cur', Blk (w.setCells b o vs) b e cur' ∧ cur'.size = cur.size ∧ (∀ i, (i < o ∨ o + vs.length ≤ i) → cur'[i]? = cur[i]?) ∧ (∀ j, j < vs.length → o + j < cur.size → cur'[o + j]? = vs[j]?) ∧
      Only (fun k => k = b) w (w.setCells b o vs) ∧ (w.setCells b o vs).heap.size = w.heap.size
  | [], o, w, cur, h => ⟨cur, h, rfl, fun _ _ => rfl, fun j hj => by simp at hj, Only.refl _ _, rfl⟩
  | v :: r, o, w, cur, h => by
    obtain ⟨cur', h1, h2, h3, h4, h5, h6⟩ := setCells_blk b r (o + 1) (w.setCell ⟨b, o, none⟩ v) (cur.setIfInBounds o v) (h.set_ o v)
    refine ⟨cur', h1, by rw [h2, Array.size_setIfInBounds], fun i hi => ?_, fun j hj hs => ?_, ?_, by rw [show (w.setCells b o (v :: r)).heap.size = ((w.setCell ⟨b, o, none⟩ v).setCells b (o + 1) r).heap.size from rfl, h6]; simp⟩
    · simp only [List.length_cons] at hi
      rw [h3 i (by omega), Array.getElem?_setIfInBounds_ne (by omega)]
    · cases j with
      | zero => rw [Nat.add_zero, h3 o (by omega), Array.getElem?_setIfInBounds_self, if_pos (by omega)]; rfl
      | succ j =>
        simp only [List.length_cons] at hj
        have := h4 j (by omega) (by rw [Array.size_setIfInBounds]; omega)
        rw [show o + (j + 1) = o + 1 + j by omega, this]
        rfl
    · have ho : Only (fun k => k = b) w (w.setCell ⟨b, o, none⟩ v) := (Only.refl (fun k => k = b) w).setCell (p := ⟨b, o, none⟩) (.inl rfl) v
      exact ho.trans h5 (fun i _ h => h)

/-- append, wherever the slice begins, whether there is room or not. -/
theorem wpList_append_vec {P : Program} (w : World) {ops : Array Oper} {rest : List Oper} {o : Oper} {a : Act} {Q : Exit → Act → World → Prop}
    (hg : o.guard = none) (s x : Operand) (t : TypeId) (hop : o.op = Op.call { callee := Callee.builtin Builtin.append, args := #[s, x], argTypes := #[t, t] })
    (e : TypeId) (i : TypeInfo) (z : Value) (size bytes : Nat) (h1 : P.underlying t = some (.slice e)) (h2 : P.info? e = some i) (h3 : i.zero = some z) (h4 : i.size = size) (h5 : i.bytes = bytes) (h6 : z.cells.size = size) (h7 : 0 < size)
    (A : Option Addr) (n cap : Nat) (xs : List Value) (hs : a.eval s = .slice A n cap) (hv : Vec w e size A n cap xs)
    (ad : Addr) (m c : Nat) (news : List Value) (hx : a.eval x = .slice (some ad) m c) (hn : news.length = m * size) (hc : ∀ j u, news[j]? = some u → w.cell? (ad.add j) = some u) (h1c : ∀ u ∈ news, u.oneCell' = true) (hm : A = none → 0 < m)
    (b1 : n + m ≤ maxLen) (b2 : (n + m) * bytes ≤ 140737488355328)
    (hK : ∀ A' cap' w', Vec w' e size (some A') (n + m) cap' (xs ++ news) → Only (In A) w w' → (some A' = A ∨ ∃ g, A' = ⟨g, 0, none⟩ ∧ w.heap.size ≤ g) → wpList P ops Q rest (a.put o.dst (.slice (some A') (n + m) cap')) w') :
    wpList P ops Q (o :: rest) a w := by
  have hgrown : 0 < m → ∀ v' w', w'.ownsRow w.heap.size e size v' (n + m) (xs ++ news) → w.grownBy w' none → wpList P ops Q rest (a.put o.dst v') w' := by
    intro hm0 v' w' hown hgr
    obtain ⟨A', cap', rfl, hv', hA'⟩ := Vec.of_own hown
    have ho : Only (In A) w w' := (Only.refl _ _).grown hgr (fun k h => (nomatch h))
    rcases hA' with rfl | ⟨g, rfl, hge⟩
    · have := hv'.none_ rfl; have := hv'.le; omega
    · exact hK _ _ _ hv' ho (.inr ⟨g, rfl, hge⟩)
  cases hA : A with
  | none =>
    subst hA
    have hc0 := hv.none_ rfl
    have hle := hv.le
    have hn0 : n = 0 := by omega
    have hm0 := hm rfl
    exact wpList_append_grows w hg s x t hop e i z size bytes h1 h2 h3 h4 h5 h6 h7 none n cap xs hs (fun _ => ⟨hn0, hc0⟩) hv.len (fun b h => (nomatch h)) ad m c news hx hn hc h1c (by omega) b1 b2 (hgrown hm0)
  | some a0 =>
    subst hA
    obtain ⟨b, off, cur, rfl, hb, hsz, hcur⟩ := hv.at_ a0 rfl
    refine wpList_append_arg w hg s x t hop e i z size bytes h1 h2 h3 h4 h5 h6 h7 b off n cap xs hs hv.len ?_ ad m c news hx hn hc h1c ?_ b1 b2 ?_ (fun hlt => hgrown (by have := hv.le; omega))
    · intro j u hu
      have hj : j < n * size := by rw [← hv.len]; exact (List.getElem?_eq_some_iff.1 hu).1
      rw [hb.cell, hcur j hj, hu]
    · intro hroom j hj
      have : (n + m) * size ≤ cap * size := Nat.mul_le_mul_right size hroom
      rw [Nat.add_mul] at this
      refine ⟨?_, hb.frozen _⟩
      rw [hb.cell, Array.getElem?_eq_getElem (by omega)]
      rfl
    · intro hroom
      have hle : (n + m) * size ≤ cap * size := Nat.mul_le_mul_right size hroom
      rw [Nat.add_mul] at hle
      obtain ⟨cur', k1, k2, k3, k4, k5, _⟩ := setCells_blk b news (off + n * size) w cur hb
      refine hK _ _ _ ⟨by rw [List.length_append, hv.len, hn, Nat.add_mul], hroom, hv.max, fun a ha => ?_, fun h => (nomatch h)⟩ (k5.mono (fun i h => by subst h; rfl)) (.inl rfl)
      cases ha
      refine ⟨b, off, cur', rfl, k1, by omega, fun j hj => ?_⟩
      rw [Nat.add_mul] at hj
      by_cases hlt : j < n * size
      · rw [k3 _ (by omega), hcur j hlt, List.getElem?_append_left (by rw [hv.len]; exact hlt)]
      · rw [List.getElem?_append_right (by rw [hv.len]; omega), hv.len, ← k4 (j - n * size) (by omega) (by omega)]
        congr 1
        omega
end Go.Proofs.Ythaofkhjhmcknaa
