/- WHICH STEP COMES AHEAD OF WHICH, how far, and by which path: the plain law of chapter 41. No condition. -/
namespace Go.Proofs.Ythaofkhjhmcknaa
set_option linter.unusedVariables false

/-- The name of one who has a part: 0 is the clock. -/
def nm (n : Int) : Int := if n < 0 then 0 else if 63 < n then 64 else n + 1
theorem nm_range (n : Int) : 0 ≤ nm n ∧ nm n ≤ 64 := by unfold nm; split <;> (try split) <;> omega
def has (h : Int × Int) (who : Int) : Prop := nm h.1 = who ∨ (0 ≤ h.2 ∧ nm h.2 = who)
instance (h : Int × Int) (who : Int) : Decidable (has h who) := by unfold has; infer_instance
/-- Those who have a part in a step. -/
def parts (h : Int × Int) : List Int := if 0 ≤ h.2 ∧ nm h.2 ≠ nm h.1 then [nm h.1, nm h.2] else [nm h.1]
theorem mem_parts (h : Int × Int) (who : Int) : who ∈ parts h ↔ has h who := by
  unfold parts has
  split
  · rename_i c; simp only [List.mem_cons, List.not_mem_nil, or_false, eq_comm (a := who)]
    constructor
    · rintro (e | e)
      · exact .inl e
      · exact .inr ⟨c.1, e⟩
    · rintro (e | e)
      · exact .inl e
      · exact .inr e.2
  · rename_i c; simp only [List.mem_cons, List.not_mem_nil, or_false, eq_comm (a := who)]
    constructor
    · exact .inl
    · rintro (e | ⟨e, f⟩)
      · exact e
      · by_cases g : nm h.2 = nm h.1
        · rw [← g]; exact f
        · exact (c ⟨e, g⟩).elim
theorem has_range {h : Int × Int} {who : Int} (hh : has h who) : 0 ≤ who ∧ who ≤ 64 := by
  rcases hh with rfl | ⟨_, rfl⟩ <;> exact nm_range _
/-- Has somebody a part in both? -/
def tch (x y : Int × Int) : Prop := ∃ who, has x who ∧ has y who
theorem tch_symm {x y : Int × Int} (h : tch x y) : tch y x := by obtain ⟨w, a, b⟩ := h; exact ⟨w, b, a⟩
theorem tch_any (x y : Int × Int) : ((parts x).any fun n => (parts y).contains n) = true ↔ tch x y := by
  rw [List.any_eq_true]
  constructor
  · rintro ⟨n, h1, h2⟩
    exact ⟨n, (mem_parts _ _).1 h1, (mem_parts _ _).1 (List.contains_iff_mem.1 h2)⟩
  · rintro ⟨n, h1, h2⟩
    exact ⟨n, (mem_parts _ _).2 h1, List.contains_iff_mem.2 ((mem_parts _ _).2 h2)⟩
def tchb (x y : Int × Int) : Bool := (parts x).any fun n => (parts y).contains n
theorem tchb_iff (x y : Int × Int) : tchb x y = true ↔ tch x y := tch_any x y
theorem tchb_symm (x y : Int × Int) : tchb x y = tchb y x := by
  rw [Bool.eq_iff_iff, tchb_iff, tchb_iff]; exact ⟨tch_symm, tch_symm⟩

section
variable (t : Nat → Nat → Bool) (a : Nat)

/-- What stands at k, when the first j steps from a on were looked at. -/
def best (f : Nat → Int) (k : Nat) : Nat → Int
  | 0 => -1
  | j + 1 => if 0 ≤ f (a + j) ∧ t (a + j) k = true ∧ (best f k j < 0 ∨ f (a + j) + 1 < best f k j) then f (a + j) + 1 else best f k j
/-- The table, when the steps up to a + m were looked at. -/
def tab : Nat → Nat → Int
  | 0 => fun i => if i = a then 0 else -1
  | m + 1 => fun i => if i = a + m + 1 then best t a (tab m) (a + m + 1) (m + 1) else tab m i
def far (k : Nat) : Int := tab t a (k - a) k

theorem best_congr (f g : Nat → Int) (k : Nat) : ∀ j, (∀ i, a ≤ i → i < a + j → f i = g i) → best t a f k j = best t a g k j
  | 0, _ => rfl
  | j + 1, h => by
    have ih := best_congr f g k j (fun i h1 h2 => h i h1 (by omega))
    have e := h (a + j) (by omega) (by omega)
    simp only [best, ih, e]
theorem tab_at : ∀ (m i : Nat), a ≤ i → i ≤ a + m → tab t a m i = far t a i
  | 0, i, h1, h2 => by
    have : i = a := by omega
    subst this; simp [far]
  | m + 1, i, h1, h2 => by
    by_cases e : i = a + m + 1
    · subst e; unfold far; rw [show a + m + 1 - a = m + 1 by omega]
    · rw [show tab t a (m + 1) i = tab t a m i by simp [tab, e]]
      exact tab_at m i h1 (by omega)
theorem tab_out : ∀ (m i : Nat), i < a ∨ a + m < i → tab t a m i = -1
  | 0, i, h => by simp [tab]; omega
  | m + 1, i, h => by
    have : i ≠ a + m + 1 := by omega
    simp only [tab, if_neg this]
    exact tab_out m i (by omega)
theorem far_a : far t a a = 0 := by simp [far, tab]
theorem far_k (k : Nat) (h : a < k) : far t a k = best t a (far t a) k (k - a) := by
  obtain ⟨m, rfl⟩ : ∃ m, k = a + m + 1 := ⟨k - a - 1, by omega⟩
  unfold far
  rw [show a + m + 1 - a = m + 1 by omega]
  simp only [tab, if_true]
  refine best_congr t a _ _ _ _ fun i h1 h2 => ?_
  rw [tab_at t a m i h1 (by omega)]; rfl

theorem best_spec (f : Nat → Int) (k : Nat) : ∀ j, (best t a f k j = -1 ∧ ∀ i, a ≤ i → i < a + j → 0 ≤ f i → t i k = true → False) ∨
    (∃ i, a ≤ i ∧ i < a + j ∧ 0 ≤ f i ∧ t i k = true ∧ best t a f k j = f i + 1 ∧ ∀ i', a ≤ i' → i' < a + j → 0 ≤ f i' → t i' k = true → f i ≤ f i')
  | 0 => .inl ⟨rfl, fun i h1 h2 => by omega⟩
  | j + 1 => by
    rcases best_spec f k j with ⟨e, h⟩ | ⟨i, h1, h2, h3, h4, e, h5⟩
    · by_cases c : 0 ≤ f (a + j) ∧ t (a + j) k = true
      · refine .inr ⟨a + j, by omega, by omega, c.1, c.2, ?_, fun i' g1 g2 g3 g4 => ?_⟩
        · rw [best, if_pos ⟨c.1, c.2, .inl (by omega)⟩]
        · by_cases q : i' = a + j
          · subst q; omega
          · exact (h i' g1 (by omega) g3 g4).elim
      · refine .inl ⟨?_, fun i' g1 g2 g3 g4 => ?_⟩
        · rw [best, if_neg (fun x => c ⟨x.1, x.2.1⟩), e]
        · by_cases q : i' = a + j
          · subst q; exact c ⟨g3, g4⟩
          · exact h i' g1 (by omega) g3 g4
    · by_cases c : 0 ≤ f (a + j) ∧ t (a + j) k = true ∧ (best t a f k j < 0 ∨ f (a + j) + 1 < best t a f k j)
      · refine .inr ⟨a + j, by omega, by omega, c.1, c.2.1, by rw [best, if_pos c], fun i' g1 g2 g3 g4 => ?_⟩
        by_cases q : i' = a + j
        · subst q; omega
        · have := h5 i' g1 (by omega) g3 g4
          have := c.2.2
          omega
      · refine .inr ⟨i, h1, by omega, h3, h4, by rw [best, if_neg c, e], fun i' g1 g2 g3 g4 => ?_⟩
        by_cases q : i' = a + j
        · subst q
          have : ¬ (best t a f k j < 0 ∨ f (a + j) + 1 < best t a f k j) := fun x => c ⟨g3, g4, x⟩
          omega
        · exact h5 i' g1 (by omega) g3 g4

/-- One comes from a to k by touching steps. -/
inductive Rch : Nat → Prop
  | here : Rch a
  | next {i k : Nat} : Rch i → i < k → t i k = true → Rch k
theorem Rch.le {k : Nat} (h : Rch t a k) : a ≤ k := by
  induction h with
  | here => exact Nat.le_refl _
  | next _ h2 _ ih => omega
theorem far_iff : ∀ (n k : Nat), k < n → a ≤ k → (0 ≤ far t a k ↔ Rch t a k)
  | 0, _, h, _ => by omega
  | n + 1, k, h, h2 => by
    by_cases e : k = a
    · subst e; rw [far_a]; exact ⟨fun _ => .here, fun _ => by omega⟩
    · rw [far_k t a k (by omega)]
      rcases best_spec t a (far t a) k (k - a) with ⟨q, hn⟩ | ⟨i, h1, h2, h3, h4, q, h5⟩
      · rw [q]
        refine ⟨fun x => by omega, fun x => ?_⟩
        cases x with
        | here => exact absurd rfl e
        | next r hlt ht =>
          have hle := r.le
          exact (hn _ hle (by omega) ((far_iff n _ (by omega) hle).2 r) ht).elim
      · rw [q]
        exact ⟨fun _ => .next ((far_iff n i (by omega) h1).1 h3) (by omega) h4, fun _ => by omega⟩
theorem far_rch {k : Nat} (h : a ≤ k) : 0 ≤ far t a k ↔ Rch t a k := far_iff t a (k + 1) k (Nat.lt_succ_self k) h
theorem far_ge (k : Nat) (h : a ≤ k) : -1 ≤ far t a k := by
  by_cases e : k = a
  · subst e; rw [far_a]; omega
  · rw [far_k t a k (by omega)]
    rcases best_spec t a (far t a) k (k - a) with ⟨q, _⟩ | ⟨i, h1, h2, h3, h4, q, h5⟩ <;> omega

theorem far_le : ∀ (n k : Nat), k < n → a ≤ k → far t a k ≤ (k : Int) - a
  | 0, _, h, _ => by omega
  | n + 1, k, h, h2 => by
    by_cases e : k = a
    · subst e; rw [far_a]; omega
    · rw [far_k t a k (by omega)]
      rcases best_spec t a (far t a) k (k - a) with ⟨q, _⟩ | ⟨i, h1, h2', h3, h4, q, h5⟩
      · omega
      · have := far_le n i (by omega) h1
        omega
theorem far_range {k : Nat} (h : a ≤ k) : -1 ≤ far t a k ∧ far t a k ≤ (k : Int) := by
  have := far_ge t a k h
  have := far_le t a (k + 1) k (Nat.lt_succ_self k) h
  omega
/-- What stands at k is never more. -/
theorem best_range (k : Nat) : ∀ j, -1 ≤ best t a (far t a) k j ∧ best t a (far t a) k j ≤ (a : Int) + j + 1
  | 0 => by simp [best]; omega
  | j + 1 => by
    have ih := best_range k j
    have := far_range t a (k := a + j) (by omega)
    unfold best
    split <;> omega
theorem best_yes {i k : Nat} (h : a ≤ i) (h1 : 0 ≤ far t a i) (h2 : t i k = true) (h3 : best t a (far t a) k (i - a) < 0 ∨ far t a i + 1 < best t a (far t a) k (i - a)) : best t a (far t a) k (i + 1 - a) = far t a i + 1 := by
  rw [show i + 1 - a = (i - a) + 1 by omega, best, show a + (i - a) = i by omega, if_pos ⟨h1, h2, h3⟩]
theorem best_no {i k : Nat} (h : a ≤ i) (h1 : far t a i < 0 ∨ t i k = false ∨ ¬ (best t a (far t a) k (i - a) < 0 ∨ far t a i + 1 < best t a (far t a) k (i - a))) : best t a (far t a) k (i + 1 - a) = best t a (far t a) k (i - a) := by
  rw [show i + 1 - a = (i - a) + 1 by omega, best, show a + (i - a) = i by omega, if_neg]
  rintro ⟨g1, g2, g3⟩
  rcases h1 with h1 | h1 | h1
  · omega
  · rw [g2] at h1; cases h1
  · exact h1 g3

/-- The one ahead of k on the way from a: the first one that may be. -/
structure Pre (k i : Nat) : Prop where
  le : a ≤ i
  lt : i < k
  one : far t a i = far t a k - 1
  touch : t i k = true
  first : ∀ i', a ≤ i' → i' < i → far t a i' = far t a k - 1 → t i' k = true → False
theorem Pre.uniq {k i j : Nat} (h : Pre t a k i) (g : Pre t a k j) : i = j := by
  rcases Nat.lt_trichotomy i j with q | q | q
  · exact (g.first i h.le q h.one h.touch).elim
  · exact q
  · exact (h.first j g.le q g.one g.touch).elim
theorem far_pos {k : Nat} (h : a < k) (hf : 0 ≤ far t a k) : 1 ≤ far t a k := by
  rw [far_k t a k h] at hf ⊢
  rcases best_spec t a (far t a) k (k - a) with ⟨q, _⟩ | ⟨i, h1, h2, h3, h4, q, h5⟩ <;> omega
/-- There is one that may be ahead. -/
theorem some_pre {k : Nat} (h : a < k) (hf : 0 ≤ far t a k) : ∃ i, a ≤ i ∧ i < k ∧ far t a i = far t a k - 1 ∧ t i k = true := by
  have e := far_k t a k h
  rcases best_spec t a (far t a) k (k - a) with ⟨q, _⟩ | ⟨i, h1, h2, h3, h4, q, h5⟩
  · omega
  · exact ⟨i, h1, by omega, by omega, h4⟩
/-- The first step touches: it is the one ahead. -/
theorem pre_touch {k : Nat} (h : a < k) (ht : t a k = true) : Pre t a k a ∧ far t a k = 1 := by
  have e := far_k t a k h
  have h0 := far_a t a
  rcases best_spec t a (far t a) k (k - a) with ⟨q, hn⟩ | ⟨i, h1, h2, h3, h4, q, h5⟩
  · exact (hn a (Nat.le_refl _) (by omega) (by omega) ht).elim
  · have := h5 a (Nat.le_refl _) (by omega) (by omega) ht
    exact ⟨⟨Nat.le_refl _, h, by omega, ht, fun i' x y => by omega⟩, by omega⟩

/-- The path from a to k. -/
inductive Pth : Nat → List Int → Prop
  | here : Pth a [(a : Int)]
  | next {i k : Nat} {L : List Int} : Pth i L → Pre t a k i → Pth k (L ++ [(k : Int)])
theorem Pth.uniq {k : Nat} {L : List Int} (h : Pth t a k L) : ∀ {M : List Int}, Pth t a k M → L = M := by
  induction h with
  | here =>
    intro M g
    cases g with
    | here => rfl
    | next g1 g2 => have := g2.le; have := g2.lt; omega
  | next h1 h2 ih =>
    intro M g
    cases g with
    | here => have := h2.le; have := h2.lt; omega
    | next g1 g2 =>
      have := Pre.uniq t a h2 g2
      subst this
      rw [ih g1]
theorem Pth.pos {k : Nat} {L : List Int} (h : Pth t a k L) : 0 < L.length := by
  cases h <;> simp
theorem Pth.le {k : Nat} {L : List Int} (h : Pth t a k L) : L.length ≤ k - a + 1 ∧ a ≤ k := by
  induction h with
  | here => simp
  | next h1 h2 ih => have := h2.le; have := h2.lt; rw [List.length_append]; simp; omega
theorem Pth.mem {k : Nat} {L : List Int} (h : Pth t a k L) : ∀ x ∈ L, 0 ≤ x ∧ x ≤ k := by
  induction h with
  | here => intro x hx; simp at hx; omega
  | next h1 h2 ih =>
    intro x hx
    simp at hx
    have := h2.lt
    rcases hx with hx | hx
    · have := ih x hx; omega
    · omega
end

/-- One step comes ahead of another one. -/
def Bef (t : Nat → Nat → Bool) (a b : Nat) : Prop := a < b ∧ 0 ≤ far t a b
theorem bef_rch {t : Nat → Nat → Bool} {a b : Nat} : Bef t a b ↔ a < b ∧ Rch t a b :=
  ⟨fun h => ⟨h.1, (far_rch t a (Nat.le_of_lt h.1)).1 h.2⟩, fun h => ⟨h.1, (far_rch t a (Nat.le_of_lt h.1)).2 h.2⟩⟩
theorem Rch.trans {t : Nat → Nat → Bool} {a b c : Nat} (h : Rch t a b) (g : Rch t b c) : Rch t a c := by
  induction g with
  | here => exact h
  | next _ h2 h3 ih => exact .next ih h2 h3
theorem Bef.trans {t : Nat → Nat → Bool} {a b c : Nat} (h : Bef t a b) (g : Bef t b c) : Bef t a c := by
  rw [bef_rch] at *
  exact ⟨by omega, h.2.trans g.2⟩
end Go.Proofs.Ythaofkhjhmcknaa
