/- WHAT A MOVE IN A RUN OF HITS COMES TO, in plain Lean: no program in sight. No condition. -/
namespace Go.Proofs.Ytfffaefmnjaccaa

/-- The places that are hit: n of them looked at, from f on. -/
def hl (hits : List Bool) (f n : Nat) : List Nat := (List.range' f n).filter fun p => hits.getD (p - 1) false

theorem hl_zero (hits : List Bool) (f : Nat) : hl hits f 0 = [] := rfl
theorem hl_succ (hits : List Bool) (f n : Nat) : hl hits f (n + 1) = hl hits f n ++ (if hits.getD (f + n - 1) false then [f + n] else []) := by
  unfold hl
  rw [List.range'_1_concat, List.filter_append, List.filter_cons, List.filter_nil]
theorem hl_length (hits : List Bool) (f n : Nat) : (hl hits f n).length ≤ n := by
  unfold hl; exact Nat.le_trans (List.length_filter_le _ _) (by simp)
theorem hl_mem {hits : List Bool} {f n p : Nat} (h : p ∈ hl hits f n) : f ≤ p ∧ p < f + n ∧ hits.getD (p - 1) false = true := by
  unfold hl at h
  rw [List.mem_filter, List.mem_range'_1] at h
  exact ⟨h.1.1, h.1.2, h.2⟩
theorem hl_append (hits : List Bool) (f m n : Nat) : hl hits f (m + n) = hl hits f m ++ hl hits (f + m) n := by
  unfold hl
  rw [← List.filter_append]
  congr 1
  have := List.range'_append (s := f) (m := m) (n := n) (step := 1)
  rw [Nat.one_mul] at this
  exact this.symm
theorem hl_cons (hits : List Bool) (f n : Nat) (h : hits.getD (f - 1) false = true) : hl hits f (n + 1) = f :: hl hits (f + 1) n := by
  rw [Nat.add_comm n 1, hl_append, hl_succ, hl_zero]
  simp only [Nat.add_zero, h]
  rfl
theorem hl_none (hits : List Bool) (f n : Nat) (h : ∀ j, j < n → hits.getD (f + j - 1) false = false) : hl hits f n = [] := by
  induction n with
  | zero => rfl
  | succ n ih => rw [hl_succ, ih (fun j hj => h j (by omega)), h n (by omega)]; rfl
/-- The first one, where there is none ahead of it. -/
theorem hl_first (hits : List Bool) (f n i : Nat) (hi : i < n) (h0 : ∀ j, j < i → hits.getD (f + j - 1) false = false) (h1 : hits.getD (f + i - 1) false = true) :
    (hl hits f n).head? = some (f + i) := by
  obtain ⟨m, rfl⟩ : ∃ m, n = i + (m + 1) := ⟨n - i - 1, by omega⟩
  rw [hl_append, hl_none hits f i h0, List.nil_append, hl_cons _ _ _ h1]
  rfl

/-- The last one of the places from 1 to below a+1. -/
theorem hl_last (hits : List Bool) (a p : Nat) (hp : 0 < p) (hpa : p ≤ a) (h0 : hl hits (p + 1) (a - p) = []) (h1 : hits.getD (p - 1) false = true) :
    (hl hits 1 a).getLast? = some p := by
  obtain ⟨m, rfl⟩ : ∃ m, a = p + m := ⟨a - p, by omega⟩
  obtain ⟨q, rfl⟩ : ∃ q, p = q + 1 := ⟨p - 1, by omega⟩
  rw [show q + 1 + m - (q + 1) = m by omega] at h0
  rw [hl_append, show 1 + (q + 1) = q + 1 + 1 by omega, h0, List.append_nil, hl_succ]
  rw [show 1 + q - 1 = q + 1 - 1 by omega, h1]
  simp
  omega
theorem hl_down (hits : List Bool) (a p : Nat) (hp : 0 < p) (hpa : p ≤ a) (h0 : hl hits (p + 1) (a - p) = []) (h1 : hits.getD (p - 1) false = false) :
    hl hits (p - 1 + 1) (a - (p - 1)) = [] := by
  rw [show p - 1 + 1 = p by omega, show a - (p - 1) = 1 + (a - p) by omega, hl_append, hl_succ, hl_zero, h0]
  simp only [Nat.add_zero, h1]
  rfl

/-- Where one comes, why, and the error's number. -/
def mv (hits : List Bool) (a k n : Int) : Int × Int × Int :=
  if a < 0 ∨ (hits.length : Int) < a then (0, 0, 6)
  else if k = 1 then (if a < hits.length then (a + 1, 1, 0) else (hits.length, 3, 0))
  else if k = 2 then (if 0 < a then (a - 1, 1, 0) else (0, 4, 0))
  else if k = 3 then (match (hl hits (a.toNat + 1) (hits.length - a.toNat)).head? with | some p => ((p : Int), 2, 0) | none => ((hits.length : Int), 3, 0))
  else if k = 4 then (match (hl hits 1 (a.toNat - 1)).getLast? with | some p => ((p : Int), 2, 0) | none => (0, 4, 0))
  else if k = 5 then (if 0 ≤ n ∧ n ≤ hits.length then (n, 1, 0) else (a, 0, 6))
  else (a, 0, 1)

section
variable {hits : List Bool} {a k n : Int}
theorem mv_out (h : a < 0 ∨ (hits.length : Int) < a) : mv hits a k n = (0, 0, 6) := by unfold mv; rw [if_pos h]
theorem mv_step (h : ¬ (a < 0 ∨ (hits.length : Int) < a)) : mv hits a 1 n = (if a < hits.length then (a + 1, 1, 0) else ((hits.length : Int), 3, 0)) := by
  unfold mv; rw [if_neg h, if_pos rfl]
theorem mv_back (h : ¬ (a < 0 ∨ (hits.length : Int) < a)) : mv hits a 2 n = (if 0 < a then (a - 1, 1, 0) else (0, 4, 0)) := by
  unfold mv; rw [if_neg h, if_neg (by decide), if_pos rfl]
theorem mv_on (h : ¬ (a < 0 ∨ (hits.length : Int) < a)) : mv hits a 3 n = (match (hl hits (a.toNat + 1) (hits.length - a.toNat)).head? with | some p => ((p : Int), 2, 0) | none => ((hits.length : Int), 3, 0)) := by
  unfold mv; rw [if_neg h, if_neg (by decide), if_neg (by decide), if_pos rfl]
theorem mv_re (h : ¬ (a < 0 ∨ (hits.length : Int) < a)) : mv hits a 4 n = (match (hl hits 1 (a.toNat - 1)).getLast? with | some p => ((p : Int), 2, 0) | none => (0, 4, 0)) := by
  unfold mv; rw [if_neg h, if_neg (by decide), if_neg (by decide), if_neg (by decide), if_pos rfl]
theorem mv_to (h : ¬ (a < 0 ∨ (hits.length : Int) < a)) : mv hits a 5 n = (if 0 ≤ n ∧ n ≤ hits.length then (n, 1, 0) else (a, 0, 6)) := by
  unfold mv; rw [if_neg h, if_neg (by decide), if_neg (by decide), if_neg (by decide), if_neg (by decide), if_pos rfl]
theorem mv_arg (h : ¬ (a < 0 ∨ (hits.length : Int) < a)) (h1 : k ≠ 1) (h2 : k ≠ 2) (h3 : k ≠ 3) (h4 : k ≠ 4) (h5 : k ≠ 5) : mv hits a k n = (a, 0, 1) := by
  unfold mv; rw [if_neg h, if_neg h1, if_neg h2, if_neg h3, if_neg h4, if_neg h5]
end

/-- An error beside a place: the place is told all the same; without one it is a place. -/
theorem mv_place {hits : List Bool} {a : Int} (k n : Int) (ha : 0 ≤ a) (hb : a ≤ hits.length) : 0 ≤ (mv hits a k n).1 ∧ (mv hits a k n).1 ≤ hits.length := by
  have h : ¬ (a < 0 ∨ (hits.length : Int) < a) := by omega
  by_cases h1 : k = 1
  · subst h1; rw [mv_step h]; split <;> simp only <;> omega
  by_cases h2 : k = 2
  · subst h2; rw [mv_back h]; split <;> simp only <;> omega
  by_cases h3 : k = 3
  · subst h3; rw [mv_on h]
    split
    · rename_i p hp
      have := hl_mem (List.mem_of_mem_head? hp)
      simp only; omega
    · simp only; omega
  by_cases h4 : k = 4
  · subst h4; rw [mv_re h]
    split
    · rename_i p hp
      have := hl_mem (List.mem_of_getLast? hp)
      simp only; omega
    · simp only; omega
  by_cases h5 : k = 5
  · subst h5; rw [mv_to h]; split <;> simp only <;> omega
  rw [mv_arg h h1 h2 h3 h4 h5]; simp only; omega

/-- Held on the way: behind where one stood; none is hit between; back from there one comes to no place behind the first one. -/
theorem mv_held {hits : List Bool} {a : Int} (ha : 0 ≤ a) (hb : a ≤ hits.length) :
    (mv hits a 3 0).2.2 = 0 ∧ a ≤ (mv hits a 3 0).1 ∧ (mv hits (mv hits a 3 0).1 4 0).2.2 = 0 ∧
      ((mv hits a 3 0).2.1 = 2 → a < (mv hits a 3 0).1 ∧ (mv hits (mv hits a 3 0).1 4 0).1 ≤ a) := by
  have h : ¬ (a < 0 ∨ (hits.length : Int) < a) := by omega
  obtain ⟨m, rfl⟩ := Int.eq_ofNat_of_zero_le ha
  have hp3 := mv_place (hits := hits) 3 0 ha hb
  have hq : ∀ c : Int, 0 ≤ c → c ≤ hits.length → (mv hits c 4 0).2.2 = 0 := by
    intro c h1 h2
    rw [mv_re (by omega)]
    split <;> rfl
  refine ⟨?_, ?_, hq _ hp3.1 hp3.2, ?_⟩
  · rw [mv_on h]; split <;> rfl
  · rw [mv_on h]
    split
    · rename_i p hp
      have := hl_mem (List.mem_of_mem_head? hp)
      simp only [Int.toNat_natCast] at this ⊢; omega
    · simp only; omega
  · rw [mv_on h]
    split
    · rename_i p hp
      intro _
      have hm := hl_mem (List.mem_of_mem_head? hp)
      simp only [Int.toNat_natCast] at hm hp ⊢
      refine ⟨by omega, ?_⟩
      rw [mv_re (by omega)]
      split
      · rename_i q hq'
        have hm' := hl_mem (List.mem_of_getLast? hq')
        simp only [Int.toNat_natCast] at hm' hq' ⊢
        by_cases hle : q ≤ m
        · omega
        · exfalso
          have e1 : hl hits (m + 1) (hits.length - m) = hl hits (m + 1) (q - m - 1) ++ (q :: hl hits (q + 1) (hits.length - q)) := by
            rw [show hits.length - m = (q - m - 1) + (hits.length - q + 1) by omega, hl_append, show m + 1 + (q - m - 1) = q by omega, hl_cons _ _ _ hm'.2.2]
          rw [e1] at hp
          have : ∃ r, r ≤ q ∧ r = p := by
            cases hc : hl hits (m + 1) (q - m - 1) with
            | nil => rw [hc] at hp; simp at hp; exact ⟨q, Nat.le_refl _, hp⟩
            | cons r l =>
              rw [hc] at hp; simp at hp
              have : r ∈ hl hits (m + 1) (q - m - 1) := by rw [hc]; simp
              have := hl_mem this
              exact ⟨r, by omega, hp⟩
          obtain ⟨r, hr, rfl⟩ := this
          omega
      · omega
    · intro h'; simp at h'
end Go.Proofs.Ytfffaefmnjaccaa
