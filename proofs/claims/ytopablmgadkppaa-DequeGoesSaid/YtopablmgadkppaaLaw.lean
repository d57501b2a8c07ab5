/- A RING OF CELLS READ AS A LIST, in plain Lean: what a store at its ends comes to. No condition. -/
namespace Go.Proofs.Ytopablmgadkppaa

theorem mod_inj {L fr i j : Nat} (hi : i < L) (hj : j < L) (h : (fr + i) % L = (fr + j) % L) : i = j := by
  have h1 := Nat.div_add_mod (fr + i) L
  have h2 := Nat.div_add_mod (fr + j) L
  rw [h] at h1
  rcases Nat.lt_trichotomy ((fr + i) / L) ((fr + j) / L) with hlt | heq | hgt
  · have := Nat.mul_le_mul_left L (Nat.succ_le_of_lt hlt)
    rw [Nat.mul_succ] at this
    omega
  · rw [heq] at h1
    omega
  · have := Nat.mul_le_mul_left L (Nat.succ_le_of_lt hgt)
    rw [Nat.mul_succ] at this
    omega

section
variable {α : Type}
/-- The ring's cells, from fr on, are the list. -/
def Has (cur : Array α) (L fr : Nat) (xs : List α) : Prop := ∀ i, i < xs.length → cur[(fr + i) % L]? = xs[i]?

theorem Has.nil_ (cur : Array α) (L fr : Nat) : Has cur L fr [] := fun i h => by simp at h

theorem Has.push {cur : Array α} {L fr : Nat} {xs : List α} (h : Has cur L fr xs) (hs : cur.size = L) (hn : xs.length < L) (x : α) :
    Has (cur.setIfInBounds ((fr + xs.length) % L) x) L fr (xs ++ [x]) := by
  intro i hi
  simp only [List.length_append, List.length_cons, List.length_nil, Nat.zero_add] at hi
  have hp : (fr + xs.length) % L < L := Nat.mod_lt _ (by omega)
  rcases Nat.lt_succ_iff_lt_or_eq.1 hi with hlt | rfl
  · have hne : (fr + xs.length) % L ≠ (fr + i) % L := fun e => by have := mod_inj hn (by omega) e; omega
    rw [Array.getElem?_setIfInBounds_ne hne, h i hlt, List.getElem?_append_left hlt]
  · rw [Array.getElem?_setIfInBounds_self]
    simp [hs, hp]

theorem Has.shove {cur : Array α} {L fr : Nat} {xs : List α} (h : Has cur L fr xs) (hs : cur.size = L) (hn : xs.length < L) (x : α) :
    Has (cur.setIfInBounds ((fr + (L - 1)) % L) x) L ((fr + (L - 1)) % L) (x :: xs) := by
  intro i hi
  have hp : (fr + (L - 1)) % L < L := Nat.mod_lt _ (by omega)
  simp only [List.length_cons] at hi
  cases i with
  | zero =>
    rw [Nat.add_zero, Nat.mod_mod, Array.getElem?_setIfInBounds_self]
    simp [hs, hp]
  | succ i =>
    have e : ((fr + (L - 1)) % L + (i + 1)) % L = (fr + i) % L := by
      rw [Nat.mod_add_mod, show fr + (L - 1) + (i + 1) = fr + i + L by omega, Nat.add_mod_right]
    have hne : (fr + (L - 1)) % L ≠ (fr + i) % L := fun e => by have := mod_inj (by omega) (by omega) e; omega
    rw [e, Array.getElem?_setIfInBounds_ne hne, h i (by omega)]
    rfl

theorem Has.pop {cur : Array α} {L fr : Nat} {x : α} {xs : List α} (h : Has cur L fr (x :: xs)) (hf : fr < L) (hn : xs.length < L) (z : α) :
    Has (cur.setIfInBounds fr z) L ((fr + 1) % L) xs := by
  intro i hi
  have e : ((fr + 1) % L + i) % L = (fr + (i + 1)) % L := by
    rw [Nat.mod_add_mod, show fr + 1 + i = fr + (i + 1) by omega]
  have hne : fr ≠ (fr + (i + 1)) % L := fun e => by
    have h0 : (fr + 0) % L = (fr + (i + 1)) % L := by rw [Nat.add_zero, Nat.mod_eq_of_lt hf]; exact e
    have := mod_inj (by omega) (by omega) h0
    omega
  rw [e, Array.getElem?_setIfInBounds_ne hne, h (i + 1) (by simp; omega)]
  rfl

theorem Has.drop {cur : Array α} {L fr : Nat} {x : α} {xs : List α} (h : Has cur L fr (xs ++ [x])) (hn : xs.length < L) (z : α) :
    Has (cur.setIfInBounds ((fr + xs.length) % L) z) L fr xs := by
  intro i hi
  have hne : (fr + xs.length) % L ≠ (fr + i) % L := fun e => by have := mod_inj hn (by omega) e; omega
  rw [Array.getElem?_setIfInBounds_ne hne, h i (by simp; omega), List.getElem?_append_left hi]

/-- Moved to the head of a greater ring. -/
theorem Has.moved {cur new : Array α} {L fr L' : Nat} {xs : List α} (h : Has cur L fr xs) (hl : xs.length ≤ L') (hm : ∀ i, i < xs.length → new[i]? = cur[(fr + i) % L]?) : Has new L' 0 xs := by
  intro i hi
  rw [Nat.zero_add, Nat.mod_eq_of_lt (by omega), hm i hi, h i hi]
end
end Go.Proofs.Ytopablmgadkppaa
