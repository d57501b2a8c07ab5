/- THE CLOCKS OF STEPS, and what they tell of which comes ahead of which: the plain law. No condition. -/
import Derived.Test.YthaofkhjhmcknaaLaw
namespace Go.Proofs.Ythaofkhjhmcknaa
set_option linter.unusedVariables false

/-- The greatest of f over a list, at least 0. -/
def top (f : Int → Int) (L : List Int) : Int := L.foldl (fun m p => max m (f p)) 0
theorem foldl_max (f : Int → Int) : ∀ (L : List Int) (m : Int), m ≤ L.foldl (fun m p => max m (f p)) m ∧ (∀ p ∈ L, f p ≤ L.foldl (fun m p => max m (f p)) m) ∧ ∀ x, m ≤ x → (∀ p ∈ L, f p ≤ x) → L.foldl (fun m p => max m (f p)) m ≤ x
  | [], m => ⟨Int.le_refl _, fun p h => by simp at h, fun x h _ => h⟩
  | p :: L, m => by
    obtain ⟨h1, h2, h3⟩ := foldl_max f L (max m (f p))
    refine ⟨by simp only [List.foldl_cons]; omega, fun q hq => ?_, fun x hm hx => ?_⟩
    · rcases List.mem_cons.1 hq with rfl | hq
      · simp only [List.foldl_cons]; omega
      · exact h2 q hq
    · refine h3 x ?_ (fun q hq => hx q (List.mem_cons_of_mem _ hq))
      have := hx p List.mem_cons_self
      omega
theorem top_ge (f : Int → Int) {L : List Int} {p : Int} (h : p ∈ L) : f p ≤ top f L := (foldl_max f L 0).2.1 p h
theorem top_nn (f : Int → Int) (L : List Int) : 0 ≤ top f L := (foldl_max f L 0).1
theorem top_le {f : Int → Int} {L : List Int} {x : Int} (h0 : 0 ≤ x) (h : ∀ p ∈ L, f p ≤ x) : top f L ≤ x := (foldl_max f L 0).2.2 x h0 h
theorem top_eq {f : Int → Int} {L M : List Int} (h : ∀ p, p ∈ L ↔ p ∈ M) : top f L = top f M :=
  Int.le_antisymm (top_le (top_nn _ _) (fun p hp => top_ge f ((h p).1 hp))) (top_le (top_nn _ _) (fun p hp => top_ge f ((h p).2 hp)))

section
variable (s : Nat → Int × Int)
/-- The clock of one who has a part, behind k steps. -/
def ck : Nat → Int → Int → Int
  | 0, _, _ => 0
  | k + 1, who, i => if has (s k) who then top (fun p => ck k p i) (parts (s k)) + (if has (s k) i then 1 else 0) else ck k who i
/-- A step's. -/
def st (k : Nat) (i : Int) : Int := top (fun p => ck s k p i) (parts (s k)) + (if has (s k) i then 1 else 0)
theorem ck_yes {k : Nat} {who i : Int} (h : has (s k) who) : ck s (k + 1) who i = st s k i := by rw [ck, if_pos h]; rfl
theorem ck_no {k : Nat} {who i : Int} (h : ¬ has (s k) who) : ck s (k + 1) who i = ck s k who i := by rw [ck, if_neg h]
theorem ck_nn : ∀ (k : Nat) (who i : Int), 0 ≤ ck s k who i
  | 0, _, _ => Int.le_refl _
  | k + 1, who, i => by
    rw [ck]
    split
    · have := top_nn (fun p => ck s k p i) (parts (s k))
      split <;> omega
    · exact ck_nn k who i
theorem ck_st {k : Nat} {who i : Int} (h : has (s k) who) : ck s k who i ≤ st s k i := by
  have := top_ge (fun p => ck s k p i) ((mem_parts (s k) who).2 h)
  unfold st
  split <;> omega
theorem ck_mono (who i : Int) (k : Nat) : ck s k who i ≤ ck s (k + 1) who i := by
  by_cases h : has (s k) who
  · rw [ck_yes s h]; exact ck_st s h
  · rw [ck_no s h]; exact Int.le_refl _
theorem ck_le (who i : Int) {k : Nat} : ∀ {m : Nat}, k ≤ m → ck s k who i ≤ ck s m who i
  | 0, h => by obtain rfl : k = 0 := by omega
               exact Int.le_refl _
  | m + 1, h => by
    by_cases e : k = m + 1
    · subst e; exact Int.le_refl _
    · exact Int.le_trans (ck_le who i (show k ≤ m by omega)) (ck_mono s who i m)
/-- The last step in which somebody has a part. -/
theorem ck_last {k n : Nat} {who i : Int} (h : has (s k) who) (hk : k < n) (hn : ∀ j, k < j → j < n → ¬ has (s j) who) : ck s n who i = st s k i := by
  induction n with
  | zero => omega
  | succ n ih =>
    by_cases e : k = n
    · subst e; exact ck_yes s h
    · rw [ck_no s (hn n (by omega) (by omega))]
      exact ih (by omega) (fun j h1 h2 => hn j h1 (by omega))
theorem ck_none {n : Nat} {who i : Int} (hn : ∀ j, j < n → ¬ has (s j) who) : ck s n who i = 0 := by
  induction n with
  | zero => rfl
  | succ n ih => rw [ck_no s (hn n (by omega))]; exact ih (fun j h => hn j (by omega))
/-- Nobody knows more of i than i. -/
theorem ck_own (who i : Int) : ∀ k, ck s k who i ≤ ck s k i i
  | 0 => Int.le_refl _
  | k + 1 => by
    have ih := fun who => ck_own who i k
    by_cases hi : has (s k) i
    · by_cases hw : has (s k) who
      · rw [ck_yes s hw, ck_yes s hi]; exact Int.le_refl _
      · rw [ck_no s hw]
        exact Int.le_trans (ih who) (ck_mono s i i k)
    · rw [ck_no s hi]
      by_cases hw : has (s k) who
      · rw [ck_yes s hw, st, if_neg hi]
        have := top_le (f := fun p => ck s k p i) (L := parts (s k)) (ck_nn s k i i) (fun p _ => ih p)
        omega
      · rw [ck_no s hw]; exact ih who
/-- One that touches a later one. -/
theorem st_touch {j k : Nat} (h : j < k) (ht : tch (s j) (s k)) (i : Int) : st s j i ≤ st s k i := by
  obtain ⟨who, h1, h2⟩ := ht
  rw [← ck_yes s h1]
  exact Int.le_trans (ck_le s who i (show j + 1 ≤ k by omega)) (ck_st s h2)
/-- Which steps touch. -/
def ts (i k : Nat) : Bool := tchb (s i) (s k)
theorem st_rch {a b : Nat} (h : Rch (ts s) a b) (i : Int) : st s a i ≤ st s b i := by
  induction h with
  | here => exact Int.le_refl _
  | next _ h2 h3 ih => exact Int.le_trans ih (st_touch s h2 ((tchb_iff _ _).1 h3) i)
/-- Whose clock knows nothing of a. -/
theorem ck_blind {a : Nat} {i : Int} (hi : has (s a) i) : ∀ (k : Nat) (who : Int), a < k → (∀ j, j < k → has (s j) who → ¬ Rch (ts s) a j) → ck s k who i ≤ ck s a i i
  | 0, _, h, _ => by omega
  | k + 1, who, h, hn => by
    by_cases hk : k = a
    · subst hk
      have : ¬ has (s k) who := fun hw => hn k (Nat.lt_succ_self k) hw .here
      rw [ck_no s this]
      exact ck_own s who i k
    · by_cases hw : has (s k) who
      · have hr := hn k (Nat.lt_succ_self k) hw
        rw [ck_yes s hw, st]
        have hni : ¬ has (s k) i := fun hki => hr (.next .here (by omega) ((tchb_iff _ _).2 ⟨i, hi, hki⟩))
        rw [if_neg hni]
        have := top_le (f := fun p => ck s k p i) (L := parts (s k)) (ck_nn s a i i) (fun p hp => ck_blind hi k p (by omega) (fun j hj hjp hrj => hr (.next hrj hj ((tchb_iff _ _).2 ⟨p, hjp, (mem_parts _ _).1 hp⟩))))
        omega
      · rw [ck_no s hw]
        exact ck_blind hi k who (by omega) (fun j hj => hn j (by omega))
theorem st_blind {a b : Nat} {i : Int} (hab : a < b) (hi : has (s a) i) (hr : ¬ Rch (ts s) a b) : st s b i < st s a i := by
  have hw : has (s b) (nm (s b).1) := .inl rfl
  have h1 := ck_blind s hi (b + 1) (nm (s b).1) (by omega) (fun j hj hjw hrj => by
    by_cases e : j = b
    · subst e; exact hr hrj
    · exact hr (.next hrj (by omega) ((tchb_iff _ _).2 ⟨_, hjw, hw⟩)))
  rw [ck_yes s hw] at h1
  have h2 := top_ge (fun p => ck s a p i) ((mem_parts (s a) i).2 hi)
  have h3 : st s a i = top (fun p => ck s a p i) (parts (s a)) + 1 := by rw [st, if_pos hi]
  omega
/-- BY THE CLOCKS. -/
theorem rch_clocks {a b : Nat} (hab : a < b) : Rch (ts s) a b ↔ ∀ i, has (s a) i → st s a i ≤ st s b i := by
  constructor
  · exact fun h i _ => st_rch s h i
  · intro h
    rcases Classical.em (Rch (ts s) a b) with hr | hr
    · exact hr
    · have hw : has (s a) (nm (s a).1) := .inl rfl
      have := st_blind s hab hw hr
      have := h _ hw
      omega

/-- How long clocks are, of the first k steps. -/
def wd : Nat → Int
  | 0 => 1
  | k + 1 => max (wd k) (top id (parts (s k)) + 1)
theorem wd_pos : ∀ k, 1 ≤ wd s k
  | 0 => Int.le_refl _
  | k + 1 => by have := wd_pos k; rw [wd]; omega
theorem wd_le : ∀ k, wd s k ≤ 65
  | 0 => by rw [wd]; omega
  | k + 1 => by
    have := wd_le k
    have h := top_le (f := id) (L := parts (s k)) (x := 64) (by decide) (fun p hp => (has_range ((mem_parts _ _).1 hp)).2)
    rw [wd]; omega
theorem wd_has {k n : Nat} {i : Int} (hk : k < n) (h : has (s k) i) : 0 ≤ i ∧ i < wd s n := by
  induction n with
  | zero => omega
  | succ n ih =>
    refine ⟨(has_range h).1, ?_⟩
    rw [wd]
    by_cases e : k = n
    · subst e
      have := top_ge id ((mem_parts _ _).2 h)
      simp only [id] at this
      omega
    · have := (ih (by omega)).2
      omega
theorem st_range (k : Nat) (i : Int) : 0 ≤ st s k i ∧ st s k i ≤ k + 1 := by
  have hc : ∀ (k : Nat) (who : Int), ck s k who i ≤ k := by
    intro k
    induction k with
    | zero => intro who; exact Int.le_refl _
    | succ k ih =>
      intro who
      rw [ck]
      have := top_le (f := fun p => ck s k p i) (L := parts (s k)) (x := (k : Int)) (by omega) (fun p _ => ih p)
      split
      · split <;> omega
      · have := ih who; omega
  have h1 := top_nn (fun p => ck s k p i) (parts (s k))
  have h2 := top_le (f := fun p => ck s k p i) (L := parts (s k)) (x := (k : Int)) (by omega) (fun p _ => hc k p)
  unfold st
  split <;> omega
end
end Go.Proofs.Ythaofkhjhmcknaa
