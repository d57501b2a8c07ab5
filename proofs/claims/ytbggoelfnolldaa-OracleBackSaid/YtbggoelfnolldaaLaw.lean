/- A NUMBER MODULO ANOTHER ONE, as Go reckons it: the bounds. No condition. -/
namespace Go.Proofs.Ytbggoelfnolldaa

/-- From 0 to below n. -/
def md (x n : Int) : Int := if x.tmod n < 0 then x.tmod n + n else x.tmod n

theorem tmod_lt (x n : Int) (hn : 0 < n) : - n < x.tmod n ∧ x.tmod n < n := by
  have h1 := Int.tmod_lt_of_pos x hn
  have h2 : -n < x.tmod n := by
    have := Int.lt_tmod_of_pos x hn
    omega
  exact ⟨h2, h1⟩
theorem md_range (x n : Int) (hn : 0 < n) : 0 ≤ md x n ∧ md x n < n := by
  have := tmod_lt x n hn
  unfold md
  split <;> omega
theorem tdiv_mul (x n : Int) : x - x.tdiv n * n = x.tmod n := by
  rw [Int.tmod_def, Int.mul_comm]
theorem tdiv_bound (x n : Int) (hn : 0 < n) (l u : Int) (hl : l ≤ x) (hu : x ≤ u) (h0 : l ≤ 0) (h1 : 0 ≤ u) : l ≤ x.tdiv n ∧ x.tdiv n ≤ u ∧ l ≤ x.tdiv n * n ∧ x.tdiv n * n ≤ u := by
  have e : x.tdiv n * n = x - x.tmod n := by have := tdiv_mul x n; omega
  rcases Int.le_total 0 x with h | h
  · have hm := Int.tmod_nonneg n h
    have hd := Int.tdiv_nonneg h (Int.le_of_lt hn)
    have hle : x.tdiv n ≤ x := by
      have : x.tdiv n * 1 ≤ x.tdiv n * n := Int.mul_le_mul_of_nonneg_left (by omega) hd
      omega
    refine ⟨by omega, by omega, ?_, by omega⟩
    have : 0 ≤ x.tdiv n * n := Int.mul_nonneg hd (Int.le_of_lt hn)
    omega
  · have e2 : (-x).tdiv n = -(x.tdiv n) := Int.neg_tdiv ..
    have e3 : (-x).tmod n = -(x.tmod n) := Int.neg_tmod ..
    have hm := Int.tmod_nonneg n (show 0 ≤ -x by omega)
    have hd := Int.tdiv_nonneg (show 0 ≤ -x by omega) (Int.le_of_lt hn)
    rw [e2] at hd
    rw [e3] at hm
    have hle : -(x.tdiv n) ≤ -x := by
      have : -(x.tdiv n) * 1 ≤ -(x.tdiv n) * n := Int.mul_le_mul_of_nonneg_left (by omega) hd
      rw [Int.neg_mul] at this
      rw [Int.neg_mul] at this
      omega
    refine ⟨by omega, by omega, by omega, ?_⟩
    have : 0 ≤ -(x.tdiv n) * n := Int.mul_nonneg hd (Int.le_of_lt hn)
    rw [Int.neg_mul] at this
    omega
end Go.Proofs.Ytbggoelfnolldaa
