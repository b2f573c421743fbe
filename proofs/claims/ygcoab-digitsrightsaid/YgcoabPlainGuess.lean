/- The guess of a quotient's limb, in plain numbers. -/
import Derived.Test.YgcoabWNat
namespace Go.Proofs.Ygcoab

/-- the three top limbs over the two top limbs, at most 2^32 - 1 -/
def gue (u2 u1 u0 d1 d0 : Nat) : Nat := min 4294967295 (((u2 * 4294967296 + u1) * 4294967296 + u0) / (d1 * 4294967296 + d0))

theorem gue_le (u2 u1 u0 d1 d0 : Nat) : gue u2 u1 u0 d1 d0 ≤ 4294967295 := Nat.min_le_left _ _

theorem gue_mul {u2 u1 u0 d1 d0 k : Nat} (hk : k ≤ gue u2 u1 u0 d1 d0) : k * (d1 * 4294967296 + d0) ≤ (u2 * 4294967296 + u1) * 4294967296 + u0 :=
  Nat.le_trans (Nat.mul_le_mul_right _ (Nat.le_trans hk (Nat.min_le_right _ _))) (Nat.div_mul_le_self _ _)

theorem le_gue {u2 u1 u0 d1 d0 k : Nat} (hd : 0 < d1) (hk : k ≤ 4294967295) (h : k * (d1 * 4294967296 + d0) ≤ (u2 * 4294967296 + u1) * 4294967296 + u0) : k ≤ gue u2 u1 u0 d1 d0 :=
  Nat.le_min.2 ⟨hk, (Nat.le_div_iff_mul_le (by omega)).2 h⟩

/-- guess's loop -/
structure GuAt (u2 u1 u0 d1 d0 e r : Nat) : Prop where
  sum : e * d1 + r = u2 * 4294967296 + u1
  low : gue u2 u1 u0 d1 d0 ≤ e

theorem GuAt.mul {u2 u1 u0 d1 d0 e r : Nat} (h : GuAt u2 u1 u0 d1 d0 e r) : e * (d1 * 4294967296 + d0) + r * 4294967296 = (u2 * 4294967296 + u1) * 4294967296 + e * d0 := by
  rw [← h.sum, Nat.mul_add, ← Nat.mul_assoc, Nat.add_mul]
  omega

theorem GuAt.start {u2 u1 u0 d1 d0 : Nat} (hd : 0 < d1) (hu : u0 < 4294967296) : GuAt u2 u1 u0 d1 d0 ((u2 * 4294967296 + u1) / d1) ((u2 * 4294967296 + u1) % d1) := by
  refine ⟨by rw [Nat.mul_comm]; exact Nat.div_add_mod _ _, ?_⟩
  rw [Nat.le_div_iff_mul_le hd]
  have h1 := gue_mul (u2 := u2) (u1 := u1) (u0 := u0) (d1 := d1) (d0 := d0) (Nat.le_refl _)
  generalize gue u2 u1 u0 d1 d0 = k at *
  rw [Nat.mul_add, ← Nat.mul_assoc] at h1
  generalize k * d1 = A at *
  generalize k * d0 = B at *
  omega

/-- the test holds: the guess is too great -/
theorem GuAt.next {u2 u1 u0 d1 d0 e r : Nat} (h : GuAt u2 u1 u0 d1 d0 e r) (ht : 4294967296 ≤ e ∨ r * 4294967296 + u0 < e * d0) : 0 < e ∧ GuAt u2 u1 u0 d1 d0 (e - 1) (r + d1) := by
  have hlt : gue u2 u1 u0 d1 d0 < e := by
    by_cases hc : gue u2 u1 u0 d1 d0 < e
    · exact hc
    · have he : e ≤ gue u2 u1 u0 d1 d0 := by omega
      have h1 := gue_mul he
      have h2 := h.mul
      have h3 := gue_le u2 u1 u0 d1 d0
      rcases ht with ht | ht <;> omega
  obtain ⟨k, rfl⟩ : ∃ k, e = k + 1 := ⟨e - 1, by omega⟩
  refine ⟨by omega, ?_, by omega⟩
  have := h.sum
  rw [Nat.add_mul, Nat.one_mul] at this
  show k * d1 + (r + d1) = _
  omega

/-- the test fails: the guess is right -/
theorem GuAt.stop {u2 u1 u0 d1 d0 e r : Nat} (h : GuAt u2 u1 u0 d1 d0 e r) (hd : 0 < d1) (h1 : e < 4294967296) (h2 : e * d0 ≤ r * 4294967296 + u0) : e = gue u2 u1 u0 d1 d0 := by
  have h3 := h.mul
  have h4 := le_gue (u2 := u2) (u1 := u1) (u0 := u0) (d1 := d1) (d0 := d0) (k := e) hd (by omega) (by omega)
  have := h.low
  omega

/-- the rest is great: the guess is right -/
theorem GuAt.brk {u2 u1 u0 d1 d0 e r : Nat} (h : GuAt u2 u1 u0 d1 d0 e r) (hd : 0 < d1) (hd0 : d0 < 4294967296) (hu1 : u1 < 4294967296) (hu2 : u2 ≤ d1) (hr : 4294967296 ≤ r) : e = gue u2 u1 u0 d1 d0 := by
  have h1 := h.sum
  have he : e < 4294967296 := by
    by_cases hc : e < 4294967296
    · exact hc
    · have := Nat.mul_le_mul_right d1 (show 4294967296 ≤ e by omega)
      omega
  refine h.stop hd he ?_
  have := Nat.mul_le_mul (show e ≤ 4294967295 by omega) (show d0 ≤ 4294967295 by omega)
  omega

end Go.Proofs.Ygcoab
