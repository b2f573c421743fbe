/- What the masked or sign-turned pattern's fields are. -/
import Derived.Test.YgcoabPlainWidth
namespace Go.Proofs.Ygcoab

theorem mod_expF (E M x : Nat) : expF E M (x % 2 ^ (E + M + 1)) = expF E M x := by
  unfold expF
  apply Nat.eq_of_testBit_eq
  intro i
  simp only [Nat.testBit_mod_two_pow, ← Nat.shiftRight_eq_div_pow, Nat.testBit_shiftRight]
  by_cases h : i < E
  · have : M + i < E + M + 1 := by omega
    simp [h, this]
  · simp [h]

theorem mod_fracF (E M x : Nat) : fracF M (x % 2 ^ (E + M + 1)) = fracF M x := by
  unfold fracF
  exact Nat.mod_mod_of_dvd _ (Nat.pow_dvd_pow 2 (by omega))

theorem negF_bit (E M x : Nat) : negF E M x = x.testBit (E + M) := by
  unfold negF
  rw [Nat.testBit_eq_decide_div_mod_eq]
  by_cases h : x / 2 ^ (E + M) % 2 = 1 <;> simp [h]

theorem mod_negF (E M x : Nat) : negF E M (x % 2 ^ (E + M + 1)) = negF E M x := by
  rw [negF_bit, negF_bit, Nat.testBit_mod_two_pow]
  simp

theorem mod_clsF (E M x : Nat) : clsF E M (x % 2 ^ (E + M + 1)) = clsF E M x := by
  unfold clsF
  rw [mod_expF, mod_fracF]

theorem xor_expF (E M x : Nat) : expF E M (x ^^^ sgnB E M) = expF E M x := by
  unfold expF sgnB
  apply Nat.eq_of_testBit_eq
  intro i
  simp only [Nat.testBit_mod_two_pow, ← Nat.shiftRight_eq_div_pow, Nat.testBit_shiftRight, Nat.testBit_xor, Nat.testBit_two_pow]
  by_cases h : i < E
  · have : ¬ (E + M = M + i) := by omega
    simp [h, this]
  · simp [h]

theorem xor_fracF (E M x : Nat) : fracF M (x ^^^ sgnB E M) = fracF M x := by
  unfold fracF sgnB
  apply Nat.eq_of_testBit_eq
  intro i
  simp only [Nat.testBit_mod_two_pow, Nat.testBit_xor, Nat.testBit_two_pow]
  by_cases h : i < M
  · have : ¬ (E + M = i) := by omega
    simp [h, this]
  · simp [h]

theorem xor_negF (E M x : Nat) : negF E M (x ^^^ sgnB E M) = !negF E M x := by
  rw [negF_bit, negF_bit, Nat.testBit_xor]
  unfold sgnB
  rw [Nat.testBit_two_pow_self]
  simp

theorem xor_clsF (E M x : Nat) : clsF E M (x ^^^ sgnB E M) = clsF E M x := by
  unfold clsF
  rw [xor_expF, xor_fracF]

theorem xor_lt {E M x : Nat} (h : FOk E M) (hx : x < 18446744073709551616) : x ^^^ sgnB E M < 18446744073709551616 :=
  Nat.xor_lt_two_pow (n := 64) hx (sgnB_lt h)

/-- an infinity's pattern -/
theorem inf_bits {E M x : Nat} (h : clsF E M x = 3) : x % 2 ^ (E + M + 1) = infP E M (negF E M x) := by
  have h1 : expF E M x = topE E ∧ fracF M x = 0 := by
    unfold clsF at h
    split at h
    · rename_i h1
      split at h
      · rename_i h2
        exact ⟨h1, h2⟩
      · cases h
    · split at h
      · cases h
      · split at h <;> cases h
  obtain ⟨h1, h2⟩ := h1
  unfold expF topE at h1
  unfold fracF at h2
  have e1 : x % 2 ^ (E + M + 1) = 2 ^ (E + M) * (x / 2 ^ (E + M) % 2) + x % 2 ^ (E + M) := by
    rw [Nat.pow_succ, Nat.mod_mul]; omega
  have e2 : x % 2 ^ (E + M) = x % 2 ^ M + 2 ^ M * (x / 2 ^ M % 2 ^ E) := by
    rw [Nat.add_comm E M, Nat.pow_add, Nat.mod_mul]
  rw [e1, e2, h1, h2]
  unfold infP zeroP negF
  rcases Nat.mod_two_eq_zero_or_one (x / 2 ^ (E + M)) with h3 | h3
  · simp [h3, Nat.mul_comm]
  · simp [h3, Nat.mul_comm]

theorem clsF_range (E M x : Nat) : 0 ≤ clsF E M x ∧ clsF E M x ≤ 4 := by
  unfold clsF
  split
  · split <;> omega
  · split
    · omega
    · split <;> omega

end Go.Proofs.Ygcoab
