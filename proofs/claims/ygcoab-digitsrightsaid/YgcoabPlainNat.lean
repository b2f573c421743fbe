/- Big natural numbers: limbs of 32 bits, the least first. -/
import Derived.Test.YgcoabPlainWidth
namespace Go.Proofs.Ygcoab

/-- the number that n limbs spell -/
def nv (f : Nat → Nat) : Nat → Nat
  | 0 => 0
  | n + 1 => nv f n + f n * 2 ^ (32 * n)

theorem nv_lt {f : Nat → Nat} {n : Nat} (h : ∀ j, j < n → f j < 4294967296) : nv f n < 2 ^ (32 * n) := by
  induction n with
  | zero => simp [nv]
  | succ n ih =>
    have h1 := ih fun j hj => h j (by omega)
    have h2 := h n (by omega)
    have e : (2 : Nat) ^ (32 * (n + 1)) = 4294967296 * 2 ^ (32 * n) := by
      rw [show 32 * (n + 1) = 32 + 32 * n by omega, Nat.pow_add]
    have h3 := Nat.mul_le_mul_right (2 ^ (32 * n)) (show f n + 1 ≤ 4294967296 by omega)
    rw [Nat.add_mul, Nat.one_mul] at h3
    unfold nv
    omega

theorem nv_congr {f g : Nat → Nat} {n : Nat} (h : ∀ j, j < n → f j = g j) : nv f n = nv g n := by
  induction n with
  | zero => rfl
  | succ n ih =>
    unfold nv
    rw [ih fun j hj => h j (by omega), h n (by omega)]

theorem nv_zero_top {f : Nat → Nat} {k n : Nat} (hk : k ≤ n) (h : ∀ j, k ≤ j → j < n → f j = 0) : nv f n = nv f k := by
  induction n with
  | zero => rw [show k = 0 by omega]
  | succ n ih =>
    by_cases hc : k = n + 1
    · rw [hc]
    · show nv f n + f n * 2 ^ (32 * n) = nv f k
      rw [h n (by omega) (by omega), ih (by omega) fun j h1 h2 => h j h1 (by omega)]
      simp

theorem nv_ge {f : Nat → Nat} {n : Nat} (hn : 0 < n) (h : f (n - 1) ≠ 0) : 2 ^ (32 * (n - 1)) ≤ nv f n := by
  obtain ⟨m, rfl⟩ : ∃ m, n = m + 1 := ⟨n - 1, by omega⟩
  have h' : f m ≠ 0 := h
  have := Nat.mul_le_mul_right (2 ^ (32 * m)) (show 1 ≤ f m by omega)
  show 2 ^ (32 * m) ≤ nv f m + f m * 2 ^ (32 * m)
  omega

theorem nv_pos {f : Nat → Nat} {n : Nat} (hn : 0 < n) (h : f (n - 1) ≠ 0) : 0 < nv f n :=
  Nat.lt_of_lt_of_le (two_pow_pos' _) (nv_ge hn h)

/-- a normal number below 2^(32 k) has at most k limbs -/
theorem nv_len {f : Nat → Nat} {n k : Nat} (hn : 0 < n) (h : f (n - 1) ≠ 0) (hk : nv f n < 2 ^ (32 * k)) : n ≤ k := by
  have h1 := nv_ge hn h
  by_cases hc : n ≤ k
  · exact hc
  · have := two_pow_le (n := 32 * k) (k := 32 * (n - 1)) (by omega)
    omega

end Go.Proofs.Ygcoab
