/- log10's first guess -/
import Derived.Test.YgcoabWCmpRat
import Derived.Test.YgcoabWSqrtH
namespace Go.Proofs.Ygcoab

theorem guess_up : (List.range 2300).all (fun n => decide (n * 1233 / 4096 = 0) || decide (10 ^ (n * 1233 / 4096 - 1) ≤ 2 ^ (n - 1))) = true := by decide +kernel
theorem guess_dn : (List.range 2300).all (fun n => decide (2 ^ (n + 1) ≤ 10 ^ ((n * 1233 + 4095) / 4096 + 1))) = true := by decide +kernel

/-- 10^k is at most A/D -/
def TenLe (A D : Nat) (k : Int) : Prop := tenN k * D ≤ A * tenD k

theorem ten_guess {A D : Nat} (hA : 0 < A) {d : Int} (hd : d = (blen A : Int) - (blen D : Int)) (h1 : -2200 ≤ d) (h2 : d ≤ 2200) {k : Int} (hk : k = d * 1233 / 4096 - 1) : TenLe A D k := by
  have a1 := blen_ge hA
  have a2 := lt_blen D
  have a3 := blen_pos hA
  unfold TenLe
  by_cases hp : 0 < d
  · obtain ⟨n, rfl⟩ : ∃ n : Nat, d = n := ⟨d.toNat, by omega⟩
    have hg := guess_up
    rw [List.all_eq_true] at hg
    have hg := hg n (List.mem_range.2 (by omega))
    simp only [Bool.or_eq_true, decide_eq_true_eq] at hg
    -- D * 2^(n-1) is at most A
    have hD : D * 2 ^ (n - 1) ≤ A := by
      refine Nat.le_trans (Nat.mul_le_mul_right _ (Nat.le_of_lt a2)) ?_
      rw [← Nat.pow_add]
      exact Nat.le_trans (two_pow_le (by omega)) a1
    obtain ⟨q, hq⟩ : ∃ q : Nat, q = n * 1233 / 4096 := ⟨_, rfl⟩
    have hkq : k = (q : Int) - 1 := by omega
    rw [← hq] at hg
    have h1' : D ≤ A := Nat.le_trans (Nat.le_mul_of_pos_right D (two_pow_pos' (n - 1))) hD
    rcases hg with h0 | h0
    · have hkn : k < 0 := by omega
      unfold tenN tenD
      rw [if_pos hkn, if_pos hkn, Nat.one_mul]
      exact Nat.le_trans h1' (Nat.le_mul_of_pos_right A (Nat.pow_pos (by omega)))
    · by_cases hkn : k < 0
      · unfold tenN tenD
        rw [if_pos hkn, if_pos hkn, Nat.one_mul]
        exact Nat.le_trans h1' (Nat.le_mul_of_pos_right A (Nat.pow_pos (by omega)))
      · unfold tenN tenD
        rw [if_neg hkn, if_neg hkn, Nat.mul_one, show k.toNat = q - 1 by omega]
        refine Nat.le_trans (Nat.mul_le_mul_right D h0) ?_
        rw [Nat.mul_comm]
        exact hD
  · obtain ⟨n, hn⟩ : ∃ n : Nat, d = -(n : Int) := ⟨(-d).toNat, by omega⟩
    have hg := guess_dn
    rw [List.all_eq_true] at hg
    have hg := hg n (List.mem_range.2 (by omega))
    simp only [decide_eq_true_eq] at hg
    obtain ⟨q, hq⟩ : ∃ q : Nat, q = (n * 1233 + 4095) / 4096 := ⟨_, rfl⟩
    have hkq : k = -((q : Int) + 1) := by omega
    rw [← hq] at hg
    have hkn : k < 0 := by omega
    unfold tenN tenD
    rw [if_pos hkn, if_pos hkn, Nat.one_mul, show (-k).toNat = q + 1 by omega]
    have hD : D ≤ A * 2 ^ (n + 1) := by
      refine Nat.le_trans (Nat.le_of_lt a2) ?_
      refine Nat.le_trans ?_ (Nat.mul_le_mul_right _ a1)
      rw [← Nat.pow_add]
      exact two_pow_le (by omega)
    exact Nat.le_trans hD (Nat.mul_le_mul_left A hg)

theorem ten_lt4 (j : Nat) : 10 ^ j < 2 ^ (4 * j + 1) := by
  have h1 : (10 : Nat) ^ j ≤ 16 ^ j := Nat.pow_le_pow_left (by omega) j
  have h2 : (16 : Nat) ^ j = 2 ^ (4 * j) := by rw [show (16 : Nat) = 2 ^ 4 from rfl, ← Nat.pow_mul]
  rw [h2] at h1
  exact lt_pow_succ h1

theorem tenN_b5 {k : Int} (h1 : k ≤ 2700) : tenN k < 2 ^ b5 := by
  have hb := b5_eq
  unfold tenN
  split
  · exact Nat.lt_of_lt_of_le (show 1 < 2 ^ 1 by decide) (two_pow_le (by omega))
  · exact Nat.lt_of_lt_of_le (ten_lt4 _) (two_pow_le (by omega))

theorem tenD_b5 {k : Int} (h1 : -2700 ≤ k) : tenD k < 2 ^ b5 := by
  have hb := b5_eq
  unfold tenD
  split
  · exact Nat.lt_of_lt_of_le (ten_lt4 _) (two_pow_le (by omega))
  · exact Nat.lt_of_lt_of_le (show 1 < 2 ^ 1 by decide) (two_pow_le (by omega))

theorem tenN_pos (k : Int) : 0 < tenN k := by unfold tenN; split; omega; exact Nat.pow_pos (by omega)
theorem tenD_pos (k : Int) : 0 < tenD k := by unfold tenD; split; exact Nat.pow_pos (by omega); omega

/-- a value below 2^2200 is below 10^1100 -/
theorem TenLe.small {A D : Nat} {k : Int} (h : TenLe A D k) (hD : 0 < D) (hA : A < 2 ^ vb) : k ≤ 1100 := by
  by_cases hk : k ≤ 1100
  · exact hk
  · exfalso
    unfold TenLe tenN tenD at h
    rw [if_neg (by omega), if_neg (by omega), Nat.mul_one] at h
    have hv := vb_eq
    have h1 : 2 ^ (3 * k.toNat) ≤ 10 ^ k.toNat := by
      rw [Nat.pow_mul]
      exact Nat.pow_le_pow_left (by omega) _
    have h2 : 2 ^ vb ≤ 2 ^ (3 * k.toNat) := two_pow_le (by omega)
    have h3 : 10 ^ k.toNat ≤ 10 ^ k.toNat * D := Nat.le_mul_of_pos_right _ hD
    omega

end Go.Proofs.Ygcoab
