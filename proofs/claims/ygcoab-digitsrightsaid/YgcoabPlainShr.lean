/- A shift to the right by less than a limb, in plain numbers. -/
import Derived.Test.YgcoabWNat
namespace Go.Proofs.Ygcoab

/-- the limbs of a number -/
def limb (M i : Nat) : Nat := M / 2 ^ (32 * i) % 4294967296

theorem nv_limb (M n : Nat) : nv (limb M) n = M % 2 ^ (32 * n) := by
  induction n with
  | zero => simp [nv, Nat.mod_one]
  | succ n ih =>
    show nv (limb M) n + limb M n * 2 ^ (32 * n) = _
    rw [ih]
    unfold limb
    rw [show 32 * (n + 1) = 32 * n + 32 by omega, Nat.pow_add, Nat.mod_mul]
    have : (2 : Nat) ^ 32 = 4294967296 := rfl
    rw [this, Nat.mul_comm (2 ^ (32 * n))]

theorem nv_split (f : Nat → Nat) (i m : Nat) : nv f (i + m) = nv f i + nv (fun j => f (i + j)) m * 2 ^ (32 * i) := by
  induction m with
  | zero => simp [nv]
  | succ m ih =>
    show nv f (i + m) + f (i + m) * 2 ^ (32 * (i + m)) = _ + (nv (fun j => f (i + j)) m + f (i + m) * 2 ^ (32 * m)) * 2 ^ (32 * i)
    rw [ih, Nat.add_mul, Nat.mul_assoc (f (i + m)), ← Nat.pow_add, show 32 * m + 32 * i = 32 * (i + m) by omega]
    omega

theorem nv_div {f : Nat → Nat} {i n : Nat} (hi : i ≤ n) (hf : ∀ j, j < n → f j < 4294967296) : nv f n / 2 ^ (32 * i) = nv (fun j => f (i + j)) (n - i) := by
  have h1 := nv_split f i (n - i)
  rw [show i + (n - i) = n by omega] at h1
  have h2 := nv_lt (f := f) (n := i) (fun j hj => hf j (by omega))
  rw [h1, Nat.add_mul_div_right _ _ (two_pow_pos' _), Nat.div_eq_of_lt h2, Nat.zero_add]

theorem nv_head (g : Nat → Nat) (m : Nat) : nv g (m + 1) = g 0 + nv (fun j => g (1 + j)) m * 4294967296 := by
  have := nv_split g 1 m
  rw [show 1 + m = m + 1 by omega] at this
  rw [this]
  simp [nv]

/-- one limb of the shifted number -/
theorem shr_limb {f : Nat → Nat} {i n k : Nat} (hi : i < n) (hk : k < 32) (hf : ∀ j, j < n → f j < 4294967296) :
    limb (nv f n / 2 ^ k) i = (f i + (if i + 1 < n then f (i + 1) else 0) * 4294967296) / 2 ^ k % 4294967296 := by
  unfold limb
  rw [Nat.div_div_eq_div_mul, Nat.mul_comm, ← Nat.div_div_eq_div_mul, nv_div (Nat.le_of_lt hi) hf]
  obtain ⟨m, hm⟩ : ∃ m, n - i = m + 1 := ⟨n - i - 1, by omega⟩
  rw [hm, nv_head]
  have e0 : f (i + 0) = f i := rfl
  show (f (i + 0) + nv (fun j => f (i + (1 + j))) m * 4294967296) / 2 ^ k % 4294967296 = _
  rw [e0]
  by_cases hc : i + 1 < n
  · rw [if_pos hc]
    obtain ⟨m', rfl⟩ : ∃ m', m = m' + 1 := ⟨m - 1, by omega⟩
    rw [nv_head]
    show (f i + (f (i + (1 + 0)) + nv (fun j => f (i + (1 + (1 + j)))) m' * 4294967296) * 4294967296) / 2 ^ k % 4294967296 = _
    have e1 : f (i + (1 + 0)) = f (i + 1) := rfl
    rw [e1]
    generalize nv (fun j => f (i + (1 + (1 + j)))) m' = R
    have e2 : f i + (f (i + 1) + R * 4294967296) * 4294967296 = (f i + f (i + 1) * 4294967296) + (R * 2 ^ (32 - k) * 4294967296) * 2 ^ k := by
      have : (2 : Nat) ^ (32 - k) * 2 ^ k = 4294967296 := by rw [← Nat.pow_add, show 32 - k + k = 32 by omega]
      have h3 : R * 2 ^ (32 - k) * 4294967296 * 2 ^ k = R * 4294967296 * 4294967296 := by
        rw [Nat.mul_right_comm, Nat.mul_assoc R, this]
      rw [h3, Nat.add_mul]
      omega
    rw [e2, Nat.add_mul_div_right _ _ (two_pow_pos' k), Nat.add_mul_mod_self_right]
  · rw [if_neg hc]
    have : m = 0 := by omega
    subst this
    rfl

theorem shr_val {f h : Nat → Nat} {n k : Nat} (hk : k < 32) (hf : ∀ j, j < n → f j < 4294967296) (hh : ∀ i, i < n → h i = (f i + (if i + 1 < n then f (i + 1) else 0) * 4294967296) / 2 ^ k % 4294967296) : nv h n = nv f n / 2 ^ k := by
  rw [nv_congr (g := limb (nv f n / 2 ^ k)) (fun j hj => by rw [hh j hj, shr_limb hj hk hf]), nv_limb]
  exact Nat.mod_eq_of_lt (Nat.lt_of_le_of_lt (Nat.div_le_self _ _) (nv_lt hf))

/-- the bits that are lost -/
theorem shr_lost {f : Nat → Nat} {n k : Nat} (hn : 0 < n) (hk : k < 32) : nv f n % 2 ^ k = f 0 % 2 ^ k := by
  obtain ⟨m, rfl⟩ : ∃ m, n = m + 1 := ⟨n - 1, by omega⟩
  rw [nv_head]
  have : (2 : Nat) ^ (32 - k) * 2 ^ k = 4294967296 := by rw [← Nat.pow_add, show 32 - k + k = 32 by omega]
  rw [← this, ← Nat.mul_assoc, Nat.add_mul_mod_self_right]

end Go.Proofs.Ygcoab
