/- Digit strings by their bytes. -/
import Derived.Test.YgcoabPlainNear
namespace Go.Proofs.Ygcoab
open Go.RowKit

theorem valL_snoc (xs : List Int) (x : Int) : valL (xs ++ [x]) = valL xs * 10 + (x - 48).toNat := by
  induction xs with
  | nil => show (x - 48).toNat * 10 ^ 0 + 0 = 0 * 10 + _; omega
  | cons y ys ih =>
    show (y - 48).toNat * 10 ^ (ys ++ [x]).length + valL (ys ++ [x]) = ((y - 48).toNat * 10 ^ ys.length + valL ys) * 10 + _
    rw [ih, List.length_append, List.length_singleton, Nat.pow_succ, Nat.add_mul, ← Nat.mul_assoc]
    omega

theorem bAt_str {xs : List Int} {j : Nat} (hj : j < xs.length) (h : ∀ x, x ∈ xs → 48 ≤ x ∧ x ≤ 57) : bAt (strOfNums xs) j = (xs.getD j 0).toNat ∧ 48 ≤ xs.getD j 0 ∧ xs.getD j 0 ≤ 57 := by
  have hm : xs.getD j 0 = xs[j] := by rw [List.getD_eq_getElem?_getD, List.getElem?_eq_getElem hj]; rfl
  have hx := h xs[j] (List.getElem_mem hj)
  rw [hm]
  refine ⟨?_, hx.1, hx.2⟩
  unfold bAt
  rw [strOfNums_data, List.getD_eq_getElem?_getD, List.getElem?_map, List.getElem?_eq_getElem hj]
  show (UInt8.ofNat xs[j].toNat).toNat = _
  rw [UInt8.toNat_ofNat']
  omega

theorem spTo_take {xs : List Int} (h : ∀ x, x ∈ xs → 48 ≤ x ∧ x ≤ 57) (k : Nat) (hk : k ≤ xs.length) : spTo (strOfNums xs) k = valL (xs.take k) := by
  induction k with
  | zero => rfl
  | succ k ih =>
    have hj : k < xs.length := by omega
    obtain ⟨e1, e2, e3⟩ := bAt_str hj h
    show spTo (strOfNums xs) k * 10 + (bAt (strOfNums xs) k - 48) = _
    rw [ih (by omega), e1, List.take_add_one, List.getElem?_eq_getElem hj]
    show _ = valL (xs.take k ++ [xs[k]])
    rw [valL_snoc]
    have hm : xs.getD k 0 = xs[k] := by rw [List.getD_eq_getElem?_getD, List.getElem?_eq_getElem hj]; rfl
    rw [hm] at *
    omega

/-- what a decimal string is, by its bytes -/
structure DigB (N : Nat) (b : ByteArray) : Prop where
  dig : allDig b = true
  val : spTo b b.size = N
  pos : 0 < b.size
  lead : b.size = 1 ∨ bAt b 0 ≠ 48

theorem DigS.bytes {N : Nat} {b : ByteArray} (h : DigS N b) : DigB N b := by
  obtain ⟨xs, rfl, hd, hv, hp, hl⟩ := h
  have hsz := strOfNums_size xs
  refine ⟨?_, ?_, by omega, ?_⟩
  · unfold allDig
    rw [hsz, digTo_iff]
    intro j hj
    obtain ⟨e1, e2, e3⟩ := bAt_str hj hd
    omega
  · rw [hsz, spTo_take hd _ (Nat.le_refl _), List.take_length, hv]
  · rcases hl with h | h
    · exact .inl (by omega)
    · right
      obtain ⟨e1, e2, e3⟩ := bAt_str (j := 0) (by omega) hd
      omega

theorem spTo_ge {b : ByteArray} (h0 : 48 < bAt b 0) (k : Nat) : 10 ^ k ≤ spTo b (k + 1) := by
  induction k with
  | zero => show 1 ≤ 0 * 10 + (bAt b 0 - 48); omega
  | succ k ih =>
    show 10 ^ (k + 1) ≤ spTo b (k + 1) * 10 + (bAt b (k + 1) - 48)
    rw [Nat.pow_succ]
    omega

/-- the length tells the size -/
theorem DigB.size {N : Nat} {b : ByteArray} (h : DigB N b) : N < 10 ^ b.size ∧ (b.size = 1 ∨ 10 ^ (b.size - 1) ≤ N) := by
  have hv := h.val
  have hp := h.pos
  refine ⟨by rw [← hv]; exact spTo_lt h.dig, ?_⟩
  rcases h.lead with h1 | h1
  · exact .inl h1
  · right
    have hd := digTo_at hp h.dig
    have := spTo_ge (b := b) (by omega) (b.size - 1)
    rw [show b.size - 1 + 1 = b.size by omega, hv] at this
    exact this

theorem pow_inj_lt {a b : Nat} (h : 10 ^ a < 10 ^ b) : a < b := (Nat.pow_lt_pow_iff_right (by omega)).1 h

/-- as many digits as asked for, or one more where all nines are lifted -/
theorem DigB.len {N p : Nat} {b : ByteArray} (h : DigB N b) (h1 : 10 ^ p ≤ N) (h2 : N ≤ 10 ^ (p + 1)) : (N < 10 ^ (p + 1) ∧ b.size = p + 1) ∨ (N = 10 ^ (p + 1) ∧ b.size = p + 2) := by
  obtain ⟨s1, s2⟩ := h.size
  have hp := h.pos
  have a1 : p < b.size := pow_inj_lt (Nat.lt_of_le_of_lt h1 s1)
  by_cases hc : N < 10 ^ (p + 1)
  · left
    refine ⟨hc, ?_⟩
    rcases s2 with e | e
    · omega
    · have := pow_inj_lt (Nat.lt_of_le_of_lt e hc)
      omega
  · right
    have hN : N = 10 ^ (p + 1) := by omega
    refine ⟨hN, ?_⟩
    rw [hN] at s1 s2
    have a2 := pow_inj_lt s1
    rcases s2 with e | e
    · omega
    · have : b.size - 1 ≤ p + 1 := (Nat.pow_le_pow_iff_right (by omega)).1 e
      omega

/-- a power of ten is 1 and zeros -/
theorem ten_digits {b : ByteArray} {t : Nat} (hd : digTo b (t + 1) = true) (h : spTo b (t + 1) = 10 ^ t) : bAt b 0 = 49 ∧ ∀ j, 0 < j → j ≤ t → bAt b j = 48 := by
  induction t with
  | zero =>
    have h1 : 0 * 10 + (bAt b 0 - 48) = 1 := h
    have h2 := digTo_at (j := 0) (by omega) hd
    exact ⟨by omega, fun j h1 h2 => by omega⟩
  | succ t ih =>
    have h1 : spTo b (t + 1) * 10 + (bAt b (t + 1) - 48) = 10 ^ (t + 1) := h
    have h2 := digTo_at (j := t + 1) (by omega) hd
    rw [Nat.pow_succ] at h1
    have h3 : spTo b (t + 1) = 10 ^ t ∧ bAt b (t + 1) = 48 := by omega
    obtain ⟨i1, i2⟩ := ih (digTo_le (by omega) hd) h3.1
    refine ⟨i1, fun j hj1 hj2 => ?_⟩
    by_cases hj : j = t + 1
    · rw [hj]; exact h3.2
    · exact i2 j hj1 (by omega)

theorem spTo_congr {b c : ByteArray} {k : Nat} (h : ∀ j, j < k → bAt b j = bAt c j) : spTo b k = spTo c k := by
  induction k with
  | zero => rfl
  | succ k ih =>
    show spTo b k * 10 + (bAt b k - 48) = spTo c k * 10 + (bAt c k - 48)
    rw [ih fun j hj => h j (by omega), h k (by omega)]

theorem spTo_zero {b : ByteArray} {k : Nat} (h : ∀ j, j < k → bAt b j = 48) : spTo b k = 0 := by
  induction k with
  | zero => rfl
  | succ k ih =>
    show spTo b k * 10 + (bAt b k - 48) = 0
    rw [ih fun j hj => h j (by omega), h k (by omega)]

end Go.Proofs.Ygcoab
