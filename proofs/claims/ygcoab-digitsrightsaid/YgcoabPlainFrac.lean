import Derived.Test.YgcoabPlainWhole
namespace Go.Proofs.Ygcoab
open Go.RowKit

/-- the unit of the fraction: 2^1152 -/
def xe : Nat := 1152
theorem xe_eq : xe = 1152 := rfl
def fx : Nat := 2 ^ xe
theorem pow_64 (e n : Nat) (h : e = 64 * n) : 2 ^ e = 18446744073709551616 ^ n := by
  rw [h, Nat.pow_mul]
theorem fx_eq : fx = 18446744073709551616 ^ 18 := pow_64 xe 18 rfl

theorem fx_pos : 0 < fx := by unfold fx; exact Nat.pow_pos (by omega)

theorem mv_lt {f : Nat → Nat} (h : ∀ j, f j < 18446744073709551616) (n : Nat) : mv f n < 18446744073709551616 ^ n := by
  induction n with
  | zero => exact Nat.one_pos
  | succ n ih =>
    show mv f n + f n * 18446744073709551616 ^ n < 18446744073709551616 ^ (n + 1)
    have h1 : f n * 18446744073709551616 ^ n ≤ 18446744073709551615 * 18446744073709551616 ^ n := Nat.mul_le_mul_right _ (by have := h n; omega)
    rw [Nat.pow_succ]
    generalize 18446744073709551616 ^ n = Y at *
    omega

theorem mv_fx {f : Nat → Nat} (h : ∀ j, f j < 18446744073709551616) : mv f 18 < fx := by
  rw [fx_eq]
  exact mv_lt h 18

/-- limbs below low and from high on are nought -/
structure LimbZ (f : Nat → Nat) (low high : Nat) : Prop where
  lo : ∀ j, j < low → f j = 0
  hi : ∀ j, high ≤ j → f j = 0
  le : low ≤ high
  h18 : high ≤ 18
  lim : ∀ j, f j < 18446744073709551616

theorem mv_low {f : Nat → Nat} {n : Nat} (h : ∀ j, j < n → f j = 0) : mv f n = 0 := by
  rw [mv_congr (g := fun _ => 0) h, mv_zero]

theorem hv_none {f : Nat → Nat} (m k : Nat) (h : ∀ j, k ≤ j → f j = 0) : hv f m k = 0 := by
  induction m generalizing k with
  | zero => rfl
  | succ m ih =>
    show f k + _ * hv f m (k + 1) = 0
    rw [h k (Nat.le_refl _), ih (k + 1) fun j hj => h j (by omega)]

theorem LimbZ.top {f : Nat → Nat} {low high : Nat} (h : LimbZ f low high) : mv f 18 = mv f high := by
  have h1 : 18 = high + (18 - high) := by have := h.h18; omega
  have h2 := mv_split f (18 - high) high
  rw [← h1, hv_none _ _ h.hi, Nat.zero_mul, Nat.add_zero] at h2
  exact h2

theorem LimbZ.none {f : Nat → Nat} {low : Nat} (h : LimbZ f low low) : mv f 18 = 0 := by
  rw [h.top]
  exact mv_low h.lo

theorem LimbZ.up {f : Nat → Nat} {low high : Nat} (h : LimbZ f low high) (hl : low < high) (h0 : f low = 0) : LimbZ f (low + 1) high :=
  ⟨fun j hj => by
    by_cases hq : j = low
    · rw [hq]; exact h0
    · exact h.lo j (by omega), h.hi, by omega, h.h18, h.lim⟩

theorem mv_pos {f : Nat → Nat} {i n : Nat} (hi : i < n) (h : f i ≠ 0) : 0 < mv f n := by
  induction n with
  | zero => omega
  | succ n ih =>
    show 0 < mv f n + f n * _
    by_cases hq : i = n
    · subst hq
      have : 0 < f i * 18446744073709551616 ^ i := Nat.mul_pos (by omega) (Nat.pow_pos (by omega))
      omega
    · have := ih (by omega)
      omega

/-- the multiplication's loop: limbs below i are done -/
structure MlAt (f0 f : Nat → Nat) (low i carry : Nat) : Prop where
  eq : mv f i + carry * 18446744073709551616 ^ i = 1000000000000000000 * mv f0 i
  same : ∀ j, i ≤ j → f j = f0 j
  lo : ∀ j, j < low → f j = 0
  c : carry < 1000000000000000000
  lim : ∀ j, f j < 18446744073709551616

theorem MlAt.start {f : Nat → Nat} {low high : Nat} (h : LimbZ f low high) : MlAt f f low low 0 :=
  ⟨by rw [mv_low h.lo]; simp, fun _ _ => rfl, h.lo, by omega, h.lim⟩

theorem ml_arith (x c : Nat) (hx : x < 18446744073709551616) (hc : c < 1000000000000000000) :
    x * 1000000000000000000 / 18446744073709551616 < 1000000000000000000 ∧
    x * 1000000000000000000 / 18446744073709551616 + (x * 1000000000000000000 % 18446744073709551616 + c) / 18446744073709551616 < 1000000000000000000 ∧
    (x * 1000000000000000000 / 18446744073709551616 + (x * 1000000000000000000 % 18446744073709551616 + c) / 18446744073709551616) * 18446744073709551616 + (x * 1000000000000000000 % 18446744073709551616 + c) % 18446744073709551616 = x * 1000000000000000000 + c := by
  omega

theorem MlAt.next {f0 f : Nat → Nat} {low i carry lo hi : Nat} (h : MlAt f0 f low i carry) (hi' : low ≤ i) (hlo : lo < 18446744073709551616) (hhi : hi < 1000000000000000000) (he : hi * 18446744073709551616 + lo = f0 i * 1000000000000000000 + carry) :
    MlAt f0 (upd f i lo) low (i + 1) hi := by
  refine ⟨?_, fun j hj => ?_, fun j hj => ?_, hhi, upd_lt h.lim hlo⟩
  · show mv (upd f i lo) i + upd f i lo i * 18446744073709551616 ^ i + hi * 18446744073709551616 ^ (i + 1) = 1000000000000000000 * (mv f0 i + f0 i * 18446744073709551616 ^ i)
    rw [mv_upd (Nat.le_refl _), upd_at, Nat.mul_add, ← h.eq, Nat.pow_succ, Nat.add_assoc, Nat.add_assoc]
    congr 1
    rw [Nat.mul_comm (18446744073709551616 ^ i), ← Nat.mul_assoc, ← Nat.mul_assoc, ← Nat.add_mul, ← Nat.add_mul]
    congr 1
    omega
  · unfold upd
    rw [if_neg (by omega)]
    exact h.same j (by omega)
  · unfold upd
    rw [if_neg (by omega)]
    exact h.lo j hj

/-- behind the loop: the product is the limbs and what has left them -/
theorem MlAt.done {f0 f : Nat → Nat} {low high carry : Nat} (h : MlAt f0 f low high carry) (hz : LimbZ f0 low high) :
    mv f 18 + carry * 18446744073709551616 ^ high = 1000000000000000000 * mv f0 18 ∧ LimbZ f low high := by
  have hk : LimbZ f low high := ⟨h.lo, fun j hj => by rw [h.same j hj]; exact hz.hi j hj, hz.le, hz.h18, h.lim⟩
  rw [hk.top, hz.top]
  exact ⟨h.eq, hk⟩

theorem LimbZ.push {f : Nat → Nat} {low high c : Nat} (h : LimbZ f low high) (hh : high < 18) (hc : c < 18446744073709551616) :
    LimbZ (upd f high c) low (high + 1) ∧ mv (upd f high c) 18 = mv f 18 + c * 18446744073709551616 ^ high := by
  have hk : LimbZ (upd f high c) low (high + 1) := ⟨fun j hj => by
    unfold upd
    rw [if_neg (by have := h.le; omega)]
    exact h.lo j hj, fun j hj => by
    unfold upd
    rw [if_neg (by omega)]
    exact h.hi j (by omega), by have := h.le; omega, by omega, upd_lt h.lim hc⟩
  refine ⟨hk, ?_⟩
  rw [hk.top, h.top]
  show mv (upd f high c) high + upd f high c high * _ = _
  rw [mv_upd (Nat.le_refl _), upd_at]

/-- the fraction's state ahead of a turn: A / 2^k is the number, N the digits, p the places laid out, V what is left in units of 2^-1152 -/
structure FrAt (A k at' N p V : Nat) : Prop where
  eq : A * 10 ^ p * fx = (N * fx + V) * 2 ^ k
  lt : V < fx
  dvd : 2 ^ (min (at' + p) xe) ∣ V

theorem FrAt.stop {A k at' N p V : Nat} (h : FrAt A k at' N p V) (hp : xe ≤ at' + p) : V = 0 := by
  have h1 := h.dvd
  rw [Nat.min_eq_right hp] at h1
  exact Nat.eq_zero_of_dvd_of_lt h1 h.lt

theorem FrAt.next {A k at' N p V V' v : Nat} (h : FrAt A k at' N p V) (he : V' + v * fx = 1000000000000000000 * V) (hV : V' < fx) : FrAt A k at' (N * 1000000000000000000 + v) (p + 18) V' := by
  refine ⟨?_, hV, ?_⟩
  · have h1 := h.eq
    have h2 : (10 : Nat) ^ (p + 18) = 10 ^ p * 1000000000000000000 := Nat.pow_add 10 p 18
    rw [h2]
    have h3 : A * (10 ^ p * 1000000000000000000) * fx = A * 10 ^ p * fx * 1000000000000000000 := by
      rw [← Nat.mul_assoc, Nat.mul_right_comm]
    rw [h3, h1, Nat.mul_right_comm]
    refine congrArg (fun z => z * 2 ^ k) ?_
    rw [Nat.add_mul, Nat.add_mul, Nat.mul_comm V, ← he, Nat.mul_right_comm N fx]
    generalize N * 1000000000000000000 * fx = a
    generalize v * fx = b
    omega
  · have h1 : 2 ^ (min (at' + (p + 18)) xe) ∣ 1000000000000000000 * V := by
      have h2 : (2 : Nat) ^ 18 ∣ 1000000000000000000 := ⟨3814697265625, rfl⟩
      have h3 : 2 ^ (18 + min (at' + p) xe) ∣ 1000000000000000000 * V := by
        rw [Nat.pow_add]
        exact Nat.mul_dvd_mul h2 h.dvd
      exact Nat.dvd_trans (Nat.pow_dvd_pow 2 (by omega)) h3
    have h4 : 2 ^ (min (at' + (p + 18)) xe) ∣ v * fx := by
      have h5 : 2 ^ (min (at' + (p + 18)) xe) ∣ fx := Nat.pow_dvd_pow 2 (by omega)
      exact Nat.dvd_trans h5 ⟨v, Nat.mul_comm _ _⟩
    rw [← he] at h1
    exact (Nat.dvd_add_iff_left h4).2 h1

theorem FrAt.exact {A k at' N p : Nat} (h : FrAt A k at' N p 0) : A * 10 ^ p = N * 2 ^ k := by
  have h1 := h.eq
  rw [Nat.add_zero, Nat.mul_right_comm N fx] at h1
  exact Nat.eq_of_mul_eq_mul_right fx_pos h1

theorem FrAt.between {A k at' N p V : Nat} (h : FrAt A k at' N p V) (hV : 0 < V) : N * 2 ^ k < A * 10 ^ p ∧ A * 10 ^ p < (N + 1) * 2 ^ k := by
  have h1 := h.eq
  have h2 := h.lt
  have hk : 0 < 2 ^ k := Nat.pow_pos (by omega)
  have hf := fx_pos
  constructor
  · apply Nat.lt_of_mul_lt_mul_right (a := fx)
    rw [h1, Nat.mul_right_comm N]
    exact Nat.mul_lt_mul_of_pos_right (by omega) hk
  · apply Nat.lt_of_mul_lt_mul_right (a := fx)
    rw [h1, Nat.mul_right_comm (N + 1), Nat.add_mul N 1 fx, Nat.one_mul]
    exact Nat.mul_lt_mul_of_pos_right (by omega) hk

/-- the fraction laid into the limbs -/
theorem FrAt.start {H man k at' V : Nat} (hk : at' + k = xe) (hm : man < 2 ^ k) (hV : V = man * 2 ^ at') : FrAt (H * 2 ^ k + man) k at' H 0 V := by
  have hf : fx = 2 ^ at' * 2 ^ k := by
    unfold fx
    rw [← Nat.pow_add, hk]
  refine ⟨?_, ?_, ?_⟩
  · rw [Nat.pow_zero, Nat.mul_one, hV, hf]
    generalize 2 ^ at' = X
    generalize 2 ^ k = Y
    rw [Nat.add_mul, Nat.add_mul, Nat.mul_right_comm H Y, Nat.mul_assoc man X Y]
  · rw [hV, hf, Nat.mul_comm (2 ^ at')]
    exact Nat.mul_lt_mul_of_pos_right hm (Nat.pow_pos (by omega))
  · rw [hV, Nat.min_eq_left (by omega), Nat.add_zero]
    exact ⟨man, Nat.mul_comm _ _⟩

end Go.Proofs.Ygcoab
