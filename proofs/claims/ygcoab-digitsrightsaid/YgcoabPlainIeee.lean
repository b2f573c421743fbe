/- The fields of a pattern, as plain numbers. -/
import Derived.WalkKit
import Derived.Laws.BitsAllLaws
namespace Go.Proofs.Ygcoab

structure FOk (E M : Nat) : Prop where
  e1 : 2 ≤ E
  e2 : E ≤ 11
  m1 : 2 ≤ M
  m2 : M ≤ 52

def sgnB (E M : Nat) : Nat := 2 ^ (E + M)
def maskP (E M : Nat) : Nat := 2 ^ (E + M + 1) - 1
def topE (E : Nat) : Nat := 2 ^ E - 1
def biasN (E : Nat) : Nat := 2 ^ (E - 1) - 1
def expF (E M x : Nat) : Nat := x / 2 ^ M % 2 ^ E
def fracF (M x : Nat) : Nat := x % 2 ^ M
def negF (E M x : Nat) : Bool := x / 2 ^ (E + M) % 2 == 1
def zeroP (E M : Nat) (neg : Bool) : Nat := if neg then 2 ^ (E + M) else 0
def infP (E M : Nat) (neg : Bool) : Nat := zeroP E M neg + (2 ^ E - 1) * 2 ^ M
def nanP (E M : Nat) : Nat := (2 ^ E - 1) * 2 ^ M + 2 ^ (M - 1)
def clsF (E M x : Nat) : Int :=
  if expF E M x = topE E then (if fracF M x = 0 then 3 else 4) else if expF E M x ≠ 0 then 2 else if fracF M x ≠ 0 then 1 else 0

theorem wrap64 (n : Int) : IntKind.u64.wrap n = n % 18446744073709551616 := by simp [IntKind.wrap, IntKind.bits, IntKind.signed]

theorem two_pow_lt {n k : Nat} (h : n < k) : (2 : Nat) ^ n < 2 ^ k := Nat.pow_lt_pow_right (by omega) h
theorem two_pow_le {n k : Nat} (h : n ≤ k) : (2 : Nat) ^ n ≤ 2 ^ k := Nat.pow_le_pow_right (by omega) h
theorem two_pow_pos' (n : Nat) : 0 < (2 : Nat) ^ n := Nat.pow_pos (by omega)
theorem pow_lt64 {n : Nat} (h : n < 64) : (2 : Nat) ^ n < 18446744073709551616 := two_pow_lt (k := 64) h

theorem icast (n : Nat) : (2 : Int) ^ n = ((2 ^ n : Nat) : Int) := by simp

theorem w64_pow {n : Nat} (h : n < 64) : IntKind.u64.wrap (2 ^ n) = ((2 ^ n : Nat) : Int) := by
  have := pow_lt64 h
  rw [wrap64, icast]
  exact Int.emod_eq_of_lt (Int.natCast_nonneg _) (Int.ofNat_lt.2 this)

theorem w64_nat {n : Nat} (h : n < 18446744073709551616) : IntKind.u64.wrap (n : Int) = n := by
  rw [wrap64]; omega

theorem w64_pow1 {n : Nat} (h : n < 64) : IntKind.u64.wrap (IntKind.u64.wrap (2 ^ n) - 1) = ((2 ^ n - 1 : Nat) : Int) := by
  have := pow_lt64 h
  have := two_pow_pos' n
  rw [w64_pow h, wrap64]
  omega

theorem and_low {x n : Nat} (hx : x < 18446744073709551616) (hn : n ≤ 64) :
    bits .and .u64 (x : Int) ((2 ^ n - 1 : Nat) : Int) = ((x % 2 ^ n : Nat) : Int) := by
  have : (2 : Nat) ^ n ≤ 18446744073709551616 := two_pow_le (k := 64) hn
  rw [u64_and_nat x (2 ^ n - 1) hx (by omega), Nat.and_two_pow_sub_one_eq_mod]

theorem and_expF {E M x : Nat} (h : FOk E M) (hx : x < 18446744073709551616) :
    bits .and .u64 ((x : Int) / 2 ^ M) (IntKind.u64.wrap (IntKind.u64.wrap (2 ^ E) - 1)) = (expF E M x : Nat) := by
  have h2 := h.e2
  rw [w64_pow1 (by omega), icast, ← Int.natCast_ediv, and_low (Nat.lt_of_le_of_lt (Nat.div_le_self _ _) hx) (by omega)]
  rfl

theorem and_fracF {E M x : Nat} (h : FOk E M) (hx : x < 18446744073709551616) :
    bits .and .u64 (x : Int) (IntKind.u64.wrap (IntKind.u64.wrap (2 ^ M) - 1)) = (fracF M x : Nat) := by
  have h2 := h.m2
  rw [w64_pow1 (by omega), and_low hx (by omega)]
  rfl

theorem and_negF {E M x : Nat} (hx : x < 18446744073709551616) :
    (bits .and .u64 ((x : Int) / 2 ^ (E + M)) 1 == 1) = negF E M x := by
  rw [icast, ← Int.natCast_ediv]
  have := and_low (x := x / 2 ^ (E + M)) (n := 1) (Nat.lt_of_le_of_lt (Nat.div_le_self _ _) hx) (by omega)
  have e : (((2 ^ 1 - 1 : Nat)) : Int) = 1 := rfl
  rw [e] at this
  rw [this]
  unfold negF
  rcases Nat.mod_two_eq_zero_or_one (x / 2 ^ (E + M)) with h | h <;> simp [h]

theorem sgnB_lt {E M : Nat} (h : FOk E M) : sgnB E M < 18446744073709551616 := two_pow_lt (k := 64) (by have := h.e2; have := h.m2; omega)

theorem and_sgn {E M x : Nat} (h : FOk E M) (hx : x < 18446744073709551616) :
    (bits .and .u64 (x : Int) (sgnB E M : Int) != 0) = negF E M x := by
  rw [u64_and_nat x (sgnB E M) hx (by have := sgnB_lt h; omega)]
  unfold sgnB negF
  rw [nat_bit]
  have := two_pow_pos' (E + M)
  rcases Nat.mod_two_eq_zero_or_one (x / 2 ^ (E + M)) with h | h
  · simp [h]
  · rw [h, Nat.one_mul, bne, beq_eq_false_iff_ne.2 (by omega)]
    rfl

theorem mask_lt {E M : Nat} (h : FOk E M) : maskP E M < 18446744073709551616 := by
  have := two_pow_le (n := E + M + 1) (k := 64) (by have := h.e2; have := h.m2; omega)
  have := two_pow_pos' (E + M + 1)
  have e : (2 : Nat) ^ 64 = 18446744073709551616 := rfl
  unfold maskP
  omega

theorem and_mask {E M x : Nat} (h : FOk E M) (hx : x < 18446744073709551616) :
    bits .and .u64 (x : Int) (maskP E M : Int) = ((x % 2 ^ (E + M + 1) : Nat) : Int) :=
  and_low hx (by have := h.e2; have := h.m2; omega)

theorem w64_mask {E M : Nat} (h : FOk E M) : IntKind.u64.wrap (IntKind.u64.wrap ((sgnB E M : Int) * 2) - 1) = (maskP E M : Nat) := by
  have h1 := mask_lt h
  have h2 := sgnB_lt h
  have h3 := two_pow_pos' (E + M)
  have e : maskP E M = sgnB E M * 2 - 1 := by unfold maskP sgnB; rw [Nat.pow_succ]
  unfold sgnB at *
  rw [e] at h1 ⊢
  rw [wrap64, wrap64]
  omega

theorem bias_lt {E M : Nat} (h : FOk E M) : biasN E ≤ 1023 := by
  have := two_pow_le (n := E - 1) (k := 10) (by have := h.e2; omega)
  have e : (2 : Nat) ^ 10 = 1024 := rfl
  unfold biasN
  omega

theorem w16_bias {E M : Nat} (h : FOk E M) : IntKind.i16.wrap (IntKind.i16.wrap (2 ^ (E - 1)) - 1) = (biasN E : Nat) := by
  have h1 := bias_lt h
  have := two_pow_pos' (E - 1)
  have w16 : ∀ n : Int, IntKind.i16.wrap n = (n + 32768) % 65536 - 32768 := by intro n; simp [IntKind.wrap, IntKind.bits, IntKind.signed]; split <;> omega
  unfold biasN at *
  rw [icast, w16, w16]
  omega

def topS (E M : Nat) : Nat := topE E * 2 ^ M

theorem topS_lt {E M : Nat} (_ : FOk E M) : topS E M < sgnB E M := by
  unfold topS sgnB topE
  rw [Nat.pow_add]
  have := two_pow_pos' E
  exact Nat.mul_lt_mul_of_pos_right (by omega) (two_pow_pos' M)

theorem w64_topS {E M : Nat} (h : FOk E M) : IntKind.u64.wrap ((topE E : Int) * 2 ^ M) = (topS E M : Nat) := by
  have h1 := topS_lt h
  have h2 := sgnB_lt h
  have e : ((topE E : Int) * 2 ^ M) = (topS E M : Nat) := by unfold topS; simp
  rw [e, w64_nat (by omega)]

theorem zeroP_mod (E M : Nat) (neg : Bool) : zeroP E M neg % 2 ^ (E + M) = 0 := by
  unfold zeroP
  split <;> simp

theorem zeroP_le (E M : Nat) (neg : Bool) : zeroP E M neg ≤ sgnB E M := by
  unfold zeroP sgnB
  split
  · exact Nat.le_refl _
  · exact Nat.zero_le _

theorem or_inf {E M : Nat} (h : FOk E M) (neg : Bool) : bits .or .u64 (zeroP E M neg : Nat) (topS E M : Nat) = (infP E M neg : Nat) := by
  have h1 := topS_lt h
  have h2 := sgnB_lt h
  have h3 := zeroP_le E M neg
  rw [u64_or_nat _ _ (by omega) (by omega), nat_join (E + M) _ _ (zeroP_mod E M neg) h1]
  rfl

theorem or_inf' {E M : Nat} (h : FOk E M) : bits .or .u64 (topS E M : Nat) (sgnB E M : Nat) = (infP E M true : Nat) := by
  have h1 := topS_lt h
  have h2 := sgnB_lt h
  rw [u64_or_nat _ _ (by omega) (by omega), Nat.or_comm, nat_join (E + M) _ _ (by unfold sgnB; simp) h1]
  rfl

theorem infP_false (E M : Nat) : infP E M false = topS E M := by
  unfold infP topS topE zeroP
  simp

theorem or_nan {E M : Nat} (h : FOk E M) : bits .or .u64 (infP E M false : Nat) (IntKind.u64.wrap (2 ^ (M - 1))) = (nanP E M : Nat) := by
  have h1 := topS_lt h
  have h2 := sgnB_lt h
  have := h.m2
  have := h.m1
  rw [w64_pow (by omega), infP_false, u64_or_nat _ _ (by omega) (pow_lt64 (by omega)), nat_join M _ _ (by unfold topS; simp) (two_pow_lt (by omega))]
  rfl

theorem w64_sgn {E M : Nat} (h : FOk E M) : IntKind.u64.wrap (2 ^ (E + M)) = (sgnB E M : Nat) :=
  w64_pow (by have := h.e2; have := h.m2; omega)

end Go.Proofs.Ygcoab
