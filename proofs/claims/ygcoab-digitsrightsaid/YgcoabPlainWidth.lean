/- ieee.width: the number of bits of a word. -/
import Derived.Test.YgcoabPlainIeee
namespace Go.Proofs.Ygcoab

/-- the number of bits -/
def blen (x : Nat) : Nat := if x = 0 then 0 else x.log2 + 1

theorem blen_zero : blen 0 = 0 := rfl

theorem blen_pos {x : Nat} (h : 0 < x) : 0 < blen x := by unfold blen; rw [if_neg (by omega)]; omega

theorem blen_le {x n : Nat} (h : x < 2 ^ n) : blen x ≤ n := by
  unfold blen
  split
  · omega
  · rename_i h0
    exact (Nat.log2_lt h0).2 h

theorem lt_blen (x : Nat) : x < 2 ^ blen x := by
  unfold blen
  split
  · omega
  · exact Nat.lt_log2_self

theorem blen_ge {x : Nat} (h : 0 < x) : 2 ^ (blen x - 1) ≤ x := by
  unfold blen
  rw [if_neg (by omega)]
  exact Nat.log2_self_le (by omega)

theorem blen_eq {x n : Nat} (h : 0 < n) (h1 : 2 ^ (n - 1) ≤ x) (h2 : x < 2 ^ n) : blen x = n := by
  have := two_pow_pos' (n - 1)
  have a := blen_le h2
  have b := lt_blen x
  by_cases hc : blen x < n
  · have := two_pow_le (n := blen x) (k := n - 1) (by omega)
    omega
  · omega

def fil (k x : Nat) : Nat := x ||| x / 2 ^ k

theorem fil_lt {k x : Nat} (hx : x < 18446744073709551616) : fil k x < 18446744073709551616 :=
  Nat.or_lt_two_pow (n := 64) hx (Nat.lt_of_le_of_lt (Nat.div_le_self _ _) hx)

theorem fil_bits {k x : Nat} (hx : x < 18446744073709551616) : bits .or .u64 (x : Int) ((x : Int) / ((2 ^ k : Nat) : Int)) = (fil k x : Nat) := by
  rw [← Int.natCast_ediv, u64_or_nat _ _ hx (Nat.lt_of_le_of_lt (Nat.div_le_self _ _) hx)]
  rfl

/-- the k highest of n bits are set -/
def TopSet (n k x : Nat) : Prop := x < 2 ^ n ∧ ∀ i, i < n → n ≤ i + k → x.testBit i = true

theorem TopSet.fil {n k x : Nat} (h : TopSet n k x) : TopSet n (2 * k) (fil k x) := by
  refine ⟨Nat.or_lt_two_pow h.1 (Nat.lt_of_le_of_lt (Nat.div_le_self _ _) h.1), fun i hi hk => ?_⟩
  unfold Ygcoab.fil
  rw [Nat.testBit_or, ← Nat.shiftRight_eq_div_pow, Nat.testBit_shiftRight]
  by_cases hc : n ≤ i + k
  · rw [h.2 i hi hc]; rfl
  · rw [h.2 (k + i) (by omega) (by omega), Bool.or_true]

theorem TopSet.all {n k x : Nat} (h : TopSet n k x) (hk : n ≤ k) : x = 2 ^ n - 1 := by
  apply Nat.eq_of_testBit_eq
  intro i
  rw [Nat.testBit_two_pow_sub_one]
  by_cases hi : i < n
  · rw [h.2 i hi (by omega)]; simp [hi]
  · rw [Nat.testBit_lt_two_pow (Nat.lt_of_lt_of_le h.1 (two_pow_le (by omega)))]; simp [hi]

theorem topSet_one {x : Nat} : TopSet (blen x) 1 x := by
  refine ⟨lt_blen x, fun i hi hk => ?_⟩
  have h0 : 0 < x := by
    rcases Nat.eq_zero_or_pos x with h | h
    · subst h; rw [blen_zero] at hi; omega
    · exact h
  have e : i = x.log2 := by
    unfold blen at hi hk
    rw [if_neg (by omega)] at hi hk
    omega
  rw [e]
  exact Nat.testBit_log2 (by omega)

def filA (x : Nat) : Nat := fil 32 (fil 16 (fil 8 (fil 4 (fil 2 (fil 1 x)))))

theorem filA_eq {x : Nat} (hx : x < 18446744073709551616) : filA x = 2 ^ blen x - 1 := by
  have h := ((((((topSet_one (x := x)).fil).fil).fil).fil).fil).fil
  exact h.all (Nat.le_trans (blen_le (n := 64) hx) (by decide))

def sw1 (y : Nat) : Nat := (IntKind.u64.wrap ((y : Int) - bits .and .u64 ((y : Int) / 2) 6148914691236517205)).toNat
def sw2 (y : Nat) : Nat := (IntKind.u64.wrap (bits .and .u64 (y : Int) 3689348814741910323 + bits .and .u64 ((y : Int) / 4) 3689348814741910323)).toNat
def sw3 (y : Nat) : Nat := (bits .and .u64 (IntKind.u64.wrap ((y : Int) + (y : Int) / 16)) 1085102592571150095).toNat
def sw4 (y : Nat) : Nat := (IntKind.u8.wrap (IntKind.u64.wrap ((y : Int) * 72340172838076673) / 72057594037927936)).toNat

theorem sw_all : ∀ n, n < 65 → sw4 (sw3 (sw2 (sw1 (2 ^ n - 1)))) = n := by decide +kernel

theorem width_plain {x : Nat} (hx : x < 18446744073709551616) : sw4 (sw3 (sw2 (sw1 (filA x)))) = blen x := by
  rw [filA_eq hx]
  exact sw_all _ (by have := blen_le (n := 64) hx; omega)

theorem bits_nonneg (op : BinOp) (a b : Int) : 0 ≤ bits op .u64 a b := by
  unfold bits
  exact wrap_u64_nonneg _

end Go.Proofs.Ygcoab
