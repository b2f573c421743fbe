/- RoundFlags in plain numbers. -/
import Derived.Test.YgcoabWCmp
import Derived.Test.YgcoabWScaled
import Derived.Test.YgcoabWBits
namespace Go.Proofs.Ygcoab

def eminZ (E : Nat) : Int := 1 - (biasN E : Int)
def emaxZ (E : Nat) : Int := (biasN E : Int)

/-- the denominator of n/d times 2^k -/
def shD (D : Nat) (k : Int) : Nat := if k < 0 then D * 2 ^ (-k).toNat else D

def log2Z (N D : Nat) (lo hi : Int) : Int :=
  if hi + 1 < (blen N : Int) - (blen D : Int) then hi + 1
  else if (blen N : Int) - (blen D : Int) < lo then lo - 1
  else if cmpZ (sNum N (-((blen N : Int) - (blen D : Int)))) (shD D (-((blen N : Int) - (blen D : Int)))) < 0 then (blen N : Int) - (blen D : Int) - 1
  else (blen N : Int) - (blen D : Int)

theorem log2Z_bounds {N D : Nat} {lo hi : Int} (h : lo ≤ hi) : lo - 1 ≤ log2Z N D lo hi ∧ log2Z N D lo hi ≤ hi + 1 := by
  unfold log2Z
  split
  · omega
  · split
    · omega
    · split <;> omega

def halfZ (N D : Nat) : Int := cmpZ (N % D * 2) D
def someB (N D : Nat) : Bool := !decide (N % D = 0)

def raisesB (mode : Nat) (neg odd : Bool) (half : Int) (some : Bool) : Bool :=
  if mode = 1 then decide (0 ≤ half) else if mode = 2 then false else if mode = 3 then some && !neg else if mode = 4 then some && neg else (decide (0 < half) || ((half == 0) && odd))

def raisedN (mode : Nat) (neg : Bool) (N D : Nat) : Nat := if raisesB mode neg (N / D % 2 == 1) (halfZ N D) (someB N D) = true then N / D + 1 else N / D

def maxP (E M : Nat) (neg : Bool) : Nat := if neg then (topS E M - 1) ||| sgnB E M else topS E M - 1

def keepsB (mode : Nat) (neg : Bool) : Bool := (mode == 2) || ((mode == 3) && neg) || ((mode == 4) && !neg)

def overP (E M mode : Nat) (neg : Bool) : Nat := if keepsB mode neg = true then maxP E M neg else infP E M neg

def packX (E M : Nat) (e : Int) (n : Nat) : Nat := ((e - eminZ E).toNat * 2 ^ M + n) % 18446744073709551616

def packP (E M mode : Nat) (neg : Bool) (e : Int) (n : Nat) : Nat :=
  if topS E M ≤ packX E M e n then overP E M mode neg else packX E M e n ||| zeroP E M neg

def realZ (E N D : Nat) : Int := log2Z N D (eminZ E - 1) (emaxZ E)
def expZ (E N D : Nat) : Int := max (realZ E N D) (eminZ E)

def roundP (E M mode : Nat) (neg : Bool) (N D : Nat) : Nat :=
  if N = 0 then zeroP E M neg
  else if emaxZ E < expZ E N D then overP E M mode neg
  else packP E M mode neg (expZ E N D) (raisedN mode neg (sNum N ((M : Int) - expZ E N D)) (shD D ((M : Int) - expZ E N D)) % 18446744073709551616)

/-- a number of at most 1000000 bits -/
def bitMax : Nat := 1000000
def SmallN (N : Nat) : Prop := N < 2 ^ bitMax

theorem bitMax_eq : bitMax = 1000000 := rfl

theorem SmallN.fits {N : Nat} (h : SmallN N) : FitsN N := FitsN.of (a := bitMax) h (by have := bitMax_eq; omega)

theorem SmallN.shift {N k : Nat} (h : SmallN N) (hk : k ≤ 65535) : FitsN (N * 2 ^ k) := by
  have hb := bitMax_eq
  refine FitsN.of (a := bitMax + k) ?_ (by omega)
  rw [Nat.pow_add]
  exact Nat.mul_lt_mul_of_pos_right h (two_pow_pos' k)

theorem SmallN.num {N : Nat} {k : Int} (h : SmallN N) (hk : k ≤ 65535) : FitsN (sNum N k) := by
  unfold sNum
  split
  · exact h.fits
  · exact h.shift (by omega)

theorem SmallN.den {N : Nat} {k : Int} (h : SmallN N) (hk : -65535 ≤ k) : FitsN (shD N k) := by
  unfold shD
  split
  · exact h.shift (by omega)
  · exact h.fits

theorem shD_pos {D : Nat} {k : Int} (h : 0 < D) : 0 < shD D k := by
  unfold shD
  split
  · exact Nat.mul_pos h (two_pow_pos' _)
  · exact h

theorem FitsN.le {a b : Nat} (h : FitsN b) (hab : a ≤ b) : FitsN a := Nat.lt_of_le_of_lt hab h

end Go.Proofs.Ygcoab
