import Derived.Test.YgcoabWAddF
import Derived.Test.YgcoabWMulF
import Derived.Test.YgcoabWDivF
import Derived.Test.YgcoabWWrap
import Derived.Test.YgcoabPlainSpecial
namespace Go.Proofs.Ygcoab
open Go.RowKit

/-- a + b where an operand is not finite, the infinities told by their signs -/
def addR (E M : Nat) (c1 : Int) (N1 : Bool) (c2 : Int) (N2 : Bool) : Nat :=
  if c1 = 4 ∨ c2 = 4 then nanP E M else if c1 = 3 ∧ c2 = 3 ∧ N1 ≠ N2 then nanP E M else if c1 = 3 then infP E M N1 else infP E M N2

theorem addFlags_to {E M : Nat} (h : FOk E M) (mode : Int) (a b : Nat) (ha : a < 18446744073709551616) (hb : b < 18446744073709551616)
    (sp : clsF E M a = 3 ∨ clsF E M a = 4 ∨ clsF E M b = 3 ∨ clsF E M b = 4) : FlagsTo 123 E M mode a b (addR E M (clsF E M a) (negF E M a) (clsF E M b) (negF E M b)) := by
  intro w
  have := addFlags_special h mode a b ha hb (by rw [mod_clsF, mod_clsF]; exact sp) w
  rw [mod_clsF, mod_clsF, mod_negF, mod_negF] at this
  have e : addS E M (clsF E M a) (negF E M a) (a % 2 ^ (E + M + 1)) (clsF E M b) (negF E M b) (b % 2 ^ (E + M + 1)) = addR E M (clsF E M a) (negF E M a) (clsF E M b) (negF E M b) := by
    unfold addS addR
    by_cases h1 : clsF E M a = 4 ∨ clsF E M b = 4
    · rw [if_pos h1, if_pos h1]
    · rw [if_neg h1, if_neg h1]
      by_cases h2 : clsF E M a = 3 ∧ clsF E M b = 3 ∧ negF E M a ≠ negF E M b
      · rw [if_pos h2, if_pos h2]
      · rw [if_neg h2, if_neg h2]
        by_cases h3 : clsF E M a = 3
        · rw [if_pos h3, if_pos h3, inf_bits h3]
        · rw [if_neg h3, if_neg h3, inf_bits (x := b) (by omega)]
  rw [e] at this
  exact this

theorem mulFlags_to {E M : Nat} (h : FOk E M) (mode : Int) (a b : Nat) (ha : a < 18446744073709551616) (hb : b < 18446744073709551616)
    (sp : clsF E M a = 3 ∨ clsF E M a = 4 ∨ clsF E M b = 3 ∨ clsF E M b = 4) : FlagsTo 125 E M mode a b (mulS E M (clsF E M a) (negF E M a) (clsF E M b) (negF E M b)) := by
  intro w
  have := mulFlags_special h mode a b ha hb (by rw [mod_clsF, mod_clsF]; exact sp) w
  rw [mod_clsF, mod_clsF, mod_negF, mod_negF] at this
  exact this

theorem divFlags_to {E M : Nat} (h : FOk E M) (mode : Int) (a b : Nat) (ha : a < 18446744073709551616) (hb : b < 18446744073709551616)
    (sp : clsF E M a = 3 ∨ clsF E M a = 4 ∨ clsF E M b = 3 ∨ clsF E M b = 4 ∨ clsF E M b = 0) : FlagsTo 126 E M mode a b (divS E M (clsF E M a) (negF E M a) (clsF E M b) (negF E M b)) := by
  intro w
  have := divFlags_special h mode a b ha hb (by rw [mod_clsF, mod_clsF]; exact sp) w
  rw [mod_clsF, mod_clsF, mod_negF, mod_negF] at this
  exact this

/-- the format lies in block B, all below is as it was -/
def FB (w : World) (E M : Nat) (W : World) : Prop := FAt w.heap.size E M W ∧ Below w.heap.size w W

end Go.Proofs.Ygcoab
