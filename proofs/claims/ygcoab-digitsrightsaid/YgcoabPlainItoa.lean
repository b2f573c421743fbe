/- Plain functions: a number's decimal digits as bytes. No Go in sight. -/
import Derived.Test.YgcoabPlainDec
import Derived.Laws.BytesArg
namespace Go.Proofs.Ygcoab
open Go.RowKit

/-- the digits of u, the highest first, at most f of them -/
def digsL : Nat → Nat → List Int
  | 0, _ => []
  | f + 1, u => (if u / 10 = 0 then [] else digsL f (u / 10)) ++ [48 + ((u % 10 : Nat) : Int)]

/-- Itoa's bytes -/
def itoaL (i : Int) : List Int := (if i < 0 then [45] else []) ++ digsL 20 i.natAbs

/-- Itoa's string -/
def itoaB (i : Int) : ByteArray := strOfNums (itoaL i)

theorem strOfNums_size (xs : List Int) : (strOfNums xs).size = xs.length := by
  show (strOfNums xs).data.size = _
  rw [← Array.length_toList, strOfNums_data]; simp

theorem digsL_len (f u : Nat) : (digsL f u).length ≤ f := by
  induction f generalizing u with
  | zero => simp [digsL]
  | succ f ih =>
    simp only [digsL]
    split
    · simp
    · have := ih (u / 10); simp; omega

theorem itoaB_size (i : Int) : (itoaB i).size ≤ 21 := by
  unfold itoaB
  rw [strOfNums_size, itoaL]
  have := digsL_len 20 i.natAbs
  split <;> simp <;> omega

theorem digsL_ne {f u : Nat} (hf : 0 < f) : 0 < (digsL f u).length := by
  cases f with
  | zero => omega
  | succ f => simp [digsL]

theorem digsL_step {a u : Nat} (ha : 1 ≤ a) : digsL a u = (if u / 10 = 0 then [] else digsL (a - 1) (u / 10)) ++ [48 + ((u % 10 : Nat) : Int)] := by
  cases a with
  | zero => omega
  | succ a => rfl

theorem div_lt_pow {a u : Nat} (ha : 1 ≤ a) (h : u < 10 ^ a) : u / 10 < 10 ^ (a - 1) := by
  cases a with
  | zero => omega
  | succ a =>
    rw [Nat.pow_succ] at h
    simp only [Nat.add_sub_cancel]
    omega

theorem one_le_of_pow {a u : Nat} (hu : u ≠ 0) (h : u < 10 ^ a) : 1 ≤ a := by
  cases a with
  | zero => simp at h; omega
  | succ a => omega

end Go.Proofs.Ygcoab
