/- Plain functions: Text, TextE, TextF as bytes. No Go in sight. -/
import Derived.Test.YgcoabPlainItoa
import Derived.Laws.BytesArg
namespace Go.Proofs.Ygcoab
open Go.RowKit

/-- d.ddd -/
def headB (s : ByteArray) : ByteArray := if 1 < s.size then s.extract 0 1 ++ (⟨#[46]⟩ ++ s.extract 1 s.size) else s.extract 0 1

/-- e+0, e-, .. -/
def markB (x : Int) : ByteArray := if x < 0 then (if -x < 10 then ⟨#[101, 45]⟩ ++ ⟨#[48]⟩ else ⟨#[101, 45]⟩) else (if x < 10 then ⟨#[101, 43]⟩ ++ ⟨#[48]⟩ else ⟨#[101, 43]⟩)

def absI (x : Int) : Int := if x < 0 then -x else x

/-- d.ddde+XX -/
def bodyB (s : ByteArray) (x : Int) : ByteArray := headB s ++ markB x ++ itoaB (absI x)

def signed (neg : Bool) (b : ByteArray) : ByteArray := if neg then ⟨#[45]⟩ ++ b else b

/-- TextF's loop: the first i signs -/
def fL (s : ByteArray) (pad cut : Nat) : Nat → List Int
  | 0 => []
  | i + 1 => fL s pad cut i ++ (if i = cut then [46] else []) ++ [if i < pad then 48 else (bAt s (i - pad) : Int)]

theorem fL_len (s : ByteArray) (pad cut i : Nat) : (fL s pad cut i).length = i + if cut < i then 1 else 0 := by
  induction i with
  | zero => simp [fL]
  | succ i ih =>
    simp only [fL, List.length_append, ih]
    by_cases h : i = cut
    · subst h; simp
    · by_cases h2 : cut < i
      · simp [h, h2, show cut < i + 1 from by omega]
      · simp [h, h2, show ¬ cut < i + 1 from by omega]

end Go.Proofs.Ygcoab
