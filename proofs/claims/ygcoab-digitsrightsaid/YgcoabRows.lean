/-
  No cell of these rows narrows 'for every input' (looked for: loops, veiled, ifaces, maps, wideKeys, modest, calm, conditions, laid).
  DERIVED. THE GIVEN ROWS OF THIS SEAT. 12 by the template 'for every input the law returns true; each argument reads behind the call as it read before'; 0 by the template 'total and deterministic' (their statements: YgcoabTotals.lean).
  GIVEN WITH THE SEED: the statements are not yours to turn. If you find one false, say at which input.
  Laid BY PROGRAM, IN A SANDBOX (cutbox-rows.mjs): the forced cells as the released guide's own fill.sh prints them over the translation 61704eef23a83eca… (all of the seat's roots in one cut). By AI agents, Wed Nov 11 2026. No macro, syntax, notation, axiom, sorry.
-/
import Derived.Test.YgcoabChecked
import GoSem.Claim
import GoSem.ClaimJoined
import GoSem.ClaimMapViews
import Derived.JoinedTies
import Derived.KernelRfl
namespace Go.Proofs.Ygcoab
/- THE CELL 'sum', in the pinned program and in every row, IS THE sha256 OF THE DUMP (.gsa) THAT YgcoabProg.lean LOADS. Nothing in Lean hashes anything: it is a label: what it is worth is what the hold of that sum in a sandbox is worth. -/
noncomputable def Oabg.pinned : Pinned := { name := "ygcoab", sum := "61704eef23a83ecaba211a537b5b6f2e6d4fef1eb015edddcd8f65844f6b75e3", checked := Oabg.checked }
namespace Rows
def none {H : Type} : Left H := { results := [], args := [] }

/-- 'law.MakeRight': WHATEVER THE INPUT: true; the input reads as it did. -/
def makeRightSpec : ChangeSpec := { name := "makeRight", fn := fun _ => fun
  | [d1, d2, d3] => { results := [.lit (.bool true)], args := [d1, d2, d3] }
  | _ => none }
def makeRightRow : OpenClaim := { program := "ygcoab", sum := "61704eef23a83ecaba211a537b5b6f2e6d4fef1eb015edddcd8f65844f6b75e3", func := "softfloat/law.MakeRight", spec := "makeRight", apart := false }
def MakeRightSaid : Prop := makeRightRow.holds Oabg.pinned (OpenSpec.ofChange makeRightSpec)

/-- ITS FALSE NEIGHBOUR: 'it returns false'. Refute it at one input. -/
def makeRightWrong : ChangeSpec := { name := "makeRight", fn := fun _ => fun
  | [d1, d2, d3] => { results := [.lit (.bool false)], args := [d1, d2, d3] }
  | _ => none }
def MakeRightWrongFalsely : Prop := makeRightRow.holds Oabg.pinned (OpenSpec.ofChange makeRightWrong)

/-- 'law.ScanSame': WHATEVER THE INPUT: true; the input reads as it did. -/
def scanSameSpec : ChangeSpec := { name := "scanSame", fn := fun _ => fun
  | [d] => { results := [.lit (.bool true)], args := [d] }
  | _ => none }
def scanSameRow : OpenClaim := { program := "ygcoab", sum := "61704eef23a83ecaba211a537b5b6f2e6d4fef1eb015edddcd8f65844f6b75e3", func := "softfloat/law.ScanSame", spec := "scanSame", apart := false }
def ScanSameSaid : Prop := scanSameRow.holds Oabg.pinned (OpenSpec.ofChange scanSameSpec)

/-- ITS FALSE NEIGHBOUR: 'it returns false'. Refute it at one input. -/
def scanSameWrong : ChangeSpec := { name := "scanSame", fn := fun _ => fun
  | [d] => { results := [.lit (.bool false)], args := [d] }
  | _ => none }
def ScanSameWrongFalsely : Prop := scanSameRow.holds Oabg.pinned (OpenSpec.ofChange scanSameWrong)

/-- 'law.ScanText': WHATEVER THE INPUT: true; the input reads as it did. -/
def scanTextSpec : ChangeSpec := { name := "scanText", fn := fun _ => fun
  | [d1, d2, d3] => { results := [.lit (.bool true)], args := [d1, d2, d3] }
  | _ => none }
def scanTextRow : OpenClaim := { program := "ygcoab", sum := "61704eef23a83ecaba211a537b5b6f2e6d4fef1eb015edddcd8f65844f6b75e3", func := "softfloat/law.ScanText", spec := "scanText", apart := false }
def ScanTextSaid : Prop := scanTextRow.holds Oabg.pinned (OpenSpec.ofChange scanTextSpec)

/-- ITS FALSE NEIGHBOUR: 'it returns false'. Refute it at one input. -/
def scanTextWrong : ChangeSpec := { name := "scanText", fn := fun _ => fun
  | [d1, d2, d3] => { results := [.lit (.bool false)], args := [d1, d2, d3] }
  | _ => none }
def ScanTextWrongFalsely : Prop := scanTextRow.holds Oabg.pinned (OpenSpec.ofChange scanTextWrong)

/-- 'law.TextRight': WHATEVER THE INPUT: true; the input reads as it did. -/
def textRightSpec : ChangeSpec := { name := "textRight", fn := fun _ => fun
  | [d1, d2, d3, d4] => { results := [.lit (.bool true)], args := [d1, d2, d3, d4] }
  | _ => none }
def textRightRow : OpenClaim := { program := "ygcoab", sum := "61704eef23a83ecaba211a537b5b6f2e6d4fef1eb015edddcd8f65844f6b75e3", func := "softfloat/law.TextRight", spec := "textRight", apart := false }
def TextRightSaid : Prop := textRightRow.holds Oabg.pinned (OpenSpec.ofChange textRightSpec)

/-- ITS FALSE NEIGHBOUR: 'it returns false'. Refute it at one input. -/
def textRightWrong : ChangeSpec := { name := "textRight", fn := fun _ => fun
  | [d1, d2, d3, d4] => { results := [.lit (.bool false)], args := [d1, d2, d3, d4] }
  | _ => none }
def TextRightWrongFalsely : Prop := textRightRow.holds Oabg.pinned (OpenSpec.ofChange textRightWrong)

/-- 'law.ExactDigits': WHATEVER THE INPUT: true; the input reads as it did. -/
def exactDigitsSpec : ChangeSpec := { name := "exactDigits", fn := fun _ => fun
  | [d1, d2, d3] => { results := [.lit (.bool true)], args := [d1, d2, d3] }
  | _ => none }
def exactDigitsRow : OpenClaim := { program := "ygcoab", sum := "61704eef23a83ecaba211a537b5b6f2e6d4fef1eb015edddcd8f65844f6b75e3", func := "softfloat/law.ExactDigits", spec := "exactDigits", apart := false }
def ExactDigitsSaid : Prop := exactDigitsRow.holds Oabg.pinned (OpenSpec.ofChange exactDigitsSpec)

/-- ITS FALSE NEIGHBOUR: 'it returns false'. Refute it at one input. -/
def exactDigitsWrong : ChangeSpec := { name := "exactDigits", fn := fun _ => fun
  | [d1, d2, d3] => { results := [.lit (.bool false)], args := [d1, d2, d3] }
  | _ => none }
def ExactDigitsWrongFalsely : Prop := exactDigitsRow.holds Oabg.pinned (OpenSpec.ofChange exactDigitsWrong)

/-- 'law.DigitsRight': WHATEVER THE INPUT: true; the input reads as it did. -/
def digitsRightSpec : ChangeSpec := { name := "digitsRight", fn := fun _ => fun
  | [d1, d2, d3] => { results := [.lit (.bool true)], args := [d1, d2, d3] }
  | _ => none }
def digitsRightRow : OpenClaim := { program := "ygcoab", sum := "61704eef23a83ecaba211a537b5b6f2e6d4fef1eb015edddcd8f65844f6b75e3", func := "softfloat/law.DigitsRight", spec := "digitsRight", apart := false }
def DigitsRightSaid : Prop := digitsRightRow.holds Oabg.pinned (OpenSpec.ofChange digitsRightSpec)

/-- ITS FALSE NEIGHBOUR: 'it returns false'. Refute it at one input. -/
def digitsRightWrong : ChangeSpec := { name := "digitsRight", fn := fun _ => fun
  | [d1, d2, d3] => { results := [.lit (.bool false)], args := [d1, d2, d3] }
  | _ => none }
def DigitsRightWrongFalsely : Prop := digitsRightRow.holds Oabg.pinned (OpenSpec.ofChange digitsRightWrong)

/-- 'law.PrecText': WHATEVER THE INPUT: true; the input reads as it did. -/
def precTextSpec : ChangeSpec := { name := "precText", fn := fun _ => fun
  | [d1, d2, d3, d4] => { results := [.lit (.bool true)], args := [d1, d2, d3, d4] }
  | _ => none }
def precTextRow : OpenClaim := { program := "ygcoab", sum := "61704eef23a83ecaba211a537b5b6f2e6d4fef1eb015edddcd8f65844f6b75e3", func := "softfloat/law.PrecText", spec := "precText", apart := false }
def PrecTextSaid : Prop := precTextRow.holds Oabg.pinned (OpenSpec.ofChange precTextSpec)

/-- ITS FALSE NEIGHBOUR: 'it returns false'. Refute it at one input. -/
def precTextWrong : ChangeSpec := { name := "precText", fn := fun _ => fun
  | [d1, d2, d3, d4] => { results := [.lit (.bool false)], args := [d1, d2, d3, d4] }
  | _ => none }
def PrecTextWrongFalsely : Prop := precTextRow.holds Oabg.pinned (OpenSpec.ofChange precTextWrong)

/-- 'law.TotalRight': WHATEVER THE INPUT: true; the input reads as it did. -/
def totalRightSpec : ChangeSpec := { name := "totalRight", fn := fun _ => fun
  | [d1, d2, d3] => { results := [.lit (.bool true)], args := [d1, d2, d3] }
  | _ => none }
def totalRightRow : OpenClaim := { program := "ygcoab", sum := "61704eef23a83ecaba211a537b5b6f2e6d4fef1eb015edddcd8f65844f6b75e3", func := "softfloat/law.TotalRight", spec := "totalRight", apart := false }
def TotalRightSaid : Prop := totalRightRow.holds Oabg.pinned (OpenSpec.ofChange totalRightSpec)

/-- ITS FALSE NEIGHBOUR: 'it returns false'. Refute it at one input. -/
def totalRightWrong : ChangeSpec := { name := "totalRight", fn := fun _ => fun
  | [d1, d2, d3] => { results := [.lit (.bool false)], args := [d1, d2, d3] }
  | _ => none }
def TotalRightWrongFalsely : Prop := totalRightRow.holds Oabg.pinned (OpenSpec.ofChange totalRightWrong)

/-- 'law.SecondRight': WHATEVER THE INPUT: true; the input reads as it did. -/
def secondRightSpec : ChangeSpec := { name := "secondRight", fn := fun _ => fun
  | [d1, d2, d3, d4, d5, d6] => { results := [.lit (.bool true)], args := [d1, d2, d3, d4, d5, d6] }
  | _ => none }
def secondRightRow : OpenClaim := { program := "ygcoab", sum := "61704eef23a83ecaba211a537b5b6f2e6d4fef1eb015edddcd8f65844f6b75e3", func := "softfloat/law.SecondRight", spec := "secondRight", inPlace := ["math.Float64bits", "math.Float32bits"], apart := false }
def SecondRightSaid : Prop := secondRightRow.holds Oabg.pinned (OpenSpec.ofChange secondRightSpec)

/-- ITS FALSE NEIGHBOUR: 'it returns false'. Refute it at one input. -/
def secondRightWrong : ChangeSpec := { name := "secondRight", fn := fun _ => fun
  | [d1, d2, d3, d4, d5, d6] => { results := [.lit (.bool false)], args := [d1, d2, d3, d4, d5, d6] }
  | _ => none }
def SecondRightWrongFalsely : Prop := secondRightRow.holds Oabg.pinned (OpenSpec.ofChange secondRightWrong)

/-- 'law.ExactBin': WHATEVER THE INPUT: true; the input reads as it did. -/
def exactBinSpec : ChangeSpec := { name := "exactBin", fn := fun _ => fun
  | [d1, d2, d3, d4, d5] => { results := [.lit (.bool true)], args := [d1, d2, d3, d4, d5] }
  | _ => none }
def exactBinRow : OpenClaim := { program := "ygcoab", sum := "61704eef23a83ecaba211a537b5b6f2e6d4fef1eb015edddcd8f65844f6b75e3", func := "softfloat/law.ExactBin", spec := "exactBin", apart := false }
def ExactBinSaid : Prop := exactBinRow.holds Oabg.pinned (OpenSpec.ofChange exactBinSpec)

/-- ITS FALSE NEIGHBOUR: 'it returns false'. Refute it at one input. -/
def exactBinWrong : ChangeSpec := { name := "exactBin", fn := fun _ => fun
  | [d1, d2, d3, d4, d5] => { results := [.lit (.bool false)], args := [d1, d2, d3, d4, d5] }
  | _ => none }
def ExactBinWrongFalsely : Prop := exactBinRow.holds Oabg.pinned (OpenSpec.ofChange exactBinWrong)

/-- 'law.ExactSpecial': WHATEVER THE INPUT: true; the input reads as it did. -/
def exactSpecialSpec : ChangeSpec := { name := "exactSpecial", fn := fun _ => fun
  | [d1, d2, d3, d4, d5] => { results := [.lit (.bool true)], args := [d1, d2, d3, d4, d5] }
  | _ => none }
def exactSpecialRow : OpenClaim := { program := "ygcoab", sum := "61704eef23a83ecaba211a537b5b6f2e6d4fef1eb015edddcd8f65844f6b75e3", func := "softfloat/law.ExactSpecial", spec := "exactSpecial", apart := false }
def ExactSpecialSaid : Prop := exactSpecialRow.holds Oabg.pinned (OpenSpec.ofChange exactSpecialSpec)

/-- ITS FALSE NEIGHBOUR: 'it returns false'. Refute it at one input. -/
def exactSpecialWrong : ChangeSpec := { name := "exactSpecial", fn := fun _ => fun
  | [d1, d2, d3, d4, d5] => { results := [.lit (.bool false)], args := [d1, d2, d3, d4, d5] }
  | _ => none }
def ExactSpecialWrongFalsely : Prop := exactSpecialRow.holds Oabg.pinned (OpenSpec.ofChange exactSpecialWrong)

/-- 'law.ExactSqrt': WHATEVER THE INPUT: true; the input reads as it did. -/
def exactSqrtSpec : ChangeSpec := { name := "exactSqrt", fn := fun _ => fun
  | [d1, d2, d3, d4] => { results := [.lit (.bool true)], args := [d1, d2, d3, d4] }
  | _ => none }
def exactSqrtRow : OpenClaim := { program := "ygcoab", sum := "61704eef23a83ecaba211a537b5b6f2e6d4fef1eb015edddcd8f65844f6b75e3", func := "softfloat/law.ExactSqrt", spec := "exactSqrt", apart := false }
def ExactSqrtSaid : Prop := exactSqrtRow.holds Oabg.pinned (OpenSpec.ofChange exactSqrtSpec)

/-- ITS FALSE NEIGHBOUR: 'it returns false'. Refute it at one input. -/
def exactSqrtWrong : ChangeSpec := { name := "exactSqrt", fn := fun _ => fun
  | [d1, d2, d3, d4] => { results := [.lit (.bool false)], args := [d1, d2, d3, d4] }
  | _ => none }
def ExactSqrtWrongFalsely : Prop := exactSqrtRow.holds Oabg.pinned (OpenSpec.ofChange exactSqrtWrong)

end Rows
end Go.Proofs.Ygcoab
