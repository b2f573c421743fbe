import Derived.Test.YgcoabPlainBin
import Derived.Test.YgcoabWAddN
import Derived.Test.YgcoabWMulN
import Derived.Test.YgcoabWDivN
import Derived.Test.YgcoabWWrap
namespace Go.Proofs.Ygcoab
open Go.RowKit

theorem open_fin {E M : Nat} (h : FOk E M) (x : Nat) (hx : x < 18446744073709551616) (hf : expF E M x ≠ topE E) (w : World) :
    Calls Oabg.prog 60 #[fmtV E M, .int .u64 x] w fun e w' => ∃ r, e = .returned r ∧ OpIs w' r (x % 2 ^ (E + M + 1)) (vNeg E M x) (clsF E M x) (vNeg E M x) (vNum E M x) (vDen E M x) ∧ Below w.heap.size w w' := by
  have := open_yes h x hx w
  rw [mod_negF, mod_clsF, mod_vNeg, mod_vNum, mod_vDen, ← vNeg_finite hf] at this
  exact this

theorem cls_not {E M x : Nat} (hf : expF E M x ≠ topE E) : (clsF E M x == 4) = false ∧ (clsF E M x == 3) = false := by
  rcases cls_finite hf with h | h | h <;> rw [h] <;> exact ⟨by decide, by decide⟩

/-- a + b, a - b, a * b, a / b of finite operands -/
def finAdd (E M mode a b : Nat) : Nat := addP E M mode (vNeg E M a) (vNeg E M a) (vNum E M a) (vDen E M a) (vNeg E M b) (vNeg E M b) (vNum E M b) (vDen E M b)
def finSub (E M mode a b : Nat) : Nat := addP E M mode (vNeg E M a) (vNeg E M a) (vNum E M a) (vDen E M a) (!vNeg E M b) (!vNeg E M b) (vNum E M b) (vDen E M b)
def finMul (E M mode a b : Nat) : Nat := roundP E M mode (!(vNeg E M a == vNeg E M b)) (vNum E M a * vNum E M b) (vDen E M a * vDen E M b)
def finDiv (E M mode a b : Nat) : Nat := roundP E M mode (!(vNeg E M a == vNeg E M b)) (vNum E M a * vDen E M b) (vDen E M a * vNum E M b)

theorem ans_add {E M : Nat} (h : FOk E M) (mode a b : Nat) (ha : a < 18446744073709551616) (hb : b < 18446744073709551616) (fa : expF E M a ≠ topE E) (fb : expF E M b ≠ topE E) : AnsTo 86 E M mode a b (finAdd E M mode a b) :=
  add_ans (fun w => addFlags_finite h mode a b (fitR_val h a b) (cls_not fa).1 (cls_not fa).2 (cls_not fb).1 (cls_not fb).2 (open_fin h a ha fa) (open_fin h b hb fb) w)

theorem ans_sub {E M : Nat} (h : FOk E M) (mode a b : Nat) (ha : a < 18446744073709551616) (hb : b < 18446744073709551616) (fa : expF E M a ≠ topE E) (fb : expF E M b ≠ topE E) : AnsTo 87 E M mode a b (finSub E M mode a b) := by
  have hb' : b ^^^ sgnB E M < 18446744073709551616 := Nat.xor_lt_two_pow (n := 64) hb (sgnB_lt h)
  have fb' : expF E M (b ^^^ sgnB E M) ≠ topE E := by rw [xor_expF]; exact fb
  have hF : FlagsTo 123 E M mode a (b ^^^ sgnB E M) (finAdd E M mode a (b ^^^ sgnB E M)) := fun w => addFlags_finite h mode a _ (fitR_val h a _) (cls_not fa).1 (cls_not fa).2 (cls_not fb').1 (cls_not fb').2 (open_fin h a ha fa) (open_fin h _ hb' fb') w
  have he : finAdd E M mode a (b ^^^ sgnB E M) = finSub E M mode a b := by
    unfold finAdd finSub
    rw [xor_vNum, xor_vDen, xor_vNeg fb]
  rw [he] at hF
  exact sub_ans (subFlags_to h hb hF)

theorem ans_mul {E M : Nat} (h : FOk E M) (mode a b : Nat) (ha : a < 18446744073709551616) (hb : b < 18446744073709551616) (fa : expF E M a ≠ topE E) (fb : expF E M b ≠ topE E) : AnsTo 88 E M mode a b (finMul E M mode a b) :=
  mul_ans (fun w => mulFlags_finite h mode a b (fitR_val h a b) (cls_not fa).1 (cls_not fa).2 (cls_not fb).1 (cls_not fb).2 (open_fin h a ha fa) (open_fin h b hb fb) w)

theorem ans_div {E M : Nat} (h : FOk E M) (mode a b : Nat) (ha : a < 18446744073709551616) (hb : b < 18446744073709551616) (fa : expF E M a ≠ topE E) (fb : expF E M b ≠ topE E) (hz : clsF E M b ≠ 0) : AnsTo 89 E M mode a b (finDiv E M mode a b) :=
  div_ans (fun w => divFlags_finite h mode a b (fitR_val h a b) (cls_not fa).1 (cls_not fa).2 (cls_not fb).1 (cls_not fb).2 (by rw [beq_eq_false_iff_ne]; exact hz) (vDen_pos E M a) (vNum_pos fb hz) (open_fin h a ha fa) (open_fin h b hb fb) w)

end Go.Proofs.Ygcoab
