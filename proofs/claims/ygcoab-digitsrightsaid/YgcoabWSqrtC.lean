import Derived.Test.YgcoabPlainSqrt3
import Derived.Test.YgcoabWSqrtB
import Derived.Test.YgcoabWBinHead
namespace Go.Proofs.Ygcoab
open Go.RowKit

theorem sqrt_ans {E M : Nat} {mode a : Nat} {P : Nat → Prop} (H : ∀ w : World, Calls Oabg.prog 92 #[.agg #[.int .u8 E, .int .u8 M], .int .u8 mode, .int .u64 a] w fun e w' => ∃ g, P g ∧ RfPost w g e w') (w : World) :
    Calls Oabg.prog 51 #[.agg #[.int .u8 E, .int .u8 M], .int .u8 mode, .int .u64 a] w fun e w' => ∃ g : Nat, P g ∧ e = .returned (.int .u64 g) ∧ Below w.heap.size w w' := by
  have HH : Hid (∀ w : World, Calls Oabg.prog 92 #[.agg #[.int .u8 E, .int .u8 M], .int .u8 mode, .int .u64 a] w fun e w' => ∃ g, P g ∧ RfPost w g e w') := H
  clear H
  go_enter Oabg.func51, Oabg.ntmps51
  go_wp2_with fail
  go_at_call 92
  refine (HH.out _).mono ?_
  rintro e w1 ⟨g, hg, z, rfl, hb⟩
  have hB := ((fmt_start w E M).1.below (fmt_start w E M).2 hb).2
  have HG : Hid (P g) := hg
  clear hb hg
  go_wp2
  go_ret
  exact ⟨g, HG.out, rfl, hB⟩

theorem cutTo_yes {E M : Nat} (h : FOk E M) (x : Nat) (w : World) :
    Calls Oabg.prog 52 #[fmtV E M, .int .u64 x] w fun e w' => e = .returned (.int .u64 (x % 2 ^ (E + M + 1) : Nat)) ∧ Below w.heap.size w w' := by
  obtain ⟨h1, h2, h3, h4⟩ := h
  have hfin : IntKind.u64.wrap ((x : Int) * 2 ^ (64 - (1 + E + M))) / 2 ^ (64 - (1 + E + M)) = ((x % 2 ^ (E + M + 1) : Nat) : Int) := by
    obtain ⟨k, hk⟩ : ∃ k : Nat, k = 64 - (1 + E + M) := ⟨_, rfl⟩
    rw [← hk]
    have hv : x * 2 ^ k % 18446744073709551616 / 2 ^ k = x % 2 ^ (E + M + 1) := by
      have e64 : (18446744073709551616 : Nat) = 2 ^ k * 2 ^ (E + M + 1) := by
        rw [← Nat.pow_add, show k + (E + M + 1) = 64 by omega]
      rw [e64, Nat.mul_comm x, Nat.mul_mod_mul_left, Nat.mul_div_cancel_left _ (two_pow_pos' k)]
    rw [← hv, icast, ← Int.natCast_mul, wrap64]
    generalize x * 2 ^ k = q
    generalize 2 ^ k = p
    rw [Int.natCast_ediv, Int.natCast_emod]
    rfl
  unfold fmtV
  go_enter Oabg.func52, Oabg.ntmps52
  go_wp2
  go_ret
  exact ⟨congrArg (fun z => Ending.returned (Value.int IntKind.u64 z)) hfin, below_alloc _ _⟩

theorem one_any (w : World) : Calls Oabg.prog 71 #[] w fun e w' => ∃ v, e = .returned v ∧ IsN w' v 1 ∧ Below w.heap.size w w' := by
  go_enter Oabg.func71, Oabg.ntmps71
  go_wp2_with fail
  go_at_call 69
  refine (fromU64_any 1 (by omega) _).mono ?_
  rintro e w1 ⟨v, rfl, hv, hb⟩
  go_wp2
  go_ret
  exact ⟨v, rfl, hv, hb⟩

theorem pow2Frac_two (w : World) : Calls Oabg.prog 54 #[.int .i64 2] w fun e w' => ∃ r, e = .returned r ∧ RatAt w' r false 4 1 ∧ Below w.heap.size w w' := by
  have hu16 : IntKind.u16.wrap 2 = 2 := by decide
  go_enter Oabg.func54, Oabg.ntmps54
  have hR := RVar.start w
  have hB := (Below.refl w.heap.size w).alloc (Nat.le_refl _) (.cells #[.bool false, .slice none 0 0, .slice none 0 0] 50)
  obtain ⟨W, hW⟩ : ∃ W, W = w.alloc (.cells #[.bool false, .slice none 0 0, .slice none 0 0] 50) := ⟨_, rfl⟩
  rw [← hW] at hR hB
  go_wp2_with fail
  go_at_call 71
  rw [show w.alloc (.cells #[.bool false, .slice none 0 0, .slice none 0 0] 50) = W from hW.symm]
  clear hW
  refine (one_any _).mono ?_
  rintro e w1 ⟨v, rfl, hv, hb⟩
  obtain ⟨a1, n1, c1, rfl⟩ := hv.shape
  have hR1 := hR.step hb
  have hB1 := below_step hB (Nat.le_of_lt hR.size) hb
  have HV : Hid (IsN w1 (.slice a1 n1 c1) 1) := hv
  clear hR hB hb hv
  go_wp2_with fail
  go_at_call 93
  refine (shl_any (k := 2) HV.out (FitsN.of (a := 1) (by decide) (by omega)) (by omega)).mono ?_
  rintro e w2 ⟨v, rfl, hv, hb⟩
  obtain ⟨a2, n2, c2, rfl⟩ := hv.shape
  have hR2 := hR1.step hb
  have hB2 := below_step hB1 (Nat.le_of_lt hR1.size) hb
  have HV2 : Hid (IsN w2 (.slice a2 n2 c2) 4) := hv
  clear hR1 hB1 hb hv HV
  go_wp2_with fail
  go_at_call 71
  refine (one_any _).mono ?_
  rintro e w3 ⟨v, rfl, hv, hb⟩
  obtain ⟨a3, n3, c3, rfl⟩ := hv.shape
  obtain ⟨r0, r1, r2, rf, rs, HR⟩ := (hR2.step hb).all
  have HB : Hid (Below w.heap.size w w3) := below_step hB2 (Nat.le_of_lt hR2.size) hb
  have HV3 : Hid (IsN w3 (.slice a3 n3 c3) 1) := hv
  have HV4 : Hid (IsN w3 (.slice a2 n2 c2) 4) := HV2.out.step hb
  clear hR2 hB2 hb hv HV2
  go_wp2
  exact bodyPost_ret (v := .agg #[.bool false, .slice a2 n2 c2, .slice a3 n3 c3]) (by simp [results, Oabg.results54, go_sem, r0, r1, r2]) rfl ⟨_, rfl, ⟨_, _, _, _, _, _, rfl, HV4.out.setR HR.out, HV3.out.setR HR.out⟩, below_set3 HB.out (Nat.le_refl _)⟩

theorem mulFrac_pos {w : World} {p q : Value} {A1 D1 A2 D2 : Nat} (hp : RatAt w p false A1 D1) (hq : RatAt w q false A2 D2) (hf : Fit4 A1 D1 A2 D2) :
    Calls Oabg.prog 29 #[p, q] w fun e w' => ∃ r, e = .returned r ∧ RatAt w' r false (A1 * A2) (D1 * D2) ∧ Below w.heap.size w w' := mulFrac_any hp hq hf

theorem sumFrac_pos {w : World} {p q : Value} {A1 D1 A2 D2 : Nat} (hp : RatAt w p false A1 D1) (hq : RatAt w q false A2 D2) (hf : Fit4 A1 D1 A2 D2) :
    Calls Oabg.prog 44 #[p, q] w fun e w' => ∃ r, e = .returned r ∧ RatAt w' r false (A1 * D2 + A2 * D1) (D1 * D2) ∧ Below w.heap.size w w' := sumFrac_any hp hq hf

end Go.Proofs.Ygcoab
