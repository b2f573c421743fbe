import Derived.Test.YgcoabWSqrtM
namespace Go.Proofs.Ygcoab
open Go.RowKit

theorem exactSqrt_any (E M : Nat) (mode : Int) (a y : Nat) (hm : 0 ≤ mode ∧ mode ≤ 255) (ha : a < 18446744073709551616) (hy : y < 18446744073709551616) (w : World) :
    Calls Oabg.prog 14 #[fmtV E M, .int .u8 mode, .int .u64 a, .int .u64 y] w fun e w' => e = .returned (.bool true) ∧ Below w.heap.size w w' := by
  by_cases h : FOk E M
  · obtain ⟨m, rfl⟩ : ∃ m : Nat, mode = m := ⟨mode.toNat, by omega⟩
    by_cases hz : clsF E M a = 0
    · exact exactSqrt_zero h m a y ha hz w
    · by_cases h4 : clsF E M a = 4
      · exact exactSqrt_nan h m a y ha h4 w
      · by_cases hn : negF E M a = true
        · exact exactSqrt_neg h m a y ha hz h4 hn w
        · have hn' : negF E M a = false := by simpa using hn
          by_cases h3 : clsF E M a = 3
          · exact exactSqrt_inf h m a y ha h3 hn' w
          · have hf : expF E M a ≠ topE E := fun hq => by
              rcases cls_special hq with k | k
              · exact h3 k
              · exact h4 k
            exact exactSqrt_fin h m a y ha hy hf hz hn' w
  · exact exactSqrt_no h mode a y w

end Go.Proofs.Ygcoab
