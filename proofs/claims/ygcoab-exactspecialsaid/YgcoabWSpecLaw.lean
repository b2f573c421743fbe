import Derived.Test.YgcoabWSpec0a
import Derived.Test.YgcoabWSpec0b
import Derived.Test.YgcoabWSpec1a
import Derived.Test.YgcoabWSpec1b
import Derived.Test.YgcoabWSpec2a
import Derived.Test.YgcoabWSpec2b
import Derived.Test.YgcoabWSpec3a
import Derived.Test.YgcoabWSpec3b
namespace Go.Proofs.Ygcoab
open Go.RowKit

theorem exactSpecial_no {E M : Nat} (h : ¬ FOk E M) (mode op a b : Int) (w : World) :
    Calls Oabg.prog 13 #[fmtV E M, .int .u8 mode, .int .u8 op, .int .u64 a, .int .u64 b] w fun e w' => e = .returned (.bool true) ∧ Below w.heap.size w w' := by
  have HN : Hid (∀ w : World, Calls Oabg.prog 23 #[.agg #[.int .u8 E, .int .u8 M]] w fun e w' => e = .returned (.bool false) ∧ Below w.heap.size w w') := fun w => ok_no h w
  clear h
  unfold fmtV
  go_enter Oabg.func13, Oabg.ntmps13
  go_wp2_with (go_at_call 23; refine (HN.out _).mono ?_; rintro e w' ⟨rfl, hb⟩; obtain ⟨hF, hB⟩ := (fmt_start w E M).1.below (fmt_start w E M).2 hb; clear hb)
  go_ret
  exact ⟨rfl, hB⟩

theorem exactSpecial_any (E M : Nat) (mode op : Int) (a b : Nat) (ho : 0 ≤ op ∧ op ≤ 255) (ha : a < 18446744073709551616) (hb : b < 18446744073709551616) (w : World) :
    Calls Oabg.prog 13 #[fmtV E M, .int .u8 mode, .int .u8 op, .int .u64 a, .int .u64 b] w fun e w' => e = .returned (.bool true) ∧ Below w.heap.size w w' := by
  by_cases h : FOk E M
  · obtain ⟨o, rfl⟩ : ∃ o : Nat, op = o := ⟨op.toNat, by omega⟩
    have hop : bits .and .u8 (o : Int) 3 = ((o % 4 : Nat) : Int) := by
      have := u8_and_nat o 3 (by omega) (by omega)
      rw [nat_mask2] at this
      exact this
    have h4 : o % 4 = 0 ∨ o % 4 = 1 ∨ o % 4 = 2 ∨ o % 4 = 3 := by omega
    rcases h4 with h4 | h4 | h4 | h4
    · by_cases hk : clsF E M a ≤ 2
      · exact exactSpecial_0a h mode o a b ha hb (by rw [hop, h4]; rfl) hk w
      · exact exactSpecial_0b h mode o a b ha hb (by rw [hop, h4]; rfl) (by omega) w
    · by_cases hk : clsF E M a ≤ 2
      · exact exactSpecial_1a h mode o a b ha hb (by rw [hop, h4]; rfl) hk w
      · exact exactSpecial_1b h mode o a b ha hb (by rw [hop, h4]; rfl) (by omega) w
    · by_cases hk : clsF E M a ≤ 2
      · exact exactSpecial_2a h mode o a b ha hb (by rw [hop, h4]; rfl) hk w
      · exact exactSpecial_2b h mode o a b ha hb (by rw [hop, h4]; rfl) (by omega) w
    · by_cases hk : clsF E M a ≤ 2
      · exact exactSpecial_3a h mode o a b ha hb (by rw [hop, h4]; rfl) hk w
      · exact exactSpecial_3b h mode o a b ha hb (by rw [hop, h4]; rfl) (by omega) w
  · exact exactSpecial_no h mode op a b w

end Go.Proofs.Ygcoab
