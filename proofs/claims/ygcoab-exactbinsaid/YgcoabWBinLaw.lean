import Derived.Test.YgcoabWBin0
import Derived.Test.YgcoabWBin1
import Derived.Test.YgcoabWBin2
import Derived.Test.YgcoabWBin3
namespace Go.Proofs.Ygcoab
open Go.RowKit

set_option maxRecDepth 100000 in
theorem exactBin_no {E M : Nat} (h : ¬ FOk E M) (mode op a b : Int) (w : World) :
    Calls Oabg.prog 12 #[fmtV E M, .int .u8 mode, .int .u8 op, .int .u64 a, .int .u64 b] w fun e w' => e = .returned (.bool true) ∧ Below w.heap.size w w' := by
  have HN : Hid (∀ w : World, Calls Oabg.prog 23 #[.agg #[.int .u8 E, .int .u8 M]] w fun e w' => e = .returned (.bool false) ∧ Below w.heap.size w w') := fun w => ok_no h w
  clear h
  unfold fmtV
  go_enter Oabg.func12, Oabg.ntmps12
  go_wp2_with (go_at_call 23; refine (HN.out _).mono ?_; rintro e w' ⟨rfl, hb⟩; obtain ⟨hF, hB⟩ := (fmt_start w E M).1.below (fmt_start w E M).2 hb; clear hb)
  go_ret
  exact ⟨rfl, hB⟩

set_option maxRecDepth 100000 in
theorem exactBin_a {E M : Nat} (h : FOk E M) (mode op : Int) (a b : Nat) (ha : a < 18446744073709551616) (fa : expF E M a = topE E) (w : World) :
    Calls Oabg.prog 12 #[fmtV E M, .int .u8 mode, .int .u8 op, .int .u64 a, .int .u64 b] w fun e w' => e = .returned (.bool true) ∧ Below w.heap.size w w' := by
  have h' := h
  have HI1 : Hid (∀ w : World, Calls Oabg.prog 26 #[.agg #[.int .u8 E, .int .u8 M], .int .u64 a] w fun e w' => e = .returned (.bool false) ∧ Below w.heap.size w w') := fun w => isFinite_yes h a ha false (by simp [fa]) w
  clear fa
  unfold fmtV
  go_enter Oabg.func12, Oabg.ntmps12
  go_wp2_with fail
  go_at_call 23
  refine (ok_yes h' _).mono ?_
  rintro ee w1 ⟨rfl, hb1⟩
  obtain ⟨hF1, hB1⟩ := (fmt_start w E M).1.below (fmt_start w E M).2 hb1
  obtain ⟨c0, c1⟩ := hF1.all
  clear hb1
  go_wp2_with fail
  go_at_call 26
  refine (HI1.out _).mono ?_
  rintro ee w2 ⟨rfl, hb1⟩
  obtain ⟨hF2, hB2⟩ := hF1.below hB1 hb1
  clear c0 c1 hb1 hF1 hB1
  go_wp2
  go_ret
  exact ⟨rfl, hB2⟩

set_option maxRecDepth 100000 in
theorem exactBin_b {E M : Nat} (h : FOk E M) (mode op : Int) (a b : Nat) (ha : a < 18446744073709551616) (hb : b < 18446744073709551616) (fa : expF E M a ≠ topE E) (fb : expF E M b = topE E) (w : World) :
    Calls Oabg.prog 12 #[fmtV E M, .int .u8 mode, .int .u8 op, .int .u64 a, .int .u64 b] w fun e w' => e = .returned (.bool true) ∧ Below w.heap.size w w' := by
  have h' := h
  have HI1 : Hid (∀ w : World, Calls Oabg.prog 26 #[.agg #[.int .u8 E, .int .u8 M], .int .u64 a] w fun e w' => e = .returned (.bool true) ∧ Below w.heap.size w w') := fun w => isFinite_yes h a ha true (by simp [fa]) w
  have HI2 : Hid (∀ w : World, Calls Oabg.prog 26 #[.agg #[.int .u8 E, .int .u8 M], .int .u64 b] w fun e w' => e = .returned (.bool false) ∧ Below w.heap.size w w') := fun w => isFinite_yes h b hb false (by simp [fb]) w
  clear fa fb
  unfold fmtV
  go_enter Oabg.func12, Oabg.ntmps12
  go_wp2_with fail
  go_at_call 23
  refine (ok_yes h' _).mono ?_
  rintro ee w1 ⟨rfl, hb1⟩
  obtain ⟨hF1, hB1⟩ := (fmt_start w E M).1.below (fmt_start w E M).2 hb1
  obtain ⟨c0, c1⟩ := hF1.all
  clear hb1
  go_wp2_with fail
  go_at_call 26
  refine (HI1.out _).mono ?_
  rintro ee w2 ⟨rfl, hb1⟩
  obtain ⟨hF2, hB2⟩ := hF1.below hB1 hb1
  clear c0 c1 hb1 hF1 hB1
  obtain ⟨c0, c1⟩ := hF2.all
  go_wp2_with fail
  go_at_call 26
  refine (HI2.out _).mono ?_
  rintro ee w3 ⟨rfl, hb1⟩
  obtain ⟨hF1, hB1⟩ := hF2.below hB2 hb1
  clear c0 c1 hb1 hF2 hB2
  go_wp2
  go_ret
  exact ⟨rfl, hB1⟩

set_option maxRecDepth 100000 in
theorem exactBin_z {E M : Nat} (h : FOk E M) (mode op : Int) (a b : Nat) (ha : a < 18446744073709551616) (hb : b < 18446744073709551616) (hop : bits .and .u8 op 3 = 3) (fa : expF E M a ≠ topE E) (fb : expF E M b ≠ topE E) (hz : clsF E M b = 0) (w : World) :
    Calls Oabg.prog 12 #[fmtV E M, .int .u8 mode, .int .u8 op, .int .u64 a, .int .u64 b] w fun e w' => e = .returned (.bool true) ∧ Below w.heap.size w w' := by
  have h' := h
  have HI1 : Hid (∀ w : World, Calls Oabg.prog 26 #[.agg #[.int .u8 E, .int .u8 M], .int .u64 a] w fun e w' => e = .returned (.bool true) ∧ Below w.heap.size w w') := fun w => isFinite_yes h a ha true (by simp [fa]) w
  have HI2 : Hid (∀ w : World, Calls Oabg.prog 26 #[.agg #[.int .u8 E, .int .u8 M], .int .u64 b] w fun e w' => e = .returned (.bool true) ∧ Below w.heap.size w w') := fun w => isFinite_yes h b hb true (by simp [fb]) w
  have HC2 : Hid (∀ w : World, Calls Oabg.prog 31 #[.agg #[.int .u8 E, .int .u8 M], .int .u64 b] w fun e w' => e = .returned (.int .i8 0) ∧ Below w.heap.size w w') := fun w => by rw [← hz]; exact classOf_yes h b hb w
  clear fa fb hz
  unfold fmtV
  go_enter Oabg.func12, Oabg.ntmps12
  go_wp2_with fail
  go_at_call 23
  refine (ok_yes h' _).mono ?_
  rintro ee w1 ⟨rfl, hb1⟩
  obtain ⟨hF1, hB1⟩ := (fmt_start w E M).1.below (fmt_start w E M).2 hb1
  obtain ⟨c0, c1⟩ := hF1.all
  clear hb1
  go_wp2_with fail
  go_at_call 26
  refine (HI1.out _).mono ?_
  rintro ee w2 ⟨rfl, hb1⟩
  obtain ⟨hF2, hB2⟩ := hF1.below hB1 hb1
  clear c0 c1 hb1 hF1 hB1
  obtain ⟨c0, c1⟩ := hF2.all
  go_wp2_with fail
  go_at_call 26
  refine (HI2.out _).mono ?_
  rintro ee w3 ⟨rfl, hb1⟩
  obtain ⟨hF1, hB1⟩ := hF2.below hB2 hb1
  clear c0 c1 hb1 hF2 hB2
  obtain ⟨c0, c1⟩ := hF1.all
  go_wp2_with fail
  go_at_call 31
  refine (HC2.out _).mono ?_
  rintro ee w4 ⟨rfl, hb1⟩
  obtain ⟨hF2, hB2⟩ := hF1.below hB1 hb1
  clear c0 c1 hb1 hF1 hB1
  go_wp2
  go_ret
  exact ⟨rfl, hB2⟩

theorem exactBin_any (E M : Nat) (mode op : Int) (a b : Nat) (hm : 0 ≤ mode ∧ mode ≤ 255) (ho : 0 ≤ op ∧ op ≤ 255) (ha : a < 18446744073709551616) (hb : b < 18446744073709551616) (w : World) :
    Calls Oabg.prog 12 #[fmtV E M, .int .u8 mode, .int .u8 op, .int .u64 a, .int .u64 b] w fun e w' => e = .returned (.bool true) ∧ Below w.heap.size w w' := by
  by_cases h : FOk E M
  · by_cases fa : expF E M a = topE E
    · exact exactBin_a h mode op a b ha fa w
    · by_cases fb : expF E M b = topE E
      · exact exactBin_b h mode op a b ha hb fa fb w
      · obtain ⟨o, rfl⟩ : ∃ o : Nat, op = o := ⟨op.toNat, by omega⟩
        obtain ⟨m, rfl⟩ : ∃ m : Nat, mode = m := ⟨mode.toNat, by omega⟩
        have hop : bits .and .u8 (o : Int) 3 = ((o % 4 : Nat) : Int) := by
          have := u8_and_nat o 3 (by omega) (by omega)
          rw [nat_mask2] at this
          exact this
        have h4 : o % 4 = 0 ∨ o % 4 = 1 ∨ o % 4 = 2 ∨ o % 4 = 3 := by omega
        rcases h4 with h4 | h4 | h4 | h4
        · exact exactBin_0 h m o a b ha hb (by rw [hop, h4]; rfl) fa fb w
        · exact exactBin_1 h m o a b ha hb (by rw [hop, h4]; rfl) fa fb w
        · exact exactBin_2 h m o a b ha hb (by rw [hop, h4]; rfl) fa fb w
        · by_cases hz : clsF E M b = 0
          · exact exactBin_z h m o a b ha hb (by rw [hop, h4]; rfl) fa fb hz w
          · exact exactBin_3 h m o a b ha hb (by rw [hop, h4]; rfl) fa fb hz w
  · exact exactBin_no h mode op a b w

end Go.Proofs.Ygcoab
