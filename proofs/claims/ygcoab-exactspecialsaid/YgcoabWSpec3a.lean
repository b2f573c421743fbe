import Derived.Test.YgcoabWSpecial
namespace Go.Proofs.Ygcoab
open Go.RowKit

set_option maxHeartbeats 16000000 in
set_option maxRecDepth 100000 in
theorem exactSpecial_3a {E M : Nat} (h : FOk E M) (mode op : Int) (a b : Nat) (ha : a < 18446744073709551616) (hb : b < 18446744073709551616) (hop : bits .and .u8 op 3 = 3) (hk : clsF E M a ≤ 2) (w : World) :
    Calls Oabg.prog 13 #[fmtV E M, .int .u8 mode, .int .u8 op, .int .u64 a, .int .u64 b] w fun e w' => e = .returned (.bool true) ∧ Below w.heap.size w w' := by
  have h' := h
  have hr1 := clsF_range E M a
  have hr2 := clsF_range E M b
  have HB : Hid ((clsF E M a = 3 ∨ clsF E M a = 4 ∨ clsF E M b = 3 ∨ clsF E M b = 4 ∨ clsF E M b = 0) → ∀ w : World, Calls Oabg.prog 42 #[.agg #[.int .u8 E, .int .u8 M], .int .u8 mode, .int .u8 3, .int .u64 a, .int .u64 b] w fun e w' => e = .returned (.int .u64 (divS E M (clsF E M a) (negF E M a) (clsF E M b) (negF E M b) : Nat)) ∧ Below w.heap.size w w') := by
    intro sp w
    exact bin_div (div_ans (divFlags_to h mode a b ha hb sp)) w
  have HC1 : Hid (∀ w : World, Calls Oabg.prog 31 #[.agg #[.int .u8 E, .int .u8 M], .int .u64 a] w fun e w' => e = .returned (.int .i8 (clsF E M a)) ∧ Below w.heap.size w w') := fun w => classOf_yes h a ha w
  have HC2 : Hid (∀ w : World, Calls Oabg.prog 31 #[.agg #[.int .u8 E, .int .u8 M], .int .u64 b] w fun e w' => e = .returned (.int .i8 (clsF E M b)) ∧ Below w.heap.size w w') := fun w => classOf_yes h b hb w
  have HN1 : Hid (∀ w : World, Calls Oabg.prog 48 #[.agg #[.int .u8 E, .int .u8 M], .int .u64 a] w fun e w' => e = .returned (.bool (negF E M a)) ∧ Below w.heap.size w w') := fun w => isNeg_yes h a ha w
  have HN2 : Hid (∀ w : World, Calls Oabg.prog 48 #[.agg #[.int .u8 E, .int .u8 M], .int .u64 b] w fun e w' => e = .returned (.bool (negF E M b)) ∧ Below w.heap.size w w') := fun w => isNeg_yes h b hb w
  generalize clsF E M a = k1 at *
  generalize clsF E M b = k2 at *
  generalize negF E M a = N1 at *
  generalize negF E M b = N2 at *
  unfold fmtV
  go_enter Oabg.func13, Oabg.ntmps13
  go_upto_region 4 with (go_at_call 23; refine (ok_yes h' _).mono ?_; rintro e w' ⟨rfl, hb⟩; obtain ⟨hF, hB⟩ := (fmt_start w E M).1.below (fmt_start w E M).2 hb; obtain ⟨c0, c1⟩ := hF.all; clear hb)
  have hsz := hF.size
  go_cut [11, 12] (fun s11 s12 wx => s11 = .int .i8 k1 ∧ s12 = .int .i8 k2 ∧ FB w E M wx)
  case first =>
    go_region_held3 (fun w' => w'.cell? ⟨w.heap.size, 0, none⟩ = some (.int .u8 E) ∧ w'.cell? ⟨w.heap.size, 1, none⟩ = some (.int .u8 M) ∧ Below w.heap.size w w' ∧ w.heap.size < w'.heap.size)
      (first
        | exact ⟨c0, c1, hB.drew, hsz⟩
        | (refine keepF hb1 ?_; assumption))
      (first
        | (go_at_call_of 31 (Value.int IntKind.u64 (a : Int)); refine (HC1.out _).mono ?_; rintro e w1 ⟨rfl, hb1⟩)
        | (go_at_call_of 31 (Value.int IntKind.u64 (b : Int)); refine (HC2.out _).mono ?_; rintro e w1 ⟨rfl, hb1⟩))
    rename_i hH
    go_wp2
    go_meet
    exact ⟨rfl, rfl, ⟨hH.1, hH.2.1, hH.2.2.2⟩, hH.2.2.1⟩
  case rest =>
  obtain ⟨rfl, rfl, hF1, hB1⟩ := hcut
  obtain ⟨d0, d1⟩ := hF1.all
  have hsz1 := hF1.size
  clear hF hB c0 c1 hsz HC1 HC2
  go_upto_region 5 with (fail)
  go_cut [13, 14] (fun s13 s14 wx => s13 = .bool N1 ∧ s14 = .bool N2 ∧ FB w E M wx)
  case first =>
    go_region_held3 (fun w' => w'.cell? ⟨w.heap.size, 0, none⟩ = some (.int .u8 E) ∧ w'.cell? ⟨w.heap.size, 1, none⟩ = some (.int .u8 M) ∧ Below w.heap.size w w' ∧ w.heap.size < w'.heap.size)
      (first
        | exact ⟨d0, d1, hB1.drew, hsz1⟩
        | (refine keepF hb1 ?_; assumption))
      (first
        | (go_at_call_of 48 (Value.int IntKind.u64 (a : Int)); refine (HN1.out _).mono ?_; rintro e w1 ⟨rfl, hb1⟩)
        | (go_at_call_of 48 (Value.int IntKind.u64 (b : Int)); refine (HN2.out _).mono ?_; rintro e w1 ⟨rfl, hb1⟩))
    rename_i hH
    go_wp2
    go_meet
    exact ⟨rfl, rfl, ⟨hH.1, hH.2.1, hH.2.2.2⟩, hH.2.2.1⟩
  case rest =>
  obtain ⟨rfl, rfl, hF, hB⟩ := hcut
  obtain ⟨c0, c1⟩ := hF.all
  clear hF1 hB1 d0 d1 hsz1 HN1 HN2 hop ha hb
  have q1 : k1 = 0 ∨ k1 = 1 ∨ k1 = 2 := by omega
  have q2 : k2 = 0 ∨ k2 = 1 ∨ k2 = 2 ∨ k2 = 3 ∨ k2 = 4 := by omega
  clear hr1 hr2 hk
  rcases q1 with rfl | rfl | rfl <;> rcases q2 with rfl | rfl | rfl | rfl | rfl <;> cases N1 <;> cases N2
  all_goals
    go_wp2_with (first
      | (go_at_call 42; refine (HB.out (by decide) _).mono ?_; rintro e wa ⟨rfl, hbb⟩; obtain ⟨hF, hB⟩ := hF.below hB hbb; obtain ⟨c0, c1⟩ := hF.all; clear hbb)
      | (go_at_call 49; refine (nanOf_yes h' _).mono ?_; rintro e wa ⟨rfl, hbb⟩; obtain ⟨hF, hB⟩ := hF.below hB hbb; obtain ⟨c0, c1⟩ := hF.all; clear hbb)
      | (go_at_call 50; refine (infOf_yes h' _ _).mono ?_; rintro e wa ⟨rfl, hbb⟩; obtain ⟨hF, hB⟩ := hF.below hB hbb; obtain ⟨c0, c1⟩ := hF.all; clear hbb)
      | (go_at_call 46; refine (signedZero_yes h' _ _).mono ?_; rintro e wa ⟨rfl, hbb⟩; obtain ⟨hF, hB⟩ := hF.below hB hbb; obtain ⟨c0, c1⟩ := hF.all; clear hbb))
    go_ret
    exact ⟨by first | rfl | (simp [divS]; done), hB⟩

end Go.Proofs.Ygcoab
