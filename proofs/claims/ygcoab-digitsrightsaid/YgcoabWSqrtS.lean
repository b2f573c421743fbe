import Derived.Test.YgcoabWCmpFrac
namespace Go.Proofs.Ygcoab
open Go.RowKit

set_option maxRecDepth 100000 in
theorem exactSqrt_no {E M : Nat} (h : ¬ FOk E M) (mode a y : Int) (w : World) :
    Calls Oabg.prog 14 #[fmtV E M, .int .u8 mode, .int .u64 a, .int .u64 y] w fun e w' => e = .returned (.bool true) ∧ Below w.heap.size w w' := by
  have HN : Hid (∀ w : World, Calls Oabg.prog 23 #[.agg #[.int .u8 E, .int .u8 M]] w fun e w' => e = .returned (.bool false) ∧ Below w.heap.size w w') := fun w => ok_no h w
  clear h
  unfold fmtV
  go_enter Oabg.func14, Oabg.ntmps14
  go_wp2_with (go_at_call 23; refine (HN.out _).mono ?_; rintro e w' ⟨rfl, hb⟩; obtain ⟨hF, hB⟩ := (fmt_start w E M).1.below (fmt_start w E M).2 hb; clear hb)
  go_ret
  exact ⟨rfl, hB⟩

/-- the format's world -/
theorem fb_step {w W W' : World} {E M : Nat} (h : FAt w.heap.size E M W ∧ Below w.heap.size w W) (hb : Below W.heap.size W W') : FAt w.heap.size E M W' ∧ Below w.heap.size w W' := h.1.below h.2 hb

set_option maxRecDepth 100000 in
theorem exactSqrt_zero {E M : Nat} (h : FOk E M) (mode a : Nat) (y : Int) (ha : a < 18446744073709551616) (hc : clsF E M a = 0) (w : World) :
    Calls Oabg.prog 14 #[fmtV E M, .int .u8 mode, .int .u64 a, .int .u64 y] w fun e w' => e = .returned (.bool true) ∧ Below w.heap.size w w' := by
  have h' := h
  have HS : Hid (∀ w : World, Calls Oabg.prog 51 #[.agg #[.int .u8 E, .int .u8 M], .int .u8 mode, .int .u64 a] w fun e w' => ∃ g : Nat, g = a % 2 ^ (E + M + 1) ∧ e = .returned (.int .u64 g) ∧ Below w.heap.size w w') := fun w => sqrt_ans (P := fun g => g = a % 2 ^ (E + M + 1)) (fun w => (sqrtFlags_zero h mode a ha hc w).mono fun e w' k => ⟨_, rfl, k⟩) w
  have HC : Hid (∀ w : World, Calls Oabg.prog 31 #[.agg #[.int .u8 E, .int .u8 M], .int .u64 a] w fun e w' => e = .returned (.int .i8 0) ∧ Below w.heap.size w w') := fun w => by rw [← hc]; exact classOf_yes h a ha w
  have HT : Hid (∀ w : World, Calls Oabg.prog 52 #[.agg #[.int .u8 E, .int .u8 M], .int .u64 a] w fun e w' => e = .returned (.int .u64 (a % 2 ^ (E + M + 1) : Nat)) ∧ Below w.heap.size w w') := fun w => cutTo_yes h a w
  generalize a % 2 ^ (E + M + 1) = z at *
  clear hc
  unfold fmtV
  go_enter Oabg.func14, Oabg.ntmps14
  have hB0 := fmt_start w E M
  go_wp2_with fail
  go_at_call 23
  refine (ok_yes h' _).mono ?_
  rintro e w1 ⟨rfl, hb⟩
  have hB1 := fb_step hB0 hb
  obtain ⟨c0, c1⟩ := hB1.1.all
  clear hb hB0
  go_wp2_with fail
  go_at_call 51
  refine (HS.out _).mono ?_
  rintro e w2 ⟨g, rfl, rfl, hb⟩
  have hB2 := fb_step hB1 hb
  clear hb hB1 c0 c1
  obtain ⟨c0, c1⟩ := hB2.1.all
  go_wp2_with fail
  go_at_call 31
  refine (HC.out _).mono ?_
  rintro e w3 ⟨rfl, hb⟩
  have hB3 := fb_step hB2 hb
  clear hb hB2 c0 c1
  obtain ⟨c0, c1⟩ := hB3.1.all
  go_wp2_with fail
  go_at_call 52
  refine (HT.out _).mono ?_
  rintro e w4 ⟨rfl, hb⟩
  have hB4 := (fb_step hB3 hb).2
  clear hb hB3 c0 c1
  go_wp2
  go_ret
  exact ⟨by simp, hB4⟩

set_option maxRecDepth 100000 in
theorem exactSqrt_inf {E M : Nat} (h : FOk E M) (mode a : Nat) (y : Int) (ha : a < 18446744073709551616) (hc : clsF E M a = 3) (hn : negF E M a = false) (w : World) :
    Calls Oabg.prog 14 #[fmtV E M, .int .u8 mode, .int .u64 a, .int .u64 y] w fun e w' => e = .returned (.bool true) ∧ Below w.heap.size w w' := by
  have h' := h
  have HS : Hid (∀ w : World, Calls Oabg.prog 51 #[.agg #[.int .u8 E, .int .u8 M], .int .u8 mode, .int .u64 a] w fun e w' => ∃ g : Nat, g = a % 2 ^ (E + M + 1) ∧ e = .returned (.int .u64 g) ∧ Below w.heap.size w w') := fun w => sqrt_ans (P := fun g => g = a % 2 ^ (E + M + 1)) (fun w => (sqrtFlags_inf h mode a ha hc hn w).mono fun e w' k => ⟨_, rfl, k⟩) w
  have HC : Hid (∀ w : World, Calls Oabg.prog 31 #[.agg #[.int .u8 E, .int .u8 M], .int .u64 a] w fun e w' => e = .returned (.int .i8 3) ∧ Below w.heap.size w w') := fun w => by rw [← hc]; exact classOf_yes h a ha w
  have HN : Hid (∀ w : World, Calls Oabg.prog 48 #[.agg #[.int .u8 E, .int .u8 M], .int .u64 a] w fun e w' => e = .returned (.bool false) ∧ Below w.heap.size w w') := fun w => by rw [← hn]; exact isNeg_yes h a ha w
  have HT : Hid (∀ w : World, Calls Oabg.prog 52 #[.agg #[.int .u8 E, .int .u8 M], .int .u64 a] w fun e w' => e = .returned (.int .u64 (a % 2 ^ (E + M + 1) : Nat)) ∧ Below w.heap.size w w') := fun w => cutTo_yes h a w
  generalize a % 2 ^ (E + M + 1) = z at *
  clear hc hn
  unfold fmtV
  go_enter Oabg.func14, Oabg.ntmps14
  have hB0 := fmt_start w E M
  go_wp2_with fail
  go_at_call 23
  refine (ok_yes h' _).mono ?_
  rintro e w1 ⟨rfl, hb⟩
  have hB1 := fb_step hB0 hb
  obtain ⟨c0, c1⟩ := hB1.1.all
  clear hb hB0
  go_wp2_with fail
  go_at_call 51
  refine (HS.out _).mono ?_
  rintro e w2 ⟨g, rfl, rfl, hb⟩
  have hB2 := fb_step hB1 hb
  clear hb hB1 c0 c1
  obtain ⟨c0, c1⟩ := hB2.1.all
  go_wp2_with fail
  go_at_call 31
  refine (HC.out _).mono ?_
  rintro e w3 ⟨rfl, hb⟩
  have hB3 := fb_step hB2 hb
  clear hb hB2 c0 c1
  obtain ⟨c0, c1⟩ := hB3.1.all
  go_wp2_with fail
  go_at_call 48
  refine (HN.out _).mono ?_
  rintro e w4 ⟨rfl, hb⟩
  have hB4 := fb_step hB3 hb
  clear hb hB3 c0 c1
  obtain ⟨c0, c1⟩ := hB4.1.all
  go_wp2_with fail
  go_at_call 52
  refine (HT.out _).mono ?_
  rintro e w5 ⟨rfl, hb⟩
  have hB5 := (fb_step hB4 hb).2
  clear hb hB4 c0 c1
  go_wp2
  go_ret
  exact ⟨by simp, hB5⟩

set_option maxRecDepth 100000 in
theorem exactSqrt_nan {E M : Nat} (h : FOk E M) (mode a : Nat) (y : Int) (ha : a < 18446744073709551616) (hc : clsF E M a = 4) (w : World) :
    Calls Oabg.prog 14 #[fmtV E M, .int .u8 mode, .int .u64 a, .int .u64 y] w fun e w' => e = .returned (.bool true) ∧ Below w.heap.size w w' := by
  have h' := h
  have HS : Hid (∀ w : World, Calls Oabg.prog 51 #[.agg #[.int .u8 E, .int .u8 M], .int .u8 mode, .int .u64 a] w fun e w' => ∃ g : Nat, g = nanP E M ∧ e = .returned (.int .u64 g) ∧ Below w.heap.size w w') := fun w => sqrt_ans (P := fun g => g = nanP E M) (fun w => (sqrtFlags_nan h mode a ha hc w).mono fun e w' k => ⟨_, rfl, k⟩) w
  have HC : Hid (∀ w : World, Calls Oabg.prog 31 #[.agg #[.int .u8 E, .int .u8 M], .int .u64 a] w fun e w' => e = .returned (.int .i8 4) ∧ Below w.heap.size w w') := fun w => by rw [← hc]; exact classOf_yes h a ha w
  have HT : Hid (∀ w : World, Calls Oabg.prog 49 #[.agg #[.int .u8 E, .int .u8 M]] w fun e w' => e = .returned (.int .u64 (nanP E M : Nat)) ∧ Below w.heap.size w w') := fun w => nanOf_yes h w
  generalize nanP E M = z at *
  clear hc
  unfold fmtV
  go_enter Oabg.func14, Oabg.ntmps14
  have hB0 := fmt_start w E M
  go_wp2_with fail
  go_at_call 23
  refine (ok_yes h' _).mono ?_
  rintro e w1 ⟨rfl, hb⟩
  have hB1 := fb_step hB0 hb
  obtain ⟨c0, c1⟩ := hB1.1.all
  clear hb hB0
  go_wp2_with fail
  go_at_call 51
  refine (HS.out _).mono ?_
  rintro e w2 ⟨g, rfl, rfl, hb⟩
  have hB2 := fb_step hB1 hb
  clear hb hB1 c0 c1
  obtain ⟨c0, c1⟩ := hB2.1.all
  go_wp2_with fail
  go_at_call 31
  refine (HC.out _).mono ?_
  rintro e w3 ⟨rfl, hb⟩
  have hB3 := fb_step hB2 hb
  clear hb hB2 c0 c1
  obtain ⟨c0, c1⟩ := hB3.1.all
  go_wp2_with fail
  go_at_call 49
  refine (HT.out _).mono ?_
  rintro e w4 ⟨rfl, hb⟩
  have hB4 := (fb_step hB3 hb).2
  clear hb hB3 c0 c1
  go_wp2
  go_ret
  exact ⟨by simp, hB4⟩

set_option maxRecDepth 100000 in
theorem exactSqrt_neg {E M : Nat} (h : FOk E M) (mode a : Nat) (y : Int) (ha : a < 18446744073709551616) (hc : clsF E M a ≠ 0) (hc4 : clsF E M a ≠ 4) (hn : negF E M a = true) (w : World) :
    Calls Oabg.prog 14 #[fmtV E M, .int .u8 mode, .int .u64 a, .int .u64 y] w fun e w' => e = .returned (.bool true) ∧ Below w.heap.size w w' := by
  have h' := h
  have HS : Hid (∀ w : World, Calls Oabg.prog 51 #[.agg #[.int .u8 E, .int .u8 M], .int .u8 mode, .int .u64 a] w fun e w' => ∃ g : Nat, g = nanP E M ∧ e = .returned (.int .u64 g) ∧ Below w.heap.size w w') := fun w => sqrt_ans (P := fun g => g = nanP E M) (fun w => (sqrtFlags_neg h mode a ha hc hc4 hn w).mono fun e w' k => ⟨_, rfl, k⟩) w
  have HC : Hid (∀ w : World, Calls Oabg.prog 31 #[.agg #[.int .u8 E, .int .u8 M], .int .u64 a] w fun e w' => e = .returned (.int .i8 (clsF E M a)) ∧ Below w.heap.size w w') := fun w => classOf_yes h a ha w
  have HN : Hid (∀ w : World, Calls Oabg.prog 48 #[.agg #[.int .u8 E, .int .u8 M], .int .u64 a] w fun e w' => e = .returned (.bool true) ∧ Below w.heap.size w w') := fun w => by rw [← hn]; exact isNeg_yes h a ha w
  have HT : Hid (∀ w : World, Calls Oabg.prog 49 #[.agg #[.int .u8 E, .int .u8 M]] w fun e w' => e = .returned (.int .u64 (nanP E M : Nat)) ∧ Below w.heap.size w w') := fun w => nanOf_yes h w
  have e0 : (clsF E M a == 0) = false := by rw [beq_eq_false_iff_ne]; exact hc
  have e4 : (clsF E M a == 4) = false := by rw [beq_eq_false_iff_ne]; exact hc4
  obtain ⟨t3, ht3⟩ : ∃ t, t = (clsF E M a == 3) := ⟨_, rfl⟩
  have e3 : (clsF E M a == 3) = t3 := ht3.symm
  generalize nanP E M = z at *
  generalize clsF E M a = c at *
  clear hc hc4 hn ht3
  unfold fmtV
  go_enter Oabg.func14, Oabg.ntmps14
  have hB0 := fmt_start w E M
  go_wp2_with fail
  go_at_call 23
  refine (ok_yes h' _).mono ?_
  rintro e w1 ⟨rfl, hb⟩
  have hB1 := fb_step hB0 hb
  obtain ⟨c0, c1⟩ := hB1.1.all
  clear hb hB0
  go_wp2_with fail
  go_at_call 51
  refine (HS.out _).mono ?_
  rintro e w2 ⟨g, rfl, rfl, hb⟩
  have hB2 := fb_step hB1 hb
  clear hb hB1 c0 c1
  obtain ⟨c0, c1⟩ := hB2.1.all
  go_wp2_with fail
  go_at_call 31
  refine (HC.out _).mono ?_
  rintro e w3 ⟨rfl, hb⟩
  have hB3 := fb_step hB2 hb
  clear hb hB2 c0 c1
  obtain ⟨c0, c1⟩ := hB3.1.all
  cases t3
  · go_wp2_with fail
    go_at_call 48
    refine (HN.out _).mono ?_
    rintro e w4 ⟨rfl, hb⟩
    have hB4 := fb_step hB3 hb
    clear hb hB3 c0 c1
    obtain ⟨c0, c1⟩ := hB4.1.all
    go_wp2_with fail
    go_at_call 49
    refine (HT.out _).mono ?_
    rintro e w5 ⟨rfl, hb⟩
    have hB5 := (fb_step hB4 hb).2
    clear hb hB4 c0 c1
    go_wp2
    go_ret
    exact ⟨by simp, hB5⟩
  · go_wp2_with fail
    go_at_call 48
    refine (HN.out _).mono ?_
    rintro e w4 ⟨rfl, hb⟩
    have hB4 := fb_step hB3 hb
    clear hb hB3 c0 c1
    obtain ⟨c0, c1⟩ := hB4.1.all
    go_wp2_with fail
    go_at_call 48
    refine (HN.out _).mono ?_
    rintro e w5 ⟨rfl, hb⟩
    have hB5 := fb_step hB4 hb
    clear hb hB4 c0 c1
    obtain ⟨c0, c1⟩ := hB5.1.all
    go_wp2_with fail
    go_at_call 49
    refine (HT.out _).mono ?_
    rintro e w6 ⟨rfl, hb⟩
    have hB6 := (fb_step hB5 hb).2
    clear hb hB5 c0 c1
    go_wp2
    go_ret
    exact ⟨by simp, hB6⟩

end Go.Proofs.Ygcoab
