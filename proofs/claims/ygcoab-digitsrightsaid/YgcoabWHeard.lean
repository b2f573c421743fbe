import Derived.Test.YgcoabWUnpack2
namespace Go.Proofs.Ygcoab
open Go.RowKit

set_option maxHeartbeats 400000 in
set_option maxRecDepth 100000 in
theorem signals_any {E M : Nat} (h : FOk E M) (x : Nat) (hx : x < 18446744073709551616) (w : World) :
    Calls Oabg.prog 164 #[fmtV E M, .int .u64 x] w fun e w' => ∃ b, e = .returned (.bool b) ∧ Below w.heap.size w w' := by
  have h' := h
  have hU := fun w => unpack_yes h x hx w
  generalize pNeg E M x = N at hU
  generalize clsF E M x = c at hU
  generalize pExp E M x = ex at hU
  generalize pMan E M x = m at hU
  have HUn : Hid (∀ w : World, Calls Oabg.prog 66 #[.agg #[.int .u8 E, .int .u8 M], .int .u64 x] w fun r w' => r = .returned (.agg #[.bool N, .int .i8 c, .int .i16 ex, .int .u64 m]) ∧ Below w.heap.size w w') := hU
  clear hU
  have hfd : ∀ w : World, (Instr.field 99 (.agg #[.bool N, .int .i8 c, .int .i16 ex, .int .u64 m]) 1).run Oabg.prog w = .ok (.int .i8 c) w := fun _ => by kernel_rfl
  obtain ⟨h1, h2, h3, h4⟩ := h
  have hm : IntKind.u8.wrap ((M : Int) - 1) = ((M - 1 : Nat) : Int) := by rw [IntKind.wrap_u8']; omega
  unfold fmtV
  by_cases hc : c = 4
  · have hc4 : (c == 4) = true := by rw [beq_iff_eq]; exact hc
    clear hc
    go_enter Oabg.func164, Oabg.ntmps164
    go_wp2_with (go_at_call 66; refine (HUn.out _).mono ?_; rintro e w' ⟨rfl, hb⟩; obtain ⟨hF, hB⟩ := (fmt_start w E M).1.below (fmt_start w E M).2 hb; obtain ⟨c0, c1⟩ := hF.all; clear hb)
    all_goals (go_ret; exact ⟨_, rfl, hB⟩)
  · have hc4 : (c == 4) = false := by rw [beq_eq_false_iff_ne]; exact hc
    clear hc
    go_enter Oabg.func164, Oabg.ntmps164
    go_wp2_with (go_at_call 66; refine (HUn.out _).mono ?_; rintro e w' ⟨rfl, hb⟩; obtain ⟨hF, hB⟩ := (fmt_start w E M).1.below (fmt_start w E M).2 hb; obtain ⟨c0, c1⟩ := hF.all; clear hb)
    all_goals (go_ret; exact ⟨_, rfl, hB⟩)

set_option maxHeartbeats 400000 in
set_option maxRecDepth 100000 in
theorem heard_any {E M : Nat} (h : FOk E M) (x y : Nat) (hx : x < 18446744073709551616) (hy : y < 18446744073709551616) (w : World) :
    Calls Oabg.prog 136 #[fmtV E M, .int .u64 x, .int .u64 y] w fun e w' => ∃ z, e = .returned (.int .u8 z) ∧ Below w.heap.size w w' := by
  have HX : Hid (∀ w : World, Calls Oabg.prog 164 #[.agg #[.int .u8 E, .int .u8 M], .int .u64 x] w fun e w' => ∃ b, e = .returned (.bool b) ∧ Below w.heap.size w w') := fun w => signals_any h x hx w
  have HY : Hid (∀ w : World, Calls Oabg.prog 164 #[.agg #[.int .u8 E, .int .u8 M], .int .u64 y] w fun e w' => ∃ b, e = .returned (.bool b) ∧ Below w.heap.size w w') := fun w => signals_any h y hy w
  unfold fmtV
  go_enter Oabg.func136, Oabg.ntmps136
  go_wp2_with fail
  go_at_call 164
  refine (HX.out _).mono ?_
  rintro e w1 ⟨b, rfl, hb⟩
  obtain ⟨hF, hB⟩ := (fmt_start w E M).1.below (fmt_start w E M).2 hb
  obtain ⟨c0, c1⟩ := hF.all
  clear hb
  cases b
  · go_wp2_with fail
    go_at_call 164
    refine (HY.out _).mono ?_
    rintro e w2 ⟨b, rfl, hb⟩
    have hB2 := (hF.below hB hb).2
    cases b
    · go_wp2
      go_ret
      exact ⟨_, rfl, hB2⟩
    · go_wp2
      go_ret
      exact ⟨_, rfl, hB2⟩
  · go_wp2
    go_ret
    exact ⟨_, rfl, hB⟩

end Go.Proofs.Ygcoab
