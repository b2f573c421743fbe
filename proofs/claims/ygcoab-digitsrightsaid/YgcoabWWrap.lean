import Derived.Test.YgcoabWIeee
namespace Go.Proofs.Ygcoab
open Go.RowKit

/-- fn answers the pattern r and some flags -/
def FlagsTo (fn : Nat) (E M : Nat) (mode : Int) (a b r : Nat) : Prop :=
  ∀ w : World, Calls Oabg.prog fn #[.agg #[.int .u8 E, .int .u8 M], .int .u8 mode, .int .u64 a, .int .u64 b] w fun e w' => ∃ z, e = .returned (.tuple #[.int .u64 (r : Nat), .int .u8 z]) ∧ Below w.heap.size w w'

/-- fn answers the pattern r -/
def AnsTo (fn : Nat) (E M : Nat) (mode : Int) (a b r : Nat) : Prop :=
  ∀ w : World, Calls Oabg.prog fn #[.agg #[.int .u8 E, .int .u8 M], .int .u8 mode, .int .u64 a, .int .u64 b] w fun e w' => e = .returned (.int .u64 (r : Nat)) ∧ Below w.heap.size w w'

set_option maxRecDepth 100000 in
theorem add_ans {E M : Nat} {mode : Int} {a b r : Nat} (H : FlagsTo 123 E M mode a b r) : AnsTo 86 E M mode a b r := by
  intro w
  have HH : Hid (FlagsTo 123 E M mode a b r) := H
  clear H
  go_enter Oabg.func86, Oabg.ntmps86
  go_wp2_with (go_at_call 123; refine (HH.out _).mono ?_; rintro e w' ⟨z, rfl, hb⟩; have hB := ((fmt_start w E M).1.below (fmt_start w E M).2 hb).2; clear hb)
  go_ret
  exact ⟨rfl, hB⟩

set_option maxRecDepth 100000 in
theorem sub_ans {E M : Nat} {mode : Int} {a b r : Nat} (H : FlagsTo 124 E M mode a b r) : AnsTo 87 E M mode a b r := by
  intro w
  have HH : Hid (FlagsTo 124 E M mode a b r) := H
  clear H
  go_enter Oabg.func87, Oabg.ntmps87
  go_wp2_with (go_at_call 124; refine (HH.out _).mono ?_; rintro e w' ⟨z, rfl, hb⟩; have hB := ((fmt_start w E M).1.below (fmt_start w E M).2 hb).2; clear hb)
  go_ret
  exact ⟨rfl, hB⟩

set_option maxRecDepth 100000 in
theorem mul_ans {E M : Nat} {mode : Int} {a b r : Nat} (H : FlagsTo 125 E M mode a b r) : AnsTo 88 E M mode a b r := by
  intro w
  have HH : Hid (FlagsTo 125 E M mode a b r) := H
  clear H
  go_enter Oabg.func88, Oabg.ntmps88
  go_wp2_with (go_at_call 125; refine (HH.out _).mono ?_; rintro e w' ⟨z, rfl, hb⟩; have hB := ((fmt_start w E M).1.below (fmt_start w E M).2 hb).2; clear hb)
  go_ret
  exact ⟨rfl, hB⟩

set_option maxRecDepth 100000 in
theorem div_ans {E M : Nat} {mode : Int} {a b r : Nat} (H : FlagsTo 126 E M mode a b r) : AnsTo 89 E M mode a b r := by
  intro w
  have HH : Hid (FlagsTo 126 E M mode a b r) := H
  clear H
  go_enter Oabg.func89, Oabg.ntmps89
  go_wp2_with (go_at_call 126; refine (HH.out _).mono ?_; rintro e w' ⟨z, rfl, hb⟩; have hB := ((fmt_start w E M).1.below (fmt_start w E M).2 hb).2; clear hb)
  go_ret
  exact ⟨rfl, hB⟩

set_option maxRecDepth 100000 in
theorem subFlags_to {E M : Nat} (h : FOk E M) {mode : Int} {a b r : Nat} (hb : b < 18446744073709551616) (H : FlagsTo 123 E M mode a (b ^^^ sgnB E M) r) : FlagsTo 124 E M mode a b r := by
  intro w
  have HH : Hid (FlagsTo 123 E M mode a (b ^^^ sgnB E M) r) := H
  have hx : bits .xor .u64 (b : Int) (sgnB E M : Nat) = ((b ^^^ sgnB E M : Nat) : Int) := u64_xor_nat _ _ hb (by have := sgnB_lt h; omega)
  have h' := h
  clear H h
  go_enter Oabg.func124, Oabg.ntmps124
  go_wp2
  go_region_held3 (fun w' => w'.cell? ⟨w.heap.size, 0, none⟩ = some (.int .u8 E) ∧ w'.cell? ⟨w.heap.size, 1, none⟩ = some (.int .u8 M) ∧ Below w.heap.size w w' ∧ w.heap.size < w'.heap.size)
    (first
      | (refine ⟨?_, ?_, (below_alloc _ _).drew, ?_⟩ <;> simp [go_sem] <;> done)
      | (refine keepF hb1 ?_; assumption))
    (first
      | (go_at_call 97; refine (signBit_yes h' _).mono ?_; rintro e w1 ⟨rfl, hb1⟩)
      | (go_at_call 123; refine (HH.out _).mono ?_; rintro e w1 ⟨z, rfl, hb1⟩))
  rename_i hH
  go_wp2
  go_ret2
  exact ⟨z, rfl, hH.2.2.1⟩

set_option maxRecDepth 100000 in
theorem bin_add {E M : Nat} {mode : Int} {a b r : Nat} (H : AnsTo 86 E M mode a b r) (w : World) :
    Calls Oabg.prog 42 #[.agg #[.int .u8 E, .int .u8 M], .int .u8 mode, .int .u8 0, .int .u64 a, .int .u64 b] w fun e w' => e = .returned (.int .u64 (r : Nat)) ∧ Below w.heap.size w w' := by
  have HH : Hid (AnsTo 86 E M mode a b r) := H
  have hop : bits .and .u8 0 3 = 0 := by decide
  clear H
  go_enter Oabg.func42, Oabg.ntmps42
  go_wp2_with (go_at_call 86; refine (HH.out _).mono ?_; rintro e w' ⟨rfl, hb⟩; have hB := ((fmt_start w E M).1.below (fmt_start w E M).2 hb).2; clear hb)
  go_ret
  exact ⟨rfl, hB⟩

set_option maxRecDepth 100000 in
theorem bin_sub {E M : Nat} {mode : Int} {a b r : Nat} (H : AnsTo 87 E M mode a b r) (w : World) :
    Calls Oabg.prog 42 #[.agg #[.int .u8 E, .int .u8 M], .int .u8 mode, .int .u8 1, .int .u64 a, .int .u64 b] w fun e w' => e = .returned (.int .u64 (r : Nat)) ∧ Below w.heap.size w w' := by
  have HH : Hid (AnsTo 87 E M mode a b r) := H
  have hop : bits .and .u8 1 3 = 1 := by decide
  clear H
  go_enter Oabg.func42, Oabg.ntmps42
  go_wp2_with (go_at_call 87; refine (HH.out _).mono ?_; rintro e w' ⟨rfl, hb⟩; have hB := ((fmt_start w E M).1.below (fmt_start w E M).2 hb).2; clear hb)
  go_ret
  exact ⟨rfl, hB⟩

set_option maxRecDepth 100000 in
theorem bin_mul {E M : Nat} {mode : Int} {a b r : Nat} (H : AnsTo 88 E M mode a b r) (w : World) :
    Calls Oabg.prog 42 #[.agg #[.int .u8 E, .int .u8 M], .int .u8 mode, .int .u8 2, .int .u64 a, .int .u64 b] w fun e w' => e = .returned (.int .u64 (r : Nat)) ∧ Below w.heap.size w w' := by
  have HH : Hid (AnsTo 88 E M mode a b r) := H
  have hop : bits .and .u8 2 3 = 2 := by decide
  clear H
  go_enter Oabg.func42, Oabg.ntmps42
  go_wp2_with (go_at_call 88; refine (HH.out _).mono ?_; rintro e w' ⟨rfl, hb⟩; have hB := ((fmt_start w E M).1.below (fmt_start w E M).2 hb).2; clear hb)
  go_ret
  exact ⟨rfl, hB⟩

set_option maxRecDepth 100000 in
theorem bin_div {E M : Nat} {mode : Int} {a b r : Nat} (H : AnsTo 89 E M mode a b r) (w : World) :
    Calls Oabg.prog 42 #[.agg #[.int .u8 E, .int .u8 M], .int .u8 mode, .int .u8 3, .int .u64 a, .int .u64 b] w fun e w' => e = .returned (.int .u64 (r : Nat)) ∧ Below w.heap.size w w' := by
  have HH : Hid (AnsTo 89 E M mode a b r) := H
  have hop : bits .and .u8 3 3 = 3 := by decide
  clear H
  go_enter Oabg.func42, Oabg.ntmps42
  go_wp2_with (go_at_call 89; refine (HH.out _).mono ?_; rintro e w' ⟨rfl, hb⟩; have hB := ((fmt_start w E M).1.below (fmt_start w E M).2 hb).2; clear hb)
  go_ret
  exact ⟨rfl, hB⟩

end Go.Proofs.Ygcoab
