import Derived.Test.YgcoabRows
import Derived.WalkKit
import Derived.WalkSpells
import Derived.WalkLawsBesides
import Derived.Test.YgcoabPlainIeee
import Derived.Deep.RegionHeld3
import Derived.Deep.DeepCutAuto
import Derived.Deep.QuietTactic
import Derived.BigQuiet
namespace Go.Proofs.Ygcoab
open Go.RowKit

/-- a Format, as a value -/
def fmtV (E M : Nat) : Value := .agg #[.int .u8 E, .int .u8 M]

/-- block B holds the format -/
structure FAt (B E M : Nat) (w : World) : Prop where
  c0 : w.cell? ⟨B, 0, none⟩ = some (.int .u8 E)
  c1 : w.cell? ⟨B, 1, none⟩ = some (.int .u8 M)
  size : B < w.heap.size

theorem FAt.start (w : World) (E M : Nat) : FAt w.heap.size E M (w.alloc (.cells #[.int .u8 E, .int .u8 M] 39)) :=
  ⟨by simp [go_sem], by simp [go_sem], by simp [go_sem]⟩

theorem FAt.step {B E M : Nat} {w w' : World} (h : FAt B E M w) (hb : Below w.heap.size w w') : FAt B E M w' :=
  ⟨(hb.cell (p := ⟨B, 0, none⟩) h.size).trans h.c0, (hb.cell (p := ⟨B, 1, none⟩) h.size).trans h.c1, Nat.lt_of_lt_of_le h.size hb.size⟩

theorem FAt.all {B E M : Nat} {w : World} (h : FAt B E M w) : w.cell? ⟨B, 0, none⟩ = some (.int .u8 E) ∧ w.cell? ⟨B, 1, none⟩ = some (.int .u8 M) := ⟨h.c0, h.c1⟩

theorem below_alloc (w : World) (o : Obj) : Below w.heap.size w (w.alloc o) := (Below.refl _ _).alloc (Nat.le_refl _) _

theorem below_step {B : Nat} {a w w' : World} (h : Below B a w) (hB : B ≤ w.heap.size) (hb : Below w.heap.size w w') : Below B a w' := h.trans (hb.mono hB)

theorem FAt.below {B E M : Nat} {a w w' : World} (h : FAt B E M w) (hB : Below B a w) (hb : Below w.heap.size w w') : FAt B E M w' ∧ Below B a w' :=
  ⟨h.step hb, below_step hB (Nat.le_of_lt h.size) hb⟩

theorem fmt_start (w : World) (E M : Nat) : FAt w.heap.size E M (w.alloc (.cells #[.int .u8 E, .int .u8 M] 39)) ∧ Below w.heap.size w (w.alloc (.cells #[.int .u8 E, .int .u8 M] 39)) :=
  ⟨FAt.start w E M, below_alloc _ _⟩

theorem keepF {B E M : Nat} {a w w' : World} (hb : Below w.heap.size w w') (h : w.cell? ⟨B, 0, none⟩ = some (.int .u8 E) ∧ w.cell? ⟨B, 1, none⟩ = some (.int .u8 M) ∧ Below B a w ∧ B < w.heap.size) :
    w'.cell? ⟨B, 0, none⟩ = some (.int .u8 E) ∧ w'.cell? ⟨B, 1, none⟩ = some (.int .u8 M) ∧ Below B a w' ∧ B < w'.heap.size :=
  have k : FAt B E M w' := (FAt.mk h.1 h.2.1 h.2.2.2).step hb
  ⟨k.c0, k.c1, below_step h.2.2.1 (Nat.le_of_lt h.2.2.2) hb, k.size⟩

theorem ok_yes {E M : Nat} (h : FOk E M) (w : World) :
    Calls Oabg.prog 23 #[fmtV E M] w fun e w' => e = .returned (.bool true) ∧ Below w.heap.size w w' := by
  obtain ⟨h1, h2, h3, h4⟩ := h
  unfold fmtV
  go_enter Oabg.func23, Oabg.ntmps23
  go_wp2
  go_ret
  exact ⟨by simp; omega, below_alloc _ _⟩

theorem ok_no {E M : Nat} (h : ¬ FOk E M) (w : World) :
    Calls Oabg.prog 23 #[fmtV E M] w fun e w' => e = .returned (.bool false) ∧ Below w.heap.size w w' := by
  have h' : ¬ (2 ≤ E ∧ E ≤ 11 ∧ 2 ≤ M ∧ M ≤ 52) := fun ⟨a, b, c, d⟩ => h ⟨a, b, c, d⟩
  unfold fmtV
  go_enter Oabg.func23, Oabg.ntmps23
  go_wp2
  all_goals go_ret
  all_goals exact ⟨by first | rfl | (simp; omega), below_alloc _ _⟩

theorem signBit_yes {E M : Nat} (h : FOk E M) (w : World) :
    Calls Oabg.prog 97 #[fmtV E M] w fun e w' => e = .returned (.int .u64 (sgnB E M)) ∧ Below w.heap.size w w' := by
  have h' := h
  obtain ⟨h1, h2, h3, h4⟩ := h
  unfold fmtV
  go_enter Oabg.func97, Oabg.ntmps97
  go_wp2_with (go_at_call 23; refine (ok_yes h' _).mono ?_; rintro e w' ⟨rfl, hb⟩; obtain ⟨hF, hB⟩ := (fmt_start w E M).1.below (fmt_start w E M).2 hb; obtain ⟨c0, c1⟩ := hF.all)
  go_ret
  exact ⟨by rw [w64_pow (by omega)]; rfl, hB⟩

theorem mask_yes {E M : Nat} (h : FOk E M) (w : World) :
    Calls Oabg.prog 96 #[fmtV E M] w fun e w' => e = .returned (.int .u64 (maskP E M)) ∧ Below w.heap.size w w' := by
  have h' := h
  obtain ⟨h1, h2, h3, h4⟩ := h
  unfold fmtV
  go_enter Oabg.func96, Oabg.ntmps96
  go_wp2_with (first
    | (go_at_call 23; refine (ok_yes h' _).mono ?_; rintro e w' ⟨rfl, hb⟩; obtain ⟨hF, hB⟩ := (fmt_start w E M).1.below (fmt_start w E M).2 hb; obtain ⟨c0, c1⟩ := hF.all)
    | (go_at_call 97; refine (signBit_yes h' _).mono ?_; rintro e w1 ⟨rfl, hb1⟩))
  go_ret
  exact ⟨by rw [w64_mask h']; rfl, (hF.below hB hb1).2⟩

theorem bias_yes {E M : Nat} (h : FOk E M) (w : World) :
    Calls Oabg.prog 105 #[fmtV E M] w fun e w' => e = .returned (.int .i16 (biasN E)) ∧ Below w.heap.size w w' := by
  have h' := h
  obtain ⟨h1, h2, h3, h4⟩ := h
  unfold fmtV
  go_enter Oabg.func105, Oabg.ntmps105
  go_wp2_with (go_at_call 23; refine (ok_yes h' _).mono ?_; rintro e w' ⟨rfl, hb⟩; obtain ⟨hF, hB⟩ := (fmt_start w E M).1.below (fmt_start w E M).2 hb; obtain ⟨c0, c1⟩ := hF.all)
  go_ret
  exact ⟨by rw [w16_bias h']; rfl, hB⟩

theorem isNeg_yes {E M : Nat} (h : FOk E M) (x : Nat) (hx : x < 18446744073709551616) (w : World) :
    Calls Oabg.prog 48 #[fmtV E M, .int .u64 x] w fun e w' => e = .returned (.bool (negF E M x)) ∧ Below w.heap.size w w' := by
  obtain ⟨h1, h2, h3, h4⟩ := h
  unfold fmtV
  go_enter Oabg.func48, Oabg.ntmps48
  go_wp2
  go_ret
  exact ⟨by rw [and_negF hx]; rfl, below_alloc _ _⟩

theorem expField_yes {E M : Nat} (h : FOk E M) (x : Nat) (hx : x < 18446744073709551616) (w : World) :
    Calls Oabg.prog 65 #[fmtV E M, .int .u64 x] w fun e w' => e = .returned (.int .u64 (expF E M x)) ∧ Below w.heap.size w w' := by
  have h' := h
  obtain ⟨h1, h2, h3, h4⟩ := h
  unfold fmtV
  go_enter Oabg.func65, Oabg.ntmps65
  go_wp2
  go_ret
  exact ⟨by rw [and_expF h' hx]; rfl, below_alloc _ _⟩

theorem fracField_yes {E M : Nat} (h : FOk E M) (x : Nat) (hx : x < 18446744073709551616) (w : World) :
    Calls Oabg.prog 75 #[fmtV E M, .int .u64 x] w fun e w' => e = .returned (.int .u64 (fracF M x)) ∧ Below w.heap.size w w' := by
  have h' := h
  obtain ⟨h1, h2, h3, h4⟩ := h
  unfold fmtV
  go_enter Oabg.func75, Oabg.ntmps75
  go_wp2
  go_ret
  exact ⟨by rw [and_fracF h' hx]; rfl, below_alloc _ _⟩

theorem classOf_yes {E M : Nat} (h : FOk E M) (x : Nat) (hx : x < 18446744073709551616) (w : World) :
    Calls Oabg.prog 31 #[fmtV E M, .int .u64 x] w fun e w' => e = .returned (.int .i8 (clsF E M x)) ∧ Below w.heap.size w w' := by
  have h' := h
  obtain ⟨h1, h2, h3, h4⟩ := h
  have ht : IntKind.u64.wrap (IntKind.u64.wrap (2 ^ E) - 1) = (topE E : Nat) := w64_pow1 (by omega)
  unfold fmtV
  go_enter Oabg.func31, Oabg.ntmps31
  go_wp2
  go_region_held3 (fun w' => w'.cell? ⟨w.heap.size, 0, none⟩ = some (.int .u8 E) ∧ w'.cell? ⟨w.heap.size, 1, none⟩ = some (.int .u8 M) ∧ Below w.heap.size w w' ∧ w.heap.size < w'.heap.size)
    (first
      | (refine ⟨?_, ?_, (below_alloc _ _).drew, ?_⟩ <;> simp [go_sem] <;> done)
      | (refine keepF hb ?_; assumption))
    (first
      | (go_at_call 65; refine (expField_yes h' x hx _).mono ?_; rintro e w' ⟨rfl, hb⟩)
      | (go_at_call 75; refine (fracField_yes h' x hx _).mono ?_; rintro e w' ⟨rfl, hb⟩))
  rename_i hH
  obtain ⟨c0, c1, hB, hs⟩ := hH
  clear hb
  go_wp2
  all_goals go_ret
  all_goals refine ⟨?_, hB⟩
  all_goals refine congrArg (fun z => Ending.returned (Value.int IntKind.i8 z)) ?_
  all_goals unfold clsF
  all_goals simp_all
  all_goals first | (intro h; exfalso; omega) | omega

theorem signedZero_yes {E M : Nat} (h : FOk E M) (neg : Bool) (w : World) :
    Calls Oabg.prog 46 #[fmtV E M, .bool neg] w fun e w' => e = .returned (.int .u64 (zeroP E M neg)) ∧ Below w.heap.size w w' := by
  have h' := h
  obtain ⟨h1, h2, h3, h4⟩ := h
  unfold fmtV
  cases neg
  · go_enter Oabg.func46, Oabg.ntmps46
    go_wp2
    go_ret
    exact ⟨rfl, below_alloc _ _⟩
  · go_enter Oabg.func46, Oabg.ntmps46
    go_wp2
    go_ret
    exact ⟨by rw [w64_sgn h']; rfl, below_alloc _ _⟩

theorem infOf_yes {E M : Nat} (h : FOk E M) (neg : Bool) (w : World) :
    Calls Oabg.prog 50 #[fmtV E M, .bool neg] w fun e w' => e = .returned (.int .u64 (infP E M neg)) ∧ Below w.heap.size w w' := by
  have h' := h
  obtain ⟨h1, h2, h3, h4⟩ := h
  have ht : IntKind.u64.wrap (IntKind.u64.wrap (2 ^ E) - 1) = (topE E : Nat) := w64_pow1 (by omega)
  have hs := w64_topS h'
  have ho := or_inf h' neg
  unfold fmtV
  go_enter Oabg.func50, Oabg.ntmps50
  go_wp2
  go_region_held3 (fun w' => w'.cell? ⟨w.heap.size, 0, none⟩ = some (.int .u8 E) ∧ w'.cell? ⟨w.heap.size, 1, none⟩ = some (.int .u8 M) ∧ Below w.heap.size w w' ∧ w.heap.size < w'.heap.size)
    (first
      | (refine ⟨?_, ?_, (below_alloc _ _).drew, ?_⟩ <;> simp [go_sem] <;> done)
      | (refine keepF hb ?_; assumption))
    (first | (go_at_call 46; refine (signedZero_yes h' neg _).mono ?_; rintro e w' ⟨rfl, hb⟩))
  rename_i hH
  obtain ⟨c0, c1, hB, hs⟩ := hH
  clear hb
  go_wp2
  go_ret
  exact ⟨rfl, hB⟩

theorem nanOf_yes {E M : Nat} (h : FOk E M) (w : World) :
    Calls Oabg.prog 49 #[fmtV E M] w fun e w' => e = .returned (.int .u64 (nanP E M)) ∧ Below w.heap.size w w' := by
  have h' := h
  obtain ⟨h1, h2, h3, h4⟩ := h
  have ho := or_nan h'
  have hm : IntKind.u8.wrap ((M : Int) - 1) = ((M - 1 : Nat) : Int) := by rw [IntKind.wrap_u8']; omega
  unfold fmtV
  go_enter Oabg.func49, Oabg.ntmps49
  go_wp2
  go_region_held3 (fun w' => w'.cell? ⟨w.heap.size, 0, none⟩ = some (.int .u8 E) ∧ w'.cell? ⟨w.heap.size, 1, none⟩ = some (.int .u8 M) ∧ Below w.heap.size w w' ∧ w.heap.size < w'.heap.size)
    (first
      | (refine ⟨?_, ?_, (below_alloc _ _).drew, ?_⟩ <;> simp [go_sem] <;> done)
      | (refine keepF hb ?_; assumption))
    (first | (go_at_call 50; refine (infOf_yes h' false _).mono ?_; rintro e w' ⟨rfl, hb⟩))
  rename_i hH
  obtain ⟨c0, c1, hB, hs⟩ := hH
  clear hb
  go_wp2
  go_ret
  exact ⟨by first | rfl | (simp only [hm, Int.toNat_natCast, ho]; rfl), hB⟩

theorem signed_yes {E M : Nat} (h : FOk E M) (neg : Bool) (w : World) :
    Calls Oabg.prog 170 #[fmtV E M, .bool neg, .int .u64 (topS E M)] w fun e w' => e = .returned (.int .u64 (infP E M neg)) ∧ Below w.heap.size w w' := by
  have h' := h
  have ho := or_inf' h'
  obtain ⟨h1, h2, h3, h4⟩ := h
  unfold fmtV
  cases neg
  · go_enter Oabg.func170, Oabg.ntmps170
    go_wp2
    go_ret
    exact ⟨by rw [infP_false]; rfl, below_alloc _ _⟩
  · go_enter Oabg.func170, Oabg.ntmps170
    go_wp2_with (go_at_call 97; refine (signBit_yes h' _).mono ?_; rintro e w' ⟨rfl, hb⟩; obtain ⟨hF, hB⟩ := (fmt_start w E M).1.below (fmt_start w E M).2 hb)
    go_ret
    exact ⟨rfl, hB⟩

theorem inf_yes {E M : Nat} (h : FOk E M) (neg : Bool) (w : World) :
    Calls Oabg.prog 152 #[fmtV E M, .bool neg] w fun e w' => e = .returned (.int .u64 (infP E M neg)) ∧ Below w.heap.size w w' := by
  have h' := h
  obtain ⟨h1, h2, h3, h4⟩ := h
  have ht : IntKind.u64.wrap (IntKind.u64.wrap (2 ^ E) - 1) = (topE E : Nat) := w64_pow1 (by omega)
  have hs := w64_topS h'
  unfold fmtV
  go_enter Oabg.func152, Oabg.ntmps152
  go_wp2_with (first
    | (go_at_call 23; refine (ok_yes h' _).mono ?_; rintro e w' ⟨rfl, hb⟩; obtain ⟨hF, hB⟩ := (fmt_start w E M).1.below (fmt_start w E M).2 hb; obtain ⟨c0, c1⟩ := hF.all)
    | (go_at_call 170; refine (signed_yes h' neg _).mono ?_; rintro e w1 ⟨rfl, hb1⟩))
  go_ret
  exact ⟨rfl, (hF.below hB hb1).2⟩

theorem theNaN_yes {E M : Nat} (h : FOk E M) (w : World) :
    Calls Oabg.prog 135 #[fmtV E M] w fun e w' => e = .returned (.int .u64 (nanP E M)) ∧ Below w.heap.size w w' := by
  have h' := h
  obtain ⟨h1, h2, h3, h4⟩ := h
  have ho := or_nan h'
  have hm : IntKind.u8.wrap ((M : Int) - 1) = ((M - 1 : Nat) : Int) := by rw [IntKind.wrap_u8']; omega
  unfold fmtV
  go_enter Oabg.func135, Oabg.ntmps135
  go_wp2_with (go_at_call 23; refine (ok_yes h' _).mono ?_; rintro e w0 ⟨rfl, hb⟩; obtain ⟨hF, hB⟩ := (fmt_start w E M).1.below (fmt_start w E M).2 hb; obtain ⟨c0, c1⟩ := hF.all)
  have hsz := hF.size
  go_region_held3 (fun w' => w'.cell? ⟨w.heap.size, 0, none⟩ = some (.int .u8 E) ∧ w'.cell? ⟨w.heap.size, 1, none⟩ = some (.int .u8 M) ∧ Below w.heap.size w w' ∧ w.heap.size < w'.heap.size)
    (first
      | exact ⟨c0, c1, hB.drew, hsz⟩
      | (refine keepF hb ?_; assumption))
    (first | (go_at_call 152; refine (inf_yes h' false _).mono ?_; rintro e w' ⟨rfl, hb⟩))
  rename_i hH
  obtain ⟨d0, d1, hB', hs'⟩ := hH
  clear hb
  go_wp2
  go_ret
  exact ⟨by first | rfl | (simp only [hm, Int.toNat_natCast, ho]; rfl), hB'⟩

theorem zero_yes {E M : Nat} (h : FOk E M) (neg : Bool) (w : World) :
    Calls Oabg.prog 128 #[fmtV E M, .bool neg] w fun e w' => e = .returned (.int .u64 (zeroP E M neg)) ∧ Below w.heap.size w w' := by
  have h' := h
  obtain ⟨h1, h2, h3, h4⟩ := h
  unfold fmtV
  cases neg
  · go_enter Oabg.func128, Oabg.ntmps128
    go_wp2
    go_ret
    exact ⟨rfl, below_alloc _ _⟩
  · go_enter Oabg.func128, Oabg.ntmps128
    go_wp2_with (go_at_call 97; refine (signBit_yes h' _).mono ?_; rintro e w' ⟨rfl, hb⟩; obtain ⟨hF, hB⟩ := (fmt_start w E M).1.below (fmt_start w E M).2 hb)
    go_ret
    exact ⟨rfl, hB⟩

end Go.Proofs.Ygcoab
