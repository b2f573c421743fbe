import Derived.Test.YgcoabWUnpack
namespace Go.Proofs.Ygcoab
open Go.RowKit

/-- Unpack's world: the format in block B, the result's variable in block B + 1 -/
structure UAt (w : World) (E M : Nat) (W : World) : Prop where
  c0 : W.cell? ⟨w.heap.size, 0, none⟩ = some (.int .u8 E)
  c1 : W.cell? ⟨w.heap.size, 1, none⟩ = some (.int .u8 M)
  r0 : W.cell? ⟨w.heap.size + 1, 0, none⟩ = some (.bool false)
  r1 : W.cell? ⟨w.heap.size + 1, 1, none⟩ = some (.int .i8 0)
  r2 : W.cell? ⟨w.heap.size + 1, 2, none⟩ = some (.int .i16 0)
  r3 : W.cell? ⟨w.heap.size + 1, 3, none⟩ = some (.int .u64 0)
  rf : ∀ o, W.frozen? ⟨w.heap.size + 1, o, none⟩ = false
  below : Below w.heap.size w W
  size : w.heap.size + 1 < W.heap.size

def UW (w : World) (E M : Nat) : World := (w.alloc (.cells #[.int .u8 E, .int .u8 M] 39)).alloc (.cells #[.bool false, .int .i8 0, .int .i16 0, .int .u64 0] 99)

theorem UAt.start (w : World) (E M : Nat) : UAt w E M (UW w E M) := by
  unfold UW
  refine ⟨by simp [go_sem], by simp [go_sem], by simp [go_sem], by simp [go_sem], by simp [go_sem], by simp [go_sem], fun o => by simp [go_sem], ((Below.refl _ _).alloc (Nat.le_refl _) _).alloc (by simp) _, by simp [go_sem]⟩

theorem UAt.step {w W W' : World} {E M : Nat} (h : UAt w E M W) (hb : Below W.heap.size W W') : UAt w E M W' :=
  have k0 := fun o => hb.cell (p := ⟨w.heap.size, o, none⟩) (Nat.lt_of_succ_lt h.size)
  have k1 := fun o => hb.cell (p := ⟨w.heap.size + 1, o, none⟩) h.size
  ⟨(k0 0).trans h.c0, (k0 1).trans h.c1, (k1 0).trans h.r0, (k1 1).trans h.r1, (k1 2).trans h.r2, (k1 3).trans h.r3, fun o => (hb.frozen (p := ⟨w.heap.size + 1, o, none⟩) h.size).trans (h.rf o),
    below_step h.below (Nat.le_of_lt (Nat.lt_of_succ_lt h.size)) hb, Nat.lt_of_lt_of_le h.size hb.size⟩

theorem UAt.drew {w W : World} {E M : Nat} (h : UAt w E M W) : UAt w E M W.drew := ⟨h.c0, h.c1, h.r0, h.r1, h.r2, h.r3, h.rf, h.below.drew, h.size⟩

theorem UAt.all {w W : World} {E M : Nat} (h : UAt w E M W) : W.cell? ⟨w.heap.size, 0, none⟩ = some (.int .u8 E) ∧ W.cell? ⟨w.heap.size, 1, none⟩ = some (.int .u8 M) ∧ W.cell? ⟨w.heap.size + 1, 0, none⟩ = some (.bool false) ∧
    W.cell? ⟨w.heap.size + 1, 1, none⟩ = some (.int .i8 0) ∧ W.cell? ⟨w.heap.size + 1, 2, none⟩ = some (.int .i16 0) ∧ W.cell? ⟨w.heap.size + 1, 3, none⟩ = some (.int .u64 0) ∧ (∀ o, W.frozen? ⟨w.heap.size + 1, o, none⟩ = false) ∧ w.heap.size + 1 < W.heap.size ∧ Hid (UAt w E M W) :=
  ⟨h.c0, h.c1, h.r0, h.r1, h.r2, h.r3, h.rf, h.size, h⟩

theorem nor_exp {E M X : Nat} (h : FOk E M) (hX : X ≤ 2047) : IntKind.i16.wrap (IntKind.i16.wrap (IntKind.i16.wrap (X : Int) - (biasN E : Int)) - IntKind.i16.wrap (M : Int)) = X - biasN E - M := by
  have h1 := bias_lt h
  have h2 := h.m2
  rw [wrap_i16 (X : Int) (by omega) (by omega), wrap_i16 (M : Int) (by omega) (by omega), wrap_i16 ((X : Int) - biasN E) (by omega) (by omega), wrap_i16 _ (by omega) (by omega)]

theorem expF_le {E M : Nat} (h : FOk E M) (x : Nat) : expF E M x ≤ 2047 := by
  have h1 : (2 : Nat) ^ E ≤ 2048 := two_pow_le (k := 11) h.e2
  have h2 := Nat.mod_lt (x / 2 ^ M) (two_pow_pos' E)
  unfold expF
  omega

theorem fracF_lt (M x : Nat) : fracF M x < 2 ^ M := Nat.mod_lt _ (two_pow_pos' M)

theorem or_hid {M F : Nat} (hM : M ≤ 52) (hF : F < 2 ^ M) : bits .or .u64 (F : Int) (IntKind.u64.wrap (2 ^ M)) = ((2 ^ M + F : Nat) : Int) := by
  have h1 := pow_lt64 (n := M) (by omega)
  rw [w64_pow (by omega), u64_or_nat _ _ (by omega) h1, Nat.or_comm, nat_join M _ _ (by simp) hF]

set_option maxHeartbeats 800000 in
theorem unpack_nan {E M : Nat} (h : FOk E M) (x : Nat) (hx : x < 18446744073709551616) (q1 : expF E M x = topE E) (q2 : fracF M x ≠ 0) (w : World) :
    Calls Oabg.prog 66 #[fmtV E M, .int .u64 x] w fun e w' => e = .returned (partsV false 4 0 0) ∧ Below w.heap.size w w' := by
  have h' := h
  have hsg := and_sgn h hx
  have ht : IntKind.u64.wrap (IntKind.u64.wrap (2 ^ E) - 1) = (topE E : Nat) := w64_pow1 (by have := h.e2; omega)
  have hex := and_expF h hx
  rw [ht] at hex
  have hfr := and_fracF h hx
  have hle := expF_le h x
  have hlt := fracF_lt M x
  obtain ⟨N, hN⟩ : ∃ b, b = negF E M x := ⟨_, rfl⟩
  obtain ⟨X, hX⟩ : ∃ b, b = expF E M x := ⟨_, rfl⟩
  obtain ⟨F, hF⟩ : ∃ b, b = fracF M x := ⟨_, rfl⟩
  obtain ⟨T, hT⟩ : ∃ b, b = topE E := ⟨_, rfl⟩
  simp only [← hN, ← hX, ← hF, ← hT] at *
  clear hN hX hF hT
  obtain ⟨h1, h2, h3, h4⟩ := h
  have p1 : ((X : Int) == (T : Int)) = true := by rw [beq_iff_eq]; omega
  have p2 : ((F : Int) != 0) = true := by simp; omega
  clear q1 q2
  unfold fmtV
  go_enter Oabg.func66, Oabg.ntmps66
  go_wp2_with fail
  go_at_call 23
  obtain ⟨W, hW⟩ : ∃ W, W = UW w E M := ⟨_, rfl⟩
  have hU := UAt.start w E M
  rw [← hW] at hU
  rw [show ((w.alloc (Obj.cells #[Value.int IntKind.u8 E, Value.int IntKind.u8 M] 39)).alloc (Obj.cells #[Value.bool false, Value.int IntKind.i8 0, Value.int IntKind.i16 0, Value.int IntKind.u64 0] 99)) = W from hW.symm]
  refine (ok_yes h' _).mono ?_
  rintro e w1 ⟨rfl, hb⟩
  obtain ⟨c0, c1, r0, r1, r2, r3, rf, hs, HU⟩ := (hU.step hb).all
  clear hb hU hW
  go_wp2_with (first
    | (go_at_call 97; refine (signBit_yes h' _).mono ?_; rintro e w1 ⟨rfl, hb⟩; obtain ⟨c0, c1, r0, r1, r2, r3, rf, hs, HU⟩ := (HU.out.step hb).all; clear hb))
  refine bodyPost_ret (v := partsV false 4 0 0) (by simp [results, Oabg.results66, go_sem, r0, r1, r2, r3]; rfl) rfl ⟨rfl, below_set4 HU.out.below (by omega)⟩

set_option maxHeartbeats 800000 in
theorem unpack_inf {E M : Nat} (h : FOk E M) (x : Nat) (hx : x < 18446744073709551616) (q1 : expF E M x = topE E) (q2 : fracF M x = 0) (w : World) :
    Calls Oabg.prog 66 #[fmtV E M, .int .u64 x] w fun e w' => e = .returned (partsV (negF E M x) 3 0 0) ∧ Below w.heap.size w w' := by
  have h' := h
  have hsg := and_sgn h hx
  have ht : IntKind.u64.wrap (IntKind.u64.wrap (2 ^ E) - 1) = (topE E : Nat) := w64_pow1 (by have := h.e2; omega)
  have hex := and_expF h hx
  rw [ht] at hex
  have hfr := and_fracF h hx
  have hle := expF_le h x
  have hlt := fracF_lt M x
  obtain ⟨N, hN⟩ : ∃ b, b = negF E M x := ⟨_, rfl⟩
  obtain ⟨X, hX⟩ : ∃ b, b = expF E M x := ⟨_, rfl⟩
  obtain ⟨F, hF⟩ : ∃ b, b = fracF M x := ⟨_, rfl⟩
  obtain ⟨T, hT⟩ : ∃ b, b = topE E := ⟨_, rfl⟩
  simp only [← hN, ← hX, ← hF, ← hT] at *
  clear hN hX hF hT
  obtain ⟨h1, h2, h3, h4⟩ := h
  have p1 : ((X : Int) == (T : Int)) = true := by rw [beq_iff_eq]; omega
  have p2 : ((F : Int) != 0) = false := by simp; omega
  clear q1 q2
  unfold fmtV
  go_enter Oabg.func66, Oabg.ntmps66
  go_wp2_with fail
  go_at_call 23
  obtain ⟨W, hW⟩ : ∃ W, W = UW w E M := ⟨_, rfl⟩
  have hU := UAt.start w E M
  rw [← hW] at hU
  rw [show ((w.alloc (Obj.cells #[Value.int IntKind.u8 E, Value.int IntKind.u8 M] 39)).alloc (Obj.cells #[Value.bool false, Value.int IntKind.i8 0, Value.int IntKind.i16 0, Value.int IntKind.u64 0] 99)) = W from hW.symm]
  refine (ok_yes h' _).mono ?_
  rintro e w1 ⟨rfl, hb⟩
  obtain ⟨c0, c1, r0, r1, r2, r3, rf, hs, HU⟩ := (hU.step hb).all
  clear hb hU hW
  go_wp2_with (first
    | (go_at_call 97; refine (signBit_yes h' _).mono ?_; rintro e w1 ⟨rfl, hb⟩; obtain ⟨c0, c1, r0, r1, r2, r3, rf, hs, HU⟩ := (HU.out.step hb).all; clear hb))
  refine bodyPost_ret (v := partsV (N) 3 0 0) (by simp [results, Oabg.results66, go_sem, r0, r1, r2, r3]; rfl) rfl ⟨rfl, below_set4 HU.out.below (by omega)⟩

set_option maxHeartbeats 800000 in
theorem unpack_zero {E M : Nat} (h : FOk E M) (x : Nat) (hx : x < 18446744073709551616) (q1 : expF E M x ≠ topE E) (q0 : expF E M x = 0) (q2 : fracF M x = 0) (w : World) :
    Calls Oabg.prog 66 #[fmtV E M, .int .u64 x] w fun e w' => e = .returned (partsV (negF E M x) 0 0 0) ∧ Below w.heap.size w w' := by
  have h' := h
  have hsg := and_sgn h hx
  have ht : IntKind.u64.wrap (IntKind.u64.wrap (2 ^ E) - 1) = (topE E : Nat) := w64_pow1 (by have := h.e2; omega)
  have hex := and_expF h hx
  rw [ht] at hex
  have hfr := and_fracF h hx
  have hle := expF_le h x
  have hlt := fracF_lt M x
  obtain ⟨N, hN⟩ : ∃ b, b = negF E M x := ⟨_, rfl⟩
  obtain ⟨X, hX⟩ : ∃ b, b = expF E M x := ⟨_, rfl⟩
  obtain ⟨F, hF⟩ : ∃ b, b = fracF M x := ⟨_, rfl⟩
  obtain ⟨T, hT⟩ : ∃ b, b = topE E := ⟨_, rfl⟩
  simp only [← hN, ← hX, ← hF, ← hT] at *
  clear hN hX hF hT
  obtain ⟨h1, h2, h3, h4⟩ := h
  have p1 : ((X : Int) == (T : Int)) = false := by rw [beq_eq_false_iff_ne]; omega
  have p0 : ((X : Int) == 0) = true := by rw [beq_iff_eq]; omega
  have p2 : ((F : Int) == 0) = true := by rw [beq_iff_eq]; omega
  clear q1 q2 q0
  unfold fmtV
  go_enter Oabg.func66, Oabg.ntmps66
  go_wp2_with fail
  go_at_call 23
  obtain ⟨W, hW⟩ : ∃ W, W = UW w E M := ⟨_, rfl⟩
  have hU := UAt.start w E M
  rw [← hW] at hU
  rw [show ((w.alloc (Obj.cells #[Value.int IntKind.u8 E, Value.int IntKind.u8 M] 39)).alloc (Obj.cells #[Value.bool false, Value.int IntKind.i8 0, Value.int IntKind.i16 0, Value.int IntKind.u64 0] 99)) = W from hW.symm]
  refine (ok_yes h' _).mono ?_
  rintro e w1 ⟨rfl, hb⟩
  obtain ⟨c0, c1, r0, r1, r2, r3, rf, hs, HU⟩ := (hU.step hb).all
  clear hb hU hW
  go_wp2_with (first
    | (go_at_call 97; refine (signBit_yes h' _).mono ?_; rintro e w1 ⟨rfl, hb⟩; obtain ⟨c0, c1, r0, r1, r2, r3, rf, hs, HU⟩ := (HU.out.step hb).all; clear hb))
  refine bodyPost_ret (v := partsV (N) 0 0 0) (by simp [results, Oabg.results66, go_sem, r0, r1, r2, r3]; rfl) rfl ⟨rfl, below_set4 HU.out.below (by omega)⟩

set_option maxHeartbeats 800000 in
theorem unpack_sub {E M : Nat} (h : FOk E M) (x : Nat) (hx : x < 18446744073709551616) (q1 : expF E M x ≠ topE E) (q0 : expF E M x = 0) (q2 : fracF M x ≠ 0) (w : World) :
    Calls Oabg.prog 66 #[fmtV E M, .int .u64 x] w fun e w' => e = .returned (partsV (negF E M x) 1 (1 - biasN E - M - (M + 1 - blen (fracF M x) : Nat)) (fracF M x * 2 ^ (M + 1 - blen (fracF M x)))) ∧ Below w.heap.size w w' := by
  have h' := h
  have hsg := and_sgn h hx
  have ht : IntKind.u64.wrap (IntKind.u64.wrap (2 ^ E) - 1) = (topE E : Nat) := w64_pow1 (by have := h.e2; omega)
  have hex := and_expF h hx
  rw [ht] at hex
  have hfr := and_fracF h hx
  have hle := expF_le h x
  have hlt := fracF_lt M x
  obtain ⟨N, hN⟩ : ∃ b, b = negF E M x := ⟨_, rfl⟩
  obtain ⟨X, hX⟩ : ∃ b, b = expF E M x := ⟨_, rfl⟩
  obtain ⟨F, hF⟩ : ∃ b, b = fracF M x := ⟨_, rfl⟩
  obtain ⟨T, hT⟩ : ∃ b, b = topE E := ⟨_, rfl⟩
  simp only [← hN, ← hX, ← hF, ← hT] at *
  clear hN hX hF hT
  obtain ⟨h1, h2, h3, h4⟩ := h
  have p1 : ((X : Int) == (T : Int)) = false := by rw [beq_eq_false_iff_ne]; omega
  have p0 : ((X : Int) == 0) = true := by rw [beq_iff_eq]; omega
  have p2 : ((F : Int) == 0) = false := by rw [beq_eq_false_iff_ne]; omega
  have hS := fun w => subnormal_yes h' N F (by omega) hlt w
  obtain ⟨e, hE⟩ : ∃ e : Int, e = 1 - biasN E - M - (M + 1 - blen F : Nat) := ⟨_, rfl⟩
  obtain ⟨m, hM⟩ : ∃ m, m = F * 2 ^ (M + 1 - blen F) := ⟨_, rfl⟩
  simp only [← hE, ← hM] at hS ⊢
  have HS : Hid (∀ w : World, Calls Oabg.prog 104 #[.agg #[.int .u8 E, .int .u8 M], .bool N, .int .u64 F] w fun r w' => r = .returned (.agg #[.bool N, .int .i8 1, .int .i16 e, .int .u64 m]) ∧ Below w.heap.size w w') := hS
  clear q1 q2 q0 hE hM hS hlt
  unfold fmtV
  go_enter Oabg.func66, Oabg.ntmps66
  go_wp2_with fail
  go_at_call 23
  obtain ⟨W, hW⟩ : ∃ W, W = UW w E M := ⟨_, rfl⟩
  have hU := UAt.start w E M
  rw [← hW] at hU
  rw [show ((w.alloc (Obj.cells #[Value.int IntKind.u8 E, Value.int IntKind.u8 M] 39)).alloc (Obj.cells #[Value.bool false, Value.int IntKind.i8 0, Value.int IntKind.i16 0, Value.int IntKind.u64 0] 99)) = W from hW.symm]
  refine (ok_yes h' _).mono ?_
  rintro e w1 ⟨rfl, hb⟩
  obtain ⟨c0, c1, r0, r1, r2, r3, rf, hs, HU⟩ := (hU.step hb).all
  clear hb hU hW
  go_wp2_with (first
    | (go_at_call 97; refine (signBit_yes h' _).mono ?_; rintro e w1 ⟨rfl, hb⟩; obtain ⟨c0, c1, r0, r1, r2, r3, rf, hs, HU⟩ := (HU.out.step hb).all; clear hb)
    | (go_at_call 104; refine (HS.out _).mono ?_; rintro r w1 ⟨rfl, hb⟩; obtain ⟨c0, c1, r0, r1, r2, r3, rf, hs, HU⟩ := (HU.out.step hb).all; clear hb))
  refine bodyPost_ret (v := partsV N 1 e m) (by simp [results, Oabg.results66, go_sem, r0, r1, r2, r3]; rfl) rfl ⟨rfl, below_set4 HU.out.below (by omega)⟩

set_option maxHeartbeats 4000000 in
theorem unpack_nor {E M : Nat} (h : FOk E M) (x : Nat) (hx : x < 18446744073709551616) (q1 : expF E M x ≠ topE E) (q0 : expF E M x ≠ 0) (w : World) :
    Calls Oabg.prog 66 #[fmtV E M, .int .u64 x] w fun e w' => e = .returned (partsV (negF E M x) 2 ((expF E M x : Int) - biasN E - M) (2 ^ M + fracF M x)) ∧ Below w.heap.size w w' := by
  have h' := h
  have hsg := and_sgn h hx
  have ht : IntKind.u64.wrap (IntKind.u64.wrap (2 ^ E) - 1) = (topE E : Nat) := w64_pow1 (by have := h.e2; omega)
  have hex := and_expF h hx
  rw [ht] at hex
  have hfr := and_fracF h hx
  have hle := expF_le h x
  have hlt := fracF_lt M x
  obtain ⟨N, hN⟩ : ∃ b, b = negF E M x := ⟨_, rfl⟩
  obtain ⟨X, hX⟩ : ∃ b, b = expF E M x := ⟨_, rfl⟩
  obtain ⟨F, hF⟩ : ∃ b, b = fracF M x := ⟨_, rfl⟩
  obtain ⟨T, hT⟩ : ∃ b, b = topE E := ⟨_, rfl⟩
  simp only [← hN, ← hX, ← hF, ← hT] at *
  clear hN hX hF hT
  obtain ⟨h1, h2, h3, h4⟩ := h
  have p1 : ((X : Int) == (T : Int)) = false := by rw [beq_eq_false_iff_ne]; omega
  have p0 : ((X : Int) == 0) = false := by rw [beq_eq_false_iff_ne]; omega
  have he := nor_exp h' hle
  have hm := or_hid h4 hlt
  obtain ⟨e, hE⟩ : ∃ e : Int, e = (X : Int) - biasN E - M := ⟨_, rfl⟩
  obtain ⟨m, hM⟩ : ∃ m, m = 2 ^ M + F := ⟨_, rfl⟩
  simp only [← hE, ← hM] at he hm ⊢
  clear q1 q0 hE hM hlt
  unfold fmtV
  go_enter Oabg.func66, Oabg.ntmps66
  go_wp2_with fail
  go_at_call 23
  obtain ⟨W, hW⟩ : ∃ W, W = UW w E M := ⟨_, rfl⟩
  have hU := UAt.start w E M
  rw [← hW] at hU
  rw [show ((w.alloc (Obj.cells #[Value.int IntKind.u8 E, Value.int IntKind.u8 M] 39)).alloc (Obj.cells #[Value.bool false, Value.int IntKind.i8 0, Value.int IntKind.i16 0, Value.int IntKind.u64 0] 99)) = W from hW.symm]
  refine (ok_yes h' _).mono ?_
  rintro e w1 ⟨rfl, hb⟩
  obtain ⟨c0, c1, r0, r1, r2, r3, rf, hs, HU⟩ := (hU.step hb).all
  clear hb hU hW
  go_wp2_with (first
    | (go_at_call 97; refine (signBit_yes h' _).mono ?_; rintro e w1 ⟨rfl, hb⟩; obtain ⟨c0, c1, r0, r1, r2, r3, rf, hs, HU⟩ := (HU.out.step hb).all; clear hb))
  clear hsg ht hex hfr p1 p0
  go_region_with (first | (go_at_call 105; refine (bias_yes h' _).mono ?_; rintro r w1 ⟨rfl, hb⟩; obtain ⟨c0, c1, r0, r1, r2, r3, rf, hs, HU⟩ := (HU.out.drew.step hb).all; clear hb))
  all_goals go_wp2
  all_goals refine bodyPost_ret (v := partsV N 2 e m) (by simp [results, Oabg.results66, go_sem, r0, r1, r2, r3]; rfl) rfl ⟨rfl, below_set4 HU.out.below (by omega)⟩

/-- what Unpack answers -/
def pNeg (E M x : Nat) : Bool := if expF E M x = topE E ∧ fracF M x ≠ 0 then false else negF E M x
def pExp (E M x : Nat) : Int := if expF E M x = topE E then 0 else if expF E M x = 0 then (if fracF M x = 0 then 0 else 1 - biasN E - M - (M + 1 - blen (fracF M x) : Nat)) else (expF E M x : Int) - biasN E - M
def pMan (E M x : Nat) : Nat := if expF E M x = topE E then 0 else if expF E M x = 0 then (if fracF M x = 0 then 0 else fracF M x * 2 ^ (M + 1 - blen (fracF M x))) else 2 ^ M + fracF M x

theorem unpack_yes {E M : Nat} (h : FOk E M) (x : Nat) (hx : x < 18446744073709551616) (w : World) :
    Calls Oabg.prog 66 #[fmtV E M, .int .u64 x] w fun e w' => e = .returned (partsV (pNeg E M x) (clsF E M x) (pExp E M x) (pMan E M x)) ∧ Below w.heap.size w w' := by
  by_cases q1 : expF E M x = topE E
  · by_cases q2 : fracF M x = 0
    · have := unpack_inf h x hx q1 q2 w
      simpa only [pNeg, pExp, pMan, clsF, q1, q2, if_true, ne_eq, not_true_eq_false, and_false, if_false] using this
    · have := unpack_nan h x hx q1 q2 w
      simpa only [pNeg, pExp, pMan, clsF, q1, q2, if_true, ne_eq, not_false_eq_true, and_true, if_false] using this
  · by_cases q0 : expF E M x = 0
    · by_cases q2 : fracF M x = 0
      · have := unpack_zero h x hx q1 q0 q2 w
        have e : clsF E M x = 0 := by unfold clsF; rw [if_neg q1, if_neg (by omega), if_neg (by omega)]
        rw [e]
        unfold pNeg pExp pMan
        rw [if_neg (fun h => q1 h.1), if_neg q1, if_neg q1, if_pos q0, if_pos q0, if_pos q2, if_pos q2]
        exact this
      · have := unpack_sub h x hx q1 q0 q2 w
        have e : clsF E M x = 1 := by unfold clsF; rw [if_neg q1, if_neg (by omega), if_pos q2]
        rw [e]
        unfold pNeg pExp pMan
        rw [if_neg (fun h => q1 h.1), if_neg q1, if_neg q1, if_pos q0, if_pos q0, if_neg q2, if_neg q2]
        exact this
    · have := unpack_nor h x hx q1 q0 w
      have e : clsF E M x = 2 := by unfold clsF; rw [if_neg q1, if_pos q0]
      rw [e]
      unfold pNeg pExp pMan
      rw [if_neg (fun h => q1 h.1), if_neg q1, if_neg q1, if_neg q0, if_neg q0]
      exact this

end Go.Proofs.Ygcoab
