import Derived.Test.YgcoabWZeros
import Derived.Test.YgcoabWSqrtA
namespace Go.Proofs.Ygcoab
open Go.RowKit

def unitsN (A D : Nat) (k : Int) : Nat := raisedN 0 false (A * tenD k) (D * tenN k)

theorem logFit_val {E M : Nat} (h : FOk E M) (x : Nat) : LogFit (vNum E M x) (vDen E M x) := ⟨vNum_lt h x, vDen_lt h x, vDen_pos E M x⟩

theorem unitsN_lt {A D : Nat} (h : LogFit A D) {k : Int} (h1 : -2700 ≤ k) : unitsN A D k < 2 ^ dgB := by
  have hg := dgB_eq
  have hb := b5_eq
  have hv := vb_eq
  have h2 : A * tenD k < 2 ^ (vb + b5) := lt_mul_pow h.a (tenD_b5 h1) (Nat.le_refl _)
  have h3 := raisedN_le 0 false (B := D * tenN k) h2
  exact Nat.lt_of_le_of_lt h3 (Nat.pow_lt_pow_right (by omega) (by omega))

/-- a number, shut -/
structure LtW (n : Nat) : Prop where
  f : n < 2 ^ dgB

def DfPost (w : World) (N : Nat) (e : Ending) (w' : World) : Prop := ∃ b, e = .returned (.string b) ∧ DigS N b ∧ Below w.heap.size w w'

set_option maxRecDepth 100000 in
set_option maxHeartbeats 2000000 in
theorem digitsF_fin {E M : Nat} (h : FOk E M) (x : Nat) (hx : x < 18446744073709551616) (hf : expF E M x ≠ topE E) (prec : Nat) (hp : prec ≤ 2000) (w : World) :
    Calls Oabg.prog 25 #[fmtV E M, .int .u64 x, .int .u16 prec] w (DfPost w (unitsN (vNum E M x) (vDen E M x) (-(prec : Int)))) := by
  have h' := h
  have HO : Hid (∀ w : World, Calls Oabg.prog 60 #[.agg #[.int .u8 E, .int .u8 M], .int .u64 x] w fun e w' => ∃ r, e = .returned r ∧ OpIs w' r (x % 2 ^ (E + M + 1)) (negF E M x) (clsF E M x) (vNeg E M x) (vNum E M x) (vDen E M x) ∧ Below w.heap.size w w') := fun w => open_all h x hx w
  have e4 := (cls_not hf).1
  have e3 := (cls_not hf).2
  have HL : Hid (LtW (unitsN (vNum E M x) (vDen E M x) (-(prec : Int)))) := ⟨unitsN_lt (logFit_val h x) (by omega)⟩
  have HU : Hid (∀ (W : World) (r : Value), RatAt W r (vNeg E M x) (vNum E M x) (vDen E M x) → Calls Oabg.prog 63 #[r, .int .i64 (-(prec : Int))] W fun e w' => ∃ v, e = .returned v ∧ IsN w' v (unitsN (vNum E M x) (vDen E M x) (-(prec : Int))) ∧ Below W.heap.size W w') := fun W r k => unitsOf_any k (logFit_val h x) (-(prec : Int)) (by omega) (by omega)
  have hgt : decide (2000 < (prec : Int)) = false := decide_eq_false (by omega)
  have ewp : IntKind.i64.wrap (prec : Int) = (prec : Nat) := by rw [IntKind.wrap_i64]; omega
  obtain ⟨mp, hmp⟩ : ∃ mp : Int, mp = -(prec : Int) := ⟨_, rfl⟩
  have ewn : IntKind.i64.wrap (-(prec : Int)) = mp := by rw [IntKind.wrap_i64]; omega
  rw [← hmp] at HU HL ⊢
  clear hmp hf
  generalize unitsN (vNum E M x) (vDen E M x) mp = R at *
  generalize x % 2 ^ (E + M + 1) = y at *
  generalize negF E M x = N at *
  generalize clsF E M x = c at *
  generalize vNeg E M x = s at *
  generalize vNum E M x = A at *
  generalize vDen E M x = D at *
  unfold fmtV
  go_enter Oabg.func25, Oabg.ntmps25
  go_wp2_with fail
  go_at_call 23
  refine (ok_yes h' _).mono ?_
  rintro ee w1 ⟨rfl, hb1⟩
  obtain ⟨hF1, hB1⟩ := (fmt_start w E M).1.below (fmt_start w E M).2 hb1
  obtain ⟨c0, c1⟩ := hF1.all
  clear hb1
  go_wp2_with fail
  go_at_call 60
  refine (HO.out _).mono ?_
  rintro ee w2 ⟨r, rfl, hr, hb1⟩
  obtain ⟨a1, n1, d1, a2, n2, d2, rfl, i1, j1⟩ := hr
  obtain ⟨hF2, hB2⟩ := hF1.below hB1 hb1
  have hP := OpAt.start (y := y) (N := N) (c := c) (s := s) hF2 hB2 i1 j1
  clear c0 c1 hb1 hF1 hB1 hF2 hB2 i1 j1
  go_upto_region 4 with (fail)
  obtain ⟨W, hW⟩ : ∃ W, W = w2.alloc (.cells #[.int .u64 y, .bool N, .int .i8 c, .bool s, .slice a1 n1 d1, .slice a2 n2 d2] 92) := ⟨_, rfl⟩
  obtain ⟨X, hX⟩ : ∃ X, X = w2.heap.size := ⟨_, rfl⟩
  rw [← hW, ← hX] at hP
  rw [← hW, ← hX]
  clear hW hX
  obtain ⟨⟨c0, c1⟩, ⟨x0, x1, x2, x3, x4, x5⟩, HK⟩ := hP.all
  clear hP
  have HU2 : Hid (Calls Oabg.prog 63 #[.agg #[.bool s, .slice a1 n1 d1, .slice a2 n2 d2], .int .i64 mp] W fun e w' => ∃ v, e = .returned v ∧ IsN w' v R ∧ Below W.heap.size W w') := HU.out _ _ ⟨_, _, _, _, _, _, rfl, HK.out.n, HK.out.d⟩
  go_wp2_with fail
  go_at_call 63
  refine HU2.out.mono ?_
  rintro ee w3 ⟨v, rfl, hv, hb⟩
  obtain ⟨a3, n3, d3, rfl⟩ := hv.shape
  have HV : Hid (IsN w3 (.slice a3 n3 d3) R) := hv
  have HB : Hid (Below w.heap.size w w3) := (HK.out.step hb).below
  clear hv hb HU2 c0 c1 x0 x1 x2 x3 x4 x5 HK
  go_wp2_with fail
  go_at_call 64
  refine (digitsOf_any HV.out HL.out.f).mono ?_
  rintro ee w4 ⟨b, rfl, hd, hb⟩
  have HD : Hid (DigS R b) := hd
  have HB2 : Hid (Below w.heap.size w w4) := below_step HB.out HB.out.size hb
  clear hd hb HV HB
  go_wp2
  go_ret
  exact ⟨_, rfl, HD.out, HB2.out⟩

/-- DigitsE's answer: the digits of the units at the value's own leading digit -/
def DePost (w : World) (A D prec : Nat) (e : Ending) (w' : World) : Prop :=
  ∃ b k, LogTen A D k ∧ DigS (unitsN A D (k - prec)) b ∧ Below w.heap.size w w' ∧
    ((prec + 1 < b.size ∧ e = .returned (.tuple #[.string (b.extract 0 (prec + 1)), .int .i16 (k + 1)])) ∨ (b.size ≤ prec + 1 ∧ e = .returned (.tuple #[.string b, .int .i16 k])))

set_option maxRecDepth 100000 in
set_option maxHeartbeats 2000000 in
theorem digitsE_fin {E M : Nat} (h : FOk E M) (x : Nat) (hx : x < 18446744073709551616) (hf : expF E M x ≠ topE E) (hz : clsF E M x ≠ 0) (prec : Nat) (hp : prec ≤ 2000) (w : World) :
    Calls Oabg.prog 24 #[fmtV E M, .int .u64 x, .int .u16 prec] w (DePost w (vNum E M x) (vDen E M x) prec) := by
  have h' := h
  have HO : Hid (∀ w : World, Calls Oabg.prog 60 #[.agg #[.int .u8 E, .int .u8 M], .int .u64 x] w fun e w' => ∃ r, e = .returned r ∧ OpIs w' r (x % 2 ^ (E + M + 1)) (negF E M x) (clsF E M x) (vNeg E M x) (vNum E M x) (vDen E M x) ∧ Below w.heap.size w w') := fun w => open_all h x hx w
  have e4 := (cls_not hf).1
  have e3 := (cls_not hf).2
  have e0 : (clsF E M x == 0) = false := by rw [beq_eq_false_iff_ne]; exact hz
  have HLf : Hid (LogFit (vNum E M x) (vDen E M x)) := logFit_val h x
  have HPa : Hid (0 < vNum E M x) := vNum_pos hf hz
  have hgt : decide (2000 < (prec : Int)) = false := decide_eq_false (by omega)
  have ewp : IntKind.i64.wrap (prec : Int) = (prec : Nat) := by rw [IntKind.wrap_i64]; omega
  clear hf hz
  generalize x % 2 ^ (E + M + 1) = y at *
  generalize negF E M x = N at *
  generalize clsF E M x = c at *
  generalize vNeg E M x = s at *
  generalize vNum E M x = A at *
  generalize vDen E M x = D at *
  unfold fmtV
  go_enter Oabg.func24, Oabg.ntmps24
  go_wp2_with fail
  go_at_call 23
  refine (ok_yes h' _).mono ?_
  rintro ee w1 ⟨rfl, hb1⟩
  obtain ⟨hF1, hB1⟩ := (fmt_start w E M).1.below (fmt_start w E M).2 hb1
  obtain ⟨c0, c1⟩ := hF1.all
  clear hb1
  go_wp2_with fail
  go_at_call 60
  refine (HO.out _).mono ?_
  rintro ee w2 ⟨r, rfl, hr, hb1⟩
  obtain ⟨a1, n1, d1, a2, n2, d2, rfl, i1, j1⟩ := hr
  obtain ⟨hF2, hB2⟩ := hF1.below hB1 hb1
  have hP := OpAt.start (y := y) (N := N) (c := c) (s := s) hF2 hB2 i1 j1
  clear c0 c1 hb1 hF1 hB1 hF2 hB2 i1 j1
  go_upto_region 4 with (fail)
  obtain ⟨W, hW⟩ : ∃ W, W = w2.alloc (.cells #[.int .u64 y, .bool N, .int .i8 c, .bool s, .slice a1 n1 d1, .slice a2 n2 d2] 92) := ⟨_, rfl⟩
  obtain ⟨X, hX⟩ : ∃ X, X = w2.heap.size := ⟨_, rfl⟩
  rw [← hW, ← hX] at hP
  rw [← hW, ← hX]
  clear hW hX
  obtain ⟨⟨c0, c1⟩, ⟨x0, x1, x2, x3, x4, x5⟩, HK⟩ := hP.all
  clear hP
  have HLg : Hid (Calls Oabg.prog 62 #[.agg #[.bool s, .slice a1 n1 d1, .slice a2 n2 d2]] W fun e w' => ∃ k, e = .returned (.int .i64 k) ∧ LogTen A D k ∧ Below W.heap.size W w') := log10_any ⟨_, _, _, _, _, _, rfl, HK.out.n, HK.out.d⟩ HLf.out HPa.out
  go_wp2_with fail
  go_at_call 62
  refine HLg.out.mono ?_
  rintro ee w3 ⟨k, rfl, hk, hb⟩
  have hklo := hk.lo
  have hkhi := hk.hi
  have HKt : Hid (LogTen A D k) := hk
  have hP := HK.out.step hb
  clear c0 c1 x0 x1 x2 x3 x4 x5 HK hb hk HLg
  obtain ⟨⟨c0, c1⟩, ⟨x0, x1, x2, x3, x4, x5⟩, HK⟩ := hP.all
  clear hP
  obtain ⟨kp, hkp⟩ : ∃ kp : Int, kp = k - prec := ⟨_, rfl⟩
  have ewk : IntKind.i64.wrap (k - (prec : Int)) = kp := by rw [IntKind.wrap_i64]; omega
  have HL : Hid (LtW (unitsN A D kp)) := ⟨unitsN_lt HLf.out (by omega)⟩
  have HU2 : Hid (Calls Oabg.prog 63 #[.agg #[.bool s, .slice a1 n1 d1, .slice a2 n2 d2], .int .i64 kp] w3 fun e w' => ∃ v, e = .returned v ∧ IsN w' v (unitsN A D kp) ∧ Below w3.heap.size w3 w') := unitsOf_any ⟨_, _, _, _, _, _, rfl, HK.out.n, HK.out.d⟩ HLf.out kp (by omega) (by omega)
  have HKp : Hid (kp = k - prec) := hkp
  obtain ⟨R, hR⟩ : ∃ R, R = unitsN A D kp := ⟨_, rfl⟩
  have HRe : Hid (R = unitsN A D kp) := hR
  rw [← hR] at HU2 HL
  clear hkp hR
  go_wp2_with fail
  go_at_call 63
  refine HU2.out.mono ?_
  rintro ee w4 ⟨v, rfl, hv, hb⟩
  obtain ⟨a3, n3, d3, rfl⟩ := hv.shape
  have HV : Hid (IsN w4 (.slice a3 n3 d3) R) := hv
  have HB : Hid (Below w.heap.size w w4) := (HK.out.step hb).below
  clear hv hb HU2 c0 c1 x0 x1 x2 x3 x4 x5 HK ewk
  go_wp2_with fail
  go_at_call 64
  refine (digitsOf_any HV.out HL.out.f).mono ?_
  rintro ee w5 ⟨b, rfl, hd, hb⟩
  have HD : Hid (DigS R b) := hd
  have HB2 : Hid (Below w.heap.size w w5) := below_step HB.out HB.out.size hb
  clear hd hb HV HB
  obtain ⟨p1, hp1⟩ : ∃ p1 : Nat, p1 = prec + 1 := ⟨_, rfl⟩
  have ewp1 : IntKind.i64.wrap ((prec : Int) + 1) = (p1 : Nat) := by rw [IntKind.wrap_i64]; omega
  have ewp2 : IntKind.u16.wrap ((prec : Int) + 1) = (p1 : Nat) := by rw [IntKind.wrap_u16]; omega
  by_cases hl : p1 < b.size
  · have hl' : decide ((p1 : Int) < (b.size : Int)) = true := decide_eq_true (by omega)
    have HS : Hid (prec + 1 < b.size) := by show prec + 1 < b.size; omega
    have HP1 : Hid (p1 = prec + 1) := hp1
    clear hp1
    go_wp2
    go_ret2
    exact ⟨b, k, HKt.out, by rw [← HKp.out, ← HRe.out]; exact HD.out, HB2.out, .inl ⟨HS.out, by rw [← HP1.out]; rfl⟩⟩
  · have hl' : decide ((p1 : Int) < (b.size : Int)) = false := decide_eq_false (by omega)
    have HS : Hid (b.size ≤ prec + 1) := by show b.size ≤ prec + 1; omega
    clear hp1
    go_wp2
    go_ret2
    exact ⟨b, k, HKt.out, by rw [← HKp.out, ← HRe.out]; exact HD.out, HB2.out, .inr ⟨HS.out, rfl⟩⟩

end Go.Proofs.Ygcoab
