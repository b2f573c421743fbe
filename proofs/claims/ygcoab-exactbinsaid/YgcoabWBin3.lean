import Derived.Test.YgcoabWBinHead
namespace Go.Proofs.Ygcoab
open Go.RowKit

set_option maxHeartbeats 8000000 in
set_option maxRecDepth 100000 in
theorem exactBin_3 {E M : Nat} (h : FOk E M) (mode : Nat) (op : Int) (a b : Nat) (ha : a < 18446744073709551616) (hb : b < 18446744073709551616) (hop : bits .and .u8 op 3 = 3) (fa : expF E M a ≠ topE E) (fb : expF E M b ≠ topE E) (hz : clsF E M b ≠ 0) (w : World) :
    Calls Oabg.prog 12 #[fmtV E M, .int .u8 mode, .int .u8 op, .int .u64 a, .int .u64 b] w fun e w' => e = .returned (.bool true) ∧ Below w.heap.size w w' := by
  have h' := h
  have HI1 : Hid (∀ w : World, Calls Oabg.prog 26 #[.agg #[.int .u8 E, .int .u8 M], .int .u64 a] w fun e w' => e = .returned (.bool true) ∧ Below w.heap.size w w') := fun w => isFinite_yes h a ha true (by simp [fa]) w
  have HI2 : Hid (∀ w : World, Calls Oabg.prog 26 #[.agg #[.int .u8 E, .int .u8 M], .int .u64 b] w fun e w' => e = .returned (.bool true) ∧ Below w.heap.size w w') := fun w => isFinite_yes h b hb true (by simp [fb]) w
  have HV1 : Hid (∀ w : World, Calls Oabg.prog 27 #[.agg #[.int .u8 E, .int .u8 M], .int .u64 a] w fun e w' => ∃ r, e = .returned (.tuple #[r, .int .i8 (clsF E M a)]) ∧ RatAt w' r (vNeg E M a) (vNum E M a) (vDen E M a) ∧ Below w.heap.size w w') := fun w => value_yes h a ha w
  have HV2 : Hid (∀ w : World, Calls Oabg.prog 27 #[.agg #[.int .u8 E, .int .u8 M], .int .u64 b] w fun e w' => ∃ r, e = .returned (.tuple #[r, .int .i8 (clsF E M b)]) ∧ RatAt w' r (vNeg E M b) (vNum E M b) (vDen E M b) ∧ Below w.heap.size w w') := fun w => value_yes h b hb w
  have HBi : Hid (∀ w : World, Calls Oabg.prog 42 #[.agg #[.int .u8 E, .int .u8 M], .int .u8 mode, .int .u8 3, .int .u64 a, .int .u64 b] w fun e w' => e = .returned (.int .u64 (finDiv E M mode a b : Nat)) ∧ Below w.heap.size w w') := fun w => bin_div (ans_div h mode a b ha hb fa fb hz) w
  have HC2 : Hid (∀ w : World, Calls Oabg.prog 31 #[.agg #[.int .u8 E, .int .u8 M], .int .u64 b] w fun e w' => e = .returned (.int .i8 (clsF E M b)) ∧ Below w.heap.size w w') := fun w => classOf_yes h b hb w
  have hcz : (clsF E M b == 0) = false := by rw [beq_eq_false_iff_ne]; exact hz
  have HP1 : Hid (0 < vDen E M a) := vDen_pos E M a
  have HP2 : Hid (0 < vNum E M b) := vNum_pos fb hz
  clear hz
  have HFR : Hid (FitR (vNum E M a) (vDen E M a) (vNum E M b) (vDen E M b)) := fitR_val h a b
  obtain ⟨got, hgot⟩ : ∃ got, got = finDiv E M mode a b := ⟨_, rfl⟩
  rw [← hgot] at HBi
  unfold finDiv at hgot
  generalize clsF E M a = k1 at *
  generalize clsF E M b = k2 at *
  generalize vNeg E M a = s1 at *
  generalize vNum E M a = A1 at *
  generalize vDen E M a = D1 at *
  generalize vNeg E M b = s2 at *
  generalize vNum E M b = A2 at *
  generalize vDen E M b = D2 at *
  clear fa fb
  have HSm : Hid (Small2 (A1 * D2) (D1 * A2)) := HFR.out.quo HP1.out HP2.out
  have HF4 : Hid (Fit4 A1 D1 A2 D2) := HFR.out.f
  have HG0 : Hid (A1 * D2 = 0 → got = zeroP E M (!(s1 == s2))) := fun hv => by
    rw [hgot]
    unfold roundP
    rw [if_pos hv]
  have HG1 : Hid (¬ A1 * D2 = 0 → got = roundP E M mode (!(s1 == s2)) (A1 * D2) (D1 * A2)) := fun _ => hgot
  clear hgot HFR HP1 HP2
  unfold fmtV
  go_enter Oabg.func12, Oabg.ntmps12
  go_wp2_with fail
  go_at_call 23
  refine (ok_yes h' _).mono ?_
  rintro ee w1 ⟨rfl, hb1⟩
  obtain ⟨hF1, hB1⟩ := (fmt_start w E M).1.below (fmt_start w E M).2 hb1
  obtain ⟨c0, c1⟩ := hF1.all
  clear hb1
  go_wp2_with fail
  go_at_call 26
  refine (HI1.out _).mono ?_
  rintro ee w2 ⟨rfl, hb1⟩
  obtain ⟨hF2, hB2⟩ := hF1.below hB1 hb1
  clear c0 c1 hb1 hF1 hB1
  obtain ⟨c0, c1⟩ := hF2.all
  go_wp2_with fail
  go_at_call 26
  refine (HI2.out _).mono ?_
  rintro ee w3 ⟨rfl, hb1⟩
  obtain ⟨hF1, hB1⟩ := hF2.below hB2 hb1
  clear c0 c1 hb1 hF2 hB2
  obtain ⟨c0, c1⟩ := hF1.all
  go_wp2_with fail
  go_at_call 31
  refine (HC2.out _).mono ?_
  rintro ee w3' ⟨rfl, hb1⟩
  obtain ⟨hF2, hB2⟩ := hF1.below hB1 hb1
  clear c0 c1 hb1 hF1 hB1
  obtain ⟨hF1, hB1⟩ : FAt w.heap.size E M w3' ∧ Below w.heap.size w w3' := ⟨hF2, hB2⟩
  clear hF2 hB2
  obtain ⟨c0, c1⟩ := hF1.all
  go_wp2_with fail
  go_at_call 27
  refine (HV1.out _).mono ?_
  rintro ee w4 ⟨r, rfl, hr, hb1⟩
  obtain ⟨a1, n1, d1, a2, n2, d2, rfl, i1, j1⟩ := hr
  obtain ⟨hF2, hB2⟩ := hF1.below hB1 hb1
  clear c0 c1 hb1 hF1 hB1
  have hA := below_alloc w4 (.cells #[.bool s1, .slice a1 n1 d1, .slice a2 n2 d2] 50)
  have hP := RatV.start w4 s1 (.slice a1 n1 d1) (.slice a2 n2 d2)
  have hlt := hF2.size
  have hF := hF2.step hA
  have hB := below_step hB2 hB2.size hA
  have I1 := i1.step hA
  have J1 := j1.step hA
  clear hF2 hB2 hA i1 j1
  go_upto_region 5 with (fail)
  obtain ⟨W4, hW⟩ : ∃ W, W = w4.alloc (.cells #[.bool s1, .slice a1 n1 d1, .slice a2 n2 d2] 50) := ⟨_, rfl⟩
  obtain ⟨P, hPe⟩ : ∃ P, P = w4.heap.size := ⟨_, rfl⟩
  rw [← hW] at hF hB I1 J1
  rw [← hPe] at hlt
  rw [← hW, ← hPe] at hP
  rw [← hW, ← hPe]
  clear hW hPe
  have HI : Hid (IsN W4 (.slice a1 n1 d1) A1) := I1
  have HJ : Hid (IsN W4 (.slice a2 n2 d2) D1) := J1
  have HP : Hid (RatV P s1 (.slice a1 n1 d1) (.slice a2 n2 d2) W4) := hP
  have HB : Hid (Below w.heap.size w W4) := hB
  have HF : Hid (FAt w.heap.size E M W4) := hF
  obtain ⟨c0, c1⟩ := hF.all
  clear I1 J1 hP hB hF
  go_wp2_with fail
  go_at_call 27
  refine (HV2.out _).mono ?_
  rintro ee w5 ⟨r, rfl, hr, hb1⟩
  obtain ⟨a3, n3, d3, a4, n4, d4, rfl, i2, j2⟩ := hr
  have hA := below_alloc w5 (.cells #[.bool s2, .slice a3 n3 d3, .slice a4 n4 d4] 50)
  have hL : LbAt w E M P w5.heap.size s1 (.slice a1 n1 d1) (.slice a2 n2 d2) A1 D1 s2 (.slice a3 n3 d3) (.slice a4 n4 d4) A2 D2 (w5.alloc (.cells #[.bool s2, .slice a3 n3 d3, .slice a4 n4 d4] 50)) := ⟨(HF.out.step hb1).step hA, (HP.out.step hb1).step hA, RatV.start w5 s2 _ _, (HI.out.step hb1).step hA, (HJ.out.step hb1).step hA, i2.step hA, j2.step hA, (HP.out.step hb1).size, hlt, below_step (below_step HB.out HB.out.size hb1) (Nat.le_trans HB.out.size hb1.size) hA⟩
  clear c0 c1 HI HJ HP HB HF hb1 i2 j2 hA
  go_upto_region 6 with (fail)
  obtain ⟨W5, hW⟩ : ∃ W, W = w5.alloc (.cells #[.bool s2, .slice a3 n3 d3, .slice a4 n4 d4] 50) := ⟨_, rfl⟩
  obtain ⟨Q, hQe⟩ : ∃ Q, Q = w5.heap.size := ⟨_, rfl⟩
  rw [← hW, ← hQe] at hL
  rw [← hW, ← hQe]
  clear hW hQe hlt
  obtain ⟨⟨c0, c1⟩, ⟨x0, x1, x2⟩, ⟨y0, y1, y2⟩, yf, ys, HL⟩ := hL.all
  clear hL
  go_wp2_with fail
  go_at_call 42
  refine (HBi.out _).mono ?_
  rintro ee w6 ⟨rfl, hb1⟩
  have hL := HL.out.step hb1
  clear c0 c1 x0 x1 x2 y0 y1 y2 yf ys HL hb1 HI1 HI2 HV1 HV2 HBi
  obtain ⟨⟨c0, c1⟩, ⟨x0, x1, x2⟩, ⟨y0, y1, y2⟩, yf, ys, HL⟩ := hL.all
  clear hL
  have hL := HL.out
  clear c0 c1 x0 x1 x2 y0 y1 y2 yf ys HL
  go_upto_region 9 with (fail)
  have hA := below_alloc w6 (.cells #[.bool false, .slice none 0 0, .slice none 0 0] 50)
  have hLr := hL.step hA
  have hR := RatV.start w6 false (.slice none 0 0) (.slice none 0 0)
  have hlt := hL.q.size
  clear hL hA
  go_upto_region 10 with (fail)
  obtain ⟨W8, hW⟩ : ∃ W, W = w6.alloc (.cells #[.bool false, .slice none 0 0, .slice none 0 0] 50) := ⟨_, rfl⟩
  obtain ⟨R, hRe⟩ : ∃ R, R = w6.heap.size := ⟨_, rfl⟩
  rw [← hW] at hLr
  rw [← hRe] at hlt
  rw [← hW, ← hRe] at hR
  rw [← hW, ← hRe]
  clear hW hRe
  have HFr : Hid (Calls Oabg.prog 45 #[.agg #[.bool s1, .slice a1 n1 d1, .slice a2 n2 d2], .agg #[.bool s2, .slice a3 n3 d3, .slice a4 n4 d4]] W8 fun e w' => ∃ r, e = .returned r ∧ RatAt w' r (!(s1 == s2)) (A1 * D2) (D1 * A2) ∧ Below W8.heap.size W8 w') := divFrac_any ⟨_, _, _, _, _, _, rfl, hLr.n1, hLr.d1⟩ ⟨_, _, _, _, _, _, rfl, hLr.n2, hLr.d2⟩ HF4.out
  have HR : Hid (RatV R false (.slice none 0 0) (.slice none 0 0) W8) := hR
  have HLt : Hid (Q < R) := hlt
  obtain ⟨⟨c0, c1⟩, ⟨x0, x1, x2⟩, ⟨y0, y1, y2⟩, yf, ys, HL⟩ := hLr.all
  clear hLr hR hlt
  generalize hV : A1 * D2 = V at *
  generalize hZ : D1 * A2 = Z at *
  clear hV hZ
  go_wp2_with fail
  go_at_call 45
  refine HFr.out.mono ?_
  rintro ee w9 ⟨r, rfl, hr, hb1⟩
  obtain ⟨e1, e2, e3, f1, f2, f3, rfl, i3, j3⟩ := hr
  have hL9 := HL.out.step hb1
  have hR9 := HR.out.step hb1
  have hLp := hL9.put (x := .bool (!(s1 == s2))) (y := .slice e1 e2 e3) (z := .slice f1 f2 f3) hR9 HLt.out
  have hRp := hR9.put (s' := !(s1 == s2)) (x := .slice e1 e2 e3) (y := .slice f1 f2 f3)
  have I3 := i3.setV (x := .bool (!(s1 == s2))) (y := .slice e1 e2 e3) (z := .slice f1 f2 f3) hR9
  have J3 := j3.setV (x := .bool (!(s1 == s2))) (y := .slice e1 e2 e3) (z := .slice f1 f2 f3) hR9
  clear c0 c1 x0 x1 x2 y0 y1 y2 yf ys HL HR hb1 HFr i3 j3
  obtain ⟨⟨c0, c1⟩, ⟨x0, x1, x2⟩, ⟨y0, y1, y2⟩, yf, ys, HL⟩ := hL9.all
  obtain ⟨r0, r1, r2, rf, rs, HR⟩ := hR9.all
  clear hL9 hR9
  go_upto_region 21 with (fail)
  clear c0 c1 x0 x1 x2 y0 y1 y2 yf ys HL r0 r1 r2 rf rs HR
  obtain ⟨W9, hW⟩ : ∃ W, W = (((w9.setCell ⟨R, 0, none⟩ (.bool (!(s1 == s2)))).setCell ⟨R, 1, none⟩ (.slice e1 e2 e3)).setCell ⟨R, 2, none⟩ (.slice f1 f2 f3)) := ⟨_, rfl⟩
  rw [← hW] at hLp hRp I3 J3 ⊢
  clear hW
  have hlen := I3.len0
  obtain ⟨⟨c0, c1⟩, ⟨x0, x1, x2⟩, ⟨y0, y1, y2⟩, yf, ys, HL⟩ := hLp.all
  obtain ⟨r0, r1, r2, rf, rs, HR⟩ := hRp.all
  have HI3 : Hid (IsN W9 (.slice e1 e2 e3) V) := I3
  have HJ3 : Hid (IsN W9 (.slice f1 f2 f3) Z) := J3
  clear hLp hRp I3 J3
  by_cases hv : V = 0
  · have hg : zeroP E M (!(s1 == s2)) = got := (HG0.out hv).symm
    rw [decide_eq_true hv] at hlen
    have HZr : Hid (∀ w : World, Calls Oabg.prog 46 #[.agg #[.int .u8 E, .int .u8 M], .bool (!(s1 == s2))] w fun e w' => e = .returned (.int .u64 got) ∧ Below w.heap.size w w') := fun w => by rw [← hg]; exact signedZero_yes h' _ w
    clear hg hv HG0 HG1 HI3 HJ3
    go_wp2_with fail
    go_at_call 46
    refine (HZr.out _).mono ?_
    rintro ee wa ⟨rfl, hb1⟩
    have HBe := (HL.out.step hb1).below
    go_wp2
    go_ret
    exact ⟨by simp, HBe⟩
  · have hg : roundP E M mode (!(s1 == s2)) V Z = got := (HG1.out hv).symm
    rw [decide_eq_false hv] at hlen
    have HZr : Hid (Calls Oabg.prog 47 #[.agg #[.int .u8 E, .int .u8 M], .int .u8 mode, .agg #[.bool (!(s1 == s2)), .slice e1 e2 e3, .slice f1 f2 f3]] W9 fun e w' => e = .returned (.int .u64 got) ∧ Below W9.heap.size W9 w') := by
      show Calls _ _ _ _ _
      rw [← hg]
      exact round_any h' mode ⟨_, _, _, _, _, _, rfl, HI3.out, HJ3.out⟩ HSm.out
    clear hg hv HG0 HG1 HI3 HJ3
    go_wp2_with fail
    go_at_call 47
    refine HZr.out.mono ?_
    rintro ee wa ⟨rfl, hb1⟩
    have HBe := (HL.out.step hb1).below
    go_wp2
    go_ret
    exact ⟨by simp, HBe⟩

end Go.Proofs.Ygcoab
