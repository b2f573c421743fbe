import Derived.Test.YgcoabWSqrtA
import Derived.Test.YgcoabWBinOps
namespace Go.Proofs.Ygcoab
open Go.RowKit

set_option maxRecDepth 100000 in
set_option maxHeartbeats 4000000 in
theorem sqrtFlags_fin {E M : Nat} (h : FOk E M) (mode : Nat) (a : Nat) (ha : a < 18446744073709551616) (hf : expF E M a ≠ topE E) (hz : clsF E M a ≠ 0) (hn : negF E M a = false) (w : World) :
    Calls Oabg.prog 92 #[fmtV E M, .int .u8 mode, .int .u64 a] w (SfPost w E M mode (sqT E M a)) := by
  have h' := h
  have HO : Hid (∀ w : World, Calls Oabg.prog 60 #[.agg #[.int .u8 E, .int .u8 M], .int .u64 a] w fun e w' => ∃ r, e = .returned r ∧ OpIs w' r (a % 2 ^ (E + M + 1)) (negF E M a) (clsF E M a) (vNeg E M a) (vNum E M a) (vDen E M a) ∧ Below w.heap.size w w') := fun w => open_all h a ha w
  have e4 := (cls_not hf).1
  have e3 := (cls_not hf).2
  have e0 : (clsF E M a == 0) = false := by rw [beq_eq_false_iff_ne]; exact hz
  rw [hn] at HO
  obtain ⟨em, hem⟩ : ∃ em, em = eminZ E := ⟨_, rfl⟩
  obtain ⟨ex, hex⟩ : ∃ ex, ex = emaxZ E := ⟨_, rfl⟩
  have hbl := bias_lt h
  have hb1 : em = 1 - (biasN E : Int) := hem
  have hb2 : ex = (biasN E : Int) := hex
  obtain ⟨em2, hem2⟩ : ∃ em2, em2 = 2 * em := ⟨_, rfl⟩
  obtain ⟨ex2, hex2⟩ : ∃ ex2, ex2 = 2 * ex := ⟨_, rfl⟩
  obtain ⟨lo, hlo⟩ : ∃ lo, lo = em2 - 200 := ⟨_, rfl⟩
  obtain ⟨lm, hlm⟩ : ∃ lm, lm = em - 1 := ⟨_, rfl⟩
  have ew1 : IntKind.i64.wrap (2 * em) = em2 := by rw [IntKind.wrap_i64]; omega
  have ew2 : IntKind.i64.wrap (em2 - 200) = lo := by rw [IntKind.wrap_i64]; omega
  have ew3 : IntKind.i64.wrap (2 * ex) = ex2 := by rw [IntKind.wrap_i64]; omega
  have ew4 : IntKind.i64.wrap (em - 1) = lm := by rw [IntKind.wrap_i64]; omega
  obtain ⟨l1, l2⟩ := lg_bounds h hf hz
  obtain ⟨lg, hlg⟩ : ∃ lg, lg = lgZ E M a := ⟨_, rfl⟩
  obtain ⟨re, hre⟩ : ∃ re : Int, re = lg / 2 := ⟨_, rfl⟩
  obtain ⟨ez, hez⟩ : ∃ ez, ez = max re em := ⟨_, rfl⟩
  obtain ⟨sN, hN⟩ := sqN_of h hf hz (real := re) (e := ez) (by rw [hre, hlg]) (by rw [hez, hem])
  have H130 : Hid (∀ w : World, Calls Oabg.prog 130 #[.agg #[.int .u8 E, .int .u8 M]] w fun e w' => e = .returned (.int .i64 em) ∧ Below w.heap.size w w') := fun w => by rw [hem]; exact emin_yes h w
  have H131 : Hid (∀ w : World, Calls Oabg.prog 131 #[.agg #[.int .u8 E, .int .u8 M]] w fun e w' => e = .returned (.int .i64 ex) ∧ Below w.heap.size w w') := fun w => by rw [hex]; exact emax_yes h w
  have HL2 : Hid (∀ (W : World) (u v : Value), IsN W u (vNum E M a) → IsN W v (vDen E M a) → Calls Oabg.prog 129 #[u, v, .int .i64 lo, .int .i64 ex2] W fun e w' => e = .returned (.int .i64 lg) ∧ Below W.heap.size W w') := fun W u v k1 k2 => by
    have := log2_any lo ex2 (by omega) (by omega) (by omega) k1 k2 (small_of (vNum_lt h a) (by have := vb_eq; omega)) (small_of (vDen_lt h a) (by have := vb_eq; omega))
    rw [log2_val h hf hz (by omega) (by omega), ← hlg] at this
    exact this
  obtain ⟨k1, hk1⟩ : ∃ k : Int, k = 2 * ((M : Int) - ez) := ⟨_, rfl⟩
  obtain ⟨k2, hk2⟩ : ∃ k : Int, k = 2 * ((M : Int) - re) := ⟨_, rfl⟩
  have HF1 : Hid (RtFit (sNum (vNum E M a) k1) (shD (vDen E M a) k1)) := hN.fit1 h hf hk1
  have HF2 : Hid (re = lm → RtFit (sNum (vNum E M a) k2) (shD (vDen E M a) k2)) := fun hq => hN.fit2 h hf (by omega) hk2
  have hrb1 := hN.rb1
  have hrb2 := hN.rb2
  have hmx := hN.emax
  have HR1 : Hid (∀ (W : World) (r : Value), RatAt W r (vNeg E M a) (vNum E M a) (vDen E M a) → Calls Oabg.prog 137 #[.agg #[.int .u8 E, .int .u8 M], .int .u8 mode, r, .int .i64 ez] W (RtPost W mode (sNum (vNum E M a) k1) (shD (vDen E M a) k1))) := fun W r k => rootAt_any h mode k ez k1 hk1 (by omega) (small_of (vNum_lt h a) (by have := vb_eq; omega)) (small_of (vDen_lt h a) (by have := vb_eq; omega)) HF1.out
  have HR2 : Hid (re = lm → ∀ (W : World) (r : Value), RatAt W r (vNeg E M a) (vNum E M a) (vDen E M a) → Calls Oabg.prog 137 #[.agg #[.int .u8 E, .int .u8 M], .int .u8 mode, r, .int .i64 re] W (RtPost W mode (sNum (vNum E M a) k2) (shD (vDen E M a) k2))) := fun hq W r k => rootAt_any h mode k re k2 hk2 (by omega) (small_of (vNum_lt h a) (by have := vb_eq; omega)) (small_of (vDen_lt h a) (by have := vb_eq; omega)) (HF2.out hq)
  have HRs : Hid (∀ n, RootOf (sNum (vNum E M a) k1 / shD (vDen E M a) k1) n → SqRes E M mode (sqT E M a) (packP E M mode false ez (rootUp mode n (sNum (vNum E M a) k1) (shD (vDen E M a) k1) % 18446744073709551616))) := fun n hr => hN.res h hf hk1 hr
  have HEB : Hid (eminZ E ≤ ez) := by show eminZ E ≤ ez; omega
  have HE2 : Hid (ez ≤ emaxZ E) := hmx
  have HEZ : Hid (ez = max re em) := hez
  have esh : lg / 2 = re := hre.symm
  have hM2 := h.m2
  have ewM : IntKind.i64.wrap (M : Int) = (M : Int) := by rw [IntKind.wrap_i64]; omega
  obtain ⟨m1, hm1⟩ : ∃ m1 : Int, m1 = (M : Int) + 1 := ⟨_, rfl⟩
  have ewm1 : IntKind.i64.wrap ((M : Int) + 1) = m1 := by rw [IntKind.wrap_i64]; omega
  clear hm1 hM2
  generalize sqT E M a = T at *
  clear hez hN hlg l1 l2 hre hem hex hb1 hb2 hem2 hex2 hlo hlm hbl hk1 hk2 hrb1 hrb2 hmx hf hz hn
  generalize a % 2 ^ (E + M + 1) = y at *
  generalize clsF E M a = c at *
  generalize vNeg E M a = s at *
  generalize hAv : vNum E M a = A at *
  generalize hDv : vDen E M a = D at *
  clear hAv hDv
  generalize sNum A k1 = X1 at *
  generalize shD D k1 = Y1 at *
  generalize sNum A k2 = X2 at *
  generalize shD D k2 = Y2 at *
  unfold fmtV
  go_enter Oabg.func92, Oabg.ntmps92
  go_wp2_with fail
  go_at_call 23
  refine (ok_yes h' _).mono ?_
  rintro ee w1 ⟨rfl, hb1⟩
  obtain ⟨hF1, hB1⟩ := (fmt_start w E M).1.below (fmt_start w E M).2 hb1
  obtain ⟨c0, c1⟩ := hF1.all
  clear hb1
  go_wp2_with fail
  go_at_call 60
  refine (HO.out _).mono ?_
  rintro ee w2 ⟨r, rfl, hr, hb1⟩
  obtain ⟨a1, n1, d1, a2, n2, d2, rfl, i1, j1⟩ := hr
  obtain ⟨hF2, hB2⟩ := hF1.below hB1 hb1
  have hP := OpAt.start (y := y) (N := false) (c := c) (s := s) hF2 hB2 i1 j1
  clear c0 c1 hb1 hF1 hB1 hF2 hB2 i1 j1
  go_upto_region 4 with (fail)
  obtain ⟨W, hW⟩ : ∃ W, W = w2.alloc (.cells #[.int .u64 y, .bool false, .int .i8 c, .bool s, .slice a1 n1 d1, .slice a2 n2 d2] 92) := ⟨_, rfl⟩
  obtain ⟨X, hX⟩ : ∃ X, X = w2.heap.size := ⟨_, rfl⟩
  rw [← hW, ← hX] at hP
  rw [← hW, ← hX]
  clear hW hX
  obtain ⟨⟨c0, c1⟩, ⟨x0, x1, x2, x3, x4, x5⟩, HK⟩ := hP.all
  clear hP
  go_upto_region 12 with (fail)
  go_cut [9] (fun s9 wx => s9 = .int .i64 re ∧ OpAt w E M X y false c s (.slice a1 n1 d1) (.slice a2 n2 d2) A D wx)
  case first =>
    have HL3 : Hid (∀ W : World, ((W.cell? ⟨w.heap.size, 0, none⟩ = some (.int .u8 E) ∧ W.cell? ⟨w.heap.size, 1, none⟩ = some (.int .u8 M) ∧ W.cell? ⟨X, 4, none⟩ = some (.slice a1 n1 d1) ∧ W.cell? ⟨X, 5, none⟩ = some (.slice a2 n2 d2)) ∧ OpAt w E M X y false c s (.slice a1 n1 d1) (.slice a2 n2 d2) A D W) → Calls Oabg.prog 129 #[.slice a1 n1 d1, .slice a2 n2 d2, .int .i64 lo, .int .i64 ex2] W fun e w' => e = .returned (.int .i64 lg) ∧ Below W.heap.size W w') := fun W k => HL2.out W _ _ k.2.n k.2.d
    clear ew4 ewM ewm1 e4 e3 e0 x0 x1 x2 x3
    go_region_held3 (fun W => (W.cell? ⟨w.heap.size, 0, none⟩ = some (.int .u8 E) ∧ W.cell? ⟨w.heap.size, 1, none⟩ = some (.int .u8 M) ∧ W.cell? ⟨X, 4, none⟩ = some (.slice a1 n1 d1) ∧ W.cell? ⟨X, 5, none⟩ = some (.slice a2 n2 d2)) ∧ OpAt w E M X y false c s (.slice a1 n1 d1) (.slice a2 n2 d2) A D W)
      (first
        | exact ⟨⟨c0, c1, x4, x5⟩, HK.out.drew⟩
        | (with_reducible refine keepOp hb ?_; assumption))
      (first
        | (go_at_call 130; refine (H130.out _).mono ?_; rintro ee w' ⟨rfl, hb⟩)
        | (go_at_call 131; refine (H131.out _).mono ?_; rintro ee w' ⟨rfl, hb⟩)
        | (go_at_call 129; refine (HL3.out _ (by assumption)).mono ?_; rintro ee w' ⟨rfl, hb⟩))
    rename_i hH
    go_wp2
    go_meet
    exact ⟨rfl, hH.2⟩
  case rest =>
  obtain ⟨rfl, hK⟩ := hcut
  clear c0 c1 x0 x1 x2 x3 x4 x5 HK HL2 ew1 ew2 ew3 esh
  obtain ⟨⟨c0, c1⟩, ⟨x0, x1, x2, x3, x4, x5⟩, HK⟩ := hK.all
  clear hK
  go_upto_region 13 with (fail)
  go_cut [10] (fun s10 wx => s10 = .int .i64 ez ∧ OpAt w E M X y false c s (.slice a1 n1 d1) (.slice a2 n2 d2) A D wx)
  case first =>
    clear ew4 ewM ewm1
    go_wp2_with fail
    go_at_call 130
    refine (H130.out _).mono ?_
    rintro ee w4 ⟨rfl, hb⟩
    have HK4 : Hid (OpAt w E M X y false c s (.slice a1 n1 d1) (.slice a2 n2 d2) A D w4) := HK.out.step hb
    clear hb
    go_wp2
    all_goals go_meet
    all_goals exact ⟨congrArg (Value.int IntKind.i64) (by have := HEZ.out; omega), HK4.out⟩
  case rest =>
  obtain ⟨rfl, hK⟩ := hcut
  clear c0 c1 x0 x1 x2 x3 x4 x5 HK
  obtain ⟨⟨c0, c1⟩, ⟨x0, x1, x2, x3, x4, x5⟩, HK⟩ := hK.all
  clear hK
  have HR1' : Hid (Calls Oabg.prog 137 #[.agg #[.int .u8 E, .int .u8 M], .int .u8 mode, .agg #[.bool s, .slice a1 n1 d1, .slice a2 n2 d2], .int .i64 ez] _ (RtPost _ mode X1 Y1)) := HR1.out _ _ ⟨a1, n1, d1, a2, n2, d2, rfl, HK.out.n, HK.out.d⟩
  go_wp2_with fail
  go_at_call 137
  refine HR1'.out.mono ?_
  rintro ee w6 ⟨a3, n3, d3, rn0, hf, sm, rfl, hx, hro, hb⟩
  obtain ⟨rn, hrn⟩ : ∃ rn, rn = rootUp mode rn0 X1 Y1 := ⟨_, rfl⟩
  rw [← hrn] at hx
  obtain ⟨rm, hrm⟩ : ∃ rm, rm = rn % 18446744073709551616 := ⟨_, rfl⟩
  obtain ⟨Z, hZ⟩ : ∃ Z, Z = packP E M mode false ez rm := ⟨_, rfl⟩
  have HRes : Hid (SqRes E M mode T Z) := by
    have := HRs.out rn0 hro
    rw [← hrn, ← hrm, ← hZ] at this
    exact this
  have HPk : Hid (∀ (W : World) (t : Bool), Calls Oabg.prog 134 #[fmtV E M, .int .u8 mode, .bool false, .int .i64 ez, .int .u64 rm, .agg #[.int .i8 hf, .bool sm], .bool t] W (RfPost W Z)) := fun W t => by
    rw [hZ]
    exact pack_any h' mode false ez rm hf sm t HEB.out HE2.out W
  have HT : Hid (∀ (W : World) (x : Value), IsN W x rn → Calls Oabg.prog 103 #[x] W fun e w' => e = .returned (.int .u64 rm) ∧ w' = W) := fun W x hx => by
    rw [hrm]
    exact toU64_any hx
  have hG := OgAt.start hf sm (HK.out.step hb) hx
  clear c0 c1 x0 x1 x2 x3 x4 x5 HK hb hx hro hrn hrm hZ HRs HR1 HR1'
  go_upto_region 15 with (fail)
  obtain ⟨W8, hW⟩ : ∃ W8, W8 = w6.alloc (.cells #[.int .i8 hf, .bool sm] 136) := ⟨_, rfl⟩
  obtain ⟨Q, hQ⟩ : ∃ Q, Q = w6.heap.size := ⟨_, rfl⟩
  rw [← hW, ← hQ] at hG
  rw [← hW, ← hQ]
  clear hW hQ
  have HT2 : Hid (∀ W : World, ((W.cell? ⟨w.heap.size, 0, none⟩ = .some (.int .u8 E) ∧ W.cell? ⟨w.heap.size, 1, none⟩ = .some (.int .u8 M) ∧ W.cell? ⟨Q, 0, none⟩ = .some (.int .i8 hf) ∧ W.cell? ⟨Q, 1, none⟩ = .some (.bool sm)) ∧ OgAt w E M X y false c s (.slice a1 n1 d1) (.slice a2 n2 d2) A D Q hf sm (.slice a3 n3 d3) rn W) → Calls Oabg.prog 103 #[.slice a3 n3 d3] W fun e w' => e = .returned (.int .u64 rm) ∧ w' = W) := fun W k => HT.out _ _ k.2.xn
  clear HT
  have hK := hG
  clear hG
  obtain ⟨⟨c0, c1⟩, ⟨x3, x4, x5⟩, ⟨r0, r1⟩, HK⟩ := hK.all
  clear hK
  go_wp2_with fail
  go_at_call 130
  refine (H130.out _).mono ?_
  rintro ee w9 ⟨rfl, hb⟩
  have hK := HK.out.step hb
  clear c0 c1 x3 x4 x5 r0 r1 HK hb
  obtain ⟨⟨c0, c1⟩, ⟨x3, x4, x5⟩, ⟨r0, r1⟩, HK⟩ := hK.all
  clear hK
  go_wp2_with fail
  go_at_call 130
  refine (H130.out _).mono ?_
  rintro ee w10 ⟨rfl, hb⟩
  have hK := HK.out.step hb
  clear c0 c1 x3 x4 x5 r0 r1 HK hb
  by_cases hq : re = lm
  · have hqb : (re == lm) = true := by rw [hq]; exact beq_self_eq_true _
    have HR2' : Hid (∀ (W : World) (r : Value), RatAt W r s A D → Calls Oabg.prog 137 #[.agg #[.int .u8 E, .int .u8 M], .int .u8 mode, r, .int .i64 re] W (RtPost W mode X2 Y2)) := HR2.out hq
    have HF2' : Hid (RtFit X2 Y2) := HF2.out hq
    clear hq HR2 HF2
    obtain ⟨⟨c0, c1⟩, ⟨x3, x4, x5⟩, ⟨r0, r1⟩, HK⟩ := hK.all
    clear hK
    go_wp2_with fail
    go_at_call 137
    refine (HR2'.out _ _ ⟨a1, n1, d1, a2, n2, d2, rfl, HK.out.op.n, HK.out.op.d⟩).mono ?_
    rintro ee w12 ⟨a5, n5, d5, rn2, hf2, sm2, rfl, hx, hro, hb⟩
    have HFr : Hid (FitW (rootUp mode rn2 X2 Y2)) := ⟨(HF2'.out.rn hro).c.le (by unfold rootUp; split <;> omega)⟩
    have hA := below_alloc w12 (.cells #[.int .i8 hf2, .bool sm2] 136)
    have hK := (HK.out.step hb).step hA
    have hX := hx.step hA
    clear c0 c1 x3 x4 x5 r0 r1 HK hb hx hA hro HR2' HF2'
    generalize rootUp mode rn2 X2 Y2 = rr2 at *
    go_upto_region 18 with (fail)
    obtain ⟨W13, hW⟩ : ∃ W13, W13 = w12.alloc (.cells #[.int .i8 hf2, .bool sm2] 136) := ⟨_, rfl⟩
    rw [← hW] at hK hX ⊢
    clear hW
    obtain ⟨bl, hbl⟩ : ∃ bl, bl = blen rr2 := ⟨_, rfl⟩
    have HB98 : Hid (∀ W : World, (W.cell? ⟨w.heap.size, 1, none⟩ = some (.int .u8 M)) ∧ (OgAt w E M X y false c s (.slice a1 n1 d1) (.slice a2 n2 d2) A D Q hf sm (.slice a3 n3 d3) rn W ∧ IsN W (.slice a5 n5 d5) rr2) → Calls Oabg.prog 98 #[.slice a5 n5 d5] W fun e w' => e = .returned (.int .i64 bl) ∧ w' = W) := fun W k => by
      rw [hbl]
      exact bitLen_any k.2.2 HFr.out.f
    clear hbl
    go_cut [13] (fun s13 wx => (∃ t, s13 = .bool t) ∧ OgAt w E M X y false c s (.slice a1 n1 d1) (.slice a2 n2 d2) A D Q hf sm (.slice a3 n3 d3) rn wx)
    case first =>
      obtain ⟨⟨c0, c1⟩, ⟨x3, x4, x5⟩, ⟨r0, r1⟩, HK⟩ := hK.all
      clear hK c0 x3 x4 x5 r0 r1
      have HXX : Hid (IsN W13 (.slice a5 n5 d5) rr2) := hX
      clear hX
      go_region_held3 (fun W => (W.cell? ⟨w.heap.size, 1, none⟩ = some (.int .u8 M)) ∧ (OgAt w E M X y false c s (.slice a1 n1 d1) (.slice a2 n2 d2) A D Q hf sm (.slice a3 n3 d3) rn W ∧ IsN W (.slice a5 n5 d5) rr2))
        (first
          | exact ⟨c1, HK.out.drew, HXX.out.drew⟩
          | assumption)
        (first
          | (go_at_call 98; refine (HB98.out _ (by assumption)).mono ?_; rintro ee w' ⟨rfl, hq⟩; obtain rfl := hq.symm))
      rename_i hH
      go_wp2
      go_meet
      exact ⟨⟨_, rfl⟩, hH.2.1⟩
    case rest =>
    obtain ⟨⟨t, rfl⟩, hK⟩ := hcut
    clear hX HB98 ewm1 ewM ew4 hqb
    go_upto_region 19 with (fail)
    obtain ⟨⟨c0, c1⟩, ⟨x3, x4, x5⟩, ⟨r0, r1⟩, HK⟩ := hK.all
    clear hK
    go_region_held3 (fun W => (W.cell? ⟨w.heap.size, 0, none⟩ = .some (.int .u8 E) ∧ W.cell? ⟨w.heap.size, 1, none⟩ = .some (.int .u8 M) ∧ W.cell? ⟨Q, 0, none⟩ = .some (.int .i8 hf) ∧ W.cell? ⟨Q, 1, none⟩ = .some (.bool sm)) ∧ OgAt w E M X y false c s (.slice a1 n1 d1) (.slice a2 n2 d2) A D Q hf sm (.slice a3 n3 d3) rn W)
      (first
        | exact ⟨⟨c0, c1, r0, r1⟩, HK.out.drew⟩
        | assumption
        | (with_reducible refine keepOg hb ?_; assumption))
      (first
        | (go_at_call 103; refine (HT2.out _ (by assumption)).mono ?_; rintro ee w' ⟨rfl, hq⟩; obtain rfl := hq.symm)
        | (go_at_call 134; refine (HPk.out _ _).mono ?_; rintro ee w' ⟨fl, rfl, hb⟩))
    rename_i hH
    go_wp2
    go_ret2
    exact ⟨_, HRes.out, _, rfl, hH.2.op.below⟩
  · have hqb : (re == lm) = false := by rw [beq_eq_false_iff_ne]; exact hq
    clear hq HR2 HF2
    go_upto_region 19 with (fail)
    clear ewm1 ewM ew4 hqb
    obtain ⟨⟨c0, c1⟩, ⟨x3, x4, x5⟩, ⟨r0, r1⟩, HK⟩ := hK.all
    clear hK
    go_region_held3 (fun W => (W.cell? ⟨w.heap.size, 0, none⟩ = .some (.int .u8 E) ∧ W.cell? ⟨w.heap.size, 1, none⟩ = .some (.int .u8 M) ∧ W.cell? ⟨Q, 0, none⟩ = .some (.int .i8 hf) ∧ W.cell? ⟨Q, 1, none⟩ = .some (.bool sm)) ∧ OgAt w E M X y false c s (.slice a1 n1 d1) (.slice a2 n2 d2) A D Q hf sm (.slice a3 n3 d3) rn W)
      (first
        | exact ⟨⟨c0, c1, r0, r1⟩, HK.out.drew⟩
        | assumption
        | (with_reducible refine keepOg hb ?_; assumption))
      (first
        | (go_at_call 103; refine (HT2.out _ (by assumption)).mono ?_; rintro ee w' ⟨rfl, hq⟩; obtain rfl := hq.symm)
        | (go_at_call 134; refine (HPk.out _ _).mono ?_; rintro ee w' ⟨fl, rfl, hb⟩))
    rename_i hH
    go_wp2
    go_ret2
    exact ⟨_, HRes.out, _, rfl, hH.2.op.below⟩

end Go.Proofs.Ygcoab
