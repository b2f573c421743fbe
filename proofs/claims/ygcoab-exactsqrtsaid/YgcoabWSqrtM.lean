import Derived.Test.YgcoabWSqrtH
import Derived.Test.YgcoabPlainSqrt4
namespace Go.Proofs.Ygcoab
open Go.RowKit

theorem or_parts {a b : Bool} (h : false = (a || !b)) : a = false ∧ b = true := by
  cases a <;> cases b <;> simp_all

set_option maxRecDepth 100000 in
set_option maxHeartbeats 8000000 in
theorem exactSqrt_fin {E M : Nat} (h : FOk E M) (mode a y : Nat) (ha : a < 18446744073709551616) (hy : y < 18446744073709551616) (hf : expF E M a ≠ topE E) (hz : clsF E M a ≠ 0) (hn : negF E M a = false) (w : World) :
    Calls Oabg.prog 14 #[fmtV E M, .int .u8 mode, .int .u64 a, .int .u64 y] w fun e w' => e = .returned (.bool true) ∧ Below w.heap.size w w' := by
  have h' := h
  have HS : Hid (∀ w : World, Calls Oabg.prog 51 #[.agg #[.int .u8 E, .int .u8 M], .int .u8 mode, .int .u64 a] w fun e w' => ∃ g : Nat, SqRes E M mode (sqT E M a) g ∧ e = .returned (.int .u64 g) ∧ Below w.heap.size w w') := fun w => sqrt_ans (P := SqRes E M mode (sqT E M a)) (fun w => sqrtFlags_fin h mode a ha hf hz hn w) w
  have HC : Hid (∀ w : World, Calls Oabg.prog 31 #[.agg #[.int .u8 E, .int .u8 M], .int .u64 a] w fun e w' => e = .returned (.int .i8 (clsF E M a)) ∧ Below w.heap.size w w') := fun w => classOf_yes h a ha w
  have HNa : Hid (∀ w : World, Calls Oabg.prog 48 #[.agg #[.int .u8 E, .int .u8 M], .int .u64 a] w fun e w' => e = .returned (.bool false) ∧ Below w.heap.size w w') := fun w => by rw [← hn]; exact isNeg_yes h a ha w
  have e4 := (cls_not hf).1
  have e3 := (cls_not hf).2
  have e0 : (clsF E M a == 0) = false := by rw [beq_eq_false_iff_ne]; exact hz
  have HFa : Hid (expF E M a ≠ topE E) := hf
  have HTp : Hid (0 < sqT E M a) := sqT_pos hf hz
  have HVal : Hid (∀ Y : Nat, Y < 2 ^ (E + M) → expF E M Y ≠ topE E → ∀ w : World, Calls Oabg.prog 27 #[.agg #[.int .u8 E, .int .u8 M], .int .u64 Y] w fun e w' => ∃ r, e = .returned (.tuple #[r, .int .i8 (clsF E M Y)]) ∧ RatAt w' r false (vNum E M Y) (vDen E M Y) ∧ Below w.heap.size w w') := fun Y hY fY w => by
    have := value_yes h Y (Nat.lt_trans hY (sgnB_lt h)) w
    rw [vNeg_finite fY, pat_neg hY] at this
    exact this
  have HVa : Hid (∀ w : World, Calls Oabg.prog 27 #[.agg #[.int .u8 E, .int .u8 M], .int .u64 a] w fun e w' => ∃ r, e = .returned (.tuple #[r, .int .i8 (clsF E M a)]) ∧ RatAt w' r false (vNum E M a) (vDen E M a) ∧ Below w.heap.size w w') := fun w => by
    have := value_yes h a ha w
    rw [vNeg_finite hf, hn] at this
    exact this
  obtain ⟨y1, hy1⟩ : ∃ y1, y1 = y % 2 ^ (E + M + 1) := ⟨_, rfl⟩
  have hy1l : y1 < 18446744073709551616 := by rw [hy1]; exact Nat.lt_of_le_of_lt (Nat.mod_le _ _) hy
  have HTy : Hid (∀ w : World, Calls Oabg.prog 52 #[.agg #[.int .u8 E, .int .u8 M], .int .u64 y] w fun e w' => e = .returned (.int .u64 y1) ∧ Below w.heap.size w w') := fun w => by rw [hy1]; exact cutTo_yes h y w
  obtain ⟨ny, hny⟩ : ∃ b, b = negF E M y1 := ⟨_, rfl⟩
  obtain ⟨fy, hfy⟩ : ∃ b, b = !decide (expF E M y1 = topE E) := ⟨_, rfl⟩
  have HNy : Hid (∀ w : World, Calls Oabg.prog 48 #[.agg #[.int .u8 E, .int .u8 M], .int .u64 y1] w fun e w' => e = .returned (.bool ny) ∧ Below w.heap.size w w') := fun w => by rw [hny]; exact isNeg_yes h y1 hy1l w
  have HIy : Hid (∀ w : World, Calls Oabg.prog 26 #[.agg #[.int .u8 E, .int .u8 M], .int .u64 y1] w fun e w' => e = .returned (.bool fy) ∧ Below w.heap.size w w') := fun w => isFinite_yes h y1 hy1l fy hfy w
  have HYl0 : Hid (ny = false → y1 < 2 ^ (E + M)) := fun hq => by
    rw [hny, hy1] at hq
    rw [hy1]
    exact cut_small hq
  have HYf0 : Hid (fy = true → expF E M y1 ≠ topE E) := fun hq => by
    rw [hfy] at hq
    simpa using hq
  clear hy1 hny hfy hf hz hn hy hy1l ha
  generalize hkc : clsF E M a = kc at e0 e3 e4 HC
  clear hkc
  unfold fmtV
  go_enter Oabg.func14, Oabg.ntmps14
  have hB0 := fmt_start w E M
  go_wp2_with fail
  go_at_call 23
  refine (ok_yes h' _).mono ?_
  rintro e w1 ⟨rfl, hb⟩
  have hFB := fb_step hB0 hb
  obtain ⟨c0, c1⟩ := hFB.1.all
  clear hb hB0
  go_wp2_with fail
  go_at_call 51
  refine (HS.out _).mono ?_
  rintro e w2 ⟨g, hres, rfl, hb⟩
  have hFB := fb_step hFB hb
  clear hb c0 c1
  obtain ⟨c0, c1⟩ := hFB.1.all
  have hg0 := (hres.pat HTp.out).1
  have hgt := (hres.pat HTp.out).2
  have hgl : g < 2 ^ (E + M) := Nat.lt_trans hgt (topS_lt h')
  have HRes : Hid (SqRes E M mode (sqT E M a) g) := hres
  have HGl : Hid (g < 2 ^ (E + M)) := hgl
  have HGf : Hid (expF E M g ≠ topE E) := pat_fin hgt
  have hg64 : g < 18446744073709551616 := Nat.lt_trans hgl (sgnB_lt h')
  have HTg : Hid (∀ w : World, Calls Oabg.prog 52 #[.agg #[.int .u8 E, .int .u8 M], .int .u64 g] w fun e w' => e = .returned (.int .u64 g) ∧ Below w.heap.size w w') := fun w => by
    have := cutTo_yes h' g w
    rw [Nat.mod_eq_of_lt (Nat.lt_trans hgl (Nat.pow_lt_pow_right (by omega) (by omega)))] at this
    exact this
  have HNg : Hid (∀ w : World, Calls Oabg.prog 48 #[.agg #[.int .u8 E, .int .u8 M], .int .u64 g] w fun e w' => e = .returned (.bool false) ∧ Below w.heap.size w w') := fun w => by
    have := isNeg_yes h' g hg64 w
    rw [pat_neg hgl] at this
    exact this
  have HIg : Hid (∀ w : World, Calls Oabg.prog 26 #[.agg #[.int .u8 E, .int .u8 M], .int .u64 g] w fun e w' => e = .returned (.bool true) ∧ Below w.heap.size w w') := fun w => isFinite_yes h' g hg64 true (by simp [HGf.out]) w
  have HVg : Hid (∀ w : World, Calls Oabg.prog 27 #[.agg #[.int .u8 E, .int .u8 M], .int .u64 g] w fun e w' => ∃ r, e = .returned (.tuple #[r, .int .i8 (clsF E M g)]) ∧ RatAt w' r false (vNum E M g) (vDen E M g) ∧ Below w.heap.size w w') := HVal.out g hgl HGf.out
  have hgz : ((g : Int) == 0) = false := by rw [beq_eq_false_iff_ne]; omega
  clear hres hg0 hgt hgl hg64 HTp HS
  go_wp2_with fail
  go_at_call 31
  refine (HC.out _).mono ?_
  rintro e w3 ⟨rfl, hb⟩
  have hFB := fb_step hFB hb
  clear hb c0 c1
  obtain ⟨c0, c1⟩ := hFB.1.all
  go_wp2_with fail
  go_at_call 48
  refine (HNa.out _).mono ?_
  rintro e w4 ⟨rfl, hb⟩
  have hFB := fb_step hFB hb
  clear hb c0 c1
  obtain ⟨c0, c1⟩ := hFB.1.all
  go_wp2_with fail
  go_at_call 52
  refine (HTg.out _).mono ?_
  rintro e w5 ⟨rfl, hb⟩
  have hFB := fb_step hFB hb
  clear hb c0 c1
  obtain ⟨c0, c1⟩ := hFB.1.all
  have hgg : ((g : Int) != (g : Int)) = false := by simp
  go_wp2_with fail
  go_at_call 48
  refine (HNg.out _).mono ?_
  rintro e w6 ⟨rfl, hb⟩
  have hFB := fb_step hFB hb
  clear hb c0 c1
  obtain ⟨c0, c1⟩ := hFB.1.all
  go_wp2_with fail
  go_at_call 26
  refine (HIg.out _).mono ?_
  rintro e w7 ⟨rfl, hb⟩
  have hFB := fb_step hFB hb
  clear hb c0 c1
  obtain ⟨c0, c1⟩ := hFB.1.all
  go_wp2_with fail
  go_at_call 52
  refine (HTy.out _).mono ?_
  rintro e w8 ⟨rfl, hb⟩
  have hFB := fb_step hFB hb
  clear hb c0 c1 hgz hgg e0 e3 e4 HC HNa HTg HNg HIg HTy
  obtain ⟨c0, c1⟩ := hFB.1.all
  go_upto_region 14 with (fail)
  go_cut [89] (fun s89 wx => s89 = .bool (ny || !fy) ∧ (FAt w.heap.size E M wx ∧ Below w.heap.size w wx))
  case first =>
    have HFB : Hid (FAt w.heap.size E M w8 ∧ Below w.heap.size w w8) := hFB
    clear hFB
    cases ny
    · go_wp2_with fail
      go_at_call 48
      refine (HNy.out _).mono ?_
      rintro e w9 ⟨rfl, hb⟩
      have hFB := fb_step HFB.out hb
      clear hb c0 c1 HFB
      obtain ⟨c0, c1⟩ := hFB.1.all
      go_wp2_with fail
      go_at_call 26
      refine (HIy.out _).mono ?_
      rintro e w10 ⟨rfl, hb⟩
      have hFB := fb_step hFB hb
      have HFB : Hid (FAt w.heap.size E M w10 ∧ Below w.heap.size w w10) := hFB
      clear hFB hb c0 c1
      go_wp2
      go_meet
      exact ⟨by simp, HFB.out⟩
    · go_wp2_with fail
      go_at_call 48
      refine (HNy.out _).mono ?_
      rintro e w9 ⟨rfl, hb⟩
      have hFB := fb_step HFB.out hb
      clear HFB
      have HFB : Hid (FAt w.heap.size E M w9 ∧ Below w.heap.size w w9) := hFB
      clear hFB hb c0 c1
      go_wp2
      go_meet
      exact ⟨by simp, HFB.out⟩
  case rest =>
  obtain ⟨rfl, hFB'⟩ := hcut
  clear hFB c0 c1 HNy HIy
  have hFB := hFB'
  clear hFB'
  obtain ⟨c0, c1⟩ := hFB.1.all
  obtain ⟨bb, hbb⟩ : ∃ bb, bb = (ny || !fy) := ⟨_, rfl⟩
  rw [← hbb]
  cases bb
  · have HYl : Hid (y1 < 2 ^ (E + M)) := HYl0.out (or_parts hbb).1
    have HYf : Hid (expF E M y1 ≠ topE E) := HYf0.out (or_parts hbb).2
    clear hbb HYl0 HYf0
    have HVy : Hid (∀ w : World, Calls Oabg.prog 27 #[.agg #[.int .u8 E, .int .u8 M], .int .u64 y1] w fun e w' => ∃ r, e = .returned (.tuple #[r, .int .i8 (clsF E M y1)]) ∧ RatAt w' r false (vNum E M y1) (vDen E M y1) ∧ Below w.heap.size w w') := HVal.out y1 HYl.out HYf.out
    have hSays := sq_final h' HFa.out HRes.out HGl.out HGf.out HYl.out HYf.out
    have HFit : Hid (SqFits (vNum E M a) (vDen E M a) (vNum E M g) (vDen E M g) (vNum E M y1) (vDen E M y1)) := sqFits (vNum_lt h' a) (vDen_lt h' a) (vNum_lt h' g) (vDen_lt h' g) (vNum_lt h' y1) (vDen_lt h' y1)
    obtain ⟨o1, ho1⟩ : ∃ o, o = cmpZ (vNum E M g * vDen E M y1) (vNum E M y1 * vDen E M g) := ⟨_, rfl⟩
    obtain ⟨o2, ho2⟩ : ∃ o, o = cmpZ (vNum E M g * vNum E M g * vDen E M a) (vNum E M a * (vDen E M g * vDen E M g)) := ⟨_, rfl⟩
    obtain ⟨o3, ho3⟩ : ∃ o, o = cmpZ (vNum E M y1 * vNum E M y1 * vDen E M a) (vNum E M a * (vDen E M y1 * vDen E M y1)) := ⟨_, rfl⟩
    obtain ⟨o4, ho4⟩ : ∃ o, o = cmpZ (4 * vNum E M a * (vDen E M g * vDen E M y1 * (vDen E M g * vDen E M y1))) ((vNum E M g * vDen E M y1 + vNum E M y1 * vDen E M g) * (vNum E M g * vDen E M y1 + vNum E M y1 * vDen E M g) * (1 * vDen E M a)) := ⟨_, rfl⟩
    have HSays : Hid (SqSays mode o1 o2 o3 o4) := by
      show SqSays mode o1 o2 o3 o4
      rw [ho1, ho2, ho3, ho4]
      exact hSays
    have HO1 : Hid (o1 = _) := ho1
    have HO2 : Hid (o2 = _) := ho2
    have HO3 : Hid (o3 = _) := ho3
    have HO4 : Hid (o4 = _) := ho4
    clear hSays ho1 ho2 ho3 ho4 HVal HRes HFa
    generalize vNum E M a = Av at *
    generalize vDen E M a = Dv at *
    generalize clsF E M a = ka at *
    generalize hAr : vNum E M g = Ar at *
    generalize hDr : vDen E M g = Dr at *
    generalize clsF E M g = kg at *
    generalize vNum E M y1 = Aw at *
    generalize vDen E M y1 = Dw at *
    generalize clsF E M y1 = ky at *
    clear hAr hDr
    go_upto_region 16 with (fail)
    go_wp2_with fail
    go_at_call 27
    refine (HVa.out _).mono ?_
    rintro ee w11 ⟨r, rfl, hr, hb⟩
    obtain ⟨a1, m1, d1, a2, m2, d2, rfl, i1, j1⟩ := hr
    have hA := below_alloc w11 (.cells #[.bool false, .slice a1 m1 d1, .slice a2 m2 d2] 50)
    have hFB := fb_step (fb_step hFB hb) hA
    have hP := RatV.start w11 false (.slice a1 m1 d1) (.slice a2 m2 d2)
    have hI1 := i1.step hA
    have hJ1 := j1.step hA
    clear c0 c1 hb hA i1 j1
    go_upto_region 17 with (fail)
    obtain ⟨W1, hW⟩ : ∃ W, W = w11.alloc (.cells #[.bool false, .slice a1 m1 d1, .slice a2 m2 d2] 50) := ⟨_, rfl⟩
    obtain ⟨P, hPe⟩ : ∃ P, P = w11.heap.size := ⟨_, rfl⟩
    rw [← hW] at hFB hI1 hJ1
    rw [← hW, ← hPe] at hP
    rw [← hW, ← hPe]
    clear hW hPe
    have HFB : Hid (FAt w.heap.size E M W1 ∧ Below w.heap.size w W1) := hFB
    have HP : Hid (RatV P false (.slice a1 m1 d1) (.slice a2 m2 d2) W1) := hP
    have HI1 : Hid (IsN W1 (.slice a1 m1 d1) Av) := hI1
    have HJ1 : Hid (IsN W1 (.slice a2 m2 d2) Dv) := hJ1
    obtain ⟨c0, c1⟩ := hFB.1.all
    clear hFB hP hI1 hJ1
    go_wp2_with fail
    go_at_call 27
    refine (HVg.out _).mono ?_
    rintro ee w12 ⟨r, rfl, hr, hb⟩
    obtain ⟨a3, m3, d3, a4, m4, d4, rfl, i2, j2⟩ := hr
    have hA := below_alloc w12 (.cells #[.bool false, .slice a3 m3 d3, .slice a4 m4 d4] 50)
    have hFB := fb_step (fb_step HFB.out hb) hA
    have hP := (HP.out.step hb).step hA
    have hI1 := (HI1.out.step hb).step hA
    have hJ1 := (HJ1.out.step hb).step hA
    have hQ := RatV.start w12 false (.slice a3 m3 d3) (.slice a4 m4 d4)
    have hI2 := i2.step hA
    have hJ2 := j2.step hA
    clear c0 c1 hb hA i2 j2 HFB HP HI1 HJ1
    go_upto_region 18 with (fail)
    obtain ⟨W2, hW⟩ : ∃ W, W = w12.alloc (.cells #[.bool false, .slice a3 m3 d3, .slice a4 m4 d4] 50) := ⟨_, rfl⟩
    obtain ⟨Q, hPe⟩ : ∃ Q, Q = w12.heap.size := ⟨_, rfl⟩
    rw [← hW] at hFB hP hI1 hJ1 hI2 hJ2
    rw [← hW, ← hPe] at hQ
    rw [← hW, ← hPe]
    clear hW hPe
    have HFB : Hid (FAt w.heap.size E M W2 ∧ Below w.heap.size w W2) := hFB
    have HP : Hid (RatV P false (.slice a1 m1 d1) (.slice a2 m2 d2) W2) := hP
    have HQ : Hid (RatV Q false (.slice a3 m3 d3) (.slice a4 m4 d4) W2) := hQ
    have HI1 : Hid (IsN W2 (.slice a1 m1 d1) Av) := hI1
    have HJ1 : Hid (IsN W2 (.slice a2 m2 d2) Dv) := hJ1
    have HI2 : Hid (IsN W2 (.slice a3 m3 d3) Ar) := hI2
    have HJ2 : Hid (IsN W2 (.slice a4 m4 d4) Dr) := hJ2
    obtain ⟨c0, c1⟩ := hFB.1.all
    clear hFB hP hQ hI1 hJ1 hI2 hJ2
    go_wp2_with fail
    go_at_call 27
    refine (HVy.out _).mono ?_
    rintro ee w13 ⟨r, rfl, hr, hb⟩
    obtain ⟨a5, m5, d5, a6, m6, d6, rfl, i3, j3⟩ := hr
    have hA := below_alloc w13 (.cells #[.bool false, .slice a5 m5 d5, .slice a6 m6 d6] 50)
    have hFB := fb_step (fb_step HFB.out hb) hA
    have hP := (HP.out.step hb).step hA
    have hQ := (HQ.out.step hb).step hA
    have hI1 := (HI1.out.step hb).step hA
    have hJ1 := (HJ1.out.step hb).step hA
    have hI2 := (HI2.out.step hb).step hA
    have hJ2 := (HJ2.out.step hb).step hA
    have hR := RatV.start w13 false (.slice a5 m5 d5) (.slice a6 m6 d6)
    have hI3 := i3.step hA
    have hJ3 := j3.step hA
    clear c0 c1 hb hA i3 j3 HFB HP HQ HI1 HJ1 HI2 HJ2 HVa HVg HVy
    go_upto_region 19 with (fail)
    obtain ⟨W3, hW⟩ : ∃ W, W = w13.alloc (.cells #[.bool false, .slice a5 m5 d5, .slice a6 m6 d6] 50) := ⟨_, rfl⟩
    obtain ⟨R, hPe⟩ : ∃ R, R = w13.heap.size := ⟨_, rfl⟩
    rw [← hW] at hFB hP hQ hI1 hJ1 hI2 hJ2 hI3 hJ3
    rw [← hW, ← hPe] at hR
    rw [← hW, ← hPe]
    clear hW hPe
    have hL : L3At w E M P Q R (.slice a1 m1 d1) (.slice a2 m2 d2) Av Dv (.slice a3 m3 d3) (.slice a4 m4 d4) Ar Dr (.slice a5 m5 d5) (.slice a6 m6 d6) Aw Dw W3 := ⟨hFB.1, hP, hQ, hR, hI1, hJ1, hI2, hJ2, hI3, hJ3, hFB.2⟩
    clear hFB hP hQ hR hI1 hJ1 hI2 hJ2 hI3 hJ3
    have HCo : Hid (∀ W : World, L3At w E M P Q R (.slice a1 m1 d1) (.slice a2 m2 d2) Av Dv (.slice a3 m3 d3) (.slice a4 m4 d4) Ar Dr (.slice a5 m5 d5) (.slice a6 m6 d6) Aw Dw W → Calls Oabg.prog 53 #[.agg #[.bool false, .slice a3 m3 d3, .slice a4 m4 d4], .agg #[.bool false, .slice a5 m5 d5, .slice a6 m6 d6]] W fun e w' => e = .returned (.int .i8 o1) ∧ Below W.heap.size W w') := fun W k => by
      rw [HO1.out]
      exact cmpFrac_pos ⟨_, _, _, _, _, _, rfl, k.n2, k.d2⟩ ⟨_, _, _, _, _, _, rfl, k.n3, k.d3⟩ HFit.out.f1
    have HM1 : Hid (∀ W : World, (((W.cell? ⟨P, 0, none⟩ = some (.bool false) ∧ W.cell? ⟨P, 1, none⟩ = some (.slice a1 m1 d1) ∧ W.cell? ⟨P, 2, none⟩ = some (.slice a2 m2 d2)) ∧ (W.cell? ⟨Q, 0, none⟩ = some (.bool false) ∧ W.cell? ⟨Q, 1, none⟩ = some (.slice a3 m3 d3) ∧ W.cell? ⟨Q, 2, none⟩ = some (.slice a4 m4 d4)) ∧ (W.cell? ⟨R, 0, none⟩ = some (.bool false) ∧ W.cell? ⟨R, 1, none⟩ = some (.slice a5 m5 d5) ∧ W.cell? ⟨R, 2, none⟩ = some (.slice a6 m6 d6))) ∧ L3At w E M P Q R (.slice a1 m1 d1) (.slice a2 m2 d2) Av Dv (.slice a3 m3 d3) (.slice a4 m4 d4) Ar Dr (.slice a5 m5 d5) (.slice a6 m6 d6) Aw Dw W) → Calls Oabg.prog 29 #[.agg #[.bool false, .slice a3 m3 d3, .slice a4 m4 d4], .agg #[.bool false, .slice a3 m3 d3, .slice a4 m4 d4]] W fun e w' => ∃ r, e = .returned r ∧ RatAt w' r false (Ar * Ar) (Dr * Dr) ∧ Below W.heap.size W w') := fun W k => mulFrac_pos ⟨_, _, _, _, _, _, rfl, k.2.n2, k.2.d2⟩ ⟨_, _, _, _, _, _, rfl, k.2.n2, k.2.d2⟩ HFit.out.f2
    have HM2 : Hid (∀ W : World, (((W.cell? ⟨P, 0, none⟩ = some (.bool false) ∧ W.cell? ⟨P, 1, none⟩ = some (.slice a1 m1 d1) ∧ W.cell? ⟨P, 2, none⟩ = some (.slice a2 m2 d2)) ∧ (W.cell? ⟨Q, 0, none⟩ = some (.bool false) ∧ W.cell? ⟨Q, 1, none⟩ = some (.slice a3 m3 d3) ∧ W.cell? ⟨Q, 2, none⟩ = some (.slice a4 m4 d4)) ∧ (W.cell? ⟨R, 0, none⟩ = some (.bool false) ∧ W.cell? ⟨R, 1, none⟩ = some (.slice a5 m5 d5) ∧ W.cell? ⟨R, 2, none⟩ = some (.slice a6 m6 d6))) ∧ L3At w E M P Q R (.slice a1 m1 d1) (.slice a2 m2 d2) Av Dv (.slice a3 m3 d3) (.slice a4 m4 d4) Ar Dr (.slice a5 m5 d5) (.slice a6 m6 d6) Aw Dw W) → Calls Oabg.prog 29 #[.agg #[.bool false, .slice a5 m5 d5, .slice a6 m6 d6], .agg #[.bool false, .slice a5 m5 d5, .slice a6 m6 d6]] W fun e w' => ∃ r, e = .returned r ∧ RatAt w' r false (Aw * Aw) (Dw * Dw) ∧ Below W.heap.size W w') := fun W k => mulFrac_pos ⟨_, _, _, _, _, _, rfl, k.2.n3, k.2.d3⟩ ⟨_, _, _, _, _, _, rfl, k.2.n3, k.2.d3⟩ HFit.out.f4
    have HC2 : Hid (∀ (W : World) (e1 : Option Addr) (e2 e3 : Nat) (f1 : Option Addr) (f2 f3 : Nat), (((W.cell? ⟨P, 0, none⟩ = some (.bool false) ∧ W.cell? ⟨P, 1, none⟩ = some (.slice a1 m1 d1) ∧ W.cell? ⟨P, 2, none⟩ = some (.slice a2 m2 d2)) ∧ (W.cell? ⟨Q, 0, none⟩ = some (.bool false) ∧ W.cell? ⟨Q, 1, none⟩ = some (.slice a3 m3 d3) ∧ W.cell? ⟨Q, 2, none⟩ = some (.slice a4 m4 d4)) ∧ (W.cell? ⟨R, 0, none⟩ = some (.bool false) ∧ W.cell? ⟨R, 1, none⟩ = some (.slice a5 m5 d5) ∧ W.cell? ⟨R, 2, none⟩ = some (.slice a6 m6 d6))) ∧ L3At w E M P Q R (.slice a1 m1 d1) (.slice a2 m2 d2) Av Dv (.slice a3 m3 d3) (.slice a4 m4 d4) Ar Dr (.slice a5 m5 d5) (.slice a6 m6 d6) Aw Dw W) → IsN W (.slice e1 e2 e3) (Ar * Ar) → IsN W (.slice f1 f2 f3) (Dr * Dr) → Calls Oabg.prog 53 #[.agg #[.bool false, .slice e1 e2 e3, .slice f1 f2 f3], .agg #[.bool false, .slice a1 m1 d1, .slice a2 m2 d2]] W fun e w' => e = .returned (.int .i8 o2) ∧ Below W.heap.size W w') := fun W e1 e2 e3 f1 f2 f3 k k1 k2 => by
      rw [HO2.out]
      exact cmpFrac_pos ⟨_, _, _, _, _, _, rfl, k1, k2⟩ ⟨_, _, _, _, _, _, rfl, k.2.n1, k.2.d1⟩ HFit.out.f3
    have HC3 : Hid (∀ (W : World) (e1 : Option Addr) (e2 e3 : Nat) (f1 : Option Addr) (f2 f3 : Nat), (((W.cell? ⟨P, 0, none⟩ = some (.bool false) ∧ W.cell? ⟨P, 1, none⟩ = some (.slice a1 m1 d1) ∧ W.cell? ⟨P, 2, none⟩ = some (.slice a2 m2 d2)) ∧ (W.cell? ⟨Q, 0, none⟩ = some (.bool false) ∧ W.cell? ⟨Q, 1, none⟩ = some (.slice a3 m3 d3) ∧ W.cell? ⟨Q, 2, none⟩ = some (.slice a4 m4 d4)) ∧ (W.cell? ⟨R, 0, none⟩ = some (.bool false) ∧ W.cell? ⟨R, 1, none⟩ = some (.slice a5 m5 d5) ∧ W.cell? ⟨R, 2, none⟩ = some (.slice a6 m6 d6))) ∧ L3At w E M P Q R (.slice a1 m1 d1) (.slice a2 m2 d2) Av Dv (.slice a3 m3 d3) (.slice a4 m4 d4) Ar Dr (.slice a5 m5 d5) (.slice a6 m6 d6) Aw Dw W) → IsN W (.slice e1 e2 e3) (Aw * Aw) → IsN W (.slice f1 f2 f3) (Dw * Dw) → Calls Oabg.prog 53 #[.agg #[.bool false, .slice e1 e2 e3, .slice f1 f2 f3], .agg #[.bool false, .slice a1 m1 d1, .slice a2 m2 d2]] W fun e w' => e = .returned (.int .i8 o3) ∧ Below W.heap.size W w') := fun W e1 e2 e3 f1 f2 f3 k k1 k2 => by
      rw [HO3.out]
      exact cmpFrac_pos ⟨_, _, _, _, _, _, rfl, k1, k2⟩ ⟨_, _, _, _, _, _, rfl, k.2.n1, k.2.d1⟩ HFit.out.f5
    obtain ⟨⟨x0, x1, x2⟩, ⟨y0, y1', y2⟩, ⟨z0, z1, z2⟩, HK⟩ := hL.all
    clear hL
    go_wp2_with fail
    go_at_call 53
    refine (HCo.out _ HK.out).mono ?_
    rintro ee w14 ⟨rfl, hb⟩
    have hL := HK.out.step hb
    clear x0 x1 x2 y0 y1' y2 z0 z1 z2 HK hb HCo
    go_upto_region 20 with (fail)
    go_cut [18, 19] (fun s18 s19 wx => s18 = .int .i8 o2 ∧ s19 = .int .i8 o3 ∧ L3At w E M P Q R (.slice a1 m1 d1) (.slice a2 m2 d2) Av Dv (.slice a3 m3 d3) (.slice a4 m4 d4) Ar Dr (.slice a5 m5 d5) (.slice a6 m6 d6) Aw Dw wx)
    case first =>
      obtain ⟨x, y, z, HK⟩ := hL.all
      clear hL
      have x0 := x.1
      have x1 := x.2.1
      have x2 := x.2.2
      have y0 := y.1
      have y1' := y.2.1
      have y2 := y.2.2
      have z0 := z.1
      have z1 := z.2.1
      have z2 := z.2.2
      clear x y z
      go_region_held3 (fun W => ((W.cell? ⟨P, 0, none⟩ = some (.bool false) ∧ W.cell? ⟨P, 1, none⟩ = some (.slice a1 m1 d1) ∧ W.cell? ⟨P, 2, none⟩ = some (.slice a2 m2 d2)) ∧ (W.cell? ⟨Q, 0, none⟩ = some (.bool false) ∧ W.cell? ⟨Q, 1, none⟩ = some (.slice a3 m3 d3) ∧ W.cell? ⟨Q, 2, none⟩ = some (.slice a4 m4 d4)) ∧ (W.cell? ⟨R, 0, none⟩ = some (.bool false) ∧ W.cell? ⟨R, 1, none⟩ = some (.slice a5 m5 d5) ∧ W.cell? ⟨R, 2, none⟩ = some (.slice a6 m6 d6))) ∧ L3At w E M P Q R (.slice a1 m1 d1) (.slice a2 m2 d2) Av Dv (.slice a3 m3 d3) (.slice a4 m4 d4) Ar Dr (.slice a5 m5 d5) (.slice a6 m6 d6) Aw Dw W)
        (first
          | exact ⟨⟨⟨x0, x1, x2⟩, ⟨y0, y1', y2⟩, ⟨z0, z1, z2⟩⟩, HK.out.drew⟩
          | (with_reducible refine keepL3 hbA ?_; assumption)
          | (with_reducible refine keepL3 hbB ?_; assumption)
          | (with_reducible refine keepL3 hbC ?_; assumption)
          | (with_reducible refine keepL3 hbD ?_; assumption))
        (first
          | (go_at_call_of 29 (Value.agg #[.bool false, .slice a3 m3 d3, .slice a4 m4 d4]); refine (HM1.out _ (by assumption)).mono ?_; rintro ee wA ⟨xA, rfl, hA, hbA⟩; obtain ⟨e1, e2, e3, f1, f2, f3, rfl, iA, jA⟩ := hA)
          | (go_at_call_of 53 (Value.agg #[.bool false, .slice e1 e2 e3, .slice f1 f2 f3]); refine (HC2.out _ _ _ _ _ _ _ (by assumption) iA jA).mono ?_; rintro ee wB ⟨rfl, hbB⟩)
          | (go_at_call_of 29 (Value.agg #[.bool false, .slice a5 m5 d5, .slice a6 m6 d6]); refine (HM2.out _ (by assumption)).mono ?_; rintro ee wC ⟨xC, rfl, hC, hbC⟩; obtain ⟨g1, g2, g3, h1, h2, h3, rfl, iC, jC⟩ := hC)
          | (go_at_call_of 53 (Value.agg #[.bool false, .slice g1 g2 g3, .slice h1 h2 h3]); refine (HC3.out _ _ _ _ _ _ _ (by assumption) iC jC).mono ?_; rintro ee wD ⟨rfl, hbD⟩))
      rename_i hH
      have HLf : Hid (L3At w E M P Q R (.slice a1 m1 d1) (.slice a2 m2 d2) Av Dv (.slice a3 m3 d3) (.slice a4 m4 d4) Ar Dr (.slice a5 m5 d5) (.slice a6 m6 d6) Aw Dw _) := hH.2
      clear hH iA jA iC jC
      go_wp2
      go_meet
      exact ⟨rfl, rfl, HLf.out⟩
    case rest =>
    obtain ⟨rfl, rfl, hK⟩ := hcut
    clear hL HM1 HM2 HC2 HC3
    by_cases hm2 : mode = 2 ∨ mode = 4
    · have hs : o2 ≤ 0 ∧ ¬ (o1 < 0 ∧ o3 ≤ 0) := by
        have := HSays.out
        unfold SqSays at this
        rw [if_pos hm2] at this
        exact this
      have hB := hK.below
      have ho2 : o2 ≤ 0 := hs.1
      have hB' : Hid (Below w.heap.size w _) := hB
      clear hK hB
      rcases hm2 with hm | hm
      · have t2 : ((mode : Int) == 2) = true := by rw [hm]; rfl
        clear hm HSays
        by_cases q1 : o1 < 0
        · have d3 : (!decide (o3 ≤ 0)) = true := by rw [decide_eq_false (by omega)]; rfl
          have D3 : Hid ((!decide (o3 ≤ 0)) = true) := d3
          clear hs d3
          go_wp2
          go_ret
          exact ⟨congrArg (fun b : Bool => Ending.returned (Value.bool b)) D3.out, hB'.out⟩
        · clear hs
          go_wp2
          go_ret
          exact ⟨rfl, hB'.out⟩
      · have t2 : ((mode : Int) == 2) = false := by rw [hm]; rfl
        have t4 : ((mode : Int) == 4) = true := by rw [hm]; rfl
        clear hm HSays
        by_cases q1 : o1 < 0
        · have d3 : (!decide (o3 ≤ 0)) = true := by rw [decide_eq_false (by omega)]; rfl
          have D3 : Hid ((!decide (o3 ≤ 0)) = true) := d3
          clear hs d3
          go_wp2
          go_ret
          exact ⟨congrArg (fun b : Bool => Ending.returned (Value.bool b)) D3.out, hB'.out⟩
        · clear hs
          go_wp2
          go_ret
          exact ⟨rfl, hB'.out⟩
    have t2 : ((mode : Int) == 2) = false := by rw [beq_eq_false_iff_ne]; omega
    have t4 : ((mode : Int) == 4) = false := by rw [beq_eq_false_iff_ne]; omega
    by_cases hm3 : mode = 3
    · have hs : 0 ≤ o2 ∧ ¬ (0 < o1 ∧ 0 ≤ o3) := by
        have := HSays.out
        unfold SqSays at this
        rw [if_neg hm2, if_pos hm3] at this
        exact this
      have ho2 : 0 ≤ o2 := hs.1
      have t3 : ((mode : Int) == 3) = true := by rw [hm3]; rfl
      have hB' : Hid (Below w.heap.size w _) := hK.below
      clear hK hm2 hm3 HSays
      by_cases q1 : 0 < o1
      · have d3 : (!decide (0 ≤ o3)) = true := by rw [decide_eq_false (by omega)]; rfl
        have D3 : Hid ((!decide (0 ≤ o3)) = true) := d3
        clear hs d3
        go_wp2
        go_ret
        exact ⟨congrArg (fun b : Bool => Ending.returned (Value.bool b)) D3.out, hB'.out⟩
      · clear hs
        go_wp2
        go_ret
        exact ⟨rfl, hB'.out⟩
    have t3 : ((mode : Int) == 3) = false := by rw [beq_eq_false_iff_ne]; omega
    have hs : o1 = 0 ∨ (o1 < 0 ∧ o4 ≤ 0) ∨ (0 < o1 ∧ 0 ≤ o4) := by
      have := HSays.out
      unfold SqSays at this
      rw [if_neg hm2, if_neg hm3] at this
      exact this
    have HS : Hid (o1 = 0 ∨ (o1 < 0 ∧ o4 ≤ 0) ∨ (0 < o1 ∧ 0 ≤ o4)) := hs
    clear hs hm2 hm3 HSays
    obtain ⟨⟨x0, x1, x2⟩, ⟨y0, y1', y2⟩, ⟨z0, z1, z2⟩, HK⟩ := hK.all
    have HSu : Hid (Calls Oabg.prog 44 #[.agg #[.bool false, .slice a3 m3 d3, .slice a4 m4 d4], .agg #[.bool false, .slice a5 m5 d5, .slice a6 m6 d6]] _ fun e w' => ∃ r, e = .returned r ∧ RatAt w' r false (Ar * Dw + Aw * Dr) (Dr * Dw) ∧ Below _ _ w') := sumFrac_pos ⟨_, _, _, _, _, _, rfl, hK.n2, hK.d2⟩ ⟨_, _, _, _, _, _, rfl, hK.n3, hK.d3⟩ HFit.out.f1
    clear hK
    go_wp2_with fail
    go_at_call 44
    refine HSu.out.mono ?_
    rintro ee w15 ⟨r, rfl, hr, hb⟩
    obtain ⟨a7, m7, d7, a8, m8, d8, rfl, i4, j4⟩ := hr
    have hA := below_alloc w15 (.cells #[.bool false, .slice a7 m7 d7, .slice a8 m8 d8] 50)
    have hL3 := (HK.out.step hb).step hA
    have hN : L2At w P w15.heap.size (.slice a1 m1 d1) (.slice a2 m2 d2) Av Dv (.slice a7 m7 d7) (.slice a8 m8 d8) (Ar * Dw + Aw * Dr) (Dr * Dw) (w15.alloc (.cells #[.bool false, .slice a7 m7 d7, .slice a8 m8 d8] 50)) := ⟨hL3.p, RatV.start w15 false _ _, hL3.n1, hL3.d1, i4.step hA, j4.step hA, hL3.below⟩
    clear x0 x1 x2 y0 y1' y2 z0 z1 z2 HK hb hA hL3 i4 j4 HSu
    go_upto_region 28 with (fail)
    obtain ⟨W4, hW⟩ : ∃ W, W = w15.alloc (.cells #[.bool false, .slice a7 m7 d7, .slice a8 m8 d8] 50) := ⟨_, rfl⟩
    obtain ⟨K, hPe⟩ : ∃ K, K = w15.heap.size := ⟨_, rfl⟩
    rw [← hW, ← hPe] at hN
    rw [← hW, ← hPe]
    clear hW hPe
    have HM3 : Hid (∀ (W : World) (e1 : Option Addr) (e2 e3 : Nat) (f1 : Option Addr) (f2 f3 : Nat), (((W.cell? ⟨P, 0, none⟩ = some (.bool false) ∧ W.cell? ⟨P, 1, none⟩ = some (.slice a1 m1 d1) ∧ W.cell? ⟨P, 2, none⟩ = some (.slice a2 m2 d2)) ∧ (W.cell? ⟨K, 0, none⟩ = some (.bool false) ∧ W.cell? ⟨K, 1, none⟩ = some (.slice a7 m7 d7) ∧ W.cell? ⟨K, 2, none⟩ = some (.slice a8 m8 d8))) ∧ L2At w P K (.slice a1 m1 d1) (.slice a2 m2 d2) Av Dv (.slice a7 m7 d7) (.slice a8 m8 d8) (Ar * Dw + Aw * Dr) (Dr * Dw) W) → IsN W (.slice e1 e2 e3) 4 → IsN W (.slice f1 f2 f3) 1 → Calls Oabg.prog 29 #[.agg #[.bool false, .slice e1 e2 e3, .slice f1 f2 f3], .agg #[.bool false, .slice a1 m1 d1, .slice a2 m2 d2]] W fun e w' => ∃ r, e = .returned r ∧ RatAt w' r false (4 * Av) (1 * Dv) ∧ Below W.heap.size W w') := fun W e1 e2 e3 f1 f2 f3 k k1 k2 => mulFrac_pos ⟨_, _, _, _, _, _, rfl, k1, k2⟩ ⟨_, _, _, _, _, _, rfl, k.2.n1, k.2.d1⟩ HFit.out.f6
    have HM4 : Hid (∀ W : World, (((W.cell? ⟨P, 0, none⟩ = some (.bool false) ∧ W.cell? ⟨P, 1, none⟩ = some (.slice a1 m1 d1) ∧ W.cell? ⟨P, 2, none⟩ = some (.slice a2 m2 d2)) ∧ (W.cell? ⟨K, 0, none⟩ = some (.bool false) ∧ W.cell? ⟨K, 1, none⟩ = some (.slice a7 m7 d7) ∧ W.cell? ⟨K, 2, none⟩ = some (.slice a8 m8 d8))) ∧ L2At w P K (.slice a1 m1 d1) (.slice a2 m2 d2) Av Dv (.slice a7 m7 d7) (.slice a8 m8 d8) (Ar * Dw + Aw * Dr) (Dr * Dw) W) → Calls Oabg.prog 29 #[.agg #[.bool false, .slice a7 m7 d7, .slice a8 m8 d8], .agg #[.bool false, .slice a7 m7 d7, .slice a8 m8 d8]] W fun e w' => ∃ r, e = .returned r ∧ RatAt w' r false ((Ar * Dw + Aw * Dr) * (Ar * Dw + Aw * Dr)) (Dr * Dw * (Dr * Dw)) ∧ Below W.heap.size W w') := fun W k => mulFrac_pos ⟨_, _, _, _, _, _, rfl, k.2.n2, k.2.d2⟩ ⟨_, _, _, _, _, _, rfl, k.2.n2, k.2.d2⟩ HFit.out.f7
    have HC4 : Hid (∀ (W : World) (e1 : Option Addr) (e2 e3 : Nat) (f1 : Option Addr) (f2 f3 : Nat) (g1 : Option Addr) (g2 g3 : Nat) (h1 : Option Addr) (h2 h3 : Nat), IsN W (.slice e1 e2 e3) (4 * Av) → IsN W (.slice f1 f2 f3) (1 * Dv) → IsN W (.slice g1 g2 g3) ((Ar * Dw + Aw * Dr) * (Ar * Dw + Aw * Dr)) → IsN W (.slice h1 h2 h3) (Dr * Dw * (Dr * Dw)) → Calls Oabg.prog 53 #[.agg #[.bool false, .slice e1 e2 e3, .slice f1 f2 f3], .agg #[.bool false, .slice g1 g2 g3, .slice h1 h2 h3]] W fun e w' => e = .returned (.int .i8 o4) ∧ Below W.heap.size W w') := fun W e1 e2 e3 f1 f2 f3 g1 g2 g3 h1 h2 h3 k1 k2 k3 k4 => by
      rw [HO4.out]
      exact cmpFrac_pos ⟨_, _, _, _, _, _, rfl, k1, k2⟩ ⟨_, _, _, _, _, _, rfl, k3, k4⟩ HFit.out.f8
    go_cut [21] (fun s21 wx => s21 = .int .i8 o4 ∧ Below w.heap.size w wx)
    case first =>
      have x0 := hN.p.c0
      have x1 := hN.p.c1
      have x2 := hN.p.c2
      have y0 := hN.q.c0
      have y1' := hN.q.c1
      have y2 := hN.q.c2
      have HK : Hid (L2At w P K (.slice a1 m1 d1) (.slice a2 m2 d2) Av Dv (.slice a7 m7 d7) (.slice a8 m8 d8) (Ar * Dw + Aw * Dr) (Dr * Dw) W4) := hN
      clear hN
      go_region_held3 (fun W => ((W.cell? ⟨P, 0, none⟩ = some (.bool false) ∧ W.cell? ⟨P, 1, none⟩ = some (.slice a1 m1 d1) ∧ W.cell? ⟨P, 2, none⟩ = some (.slice a2 m2 d2)) ∧ (W.cell? ⟨K, 0, none⟩ = some (.bool false) ∧ W.cell? ⟨K, 1, none⟩ = some (.slice a7 m7 d7) ∧ W.cell? ⟨K, 2, none⟩ = some (.slice a8 m8 d8))) ∧ L2At w P K (.slice a1 m1 d1) (.slice a2 m2 d2) Av Dv (.slice a7 m7 d7) (.slice a8 m8 d8) (Ar * Dw + Aw * Dr) (Dr * Dw) W)
        (first
          | exact ⟨⟨⟨x0, x1, x2⟩, ⟨y0, y1', y2⟩⟩, HK.out.drew⟩
          | (with_reducible refine keepL2 hbA ?_; assumption)
          | (with_reducible refine keepL2 hbB ?_; assumption)
          | (with_reducible refine keepL2 hbC ?_; assumption)
          | (with_reducible refine keepL2 hbD ?_; assumption))
        (first
          | (go_at_call 54; refine (pow2Frac_two _).mono ?_; rintro ee wA ⟨xA, rfl, hA, hbA⟩; obtain ⟨e1, e2, e3, f1, f2, f3, rfl, iA, jA⟩ := hA)
          | (go_at_call_of 29 (Value.agg #[.bool false, .slice a1 m1 d1, .slice a2 m2 d2]); refine (HM3.out _ _ _ _ _ _ _ (by assumption) iA jA).mono ?_; rintro ee wB ⟨xB, rfl, hB, hbB⟩; obtain ⟨e4, e5, e6, f4, f5, f6, rfl, iB, jB⟩ := hB)
          | (go_at_call_of 29 (Value.agg #[.bool false, .slice a7 m7 d7, .slice a8 m8 d8]); refine (HM4.out _ (by assumption)).mono ?_; rintro ee wC ⟨xC, rfl, hC, hbC⟩; obtain ⟨g1, g2, g3, h1, h2, h3, rfl, iC, jC⟩ := hC)
          | (go_at_call 53; refine (HC4.out _ _ _ _ _ _ _ _ _ _ _ _ _ (iB.step hbC) (jB.step hbC) iC jC).mono ?_; rintro ee wD ⟨rfl, hbD⟩))
      rename_i hH
      have HLf : Hid (Below w.heap.size w _) := hH.2.below
      clear hH iA jA iB jB iC jC
      go_wp2
      go_meet
      exact ⟨rfl, HLf.out⟩
    case rest =>
    obtain ⟨rfl, hB⟩ := hcut
    have hB' : Hid (Below w.heap.size w _) := hB
    clear hN HM3 HM4 HC4 hB t2 t3 t4
    rcases HS.out with q | ⟨q, q'⟩ | ⟨q, q'⟩
    · subst q
      go_wp2
      go_ret
      exact ⟨rfl, hB'.out⟩
    · have q0 : (o1 == 0) = false := by rw [beq_eq_false_iff_ne]; omega
      go_wp2
      go_ret
      exact ⟨rfl, hB'.out⟩
    · have q0 : (o1 == 0) = false := by rw [beq_eq_false_iff_ne]; omega
      go_wp2
      go_ret
      exact ⟨rfl, hB'.out⟩
  · clear hbb HYl0 HYf0
    have HVy : Hid (∀ w : World, Calls Oabg.prog 27 #[.agg #[.int .u8 E, .int .u8 M], .int .u64 g] w fun e w' => ∃ r, e = .returned (.tuple #[r, .int .i8 (clsF E M g)]) ∧ RatAt w' r false (vNum E M g) (vDen E M g) ∧ Below w.heap.size w w') := HVal.out g HGl.out HGf.out
    have hSays := sq_final h' HFa.out HRes.out HGl.out HGf.out HGl.out HGf.out
    have HFit : Hid (SqFits (vNum E M a) (vDen E M a) (vNum E M g) (vDen E M g) (vNum E M g) (vDen E M g)) := sqFits (vNum_lt h' a) (vDen_lt h' a) (vNum_lt h' g) (vDen_lt h' g) (vNum_lt h' g) (vDen_lt h' g)
    obtain ⟨o1, ho1⟩ : ∃ o, o = cmpZ (vNum E M g * vDen E M g) (vNum E M g * vDen E M g) := ⟨_, rfl⟩
    obtain ⟨o2, ho2⟩ : ∃ o, o = cmpZ (vNum E M g * vNum E M g * vDen E M a) (vNum E M a * (vDen E M g * vDen E M g)) := ⟨_, rfl⟩
    obtain ⟨o3, ho3⟩ : ∃ o, o = cmpZ (vNum E M g * vNum E M g * vDen E M a) (vNum E M a * (vDen E M g * vDen E M g)) := ⟨_, rfl⟩
    obtain ⟨o4, ho4⟩ : ∃ o, o = cmpZ (4 * vNum E M a * (vDen E M g * vDen E M g * (vDen E M g * vDen E M g))) ((vNum E M g * vDen E M g + vNum E M g * vDen E M g) * (vNum E M g * vDen E M g + vNum E M g * vDen E M g) * (1 * vDen E M a)) := ⟨_, rfl⟩
    have HSays : Hid (SqSays mode o1 o2 o3 o4) := by
      show SqSays mode o1 o2 o3 o4
      rw [ho1, ho2, ho3, ho4]
      exact hSays
    have HO1 : Hid (o1 = _) := ho1
    have HO2 : Hid (o2 = _) := ho2
    have HO3 : Hid (o3 = _) := ho3
    have HO4 : Hid (o4 = _) := ho4
    clear hSays ho1 ho2 ho3 ho4 HVal HRes HFa
    generalize vNum E M a = Av at *
    generalize vDen E M a = Dv at *
    generalize clsF E M a = ka at *
    generalize hAr : vNum E M g = Ar at *
    generalize hDr : vDen E M g = Dr at *
    generalize clsF E M g = kg at *

    clear hAr hDr
    go_upto_region 16 with (fail)
    go_wp2_with fail
    go_at_call 27
    refine (HVa.out _).mono ?_
    rintro ee w11 ⟨r, rfl, hr, hb⟩
    obtain ⟨a1, m1, d1, a2, m2, d2, rfl, i1, j1⟩ := hr
    have hA := below_alloc w11 (.cells #[.bool false, .slice a1 m1 d1, .slice a2 m2 d2] 50)
    have hFB := fb_step (fb_step hFB hb) hA
    have hP := RatV.start w11 false (.slice a1 m1 d1) (.slice a2 m2 d2)
    have hI1 := i1.step hA
    have hJ1 := j1.step hA
    clear c0 c1 hb hA i1 j1
    go_upto_region 17 with (fail)
    obtain ⟨W1, hW⟩ : ∃ W, W = w11.alloc (.cells #[.bool false, .slice a1 m1 d1, .slice a2 m2 d2] 50) := ⟨_, rfl⟩
    obtain ⟨P, hPe⟩ : ∃ P, P = w11.heap.size := ⟨_, rfl⟩
    rw [← hW] at hFB hI1 hJ1
    rw [← hW, ← hPe] at hP
    rw [← hW, ← hPe]
    clear hW hPe
    have HFB : Hid (FAt w.heap.size E M W1 ∧ Below w.heap.size w W1) := hFB
    have HP : Hid (RatV P false (.slice a1 m1 d1) (.slice a2 m2 d2) W1) := hP
    have HI1 : Hid (IsN W1 (.slice a1 m1 d1) Av) := hI1
    have HJ1 : Hid (IsN W1 (.slice a2 m2 d2) Dv) := hJ1
    obtain ⟨c0, c1⟩ := hFB.1.all
    clear hFB hP hI1 hJ1
    go_wp2_with fail
    go_at_call 27
    refine (HVg.out _).mono ?_
    rintro ee w12 ⟨r, rfl, hr, hb⟩
    obtain ⟨a3, m3, d3, a4, m4, d4, rfl, i2, j2⟩ := hr
    have hA := below_alloc w12 (.cells #[.bool false, .slice a3 m3 d3, .slice a4 m4 d4] 50)
    have hFB := fb_step (fb_step HFB.out hb) hA
    have hP := (HP.out.step hb).step hA
    have hI1 := (HI1.out.step hb).step hA
    have hJ1 := (HJ1.out.step hb).step hA
    have hQ := RatV.start w12 false (.slice a3 m3 d3) (.slice a4 m4 d4)
    have hI2 := i2.step hA
    have hJ2 := j2.step hA
    clear c0 c1 hb hA i2 j2 HFB HP HI1 HJ1
    go_upto_region 18 with (fail)
    obtain ⟨W2, hW⟩ : ∃ W, W = w12.alloc (.cells #[.bool false, .slice a3 m3 d3, .slice a4 m4 d4] 50) := ⟨_, rfl⟩
    obtain ⟨Q, hPe⟩ : ∃ Q, Q = w12.heap.size := ⟨_, rfl⟩
    rw [← hW] at hFB hP hI1 hJ1 hI2 hJ2
    rw [← hW, ← hPe] at hQ
    rw [← hW, ← hPe]
    clear hW hPe
    have HFB : Hid (FAt w.heap.size E M W2 ∧ Below w.heap.size w W2) := hFB
    have HP : Hid (RatV P false (.slice a1 m1 d1) (.slice a2 m2 d2) W2) := hP
    have HQ : Hid (RatV Q false (.slice a3 m3 d3) (.slice a4 m4 d4) W2) := hQ
    have HI1 : Hid (IsN W2 (.slice a1 m1 d1) Av) := hI1
    have HJ1 : Hid (IsN W2 (.slice a2 m2 d2) Dv) := hJ1
    have HI2 : Hid (IsN W2 (.slice a3 m3 d3) Ar) := hI2
    have HJ2 : Hid (IsN W2 (.slice a4 m4 d4) Dr) := hJ2
    obtain ⟨c0, c1⟩ := hFB.1.all
    clear hFB hP hQ hI1 hJ1 hI2 hJ2
    go_wp2_with fail
    go_at_call 27
    refine (HVy.out _).mono ?_
    rintro ee w13 ⟨r, rfl, hr, hb⟩
    obtain ⟨a5, m5, d5, a6, m6, d6, rfl, i3, j3⟩ := hr
    have hA := below_alloc w13 (.cells #[.bool false, .slice a5 m5 d5, .slice a6 m6 d6] 50)
    have hFB := fb_step (fb_step HFB.out hb) hA
    have hP := (HP.out.step hb).step hA
    have hQ := (HQ.out.step hb).step hA
    have hI1 := (HI1.out.step hb).step hA
    have hJ1 := (HJ1.out.step hb).step hA
    have hI2 := (HI2.out.step hb).step hA
    have hJ2 := (HJ2.out.step hb).step hA
    have hR := RatV.start w13 false (.slice a5 m5 d5) (.slice a6 m6 d6)
    have hI3 := i3.step hA
    have hJ3 := j3.step hA
    clear c0 c1 hb hA i3 j3 HFB HP HQ HI1 HJ1 HI2 HJ2 HVa HVg HVy
    go_upto_region 19 with (fail)
    obtain ⟨W3, hW⟩ : ∃ W, W = w13.alloc (.cells #[.bool false, .slice a5 m5 d5, .slice a6 m6 d6] 50) := ⟨_, rfl⟩
    obtain ⟨R, hPe⟩ : ∃ R, R = w13.heap.size := ⟨_, rfl⟩
    rw [← hW] at hFB hP hQ hI1 hJ1 hI2 hJ2 hI3 hJ3
    rw [← hW, ← hPe] at hR
    rw [← hW, ← hPe]
    clear hW hPe
    have hL : L3At w E M P Q R (.slice a1 m1 d1) (.slice a2 m2 d2) Av Dv (.slice a3 m3 d3) (.slice a4 m4 d4) Ar Dr (.slice a5 m5 d5) (.slice a6 m6 d6) Ar Dr W3 := ⟨hFB.1, hP, hQ, hR, hI1, hJ1, hI2, hJ2, hI3, hJ3, hFB.2⟩
    clear hFB hP hQ hR hI1 hJ1 hI2 hJ2 hI3 hJ3
    have HCo : Hid (∀ W : World, L3At w E M P Q R (.slice a1 m1 d1) (.slice a2 m2 d2) Av Dv (.slice a3 m3 d3) (.slice a4 m4 d4) Ar Dr (.slice a5 m5 d5) (.slice a6 m6 d6) Ar Dr W → Calls Oabg.prog 53 #[.agg #[.bool false, .slice a3 m3 d3, .slice a4 m4 d4], .agg #[.bool false, .slice a5 m5 d5, .slice a6 m6 d6]] W fun e w' => e = .returned (.int .i8 o1) ∧ Below W.heap.size W w') := fun W k => by
      rw [HO1.out]
      exact cmpFrac_pos ⟨_, _, _, _, _, _, rfl, k.n2, k.d2⟩ ⟨_, _, _, _, _, _, rfl, k.n3, k.d3⟩ HFit.out.f1
    have HM1 : Hid (∀ W : World, (((W.cell? ⟨P, 0, none⟩ = some (.bool false) ∧ W.cell? ⟨P, 1, none⟩ = some (.slice a1 m1 d1) ∧ W.cell? ⟨P, 2, none⟩ = some (.slice a2 m2 d2)) ∧ (W.cell? ⟨Q, 0, none⟩ = some (.bool false) ∧ W.cell? ⟨Q, 1, none⟩ = some (.slice a3 m3 d3) ∧ W.cell? ⟨Q, 2, none⟩ = some (.slice a4 m4 d4)) ∧ (W.cell? ⟨R, 0, none⟩ = some (.bool false) ∧ W.cell? ⟨R, 1, none⟩ = some (.slice a5 m5 d5) ∧ W.cell? ⟨R, 2, none⟩ = some (.slice a6 m6 d6))) ∧ L3At w E M P Q R (.slice a1 m1 d1) (.slice a2 m2 d2) Av Dv (.slice a3 m3 d3) (.slice a4 m4 d4) Ar Dr (.slice a5 m5 d5) (.slice a6 m6 d6) Ar Dr W) → Calls Oabg.prog 29 #[.agg #[.bool false, .slice a3 m3 d3, .slice a4 m4 d4], .agg #[.bool false, .slice a3 m3 d3, .slice a4 m4 d4]] W fun e w' => ∃ r, e = .returned r ∧ RatAt w' r false (Ar * Ar) (Dr * Dr) ∧ Below W.heap.size W w') := fun W k => mulFrac_pos ⟨_, _, _, _, _, _, rfl, k.2.n2, k.2.d2⟩ ⟨_, _, _, _, _, _, rfl, k.2.n2, k.2.d2⟩ HFit.out.f2
    have HM2 : Hid (∀ W : World, (((W.cell? ⟨P, 0, none⟩ = some (.bool false) ∧ W.cell? ⟨P, 1, none⟩ = some (.slice a1 m1 d1) ∧ W.cell? ⟨P, 2, none⟩ = some (.slice a2 m2 d2)) ∧ (W.cell? ⟨Q, 0, none⟩ = some (.bool false) ∧ W.cell? ⟨Q, 1, none⟩ = some (.slice a3 m3 d3) ∧ W.cell? ⟨Q, 2, none⟩ = some (.slice a4 m4 d4)) ∧ (W.cell? ⟨R, 0, none⟩ = some (.bool false) ∧ W.cell? ⟨R, 1, none⟩ = some (.slice a5 m5 d5) ∧ W.cell? ⟨R, 2, none⟩ = some (.slice a6 m6 d6))) ∧ L3At w E M P Q R (.slice a1 m1 d1) (.slice a2 m2 d2) Av Dv (.slice a3 m3 d3) (.slice a4 m4 d4) Ar Dr (.slice a5 m5 d5) (.slice a6 m6 d6) Ar Dr W) → Calls Oabg.prog 29 #[.agg #[.bool false, .slice a5 m5 d5, .slice a6 m6 d6], .agg #[.bool false, .slice a5 m5 d5, .slice a6 m6 d6]] W fun e w' => ∃ r, e = .returned r ∧ RatAt w' r false (Ar * Ar) (Dr * Dr) ∧ Below W.heap.size W w') := fun W k => mulFrac_pos ⟨_, _, _, _, _, _, rfl, k.2.n3, k.2.d3⟩ ⟨_, _, _, _, _, _, rfl, k.2.n3, k.2.d3⟩ HFit.out.f4
    have HC2 : Hid (∀ (W : World) (e1 : Option Addr) (e2 e3 : Nat) (f1 : Option Addr) (f2 f3 : Nat), (((W.cell? ⟨P, 0, none⟩ = some (.bool false) ∧ W.cell? ⟨P, 1, none⟩ = some (.slice a1 m1 d1) ∧ W.cell? ⟨P, 2, none⟩ = some (.slice a2 m2 d2)) ∧ (W.cell? ⟨Q, 0, none⟩ = some (.bool false) ∧ W.cell? ⟨Q, 1, none⟩ = some (.slice a3 m3 d3) ∧ W.cell? ⟨Q, 2, none⟩ = some (.slice a4 m4 d4)) ∧ (W.cell? ⟨R, 0, none⟩ = some (.bool false) ∧ W.cell? ⟨R, 1, none⟩ = some (.slice a5 m5 d5) ∧ W.cell? ⟨R, 2, none⟩ = some (.slice a6 m6 d6))) ∧ L3At w E M P Q R (.slice a1 m1 d1) (.slice a2 m2 d2) Av Dv (.slice a3 m3 d3) (.slice a4 m4 d4) Ar Dr (.slice a5 m5 d5) (.slice a6 m6 d6) Ar Dr W) → IsN W (.slice e1 e2 e3) (Ar * Ar) → IsN W (.slice f1 f2 f3) (Dr * Dr) → Calls Oabg.prog 53 #[.agg #[.bool false, .slice e1 e2 e3, .slice f1 f2 f3], .agg #[.bool false, .slice a1 m1 d1, .slice a2 m2 d2]] W fun e w' => e = .returned (.int .i8 o2) ∧ Below W.heap.size W w') := fun W e1 e2 e3 f1 f2 f3 k k1 k2 => by
      rw [HO2.out]
      exact cmpFrac_pos ⟨_, _, _, _, _, _, rfl, k1, k2⟩ ⟨_, _, _, _, _, _, rfl, k.2.n1, k.2.d1⟩ HFit.out.f3
    have HC3 : Hid (∀ (W : World) (e1 : Option Addr) (e2 e3 : Nat) (f1 : Option Addr) (f2 f3 : Nat), (((W.cell? ⟨P, 0, none⟩ = some (.bool false) ∧ W.cell? ⟨P, 1, none⟩ = some (.slice a1 m1 d1) ∧ W.cell? ⟨P, 2, none⟩ = some (.slice a2 m2 d2)) ∧ (W.cell? ⟨Q, 0, none⟩ = some (.bool false) ∧ W.cell? ⟨Q, 1, none⟩ = some (.slice a3 m3 d3) ∧ W.cell? ⟨Q, 2, none⟩ = some (.slice a4 m4 d4)) ∧ (W.cell? ⟨R, 0, none⟩ = some (.bool false) ∧ W.cell? ⟨R, 1, none⟩ = some (.slice a5 m5 d5) ∧ W.cell? ⟨R, 2, none⟩ = some (.slice a6 m6 d6))) ∧ L3At w E M P Q R (.slice a1 m1 d1) (.slice a2 m2 d2) Av Dv (.slice a3 m3 d3) (.slice a4 m4 d4) Ar Dr (.slice a5 m5 d5) (.slice a6 m6 d6) Ar Dr W) → IsN W (.slice e1 e2 e3) (Ar * Ar) → IsN W (.slice f1 f2 f3) (Dr * Dr) → Calls Oabg.prog 53 #[.agg #[.bool false, .slice e1 e2 e3, .slice f1 f2 f3], .agg #[.bool false, .slice a1 m1 d1, .slice a2 m2 d2]] W fun e w' => e = .returned (.int .i8 o3) ∧ Below W.heap.size W w') := fun W e1 e2 e3 f1 f2 f3 k k1 k2 => by
      rw [HO3.out]
      exact cmpFrac_pos ⟨_, _, _, _, _, _, rfl, k1, k2⟩ ⟨_, _, _, _, _, _, rfl, k.2.n1, k.2.d1⟩ HFit.out.f5
    obtain ⟨⟨x0, x1, x2⟩, ⟨y0, y1', y2⟩, ⟨z0, z1, z2⟩, HK⟩ := hL.all
    clear hL
    go_wp2_with fail
    go_at_call 53
    refine (HCo.out _ HK.out).mono ?_
    rintro ee w14 ⟨rfl, hb⟩
    have hL := HK.out.step hb
    clear x0 x1 x2 y0 y1' y2 z0 z1 z2 HK hb HCo
    go_upto_region 20 with (fail)
    go_cut [18, 19] (fun s18 s19 wx => s18 = .int .i8 o2 ∧ s19 = .int .i8 o3 ∧ L3At w E M P Q R (.slice a1 m1 d1) (.slice a2 m2 d2) Av Dv (.slice a3 m3 d3) (.slice a4 m4 d4) Ar Dr (.slice a5 m5 d5) (.slice a6 m6 d6) Ar Dr wx)
    case first =>
      obtain ⟨x, y, z, HK⟩ := hL.all
      clear hL
      have x0 := x.1
      have x1 := x.2.1
      have x2 := x.2.2
      have y0 := y.1
      have y1' := y.2.1
      have y2 := y.2.2
      have z0 := z.1
      have z1 := z.2.1
      have z2 := z.2.2
      clear x y z
      go_region_held3 (fun W => ((W.cell? ⟨P, 0, none⟩ = some (.bool false) ∧ W.cell? ⟨P, 1, none⟩ = some (.slice a1 m1 d1) ∧ W.cell? ⟨P, 2, none⟩ = some (.slice a2 m2 d2)) ∧ (W.cell? ⟨Q, 0, none⟩ = some (.bool false) ∧ W.cell? ⟨Q, 1, none⟩ = some (.slice a3 m3 d3) ∧ W.cell? ⟨Q, 2, none⟩ = some (.slice a4 m4 d4)) ∧ (W.cell? ⟨R, 0, none⟩ = some (.bool false) ∧ W.cell? ⟨R, 1, none⟩ = some (.slice a5 m5 d5) ∧ W.cell? ⟨R, 2, none⟩ = some (.slice a6 m6 d6))) ∧ L3At w E M P Q R (.slice a1 m1 d1) (.slice a2 m2 d2) Av Dv (.slice a3 m3 d3) (.slice a4 m4 d4) Ar Dr (.slice a5 m5 d5) (.slice a6 m6 d6) Ar Dr W)
        (first
          | exact ⟨⟨⟨x0, x1, x2⟩, ⟨y0, y1', y2⟩, ⟨z0, z1, z2⟩⟩, HK.out.drew⟩
          | (with_reducible refine keepL3 hbA ?_; assumption)
          | (with_reducible refine keepL3 hbB ?_; assumption)
          | (with_reducible refine keepL3 hbC ?_; assumption)
          | (with_reducible refine keepL3 hbD ?_; assumption))
        (first
          | (go_at_call_of 29 (Value.agg #[.bool false, .slice a3 m3 d3, .slice a4 m4 d4]); refine (HM1.out _ (by assumption)).mono ?_; rintro ee wA ⟨xA, rfl, hA, hbA⟩; obtain ⟨e1, e2, e3, f1, f2, f3, rfl, iA, jA⟩ := hA)
          | (go_at_call_of 53 (Value.agg #[.bool false, .slice e1 e2 e3, .slice f1 f2 f3]); refine (HC2.out _ _ _ _ _ _ _ (by assumption) iA jA).mono ?_; rintro ee wB ⟨rfl, hbB⟩)
          | (go_at_call_of 29 (Value.agg #[.bool false, .slice a5 m5 d5, .slice a6 m6 d6]); refine (HM2.out _ (by assumption)).mono ?_; rintro ee wC ⟨xC, rfl, hC, hbC⟩; obtain ⟨g1, g2, g3, h1, h2, h3, rfl, iC, jC⟩ := hC)
          | (go_at_call_of 53 (Value.agg #[.bool false, .slice g1 g2 g3, .slice h1 h2 h3]); refine (HC3.out _ _ _ _ _ _ _ (by assumption) iC jC).mono ?_; rintro ee wD ⟨rfl, hbD⟩))
      rename_i hH
      have HLf : Hid (L3At w E M P Q R (.slice a1 m1 d1) (.slice a2 m2 d2) Av Dv (.slice a3 m3 d3) (.slice a4 m4 d4) Ar Dr (.slice a5 m5 d5) (.slice a6 m6 d6) Ar Dr _) := hH.2
      clear hH iA jA iC jC
      go_wp2
      go_meet
      exact ⟨rfl, rfl, HLf.out⟩
    case rest =>
    obtain ⟨rfl, rfl, hK⟩ := hcut
    clear hL HM1 HM2 HC2 HC3
    by_cases hm2 : mode = 2 ∨ mode = 4
    · have hs : o2 ≤ 0 ∧ ¬ (o1 < 0 ∧ o3 ≤ 0) := by
        have := HSays.out
        unfold SqSays at this
        rw [if_pos hm2] at this
        exact this
      have hB := hK.below
      have ho2 : o2 ≤ 0 := hs.1
      have hB' : Hid (Below w.heap.size w _) := hB
      clear hK hB
      rcases hm2 with hm | hm
      · have t2 : ((mode : Int) == 2) = true := by rw [hm]; rfl
        clear hm HSays
        by_cases q1 : o1 < 0
        · have d3 : (!decide (o3 ≤ 0)) = true := by rw [decide_eq_false (by omega)]; rfl
          have D3 : Hid ((!decide (o3 ≤ 0)) = true) := d3
          clear hs d3
          go_wp2
          go_ret
          exact ⟨congrArg (fun b : Bool => Ending.returned (Value.bool b)) D3.out, hB'.out⟩
        · clear hs
          go_wp2
          go_ret
          exact ⟨rfl, hB'.out⟩
      · have t2 : ((mode : Int) == 2) = false := by rw [hm]; rfl
        have t4 : ((mode : Int) == 4) = true := by rw [hm]; rfl
        clear hm HSays
        by_cases q1 : o1 < 0
        · have d3 : (!decide (o3 ≤ 0)) = true := by rw [decide_eq_false (by omega)]; rfl
          have D3 : Hid ((!decide (o3 ≤ 0)) = true) := d3
          clear hs d3
          go_wp2
          go_ret
          exact ⟨congrArg (fun b : Bool => Ending.returned (Value.bool b)) D3.out, hB'.out⟩
        · clear hs
          go_wp2
          go_ret
          exact ⟨rfl, hB'.out⟩
    have t2 : ((mode : Int) == 2) = false := by rw [beq_eq_false_iff_ne]; omega
    have t4 : ((mode : Int) == 4) = false := by rw [beq_eq_false_iff_ne]; omega
    by_cases hm3 : mode = 3
    · have hs : 0 ≤ o2 ∧ ¬ (0 < o1 ∧ 0 ≤ o3) := by
        have := HSays.out
        unfold SqSays at this
        rw [if_neg hm2, if_pos hm3] at this
        exact this
      have ho2 : 0 ≤ o2 := hs.1
      have t3 : ((mode : Int) == 3) = true := by rw [hm3]; rfl
      have hB' : Hid (Below w.heap.size w _) := hK.below
      clear hK hm2 hm3 HSays
      by_cases q1 : 0 < o1
      · have d3 : (!decide (0 ≤ o3)) = true := by rw [decide_eq_false (by omega)]; rfl
        have D3 : Hid ((!decide (0 ≤ o3)) = true) := d3
        clear hs d3
        go_wp2
        go_ret
        exact ⟨congrArg (fun b : Bool => Ending.returned (Value.bool b)) D3.out, hB'.out⟩
      · clear hs
        go_wp2
        go_ret
        exact ⟨rfl, hB'.out⟩
    have t3 : ((mode : Int) == 3) = false := by rw [beq_eq_false_iff_ne]; omega
    have hs : o1 = 0 ∨ (o1 < 0 ∧ o4 ≤ 0) ∨ (0 < o1 ∧ 0 ≤ o4) := by
      have := HSays.out
      unfold SqSays at this
      rw [if_neg hm2, if_neg hm3] at this
      exact this
    have HS : Hid (o1 = 0 ∨ (o1 < 0 ∧ o4 ≤ 0) ∨ (0 < o1 ∧ 0 ≤ o4)) := hs
    clear hs hm2 hm3 HSays
    obtain ⟨⟨x0, x1, x2⟩, ⟨y0, y1', y2⟩, ⟨z0, z1, z2⟩, HK⟩ := hK.all
    have HSu : Hid (Calls Oabg.prog 44 #[.agg #[.bool false, .slice a3 m3 d3, .slice a4 m4 d4], .agg #[.bool false, .slice a5 m5 d5, .slice a6 m6 d6]] _ fun e w' => ∃ r, e = .returned r ∧ RatAt w' r false (Ar * Dr + Ar * Dr) (Dr * Dr) ∧ Below _ _ w') := sumFrac_pos ⟨_, _, _, _, _, _, rfl, hK.n2, hK.d2⟩ ⟨_, _, _, _, _, _, rfl, hK.n3, hK.d3⟩ HFit.out.f1
    clear hK
    go_wp2_with fail
    go_at_call 44
    refine HSu.out.mono ?_
    rintro ee w15 ⟨r, rfl, hr, hb⟩
    obtain ⟨a7, m7, d7, a8, m8, d8, rfl, i4, j4⟩ := hr
    have hA := below_alloc w15 (.cells #[.bool false, .slice a7 m7 d7, .slice a8 m8 d8] 50)
    have hL3 := (HK.out.step hb).step hA
    have hN : L2At w P w15.heap.size (.slice a1 m1 d1) (.slice a2 m2 d2) Av Dv (.slice a7 m7 d7) (.slice a8 m8 d8) (Ar * Dr + Ar * Dr) (Dr * Dr) (w15.alloc (.cells #[.bool false, .slice a7 m7 d7, .slice a8 m8 d8] 50)) := ⟨hL3.p, RatV.start w15 false _ _, hL3.n1, hL3.d1, i4.step hA, j4.step hA, hL3.below⟩
    clear x0 x1 x2 y0 y1' y2 z0 z1 z2 HK hb hA hL3 i4 j4 HSu
    go_upto_region 28 with (fail)
    obtain ⟨W4, hW⟩ : ∃ W, W = w15.alloc (.cells #[.bool false, .slice a7 m7 d7, .slice a8 m8 d8] 50) := ⟨_, rfl⟩
    obtain ⟨K, hPe⟩ : ∃ K, K = w15.heap.size := ⟨_, rfl⟩
    rw [← hW, ← hPe] at hN
    rw [← hW, ← hPe]
    clear hW hPe
    have HM3 : Hid (∀ (W : World) (e1 : Option Addr) (e2 e3 : Nat) (f1 : Option Addr) (f2 f3 : Nat), (((W.cell? ⟨P, 0, none⟩ = some (.bool false) ∧ W.cell? ⟨P, 1, none⟩ = some (.slice a1 m1 d1) ∧ W.cell? ⟨P, 2, none⟩ = some (.slice a2 m2 d2)) ∧ (W.cell? ⟨K, 0, none⟩ = some (.bool false) ∧ W.cell? ⟨K, 1, none⟩ = some (.slice a7 m7 d7) ∧ W.cell? ⟨K, 2, none⟩ = some (.slice a8 m8 d8))) ∧ L2At w P K (.slice a1 m1 d1) (.slice a2 m2 d2) Av Dv (.slice a7 m7 d7) (.slice a8 m8 d8) (Ar * Dr + Ar * Dr) (Dr * Dr) W) → IsN W (.slice e1 e2 e3) 4 → IsN W (.slice f1 f2 f3) 1 → Calls Oabg.prog 29 #[.agg #[.bool false, .slice e1 e2 e3, .slice f1 f2 f3], .agg #[.bool false, .slice a1 m1 d1, .slice a2 m2 d2]] W fun e w' => ∃ r, e = .returned r ∧ RatAt w' r false (4 * Av) (1 * Dv) ∧ Below W.heap.size W w') := fun W e1 e2 e3 f1 f2 f3 k k1 k2 => mulFrac_pos ⟨_, _, _, _, _, _, rfl, k1, k2⟩ ⟨_, _, _, _, _, _, rfl, k.2.n1, k.2.d1⟩ HFit.out.f6
    have HM4 : Hid (∀ W : World, (((W.cell? ⟨P, 0, none⟩ = some (.bool false) ∧ W.cell? ⟨P, 1, none⟩ = some (.slice a1 m1 d1) ∧ W.cell? ⟨P, 2, none⟩ = some (.slice a2 m2 d2)) ∧ (W.cell? ⟨K, 0, none⟩ = some (.bool false) ∧ W.cell? ⟨K, 1, none⟩ = some (.slice a7 m7 d7) ∧ W.cell? ⟨K, 2, none⟩ = some (.slice a8 m8 d8))) ∧ L2At w P K (.slice a1 m1 d1) (.slice a2 m2 d2) Av Dv (.slice a7 m7 d7) (.slice a8 m8 d8) (Ar * Dr + Ar * Dr) (Dr * Dr) W) → Calls Oabg.prog 29 #[.agg #[.bool false, .slice a7 m7 d7, .slice a8 m8 d8], .agg #[.bool false, .slice a7 m7 d7, .slice a8 m8 d8]] W fun e w' => ∃ r, e = .returned r ∧ RatAt w' r false ((Ar * Dr + Ar * Dr) * (Ar * Dr + Ar * Dr)) (Dr * Dr * (Dr * Dr)) ∧ Below W.heap.size W w') := fun W k => mulFrac_pos ⟨_, _, _, _, _, _, rfl, k.2.n2, k.2.d2⟩ ⟨_, _, _, _, _, _, rfl, k.2.n2, k.2.d2⟩ HFit.out.f7
    have HC4 : Hid (∀ (W : World) (e1 : Option Addr) (e2 e3 : Nat) (f1 : Option Addr) (f2 f3 : Nat) (g1 : Option Addr) (g2 g3 : Nat) (h1 : Option Addr) (h2 h3 : Nat), IsN W (.slice e1 e2 e3) (4 * Av) → IsN W (.slice f1 f2 f3) (1 * Dv) → IsN W (.slice g1 g2 g3) ((Ar * Dr + Ar * Dr) * (Ar * Dr + Ar * Dr)) → IsN W (.slice h1 h2 h3) (Dr * Dr * (Dr * Dr)) → Calls Oabg.prog 53 #[.agg #[.bool false, .slice e1 e2 e3, .slice f1 f2 f3], .agg #[.bool false, .slice g1 g2 g3, .slice h1 h2 h3]] W fun e w' => e = .returned (.int .i8 o4) ∧ Below W.heap.size W w') := fun W e1 e2 e3 f1 f2 f3 g1 g2 g3 h1 h2 h3 k1 k2 k3 k4 => by
      rw [HO4.out]
      exact cmpFrac_pos ⟨_, _, _, _, _, _, rfl, k1, k2⟩ ⟨_, _, _, _, _, _, rfl, k3, k4⟩ HFit.out.f8
    go_cut [21] (fun s21 wx => s21 = .int .i8 o4 ∧ Below w.heap.size w wx)
    case first =>
      have x0 := hN.p.c0
      have x1 := hN.p.c1
      have x2 := hN.p.c2
      have y0 := hN.q.c0
      have y1' := hN.q.c1
      have y2 := hN.q.c2
      have HK : Hid (L2At w P K (.slice a1 m1 d1) (.slice a2 m2 d2) Av Dv (.slice a7 m7 d7) (.slice a8 m8 d8) (Ar * Dr + Ar * Dr) (Dr * Dr) W4) := hN
      clear hN
      go_region_held3 (fun W => ((W.cell? ⟨P, 0, none⟩ = some (.bool false) ∧ W.cell? ⟨P, 1, none⟩ = some (.slice a1 m1 d1) ∧ W.cell? ⟨P, 2, none⟩ = some (.slice a2 m2 d2)) ∧ (W.cell? ⟨K, 0, none⟩ = some (.bool false) ∧ W.cell? ⟨K, 1, none⟩ = some (.slice a7 m7 d7) ∧ W.cell? ⟨K, 2, none⟩ = some (.slice a8 m8 d8))) ∧ L2At w P K (.slice a1 m1 d1) (.slice a2 m2 d2) Av Dv (.slice a7 m7 d7) (.slice a8 m8 d8) (Ar * Dr + Ar * Dr) (Dr * Dr) W)
        (first
          | exact ⟨⟨⟨x0, x1, x2⟩, ⟨y0, y1', y2⟩⟩, HK.out.drew⟩
          | (with_reducible refine keepL2 hbA ?_; assumption)
          | (with_reducible refine keepL2 hbB ?_; assumption)
          | (with_reducible refine keepL2 hbC ?_; assumption)
          | (with_reducible refine keepL2 hbD ?_; assumption))
        (first
          | (go_at_call 54; refine (pow2Frac_two _).mono ?_; rintro ee wA ⟨xA, rfl, hA, hbA⟩; obtain ⟨e1, e2, e3, f1, f2, f3, rfl, iA, jA⟩ := hA)
          | (go_at_call_of 29 (Value.agg #[.bool false, .slice a1 m1 d1, .slice a2 m2 d2]); refine (HM3.out _ _ _ _ _ _ _ (by assumption) iA jA).mono ?_; rintro ee wB ⟨xB, rfl, hB, hbB⟩; obtain ⟨e4, e5, e6, f4, f5, f6, rfl, iB, jB⟩ := hB)
          | (go_at_call_of 29 (Value.agg #[.bool false, .slice a7 m7 d7, .slice a8 m8 d8]); refine (HM4.out _ (by assumption)).mono ?_; rintro ee wC ⟨xC, rfl, hC, hbC⟩; obtain ⟨g1, g2, g3, h1, h2, h3, rfl, iC, jC⟩ := hC)
          | (go_at_call 53; refine (HC4.out _ _ _ _ _ _ _ _ _ _ _ _ _ (iB.step hbC) (jB.step hbC) iC jC).mono ?_; rintro ee wD ⟨rfl, hbD⟩))
      rename_i hH
      have HLf : Hid (Below w.heap.size w _) := hH.2.below
      clear hH iA jA iB jB iC jC
      go_wp2
      go_meet
      exact ⟨rfl, HLf.out⟩
    case rest =>
    obtain ⟨rfl, hB⟩ := hcut
    have hB' : Hid (Below w.heap.size w _) := hB
    clear hN HM3 HM4 HC4 hB t2 t3 t4
    rcases HS.out with q | ⟨q, q'⟩ | ⟨q, q'⟩
    · subst q
      go_wp2
      go_ret
      exact ⟨rfl, hB'.out⟩
    · have q0 : (o1 == 0) = false := by rw [beq_eq_false_iff_ne]; omega
      go_wp2
      go_ret
      exact ⟨rfl, hB'.out⟩
    · have q0 : (o1 == 0) = false := by rw [beq_eq_false_iff_ne]; omega
      go_wp2
      go_ret
      exact ⟨rfl, hB'.out⟩

end Go.Proofs.Ygcoab
