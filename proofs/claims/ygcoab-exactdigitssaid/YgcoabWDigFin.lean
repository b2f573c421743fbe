import Derived.Test.YgcoabPlainDigZ
import Derived.Deep.RegionWith
namespace Go.Proofs.Ygcoab
open Go.RowKit

set_option maxRecDepth 100000 in
set_option maxHeartbeats 4000000 in
theorem exactDigits_fin {E M : Nat} (h : FOk E M) (x : Nat) (hx : x < 18446744073709551616) (hf : expF E M x ≠ topE E) (hz : clsF E M x ≠ 0) (prec : Nat) (hp : prec ≤ 2000) (w : World) :
    Calls Oabg.prog 7 #[fmtV E M, .int .u64 x, .int .u16 prec] w fun e w' => e = .returned (.bool true) ∧ Below w.heap.size w w' := by
  have h' := h
  have HF : Hid (∀ w : World, Calls Oabg.prog 25 #[.agg #[.int .u8 E, .int .u8 M], .int .u64 x, .int .u16 prec] w (DfPost w (unitsN (vNum E M x) (vDen E M x) (-(prec : Int))))) := fun w => digitsF_fin h x hx hf prec hp w
  have HI : Hid (∀ w : World, Calls Oabg.prog 26 #[.agg #[.int .u8 E, .int .u8 M], .int .u64 x] w fun e w' => e = .returned (.bool true) ∧ Below w.heap.size w w') := fun w => isFinite_yes h x hx true (by simp [hf]) w
  have HV : Hid (∀ w : World, Calls Oabg.prog 27 #[.agg #[.int .u8 E, .int .u8 M], .int .u64 x] w fun e w' => ∃ r, e = .returned (.tuple #[r, .int .i8 (clsF E M x)]) ∧ RatAt w' r (vNeg E M x) (vNum E M x) (vDen E M x) ∧ Below w.heap.size w w') := fun w => value_yes h x hx w
  have HC : Hid (∀ w : World, Calls Oabg.prog 31 #[.agg #[.int .u8 E, .int .u8 M], .int .u64 x] w fun e w' => e = .returned (.int .i8 (clsF E M x)) ∧ Below w.heap.size w w') := fun w => classOf_yes h x hx w
  have HLf : Hid (LogFit (vNum E M x) (vDen E M x)) := logFit_val h x
  have hgt : decide (2000 < (prec : Int)) = false := decide_eq_false (by omega)
  have ewp : IntKind.i64.wrap (prec : Int) = (prec : Nat) := by rw [IntKind.wrap_i64]; omega
  have HE : Hid (∀ w : World, Calls Oabg.prog 24 #[.agg #[.int .u8 E, .int .u8 M], .int .u64 x, .int .u16 prec] w (DePost w (vNum E M x) (vDen E M x) prec)) := fun w => digitsE_fin h x hx hf hz prec hp w
  have e0 : (clsF E M x == 0) = false := by rw [beq_eq_false_iff_ne]; exact hz
  clear hf hz
  generalize clsF E M x = kc at *
  generalize vNeg E M x = s at *
  generalize vNum E M x = A at *
  generalize vDen E M x = D at *
  unfold fmtV
  go_enter Oabg.func7, Oabg.ntmps7
  have hB0 := fmt_start w E M
  go_wp2_with fail
  go_at_call 23
  refine (ok_yes h' _).mono ?_
  rintro e w1 ⟨rfl, hb⟩
  have hFB := fb_step hB0 hb
  obtain ⟨c0, c1⟩ := hFB.1.all
  clear hb hB0
  go_wp2_with fail
  go_at_call 24
  refine (HE.out _).mono ?_
  rintro e w2 ⟨bE, k, hk, hdE, hb, hcase⟩
  have hFB := fb_step hFB hb
  clear hb c0 c1
  obtain ⟨c0, c1⟩ := hFB.1.all
  have HE1 : Hid (DigB (unitsN A D (k - prec)) bE) := hdE.bytes
  have HKt : Hid (LogTen A D k) := hk
  have hklo := hk.lo
  have hkhi := hk.hi
  have hu1 := units_ge (p := prec) HLf.out.pd hk.le
  have hu2 := units_le (p := prec) HLf.out.pd hk.lt
  clear hdE hk
  -- the string and the exponent that came
  obtain ⟨eb, xp, rfl, hebs, hRest⟩ : ∃ (eb : ByteArray) (xp : Int), e = .returned (.tuple #[.string eb, .int .i16 xp]) ∧ eb.size = prec + 1 ∧ ((unitsN A D (k - prec) = 10 ^ (prec + 1) ∧ bE.size = prec + 2 ∧ eb = bE.extract 0 (prec + 1) ∧ xp = k + 1) ∨ (bE.size = prec + 1 ∧ eb = bE ∧ xp = k)) := by
    rcases HE1.out.len hu1 hu2 with ⟨q1, q2⟩ | ⟨q1, q2⟩
    · rcases hcase with ⟨q3, q4⟩ | ⟨q3, q4⟩
      · omega
      · exact ⟨bE, k, q4, q2, .inr ⟨q2, rfl, rfl⟩⟩
    · rcases hcase with ⟨q3, q4⟩ | ⟨q3, q4⟩
      · refine ⟨_, _, q4, ?_, .inl ⟨q1, q2, rfl, rfl⟩⟩
        rw [ByteArray.size_extract]
        omega
      · omega
  have HRe : Hid ((unitsN A D (k - prec) = 10 ^ (prec + 1) ∧ bE.size = prec + 2 ∧ eb = bE.extract 0 (prec + 1) ∧ xp = k + 1) ∨ (bE.size = prec + 1 ∧ eb = bE ∧ xp = k)) := hRest
  clear hcase hu1 hu2 hRest
  go_wp2_with fail
  go_at_call 25
  refine (HF.out _).mono ?_
  rintro e w3 ⟨b, rfl, hdb, hb⟩
  have hFB := fb_step hFB hb
  clear hb c0 c1
  obtain ⟨c0, c1⟩ := hFB.1.all
  have hdB := hdb.bytes
  have hbl : b.size ≤ 5000 := hdB.small (units_b7 HLf.out (by omega))
  have HAsk : Hid (NwAsk A D (prec : Int) b) := nwAsk HLf.out (by omega) (by omega) hdB.pos hbl hdB.dig hdB.val
  have hlead := hdB.lead
  have hbpos := hdB.pos
  clear hdb hdB
  go_wp2_with fail
  go_at_call 26
  refine (HI.out _).mono ?_
  rintro e w4 ⟨rfl, hb⟩
  have hFB := fb_step hFB hb
  clear hb c0 c1
  obtain ⟨c0, c1⟩ := hFB.1.all
  go_wp2_with fail
  go_at_call 27
  refine (HV.out _).mono ?_
  rintro e w5 ⟨r, rfl, hr, hb⟩
  obtain ⟨a1, m1, d1, a2, m2, d2, rfl, i1, j1⟩ := hr
  have hFB := fb_step hFB hb
  have hA := below_alloc w5 (.cells #[.bool s, .slice a1 m1 d1, .slice a2 m2 d2] 50)
  have hL : LdAt w E M w5.heap.size s (.slice a1 m1 d1) (.slice a2 m2 d2) A D (w5.alloc (.cells #[.bool s, .slice a1 m1 d1, .slice a2 m2 d2] 50)) := ⟨hFB.1.step hA, RatV.start w5 s _ _, i1.step hA, j1.step hA, below_step hFB.2 hFB.2.size hA⟩
  clear hb c0 c1 hFB i1 j1 hA HF HI HV HE
  go_upto_region 8 with (fail)
  obtain ⟨W1, hW⟩ : ∃ W, W = w5.alloc (.cells #[.bool s, .slice a1 m1 d1, .slice a2 m2 d2] 50) := ⟨_, rfl⟩
  obtain ⟨P, hPe⟩ : ∃ P, P = w5.heap.size := ⟨_, rfl⟩
  rw [← hW, ← hPe] at hL
  rw [← hW, ← hPe]
  clear hW hPe
  have HP : Hid (∀ w : World, Calls Oabg.prog 30 #[.int .i64 prec] w fun e w' => ∃ r, e = .returned r ∧ RatAt w' r false (tenN prec) (tenD prec) ∧ Below w.heap.size w w') := fun w => pow10Frac_any (prec : Int) (by omega) (by omega) w
  have HM : Hid (∀ (W : World) (y : Value), ((W.cell? ⟨P, 0, none⟩ = some (.bool s) ∧ W.cell? ⟨P, 1, none⟩ = some (.slice a1 m1 d1) ∧ W.cell? ⟨P, 2, none⟩ = some (.slice a2 m2 d2)) ∧ LdAt w E M P s (.slice a1 m1 d1) (.slice a2 m2 d2) A D W) → RatAt W y false (tenN prec) (tenD prec) → Calls Oabg.prog 29 #[.agg #[.bool s, .slice a1 m1 d1, .slice a2 m2 d2], y] W fun e w' => ∃ r, e = .returned r ∧ RatAt w' r (!(s == false)) (A * tenN prec) (D * tenD prec) ∧ Below W.heap.size W w') := fun W y k k1 => mulFrac_any ⟨_, _, _, _, _, _, rfl, k.2.n, k.2.d⟩ k1 (askMul HLf.out (by omega) (by omega))
  have HNw : Hid (∀ (W : World) (y : Value), RatAt W y (!(s == false)) (A * tenN prec) (D * tenD prec) → Calls Oabg.prog 28 #[.string b, y] W fun e w' => e = .returned (.bool true) ∧ Below W.heap.size W w') := fun W y k1 => nearestWhole_yes b HAsk.out.pos HAsk.out.le HAsk.out.dig k1 HAsk.out.fit HAsk.out.near
  obtain ⟨sg, hsg⟩ : ∃ sg, sg = (!(s == false)) := ⟨_, rfl⟩
  rw [← hsg] at HM HNw
  clear hsg
  have hebn : ((eb.size : Int) != (prec : Int) + 1) = false := by
    have : (eb.size : Int) = (prec : Int) + 1 := by omega
    rw [this]
    simp
  have ewp1 : IntKind.i64.wrap ((prec : Int) + 1) = (prec : Int) + 1 := by rw [IntKind.wrap_i64]; omega
  have hb0 := bAt_eq b 0 hbpos
  have hb0l := bAt_lt b 0
  go_cut [76] (fun s76 wx => s76 = .bool false ∧ LdAt w E M P s (.slice a1 m1 d1) (.slice a2 m2 d2) A D wx)
  case first =>
    have p0 := hL.p.c0
    have p1 := hL.p.c1
    have p2 := hL.p.c2
    have HK : Hid (LdAt w E M P s (.slice a1 m1 d1) (.slice a2 m2 d2) A D W1) := hL
    clear hL e0
    rcases hlead with h1 | h1
    · have hszn : decide (1 < b.size) = false := decide_eq_false (by omega)
      have hszg : decide ((b.size : Int) > 1) = false := decide_eq_false (by omega)
      have hszi : (b.size : Int) = 1 := by omega
      have hsz1 : decide (1 < (b.size : Int)) = false := decide_eq_false (by omega)
      first
      | (go_region_held (fun W => (W.cell? ⟨P, 0, none⟩ = some (.bool s) ∧ W.cell? ⟨P, 1, none⟩ = some (.slice a1 m1 d1) ∧ W.cell? ⟨P, 2, none⟩ = some (.slice a2 m2 d2)) ∧ LdAt w E M P s (.slice a1 m1 d1) (.slice a2 m2 d2) A D W)
          (first
            | exact ⟨⟨p0, p1, p2⟩, HK.out.drew⟩
            | assumption
            | (with_reducible refine keepLd hbA ?_; assumption)
            | (with_reducible refine keepLd hbB ?_; assumption)
            | (with_reducible refine keepLd hbC ?_; assumption))
          (first
            | (go_at_call 30; refine (HP.out _).mono ?_; rintro ee wA ⟨xA, rfl, hA, hbA⟩; obtain ⟨g1, g2, g3, g4, g5, g6, rfl, iA, jA⟩ := hA)
            | (go_at_call 29; refine (HM.out _ _ (by assumption) ⟨_, _, _, _, _, _, rfl, iA, jA⟩).mono ?_; rintro ee wB ⟨xB, rfl, hB, hbB⟩; obtain ⟨k1, k2, k3, k4, k5, k6, rfl, iB, jB⟩ := hB)
            | (go_at_call 28; refine (HNw.out _ _ ⟨_, _, _, _, _, _, rfl, iB, jB⟩).mono ?_; rintro ee wC ⟨rfl, hbC⟩)))
      | fail
      all_goals (
        rename_i hH
        have HLf2 : Hid (LdAt w E M P s (.slice a1 m1 d1) (.slice a2 m2 d2) A D _) := hH.2
        clear hH iA jA iB jB
        go_wp2
        go_meet
        exact ⟨by simp, HLf2.out⟩)
    · have e48 : ((bAt b 0 : Int) == 48) = false := by rw [beq_eq_false_iff_ne]; omega
      by_cases h2 : b.size = 1
      · have hszn : decide (1 < b.size) = false := decide_eq_false (by omega)
        have hsz1 : decide (1 < (b.size : Int)) = false := decide_eq_false (by omega)
        first
        | (go_region_held (fun W => (W.cell? ⟨P, 0, none⟩ = some (.bool s) ∧ W.cell? ⟨P, 1, none⟩ = some (.slice a1 m1 d1) ∧ W.cell? ⟨P, 2, none⟩ = some (.slice a2 m2 d2)) ∧ LdAt w E M P s (.slice a1 m1 d1) (.slice a2 m2 d2) A D W)
            (first
              | exact ⟨⟨p0, p1, p2⟩, HK.out.drew⟩
              | assumption
              | (with_reducible refine keepLd hbA ?_; assumption)
              | (with_reducible refine keepLd hbB ?_; assumption)
              | (with_reducible refine keepLd hbC ?_; assumption))
            (first
              | (go_at_call 30; refine (HP.out _).mono ?_; rintro ee wA ⟨xA, rfl, hA, hbA⟩; obtain ⟨g1, g2, g3, g4, g5, g6, rfl, iA, jA⟩ := hA)
              | (go_at_call 29; refine (HM.out _ _ (by assumption) ⟨_, _, _, _, _, _, rfl, iA, jA⟩).mono ?_; rintro ee wB ⟨xB, rfl, hB, hbB⟩; obtain ⟨k1, k2, k3, k4, k5, k6, rfl, iB, jB⟩ := hB)
              | (go_at_call 28; refine (HNw.out _ _ ⟨_, _, _, _, _, _, rfl, iB, jB⟩).mono ?_; rintro ee wC ⟨rfl, hbC⟩)))
        | fail
        all_goals (
          rename_i hH
          have HLf2 : Hid (LdAt w E M P s (.slice a1 m1 d1) (.slice a2 m2 d2) A D _) := hH.2
          clear hH iA jA iB jB
          go_wp2
          go_meet
          exact ⟨by simp, HLf2.out⟩)
      · have hsz1 : decide (1 < (b.size : Int)) = true := decide_eq_true (by omega)
        have hszn : decide (1 < b.size) = true := decide_eq_true (by omega)
        go_region_held3 (fun W => (W.cell? ⟨P, 0, none⟩ = some (.bool s) ∧ W.cell? ⟨P, 1, none⟩ = some (.slice a1 m1 d1) ∧ W.cell? ⟨P, 2, none⟩ = some (.slice a2 m2 d2)) ∧ LdAt w E M P s (.slice a1 m1 d1) (.slice a2 m2 d2) A D W)
          (first
            | exact ⟨⟨p0, p1, p2⟩, HK.out.drew⟩
            | assumption
            | (with_reducible refine keepLd hbA ?_; assumption)
            | (with_reducible refine keepLd hbB ?_; assumption)
            | (with_reducible refine keepLd hbC ?_; assumption))
          (first
            | (go_at_call 30; refine (HP.out _).mono ?_; rintro ee wA ⟨xA, rfl, hA, hbA⟩; obtain ⟨g1, g2, g3, g4, g5, g6, rfl, iA, jA⟩ := hA)
            | (go_at_call 29; refine (HM.out _ _ (by assumption) ⟨_, _, _, _, _, _, rfl, iA, jA⟩).mono ?_; rintro ee wB ⟨xB, rfl, hB, hbB⟩; obtain ⟨k1, k2, k3, k4, k5, k6, rfl, iB, jB⟩ := hB)
            | (go_at_call 28; refine (HNw.out _ _ ⟨_, _, _, _, _, _, rfl, iB, jB⟩).mono ?_; rintro ee wC ⟨rfl, hbC⟩))
        all_goals (
          rename_i hH
          have HLf2 : Hid (LdAt w E M P s (.slice a1 m1 d1) (.slice a2 m2 d2) A D _) := hH.2
          clear hH iA jA iB jB
          go_wp2
          go_meet
          exact ⟨by simp, HLf2.out⟩)
  case rest =>
  obtain ⟨rfl, hK⟩ := hcut
  clear hL HP HM HNw hebn hb0 hb0l hlead hbpos hbl HAsk
  have HK : Hid (LdAt w E M P s (.slice a1 m1 d1) (.slice a2 m2 d2) A D _) := hK
  obtain ⟨c0, c1⟩ := hK.fm.all
  clear hK
  go_wp2_with fail
  go_at_call 31
  refine (HC.out _).mono ?_
  rintro e w7 ⟨rfl, hb⟩
  have hK := HK.out.step hb
  clear c0 c1 HK hb HC
  have hxb : -700 ≤ xp ∧ xp ≤ 1101 := by rcases HRe.out with ⟨q1, q2, q3, q4⟩ | ⟨q2, q3, q4⟩ <;> omega
  obtain ⟨kk, hkk⟩ : ∃ kk : Int, kk = xp - prec := ⟨_, rfl⟩
  have ewx : IntKind.i64.wrap xp = xp := by rw [IntKind.wrap_i64]; omega
  have ewk : IntKind.i64.wrap (xp - (prec : Int)) = kk := by rw [IntKind.wrap_i64]; omega
  have HPx : Hid (∀ w : World, Calls Oabg.prog 30 #[.int .i64 xp] w fun e w' => ∃ r, e = .returned r ∧ RatAt w' r false (tenN xp) (tenD xp) ∧ Below w.heap.size w w') := fun w => pow10Frac_any xp (by omega) (by omega) w
  obtain ⟨z, hz⟩ : ∃ z, z = cmpZ (A * tenD xp) (tenN xp * D) := ⟨_, rfl⟩
  have HCs : Hid (∀ (W : World) (y : Value), ((W.cell? ⟨P, 0, none⟩ = some (.bool s) ∧ W.cell? ⟨P, 1, none⟩ = some (.slice a1 m1 d1) ∧ W.cell? ⟨P, 2, none⟩ = some (.slice a2 m2 d2)) ∧ LdAt w E M P s (.slice a1 m1 d1) (.slice a2 m2 d2) A D W) → RatAt W y false (tenN xp) (tenD xp) → Calls Oabg.prog 33 #[.agg #[.bool s, .slice a1 m1 d1, .slice a2 m2 d2], y] W fun e w' => e = .returned (.int .i8 z) ∧ Below W.heap.size W w') := fun W y k k1 => by
    rw [hz]
    exact cmpSize_any ⟨_, _, _, _, _, _, rfl, k.2.n, k.2.d⟩ k1 (askMul HLf.out (by omega) (by omega))
  have HZ : Hid (z = cmpZ (A * tenD xp) (tenN xp * D)) := hz
  have HKk : Hid (kk = xp - prec) := hkk
  clear hz hkk
  go_upto_region 13 with (fail)
  go_cut [107] (fun s107 wx => s107 = .bool (decide (z < 0)) ∧ LdAt w E M P s (.slice a1 m1 d1) (.slice a2 m2 d2) A D wx)
  case first =>
    have p0 := hK.p.c0
    have p1 := hK.p.c1
    have p2 := hK.p.c2
    have HK : Hid (LdAt w E M P s (.slice a1 m1 d1) (.slice a2 m2 d2) A D w7) := hK
    clear hK e0
    go_region_held3 (fun W => (W.cell? ⟨P, 0, none⟩ = some (.bool s) ∧ W.cell? ⟨P, 1, none⟩ = some (.slice a1 m1 d1) ∧ W.cell? ⟨P, 2, none⟩ = some (.slice a2 m2 d2)) ∧ LdAt w E M P s (.slice a1 m1 d1) (.slice a2 m2 d2) A D W)
      (first
        | exact ⟨⟨p0, p1, p2⟩, HK.out.drew⟩
        | assumption
        | (with_reducible refine keepLd hbA ?_; assumption)
        | (with_reducible refine keepLd hbB ?_; assumption))
      (first
        | (go_at_call 30; refine (HPx.out _).mono ?_; rintro ee wA ⟨xA, rfl, hA, hbA⟩; obtain ⟨g1, g2, g3, g4, g5, g6, rfl, iA, jA⟩ := hA)
        | (go_at_call 33; refine (HCs.out _ _ (by assumption) ⟨_, _, _, _, _, _, rfl, iA, jA⟩).mono ?_; rintro ee wB ⟨rfl, hbB⟩))
    rename_i hH
    have HLf2 : Hid (LdAt w E M P s (.slice a1 m1 d1) (.slice a2 m2 d2) A D _) := hH.2
    clear hH iA jA
    go_wp2
    go_meet
    exact ⟨rfl, HLf2.out⟩
  case rest =>
  obtain ⟨rfl, hK2⟩ := hcut
  clear hK HPx HCs ewx ewk
  rcases HRe.out with ⟨q1, q2, q3, q4⟩ | ⟨q2, q3, q4⟩
  · have hz0 : decide (z < 0) = true := by
      refine decide_eq_true ?_
      rw [HZ.out, cz_lt, q4]
      exact Nat.lt_of_not_le HKt.out.lt
    rw [hz0]
    have htd := ten_digits (b := bE) (t := prec + 1) (by have := HE1.out.dig; unfold allDig at this; rw [q2] at this; exact this) (by have := HE1.out.val; rw [q2, q1] at this; exact this)
    have hbe : ∀ j, j < prec + 1 → bAt eb j = bAt bE j := fun j hj => by rw [q3, bAt_extract _ _ _ _ (by omega), Nat.zero_add]
    have he49 : bAt eb 0 = 49 := by rw [hbe 0 (by omega)]; exact htd.1
    have hebp : 0 < eb.size := by omega
    have heb0 := bAt_eq eb 0 hebp
    have he49' : ((bAt eb 0 : Int) != 49) = false := by rw [he49]; rfl
    have HSp : Hid (∀ w : World, Calls Oabg.prog 32 #[.string (eb.extract 1 (prec + 1))] w fun e w' => ∃ v, e = .returned v ∧ IsN w' v 0 ∧ Below w.heap.size w w') := fun w => by
      have hsz : (eb.extract 1 (prec + 1)).size = prec := by rw [ByteArray.size_extract]; omega
      have hzz : ∀ j, j < prec → bAt (eb.extract 1 (prec + 1)) j = 48 := fun j hj => by
        rw [bAt_extract _ _ _ _ (by omega), hbe (1 + j) (by omega)]
        exact htd.2 (1 + j) (by omega) (by omega)
      have := spelled_any (eb.extract 1 (prec + 1)) (by omega) (by
        unfold allDig
        rw [hsz, digTo_iff]
        intro j hj
        rw [hzz j hj]
        omega) w
      rw [hsz, spTo_zero hzz] at this
      exact this
    have HBe : Hid (∀ j, j < prec + 1 → bAt eb j = bAt bE j) := hbe
    have HTd : Hid (bAt bE 0 = 49 ∧ ∀ j, 0 < j → j ≤ prec + 1 → bAt bE j = 48) := htd
    have HQq : Hid (unitsN A D (k - prec) = 10 ^ (prec + 1) ∧ bE.size = prec + 2 ∧ xp = k + 1) := ⟨q1, q2, q4⟩
    have HK : Hid (LdAt w E M P s (.slice a1 m1 d1) (.slice a2 m2 d2) A D _) := hK2
    clear hK2 q1 q2 q3 q4 htd hbe he49 HRe
    go_wp2_with fail
    go_at_call 32
    refine (HSp.out _).mono ?_
    rintro e w8 ⟨v, rfl, hv, hb⟩
    obtain ⟨a9, n9, c9, rfl⟩ := hv.shape
    have hl0 := hv.len0
    have hl0' : ((n9 : Int) != 0) = false := by
      have : ((n9 : Int) == 0) = true := by rw [hl0]; rfl
      simp only [bne, this, Bool.not_true]
    have hK2 := HK.out.step hb
    clear HK hb hv hl0 HSp he49' heb0 hebp
    have hkkb := HKk.out
    have hq := HQq.out
    have hEBe : eb ++ { data := #[48] } = bE := lifted_eq hebs hq.2.1 HBe.out (HTd.out.2 (prec + 1) (by omega) (by omega))
    obtain ⟨kj, hkj⟩ : ∃ kj : Int, kj = kk - 1 := ⟨_, rfl⟩
    have ewj : IntKind.i64.wrap (kk - 1) = kj := by rw [IntKind.wrap_i64]; omega
    obtain ⟨nk, hnk⟩ : ∃ nk : Int, nk = -kj := ⟨_, rfl⟩
    have ewn : IntKind.i64.wrap (-kj) = nk := by rw [IntKind.wrap_i64]; omega
    have hask : NwAsk A D nk bE := nwAsk HLf.out (by omega) (by omega) HE1.out.pos (by omega) HE1.out.dig (by
      rw [HE1.out.val]
      congr 1
      omega)
    have he0 : ((bAt bE 0 : Int) != 48) = true := by rw [HTd.out.1]; rfl
    have HAsk2 : Hid (NwAsk A D nk bE) := hask
    have HP2 : Hid (∀ w : World, Calls Oabg.prog 30 #[.int .i64 nk] w fun e w' => ∃ r, e = .returned r ∧ RatAt w' r false (tenN nk) (tenD nk) ∧ Below w.heap.size w w') := fun w => pow10Frac_any nk (by omega) (by omega) w
    have HM2 : Hid (∀ (W : World) (y : Value), ((W.cell? ⟨P, 0, none⟩ = some (.bool s) ∧ W.cell? ⟨P, 1, none⟩ = some (.slice a1 m1 d1) ∧ W.cell? ⟨P, 2, none⟩ = some (.slice a2 m2 d2)) ∧ LdAt w E M P s (.slice a1 m1 d1) (.slice a2 m2 d2) A D W) → RatAt W y false (tenN nk) (tenD nk) → Calls Oabg.prog 29 #[.agg #[.bool s, .slice a1 m1 d1, .slice a2 m2 d2], y] W fun e w' => ∃ r, e = .returned r ∧ RatAt w' r (!(s == false)) (A * tenN nk) (D * tenD nk) ∧ Below W.heap.size W w') := fun W y k k1 => mulFrac_any ⟨_, _, _, _, _, _, rfl, k.2.n, k.2.d⟩ k1 (askMul HLf.out (by omega) (by omega))
    have HNw2 : Hid (∀ (W : World) (y : Value), RatAt W y (!(s == false)) (A * tenN nk) (D * tenD nk) → Calls Oabg.prog 28 #[.string bE, y] W fun e w' => e = .returned (.bool true) ∧ Below W.heap.size W w') := fun W y k1 => nearestWhole_yes _ HAsk2.out.pos HAsk2.out.le HAsk2.out.dig k1 HAsk2.out.fit HAsk2.out.near
    obtain ⟨sg2, hsg2⟩ : ∃ sg, sg = (!(s == false)) := ⟨_, rfl⟩
    rw [← hsg2] at HM2 HNw2
    have hebp := hask.pos
    have heb0 := bAt_eq bE 0 hebp
    have hebl := bAt_lt bE 0
    clear hsg2 hnk hkj hkkb hask hq HE1 HKt HZ HBe HTd HQq
    go_upto_region 17 with (fail)
    clear hEBe
    have p0 := hK2.p.c0
    have p1 := hK2.p.c1
    have p2 := hK2.p.c2
    have HK : Hid (LdAt w E M P s (.slice a1 m1 d1) (.slice a2 m2 d2) A D _) := hK2
    clear hK2 e0
    go_region_held3 (fun W => (W.cell? ⟨P, 0, none⟩ = some (.bool s) ∧ W.cell? ⟨P, 1, none⟩ = some (.slice a1 m1 d1) ∧ W.cell? ⟨P, 2, none⟩ = some (.slice a2 m2 d2)) ∧ LdAt w E M P s (.slice a1 m1 d1) (.slice a2 m2 d2) A D W)
      (first
        | exact ⟨⟨p0, p1, p2⟩, HK.out.drew⟩
        | assumption
        | (with_reducible refine keepLd hbA ?_; assumption)
        | (with_reducible refine keepLd hbB ?_; assumption)
        | (with_reducible refine keepLd hbC ?_; assumption))
      (first
        | (go_at_call 30; refine (HP2.out _).mono ?_; rintro ee wA ⟨xA, rfl, hA, hbA⟩; obtain ⟨g1, g2, g3, g4, g5, g6, rfl, iA, jA⟩ := hA)
        | (go_at_call 29; refine (HM2.out _ _ (by assumption) ⟨_, _, _, _, _, _, rfl, iA, jA⟩).mono ?_; rintro ee wB ⟨xB, rfl, hB, hbB⟩; obtain ⟨k1, k2, k3, k4, k5, k6, rfl, iB, jB⟩ := hB)
        | (go_at_call 28; refine (HNw2.out _ _ ⟨_, _, _, _, _, _, rfl, iB, jB⟩).mono ?_; rintro ee wC ⟨rfl, hbC⟩))
    all_goals (
      rename_i hH
      have HBl : Hid (Below w.heap.size w _) := hH.2.below
      clear hH iA jA iB jB
      go_wp2
      go_ret
      exact ⟨rfl, HBl.out⟩)
  · have hz0 : decide (z < 0) = false := by
      refine decide_eq_false ?_
      rw [HZ.out, cz_lt, q4]
      have := HKt.out.le
      unfold TenLe at this
      omega
    rw [hz0]
    have hask : NwAsk A D (-kk) eb := nwAsk HLf.out (by have := HKk.out; omega) (by have := HKk.out; omega) (by omega) (by omega) (by rw [q3]; exact HE1.out.dig) (by rw [q3, HE1.out.val, Int.neg_neg, HKk.out, q4])
    have he0 : ((bAt eb 0 : Int) != 48) = true := by
      rw [bne_iff_ne]
      have h1 := HE1.out.dig
      rw [q3]
      rcases HE1.out.lead with h2 | h2
      · -- one digit: the number is not zero
        have h3 := units_ge (p := prec) HLf.out.pd HKt.out.le
        have h4 := HE1.out.val
        have hp0 : prec = 0 := by omega
        rw [h2] at h4
        have h5 : 0 * 10 + (bAt bE 0 - 48) = unitsN A D (k - prec) := h4
        have h6 : 1 ≤ unitsN A D (k - prec) := Nat.le_trans (Nat.pow_pos (by omega)) h3
        omega
      · omega
    obtain ⟨nk, hnk⟩ : ∃ nk : Int, nk = -kk := ⟨_, rfl⟩
    have hkkb := HKk.out
    have ewn : IntKind.i64.wrap (-kk) = nk := by rw [IntKind.wrap_i64]; omega
    rw [← hnk] at hask
    have HAsk2 : Hid (NwAsk A D nk eb) := hask
    have HP2 : Hid (∀ w : World, Calls Oabg.prog 30 #[.int .i64 nk] w fun e w' => ∃ r, e = .returned r ∧ RatAt w' r false (tenN nk) (tenD nk) ∧ Below w.heap.size w w') := fun w => pow10Frac_any nk (by omega) (by omega) w
    have HM2 : Hid (∀ (W : World) (y : Value), ((W.cell? ⟨P, 0, none⟩ = some (.bool s) ∧ W.cell? ⟨P, 1, none⟩ = some (.slice a1 m1 d1) ∧ W.cell? ⟨P, 2, none⟩ = some (.slice a2 m2 d2)) ∧ LdAt w E M P s (.slice a1 m1 d1) (.slice a2 m2 d2) A D W) → RatAt W y false (tenN nk) (tenD nk) → Calls Oabg.prog 29 #[.agg #[.bool s, .slice a1 m1 d1, .slice a2 m2 d2], y] W fun e w' => ∃ r, e = .returned r ∧ RatAt w' r (!(s == false)) (A * tenN nk) (D * tenD nk) ∧ Below W.heap.size W w') := fun W y k k1 => mulFrac_any ⟨_, _, _, _, _, _, rfl, k.2.n, k.2.d⟩ k1 (askMul HLf.out (by omega) (by omega))
    have HNw2 : Hid (∀ (W : World) (y : Value), RatAt W y (!(s == false)) (A * tenN nk) (D * tenD nk) → Calls Oabg.prog 28 #[.string eb, y] W fun e w' => e = .returned (.bool true) ∧ Below W.heap.size W w') := fun W y k1 => nearestWhole_yes _ HAsk2.out.pos HAsk2.out.le HAsk2.out.dig k1 HAsk2.out.fit HAsk2.out.near
    obtain ⟨sg2, hsg2⟩ : ∃ sg, sg = (!(s == false)) := ⟨_, rfl⟩
    rw [← hsg2] at HM2 HNw2
    have hebp := hask.pos
    have heb0 := bAt_eq eb 0 hebp
    have hebl := bAt_lt eb 0
    clear hsg2 hnk hkkb hask q2 q3 q4 HRe HE1 HKt HZ
    go_upto_region 17 with (fail)
    have p0 := hK2.p.c0
    have p1 := hK2.p.c1
    have p2 := hK2.p.c2
    have HK : Hid (LdAt w E M P s (.slice a1 m1 d1) (.slice a2 m2 d2) A D _) := hK2
    clear hK2 e0
    go_region_held3 (fun W => (W.cell? ⟨P, 0, none⟩ = some (.bool s) ∧ W.cell? ⟨P, 1, none⟩ = some (.slice a1 m1 d1) ∧ W.cell? ⟨P, 2, none⟩ = some (.slice a2 m2 d2)) ∧ LdAt w E M P s (.slice a1 m1 d1) (.slice a2 m2 d2) A D W)
      (first
        | exact ⟨⟨p0, p1, p2⟩, HK.out.drew⟩
        | assumption
        | (with_reducible refine keepLd hbA ?_; assumption)
        | (with_reducible refine keepLd hbB ?_; assumption)
        | (with_reducible refine keepLd hbC ?_; assumption))
      (first
        | (go_at_call 30; refine (HP2.out _).mono ?_; rintro ee wA ⟨xA, rfl, hA, hbA⟩; obtain ⟨g1, g2, g3, g4, g5, g6, rfl, iA, jA⟩ := hA)
        | (go_at_call 29; refine (HM2.out _ _ (by assumption) ⟨_, _, _, _, _, _, rfl, iA, jA⟩).mono ?_; rintro ee wB ⟨xB, rfl, hB, hbB⟩; obtain ⟨k1, k2, k3, k4, k5, k6, rfl, iB, jB⟩ := hB)
        | (go_at_call 28; refine (HNw2.out _ _ ⟨_, _, _, _, _, _, rfl, iB, jB⟩).mono ?_; rintro ee wC ⟨rfl, hbC⟩))
    all_goals (
      rename_i hH
      have HBl : Hid (Below w.heap.size w _) := hH.2.below
      clear hH iA jA iB jB
      go_wp2
      go_ret
      exact ⟨rfl, HBl.out⟩)

end Go.Proofs.Ygcoab
