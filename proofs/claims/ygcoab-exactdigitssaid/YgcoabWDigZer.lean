import Derived.Test.YgcoabPlainDigZ
import Derived.Test.YgcoabWDec
import Derived.Deep.RegionWith
namespace Go.Proofs.Ygcoab
open Go.RowKit

set_option maxRecDepth 100000 in
set_option maxHeartbeats 4000000 in
theorem exactDigits_zero {E M : Nat} (h : FOk E M) (x : Nat) (hx : x < 18446744073709551616) (hf : expF E M x ≠ topE E) (hz : clsF E M x = 0) (prec : Nat) (hp : prec ≤ 2000) (w : World) :
    Calls Oabg.prog 7 #[fmtV E M, .int .u64 x, .int .u16 prec] w fun e w' => e = .returned (.bool true) ∧ Below w.heap.size w w' := by
  have h' := h
  have HF : Hid (∀ w : World, Calls Oabg.prog 25 #[.agg #[.int .u8 E, .int .u8 M], .int .u64 x, .int .u16 prec] w (DfPost w (unitsN (vNum E M x) (vDen E M x) (-(prec : Int))))) := fun w => digitsF_fin h x hx hf prec hp w
  have HI : Hid (∀ w : World, Calls Oabg.prog 26 #[.agg #[.int .u8 E, .int .u8 M], .int .u64 x] w fun e w' => e = .returned (.bool true) ∧ Below w.heap.size w w') := fun w => isFinite_yes h x hx true (by simp [hf]) w
  have HV : Hid (∀ w : World, Calls Oabg.prog 27 #[.agg #[.int .u8 E, .int .u8 M], .int .u64 x] w fun e w' => ∃ r, e = .returned (.tuple #[r, .int .i8 (clsF E M x)]) ∧ RatAt w' r (vNeg E M x) (vNum E M x) (vDen E M x) ∧ Below w.heap.size w w') := fun w => value_yes h x hx w
  have HC : Hid (∀ w : World, Calls Oabg.prog 31 #[.agg #[.int .u8 E, .int .u8 M], .int .u64 x] w fun e w' => e = .returned (.int .i8 (clsF E M x)) ∧ Below w.heap.size w w') := fun w => classOf_yes h x hx w
  have HLf : Hid (LogFit (vNum E M x) (vDen E M x)) := logFit_val h x
  have hgt : decide (2000 < (prec : Int)) = false := decide_eq_false (by omega)
  have ewp : IntKind.i64.wrap (prec : Int) = (prec : Nat) := by rw [IntKind.wrap_i64]; omega
  have HE : Hid (∀ w : World, Calls Oabg.prog 24 #[.agg #[.int .u8 E, .int .u8 M], .int .u64 x, .int .u16 prec] w fun e w' => e = .returned (.tuple #[.string (zerosB (prec + 1)), .int .i16 0]) ∧ Below w.heap.size w w') := fun w => digitsE_zero h x hx hz prec hp w
  have HA0 : Hid (vNum E M x = 0) := vNum_zero hf hz
  have e0 : True := trivial
  rw [hz] at HV HC
  have HSp : Hid (∀ w : World, Calls Oabg.prog 32 #[.string (zerosB (prec + 1))] w fun e w' => ∃ v, e = .returned v ∧ IsN w' v 0 ∧ Below w.heap.size w w') := fun w => by
    have := spelled_any (zerosB (prec + 1)) (by rw [zerosB_size]; omega) (zerosB_dig _) w
    rw [zerosB_sp] at this
    exact this
  have HDg : Hid (∀ w : World, Calls Oabg.prog 16 #[.string (zerosB (prec + 1))] w fun e w' => e = .returned (.bool true) ∧ w' = w) := fun w => by
    have := isDigits_any (zerosB (prec + 1)) w (by rw [zerosB_size]; omega)
    rw [zerosB_dig] at this
    exact this
  have hebs : (zerosB (prec + 1)).size = prec + 1 := zerosB_size _
  clear hf hz
  generalize zerosB (prec + 1) = eb at *
  generalize vNeg E M x = s at *
  generalize vNum E M x = A at *
  generalize vDen E M x = D at *
  unfold fmtV
  go_enter Oabg.func7, Oabg.ntmps7
  have hB0 := fmt_start w E M
  go_wp2_with fail
  go_at_call 23
  refine (ok_yes h' _).mono ?_
  rintro e w1 ⟨rfl, hb⟩
  have hFB := fb_step hB0 hb
  obtain ⟨c0, c1⟩ := hFB.1.all
  clear hb hB0
  go_wp2_with fail
  go_at_call 24
  refine (HE.out _).mono ?_
  rintro e w2 ⟨rfl, hb⟩
  have hFB := fb_step hFB hb
  clear hb c0 c1
  obtain ⟨c0, c1⟩ := hFB.1.all
  go_wp2_with fail
  go_at_call 25
  refine (HF.out _).mono ?_
  rintro e w3 ⟨b, rfl, hdb, hb⟩
  have hFB := fb_step hFB hb
  clear hb c0 c1
  obtain ⟨c0, c1⟩ := hFB.1.all
  have hdB := hdb.bytes
  have hbl : b.size ≤ 5000 := hdB.small (units_b7 HLf.out (by omega))
  have HAsk : Hid (NwAsk A D (prec : Int) b) := nwAsk HLf.out (by omega) (by omega) hdB.pos hbl hdB.dig hdB.val
  have hlead := hdB.lead
  have hbpos := hdB.pos
  have HZb : Hid (b = { data := #[48] }) := by
    have q := hdB
    rw [HA0.out, units_zero HLf.out.pd] at q
    exact q.zero
  clear hdb hdB
  go_wp2_with fail
  go_at_call 26
  refine (HI.out _).mono ?_
  rintro e w4 ⟨rfl, hb⟩
  have hFB := fb_step hFB hb
  clear hb c0 c1
  obtain ⟨c0, c1⟩ := hFB.1.all
  go_wp2_with fail
  go_at_call 27
  refine (HV.out _).mono ?_
  rintro e w5 ⟨r, rfl, hr, hb⟩
  obtain ⟨a1, m1, d1, a2, m2, d2, rfl, i1, j1⟩ := hr
  have hFB := fb_step hFB hb
  have hA := below_alloc w5 (.cells #[.bool s, .slice a1 m1 d1, .slice a2 m2 d2] 50)
  have hL : LdAt w E M w5.heap.size s (.slice a1 m1 d1) (.slice a2 m2 d2) A D (w5.alloc (.cells #[.bool s, .slice a1 m1 d1, .slice a2 m2 d2] 50)) := ⟨hFB.1.step hA, RatV.start w5 s _ _, i1.step hA, j1.step hA, below_step hFB.2 hFB.2.size hA⟩
  clear hb c0 c1 hFB i1 j1 hA HF HI HV HE
  go_upto_region 8 with (fail)
  obtain ⟨W1, hW⟩ : ∃ W, W = w5.alloc (.cells #[.bool s, .slice a1 m1 d1, .slice a2 m2 d2] 50) := ⟨_, rfl⟩
  obtain ⟨P, hPe⟩ : ∃ P, P = w5.heap.size := ⟨_, rfl⟩
  rw [← hW, ← hPe] at hL
  rw [← hW, ← hPe]
  clear hW hPe
  have HP : Hid (∀ w : World, Calls Oabg.prog 30 #[.int .i64 prec] w fun e w' => ∃ r, e = .returned r ∧ RatAt w' r false (tenN prec) (tenD prec) ∧ Below w.heap.size w w') := fun w => pow10Frac_any (prec : Int) (by omega) (by omega) w
  have HM : Hid (∀ (W : World) (y : Value), ((W.cell? ⟨P, 0, none⟩ = some (.bool s) ∧ W.cell? ⟨P, 1, none⟩ = some (.slice a1 m1 d1) ∧ W.cell? ⟨P, 2, none⟩ = some (.slice a2 m2 d2)) ∧ LdAt w E M P s (.slice a1 m1 d1) (.slice a2 m2 d2) A D W) → RatAt W y false (tenN prec) (tenD prec) → Calls Oabg.prog 29 #[.agg #[.bool s, .slice a1 m1 d1, .slice a2 m2 d2], y] W fun e w' => ∃ r, e = .returned r ∧ RatAt w' r (!(s == false)) (A * tenN prec) (D * tenD prec) ∧ Below W.heap.size W w') := fun W y k k1 => mulFrac_any ⟨_, _, _, _, _, _, rfl, k.2.n, k.2.d⟩ k1 (askMul HLf.out (by omega) (by omega))
  have HNw : Hid (∀ (W : World) (y : Value), RatAt W y (!(s == false)) (A * tenN prec) (D * tenD prec) → Calls Oabg.prog 28 #[.string b, y] W fun e w' => e = .returned (.bool true) ∧ Below W.heap.size W w') := fun W y k1 => nearestWhole_yes b HAsk.out.pos HAsk.out.le HAsk.out.dig k1 HAsk.out.fit HAsk.out.near
  obtain ⟨sg, hsg⟩ : ∃ sg, sg = (!(s == false)) := ⟨_, rfl⟩
  rw [← hsg] at HM HNw
  clear hsg
  have hebn : ((eb.size : Int) != (prec : Int) + 1) = false := by
    have : (eb.size : Int) = (prec : Int) + 1 := by omega
    rw [this]
    simp
  have ewp1 : IntKind.i64.wrap ((prec : Int) + 1) = (prec : Int) + 1 := by rw [IntKind.wrap_i64]; omega
  have hb0 := bAt_eq b 0 hbpos
  have hb0l := bAt_lt b 0
  go_cut [76] (fun s76 wx => s76 = .bool false ∧ LdAt w E M P s (.slice a1 m1 d1) (.slice a2 m2 d2) A D wx)
  case first =>
    have p0 := hL.p.c0
    have p1 := hL.p.c1
    have p2 := hL.p.c2
    have HK : Hid (LdAt w E M P s (.slice a1 m1 d1) (.slice a2 m2 d2) A D W1) := hL
    clear hL e0
    rcases hlead with h1 | h1
    · have hszn : decide (1 < b.size) = false := decide_eq_false (by omega)
      have hszg : decide ((b.size : Int) > 1) = false := decide_eq_false (by omega)
      have hszi : (b.size : Int) = 1 := by omega
      have hsz1 : decide (1 < (b.size : Int)) = false := decide_eq_false (by omega)
      first
      | (go_region_held (fun W => (W.cell? ⟨P, 0, none⟩ = some (.bool s) ∧ W.cell? ⟨P, 1, none⟩ = some (.slice a1 m1 d1) ∧ W.cell? ⟨P, 2, none⟩ = some (.slice a2 m2 d2)) ∧ LdAt w E M P s (.slice a1 m1 d1) (.slice a2 m2 d2) A D W)
          (first
            | exact ⟨⟨p0, p1, p2⟩, HK.out.drew⟩
            | assumption
            | (with_reducible refine keepLd hbA ?_; assumption)
            | (with_reducible refine keepLd hbB ?_; assumption)
            | (with_reducible refine keepLd hbC ?_; assumption))
          (first
            | (go_at_call 30; refine (HP.out _).mono ?_; rintro ee wA ⟨xA, rfl, hA, hbA⟩; obtain ⟨g1, g2, g3, g4, g5, g6, rfl, iA, jA⟩ := hA)
            | (go_at_call 29; refine (HM.out _ _ (by assumption) ⟨_, _, _, _, _, _, rfl, iA, jA⟩).mono ?_; rintro ee wB ⟨xB, rfl, hB, hbB⟩; obtain ⟨k1, k2, k3, k4, k5, k6, rfl, iB, jB⟩ := hB)
            | (go_at_call 28; refine (HNw.out _ _ ⟨_, _, _, _, _, _, rfl, iB, jB⟩).mono ?_; rintro ee wC ⟨rfl, hbC⟩)))
      | fail
      all_goals (
        rename_i hH
        have HLf2 : Hid (LdAt w E M P s (.slice a1 m1 d1) (.slice a2 m2 d2) A D _) := hH.2
        clear hH iA jA iB jB
        go_wp2
        go_meet
        exact ⟨by simp, HLf2.out⟩)
    · have e48 : ((bAt b 0 : Int) == 48) = false := by rw [beq_eq_false_iff_ne]; omega
      by_cases h2 : b.size = 1
      · have hszn : decide (1 < b.size) = false := decide_eq_false (by omega)
        have hsz1 : decide (1 < (b.size : Int)) = false := decide_eq_false (by omega)
        first
        | (go_region_held (fun W => (W.cell? ⟨P, 0, none⟩ = some (.bool s) ∧ W.cell? ⟨P, 1, none⟩ = some (.slice a1 m1 d1) ∧ W.cell? ⟨P, 2, none⟩ = some (.slice a2 m2 d2)) ∧ LdAt w E M P s (.slice a1 m1 d1) (.slice a2 m2 d2) A D W)
            (first
              | exact ⟨⟨p0, p1, p2⟩, HK.out.drew⟩
              | assumption
              | (with_reducible refine keepLd hbA ?_; assumption)
              | (with_reducible refine keepLd hbB ?_; assumption)
              | (with_reducible refine keepLd hbC ?_; assumption))
            (first
              | (go_at_call 30; refine (HP.out _).mono ?_; rintro ee wA ⟨xA, rfl, hA, hbA⟩; obtain ⟨g1, g2, g3, g4, g5, g6, rfl, iA, jA⟩ := hA)
              | (go_at_call 29; refine (HM.out _ _ (by assumption) ⟨_, _, _, _, _, _, rfl, iA, jA⟩).mono ?_; rintro ee wB ⟨xB, rfl, hB, hbB⟩; obtain ⟨k1, k2, k3, k4, k5, k6, rfl, iB, jB⟩ := hB)
              | (go_at_call 28; refine (HNw.out _ _ ⟨_, _, _, _, _, _, rfl, iB, jB⟩).mono ?_; rintro ee wC ⟨rfl, hbC⟩)))
        | fail
        all_goals (
          rename_i hH
          have HLf2 : Hid (LdAt w E M P s (.slice a1 m1 d1) (.slice a2 m2 d2) A D _) := hH.2
          clear hH iA jA iB jB
          go_wp2
          go_meet
          exact ⟨by simp, HLf2.out⟩)
      · have hsz1 : decide (1 < (b.size : Int)) = true := decide_eq_true (by omega)
        have hszn : decide (1 < b.size) = true := decide_eq_true (by omega)
        go_region_held3 (fun W => (W.cell? ⟨P, 0, none⟩ = some (.bool s) ∧ W.cell? ⟨P, 1, none⟩ = some (.slice a1 m1 d1) ∧ W.cell? ⟨P, 2, none⟩ = some (.slice a2 m2 d2)) ∧ LdAt w E M P s (.slice a1 m1 d1) (.slice a2 m2 d2) A D W)
          (first
            | exact ⟨⟨p0, p1, p2⟩, HK.out.drew⟩
            | assumption
            | (with_reducible refine keepLd hbA ?_; assumption)
            | (with_reducible refine keepLd hbB ?_; assumption)
            | (with_reducible refine keepLd hbC ?_; assumption))
          (first
            | (go_at_call 30; refine (HP.out _).mono ?_; rintro ee wA ⟨xA, rfl, hA, hbA⟩; obtain ⟨g1, g2, g3, g4, g5, g6, rfl, iA, jA⟩ := hA)
            | (go_at_call 29; refine (HM.out _ _ (by assumption) ⟨_, _, _, _, _, _, rfl, iA, jA⟩).mono ?_; rintro ee wB ⟨xB, rfl, hB, hbB⟩; obtain ⟨k1, k2, k3, k4, k5, k6, rfl, iB, jB⟩ := hB)
            | (go_at_call 28; refine (HNw.out _ _ ⟨_, _, _, _, _, _, rfl, iB, jB⟩).mono ?_; rintro ee wC ⟨rfl, hbC⟩))
        all_goals (
          rename_i hH
          have HLf2 : Hid (LdAt w E M P s (.slice a1 m1 d1) (.slice a2 m2 d2) A D _) := hH.2
          clear hH iA jA iB jB
          go_wp2
          go_meet
          exact ⟨by simp, HLf2.out⟩)
  case rest =>
  obtain ⟨rfl, hK⟩ := hcut
  clear hL HP HM HNw hebn hb0 hb0l hlead hbpos hbl HAsk
  have HK : Hid (LdAt w E M P s (.slice a1 m1 d1) (.slice a2 m2 d2) A D _) := hK
  obtain ⟨c0, c1⟩ := hK.fm.all
  clear hK
  go_wp2_with fail
  go_at_call 31
  refine (HC.out _).mono ?_
  rintro e w7 ⟨rfl, hb⟩
  have hK := HK.out.step hb
  clear c0 c1 HK hb HC
  have HB : Hid (Below w.heap.size w w7) := hK.below
  clear hK
  have hbz := HZb.out
  clear HZb HA0
  subst hbz
  go_wp2_with fail
  go_at_call 32
  refine (HSp.out _).mono ?_
  rintro e w8 ⟨v, rfl, hv, hb⟩
  obtain ⟨a9, n9, c9, rfl⟩ := hv.shape
  have hl0 : ((n9 : Int) == 0) = true := by
    rw [hv.len0]
    rfl
  have HB2 : Hid (Below w.heap.size w w8) := below_step HB.out HB.out.size hb
  clear hb hv HB
  go_wp2_with fail
  go_at_call 16
  refine (HDg.out _).mono ?_
  rintro e w9 ⟨rfl, rfl⟩
  go_wp2
  go_ret
  exact ⟨rfl, HB2.out⟩

end Go.Proofs.Ygcoab
