import Derived.Test.YgcoabWExpA
import Derived.Test.YgcoabPlainBin
import Derived.Deep.WholeRow
namespace Go.Proofs.Ygcoab
open Go.RowKit

theorem i16_int {e : Int} (h1 : -32768 ≤ e) (h2 : e ≤ 32767) : IntKind.i16.wrap e = e := by
  simp [IntKind.wrap, IntKind.bits, IntKind.signed]
  omega

theorem ExPost.back {w W W' : World} {P A D A' D' : Nat} {sig pr : Int} (h : ExPost W P A' D' sig pr W') (hb : Below P w W) (he : A * D' = A' * D) (h0 : 0 < D') (h1 : 0 < D) : ExPost w P A D sig pr W' := by
  obtain ⟨g, n, top, a, b, c, d, e, f⟩ := h
  exact ⟨g, n, top, a, b.same he h0 h1, c, d, e, hb.trans f⟩

set_option maxHeartbeats 4000000 in
set_option maxRecDepth 100000 in
theorem expand_any {E M : Nat} (h : FOk E M) (x : Nat) (hx : x < 18446744073709551616) (hf : expF E M x ≠ topE E) (hz : clsF E M x ≠ 0) (P : Nat) (g0 : Nat → Nat) (sig pr : Int) (w : World) (hE : ExAt P g0 0 0 sig pr w) :
    Calls Oabg.prog 80 #[.pointer (some ⟨P, 0, none⟩), fmtV E M, .int .u64 x] w fun e w' => e = .returned (.tuple #[]) ∧ ExPost w P (vNum E M x) (vDen E M x) sig pr w' := by
  have h' := h
  have HU : Hid (∀ w : World, Calls Oabg.prog 66 #[.agg #[.int .u8 E, .int .u8 M], .int .u64 x] w fun e w' => e = .returned (.agg #[.bool (pNeg E M x), .int .i8 (clsF E M x), .int .i16 (pExp E M x), .int .u64 (pMan E M x)]) ∧ Below w.heap.size w w') := fun w => unpack_yes h x hx w
  obtain ⟨⟨cc, jj, hcj, hlow⟩, hup, hml⟩ := parts_ok h x hf hz
  have hmp := vNum_pos hf hz
  have heb := pExp_bounds h x
  unfold vNum vDen
  unfold vNum at hmp
  generalize clsF E M x = kc at *
  generalize pNeg E M x = s at *
  generalize pMan E M x = m0 at *
  generalize pExp E M x = ee at *
  have hm0 : 0 < m0 := by
    cases m0 with
    | zero => unfold sNum at hmp; split at hmp <;> simp at hmp
    | succ n => omega
  have HCJ : Hid (m0 = cc * 2 ^ jj ∧ -1074 ≤ ee + jj) := ⟨hcj, hlow⟩
  obtain ⟨A, hA⟩ : ∃ A, A = sNum m0 ee := ⟨_, rfl⟩
  obtain ⟨D, hD⟩ : ∃ D, D = sDen ee := ⟨_, rfl⟩
  have HA : Hid (A = sNum m0 ee ∧ D = sDen ee) := ⟨hA, hD⟩
  rw [← hA, ← hD]
  clear hcj hlow hmp hA hD hf hz h
  unfold fmtV
  go_enter Oabg.func80, Oabg.ntmps80
  have hP := hE.size
  have hE1 := hE.step (below_alloc w (.cells #[.int .u8 E, .int .u8 M] 39)) hP
  have hb1 := below_alloc w (.cells #[.int .u8 E, .int .u8 M] 39)
  go_wp2_with fail
  go_at_call 66
  refine (HU.out _).mono ?_
  rintro e w2 ⟨rfl, hb2⟩
  have hE2 := hE1.step hb2 hE1.size
  have hB2 := below_step hb1 hb1.size hb2
  have hX : XpAt w P w2.heap.size s kc ee m0 g0 0 0 sig pr (w2.alloc (.cells #[.bool s, .int .i8 kc, .int .i16 ee, .int .u64 m0] 99)) :=
    ⟨hE2.step (below_alloc _ _) hE2.size, Blk.start _ _ _, (below_step hB2 hB2.size (below_alloc _ _)).mono (Nat.le_of_lt hP), hP, hB2.size⟩
  obtain ⟨W3, hW3⟩ : ∃ W3, W3 = w2.alloc (.cells #[.bool s, .int .i8 kc, .int .i16 ee, .int .u64 m0] 99) := ⟨_, rfl⟩
  obtain ⟨Q, hQ⟩ : ∃ Q, Q = w2.heap.size := ⟨_, rfl⟩
  rw [← hW3, ← hQ] at hX
  clear hE hE1 hE2 hb1 hb2 hB2 HU
  go_wp2_with fail
  rw [← hW3, ← hQ]
  clear hW3 hQ
  go_loopg [14] 2000 (fun m _ wr => ∃ man ex, XpAt w P Q s kc ex man g0 0 0 sig pr wr ∧ RdAt m0 ee man ex ∧ (-ex).toNat ≤ m)
  case atStart => exact ⟨m0, ee, hX, RdAt.start _ _, by omega⟩
  case round =>
    obtain ⟨man, ex, hY, hR, hem⟩ := hrel
    clear hX
    have hmle := hR.le
    have hxge := hR.ge
    have hxup := hR.up hup (by omega)
    have HR : Hid (RdAt m0 ee man ex) := hR
    obtain ⟨c2, c3, f2, f3⟩ := hY.all
    have hand := low1 man (by omega)
    obtain ⟨mo, hmo⟩ : ∃ y, y = man % 2 := ⟨_, rfl⟩
    rw [← hmo] at hand
    go_upto_region 2 with (fail)
    go_cut [22] (fun s22 wx => s22 = .bool (decide (mo = 0 ∧ ex < 0)) ∧ wx = wr)
    case first =>
      clear hY
      by_cases h0 : mo = 0
      · have hb0 : ((mo : Int) == 0) = true := by rw [h0]; rfl
        by_cases h1 : ex < 0
        · have hb1 : decide (ex < 0) = true := decide_eq_true h1
          have hd : decide (mo = 0 ∧ ex < 0) = true := decide_eq_true ⟨h0, h1⟩
          clear h0 h1 hmo
          go_wp2
          go_meet
          exact ⟨by rw [hd], rfl⟩
        · have hb1 : decide (ex < 0) = false := decide_eq_false h1
          have hd : decide (mo = 0 ∧ ex < 0) = false := decide_eq_false (by omega)
          clear h0 h1 hmo
          go_wp2
          go_meet
          exact ⟨by rw [hd], rfl⟩
      · have hb0 : ((mo : Int) == 0) = false := by rw [beq_eq_false_iff_ne]; omega
        have hd : decide (mo = 0 ∧ ex < 0) = false := decide_eq_false (by omega)
        clear h0 hmo
        go_wp2
        go_meet
        exact ⟨by rw [hd], rfl⟩
    case rest =>
    obtain ⟨rfl, hw⟩ := hcut
    rw [hw]
    clear hw hand
    by_cases hc : mo = 0 ∧ ex < 0
    · have hd : decide (mo = 0 ∧ ex < 0) = true := decide_eq_true hc
      rw [hd]
      obtain ⟨m2, hm2⟩ : ∃ y, y = man / 2 := ⟨_, rfl⟩
      have em : (man : Int) / 2 = (m2 : Nat) := by omega
      have ew : IntKind.i16.wrap (ex + 1) = ex + 1 := i16_int (by omega) (by omega)
      have HR2 : Hid (RdAt m0 ee m2 (ex + 1)) := by rw [hm2]; exact hR.next (by omega) hc.2
      have HY2 : Hid (XpAt w P Q s kc (ex + 1) m2 g0 0 0 sig pr _) := (hY.setM m2).setE (ex + 1)
      have hlt : (-(ex + 1)).toNat < gk := by omega
      clear hc hm2 hmo hY hR HR
      go_wp2
      go_roundg ((-(ex + 1)).toNat)
      case measure => exact hlt
      case rel => exact ⟨m2, ex + 1, HY2.out, HR2.out, Nat.le_refl _⟩
    · have hd : decide (mo = 0 ∧ ex < 0) = false := decide_eq_false hc
      rw [hd]
      have HV : Hid (A * sDen ex = sNum man ex * D) := by rw [HA.out.1, HA.out.2]; exact hR.val
      have hlo : -1074 ≤ ex := hR.low HCJ.out.1 HCJ.out.2 (by omega) (by omega)
      have hmp := hR.pos hm0
      obtain ⟨c11, c12, c13, c14, cf⟩ := hY.x.all
      have HY : Hid (XpAt w P Q s kc ex man g0 0 (-1) sig pr _) := hY.setT (-1)
      have hPQ : Q ≠ P := by have := hY.hP; have := hY.hQ; omega
      clear hc hmo hY hR HR HCJ
      by_cases hx0 : 0 ≤ ex
      · obtain ⟨en, rfl⟩ : ∃ en : Nat, ex = en := ⟨ex.toNat, by omega⟩
        have hdx : decide ((0 : Int) ≤ (en : Int)) = true := decide_eq_true hx0
        obtain ⟨T, hT⟩ : ∃ T, T = man * 2 ^ en := ⟨_, rfl⟩
        have HG : Hid (∀ w, Calls Oabg.prog 108 #[.int .u64 man, .int .i16 en] w (GroupsPost w T)) := fun w => by
          rw [hT]
          exact groups_any man en (by omega) (by omega) w
        have HV2 : Hid (A * 1 = T * D) := by
          have := HV.out
          unfold sNum sDen at this
          rw [if_neg (by omega), if_neg (by omega)] at this
          rw [hT]
          exact this
        have HDp : Hid (0 < D) := by rw [HA.out.2]; exact sDen_pos _
        clear hT HV HA
        go_wp2_with fail
        go_at_call 108
        refine (HG.out _).mono ?_
        rintro e w5 ⟨C, hh, nn, rfl, hC, hn20, hT, hhl, hb5⟩
        have hY5 := HY.out.step hb5
        clear hb5 HY HG
        have hCs := hC.size
        have hst : (storeCells ⟨w5.heap.size, 0, none⟩ C.toList).run Oabg.prog (w5.alloc (.cells #[.int .u64 0, .int .u64 0, .int .u64 0, .int .u64 0, .int .u64 0, .int .u64 0, .int .u64 0, .int .u64 0, .int .u64 0, .int .u64 0, .int .u64 0, .int .u64 0, .int .u64 0, .int .u64 0, .int .u64 0, .int .u64 0, .int .u64 0, .int .u64 0, .int .u64 0, .int .u64 0, .int .i64 0] 151)) = .ok () (w5.alloc (.cells C 151)) := run_storeCells_new w5 151 _ C (by rw [hCs]; exact info151s) (by rw [hCs]; rfl) hC.all
        have hx6 := hY5.x.step (below_alloc w5 (.cells C 151)) hY5.x.size
        have hr6 := Blk.start w5 C 151
        have hbl6 := below_step hY5.below (Nat.le_of_lt hY5.x.size) (below_alloc w5 (.cells C 151))
        have hPs := hY5.x.size
        have hcn : (w5.alloc (.cells C 151)).cell? ⟨w5.heap.size, 20, none⟩ = some (.int .i64 (nn : Nat)) := (hr6.cell 20).trans hC.cn
        go_wp2_with fail
        obtain ⟨W6, hW6⟩ : ∃ W6, W6 = w5.alloc (.cells C 151) := ⟨_, rfl⟩
        obtain ⟨R, hR⟩ : ∃ R, R = w5.heap.size := ⟨_, rfl⟩
        rw [← hW6] at hx6 hr6 hbl6
        rw [← hR] at hr6 hPs
        rw [← hW6, ← hR]
        have hGl : GlAt w P R T C hh nn g0 0 (-1) sig pr 0 W6 := ⟨hx6, hr6, hbl6, hPs, DgN.start g0, by rw [hT, Nat.zero_mul, Nat.zero_add], by omega, by omega⟩
        clear hW6 hR hx6 hr6 hbl6 hPs hY5 hT hst hcn
        go_loopg [8] 20 (fun m s8 wr => ∃ k g n top N, s8 = .int .i64 ((k : Nat) - 1 : Int) ∧ GlAt w P R T C hh k g n top sig pr N wr ∧ k ≤ 20 ∧ k ≤ m)
        case atStart => exact ⟨nn, g0, 0, -1, 0, rfl, hGl, hn20, hn20⟩
        case round =>
          obtain ⟨k, g, n, top, N, rfl, hL, hk20, hkm⟩ := hrel
          clear hGl
          have hbal := hL.bal
          have hle := hL.le
          rcases Nat.eq_zero_or_pos k with h0 | h0
          · subst h0
            have HX : Hid (ExPost w P A D sig pr wr) := by
              have h1 := hL.eq
              rw [Nat.pow_zero, Nat.mul_one] at h1
              have h2 : T = N := h1
              refine ⟨g, n, top, hL.x, ExpOk.same (A' := T) (D' := 1) ⟨0, N, .inl ⟨hL.dg, by rw [h2, Nat.pow_zero], by omega⟩⟩ HV2.out (by omega) HDp.out, by omega, by omega, by omega, hL.below⟩
            clear hL
            go_wp2
            exact bodyPost_ret (v := .tuple #[]) (by simp [results, Oabg.results80]) rfl ⟨rfl, HX.out⟩
          · obtain ⟨i, rfl⟩ : ∃ i, k = i + 1 := ⟨k - 1, by omega⟩
            have ci := (hL.r.cell i).trans (hC.cell i (by omega))
            have hk1 : ((i + 1 : Nat) : Int) - 1 = (i : Nat) := by omega
            have hge : decide ((0 : Int) ≤ (i : Int)) = true := decide_eq_true (by omega)
            rw [hk1]
            have HL : Hid (GlAt w P R T C hh (i + 1) g n top sig pr N _) := hL
            have hil : i < 20 := by omega
            have hik : i < gk := by omega
            clear hL h0 hk1
            go_wp2_with fail
            go_at_call 109
            refine (put_any P (hh i) (hhl i) false g n N top sig pr (by omega) (by omega) (by omega) _ HL.out.x HL.out.dg).mono ?_
            rintro e w7 ⟨rfl, g', n', top', hPA⟩
            have HN : Hid (GlAt w P R T C hh i g' n' top' sig pr (N * 1000000000000000000 + hh i) w7) := HL.out.next hPA
            clear hPA HL ci
            go_wp2
            go_roundg i
            case measure => exact hik
            case rel => exact ⟨i, g', n', top', _, rfl, HN.out, by omega, Nat.le_refl _⟩
      · have hdx : decide ((0 : Int) ≤ ex) = false := decide_eq_false hx0
        obtain ⟨kn, hkn⟩ : ∃ kn : Nat, ex = -(kn : Int) := ⟨(-ex).toNat, by omega⟩
        subst hkn
        have hk0 : 0 < kn := by omega
        have hkne : ¬ kn = 0 := by omega
        have hk : kn ≤ 1074 := by omega
        have HV2 : Hid (A * 2 ^ kn = man * D) := by
          have := HV.out
          unfold sNum sDen at this
          rw [if_pos (by omega), if_pos (by omega), Int.neg_neg] at this
          exact this
        have HDp : Hid (0 < D) := by rw [HA.out.2]; exact sDen_pos _
        have hmb : ((man : Int) != 0) = true := by rw [bne_iff_ne]; omega
        clear HV HA hx0 hxge hxup hlo hem hd
        by_cases h64 : kn < 64
        · have hd64 : decide ((kn : Int) < 64) = true := decide_eq_true (by omega)
          obtain ⟨hi, hhi⟩ : ∃ y, y = man / 2 ^ kn := ⟨_, rfl⟩
          have eh : (man : Int) / 2 ^ kn = (hi : Nat) := by rw [hhi]; simp
          have hhl : hi ≤ man := by rw [hhi]; exact Nat.div_le_self _ _
          by_cases hh0 : hi = 0
          · have hhb : ((hi : Int) != 0) = false := by rw [hh0]; rfl
            have hml2 : man < 2 ^ kn := by
              have h1 := Nat.div_add_mod man (2 ^ kn)
              have h2 := Nat.mod_lt man (Nat.pow_pos (n := kn) (show 0 < 2 by omega))
              rw [← hhi, hh0, Nat.mul_zero, Nat.zero_add] at h1
              omega
            clear hhi hh0
            go_wp2_with fail
            go_at_call 110
            refine (fraction_any P g0 0 0 (-1) sig pr man kn (by omega) hml2 hk0 hk (by omega) (by omega) _ HY.out.x (DgN.start g0)).mono ?_
            rintro e w9 ⟨rfl, hEx⟩
            have HX : Hid (ExPost w P A D sig pr w9) := hEx.back HY.out.below (by rw [Nat.zero_mul, Nat.zero_add]; exact HV2.out) (Nat.pow_pos (by omega)) HDp.out
            clear hEx
            go_wp2
            exact bodyPost_end (v := .tuple #[]) (by simp [results, Oabg.results80]) rfl ⟨rfl, HX.out⟩
          · have hhb : ((hi : Int) != 0) = true := by rw [bne_iff_ne]; omega
            obtain ⟨v1, hv1⟩ : ∃ y, y = hi / 1000000000000000000 := ⟨_, rfl⟩
            obtain ⟨v2, hv2⟩ : ∃ y, y = hi % 1000000000000000000 := ⟨_, rfl⟩
            have e1 : (hi : Int).tdiv 1000000000000000000 = (v1 : Nat) := by rw [Int.tdiv_eq_ediv_of_nonneg (by omega)]; omega
            have e1' : IntKind.u64.wrap (v1 : Int) = (v1 : Nat) := w64_nat (by omega)
            have e2 : (hi : Int).tmod 1000000000000000000 = (v2 : Nat) := by rw [Int.tmod_eq_emod_of_nonneg (by omega)]; omega
            have HN : Hid ((0 * 10 ^ 18 + v1) * 10 ^ 18 + v2 = hi) := by
              show (0 * 10 ^ 18 + v1) * 10 ^ 18 + v2 = hi
              rw [show (10 : Nat) ^ 18 = 1000000000000000000 from rfl]
              omega
            have hv1l : v1 < 1000000000000000000 := by omega
            have hv2l : v2 < 1000000000000000000 := by omega
            have HHi : Hid (hi = man / 2 ^ kn) := hhi
            clear hv1 hv2 hh0 hhi
            go_wp2_with fail
            go_at_call 109
            refine (put_any P v1 hv1l false g0 0 0 (-1) sig pr (by omega) (by omega) (by omega) _ HY.out.x (DgN.start g0)).mono ?_
            rintro e w6 ⟨rfl, g1, n1, top1, hP1⟩
            have hd1 := hP1.dg
            rw [show (18 - 18 : Nat) = 0 from rfl, Nat.pow_zero, Nat.div_one] at hd1
            have hb1 := hP1.bal
            have hl1 := hP1.le
            rw [if_neg (by simp)] at hb1
            have HY6 : Hid (XpAt w P Q s kc (-(kn : Int)) man g1 n1 top1 sig pr w6) := HY.out.put hP1
            have HD1 : Hid (DgN g1 n1 (0 * 10 ^ 18 + v1)) := hd1
            clear hP1 hd1 HY
            go_wp2_with fail
            go_at_call 109
            refine (put_any P v2 hv2l false g1 n1 (0 * 10 ^ 18 + v1) top1 sig pr (by omega) (by omega) (by omega) _ HY6.out.x HD1.out).mono ?_
            rintro e w7 ⟨rfl, g2, n2, top2, hP2⟩
            have hd2 := hP2.dg
            rw [show (18 - 18 : Nat) = 0 from rfl, Nat.pow_zero, Nat.div_one, HN.out] at hd2
            have hb2 := hP2.bal
            have hl2 := hP2.le
            rw [if_neg (by simp)] at hb2
            have hY7 := HY6.out.put hP2
            have HD2 : Hid (DgN g2 n2 hi) := hd2
            obtain ⟨c72, c73, f72, f73⟩ := hY7.all
            have HY7 : Hid (XpAt w P Q s kc (-(kn : Int)) man g2 n2 top2 sig pr w7) := hY7
            clear hP2 hd2 HY6 HD1 hY7 c11 c12 c13 c14 cf c2 c3 f2 f3
            obtain ⟨mr, hmr⟩ : ∃ y, y = man % 2 ^ kn := ⟨_, rfl⟩
            obtain ⟨pk, hpk⟩ : ∃ y, y = 2 ^ kn := ⟨_, rfl⟩
            obtain ⟨pm, hpm⟩ : ∃ y, y = pk - 1 := ⟨_, rfl⟩
            have hpl : pk < 18446744073709551616 := by rw [hpk]; exact two_pow_lt (k := 64) h64
            have hpp : 0 < pk := by rw [hpk]; exact Nat.pow_pos (by omega)
            have z1 : IntKind.u64.wrap (2 ^ kn) = (pk : Nat) := by
              have : ((2 : Int) ^ kn) = (pk : Nat) := by rw [hpk]; simp
              rw [this, w64_nat hpl]
            have z2 : IntKind.u64.wrap ((pk : Int) - 1) = (pm : Nat) := by rw [wrap64]; omega
            have z3 : bits .and .u64 (man : Int) (pm : Int) = (mr : Nat) := by
              rw [hpm, hpk, and_low (by omega) (by omega), hmr]
            have hmrl : mr < 2 ^ kn := by rw [hmr]; exact Nat.mod_lt _ (Nat.pow_pos (by omega))
            have hmr64 : mr < 18446744073709551616 := by omega
            have HMm : Hid (hi * 2 ^ kn + mr = man) := by
              show hi * 2 ^ kn + mr = man
              rw [HHi.out, hmr, Nat.mul_comm]
              exact Nat.div_add_mod _ _
            clear hmr hpk hpm
            go_wp2_with fail
            go_region
            have hY8 : XpAt w P Q s kc (-(kn : Int)) mr g2 n2 top2 sig pr ((w7.setCell ⟨Q, 3, none⟩ (.int .u64 (mr : Nat))).drew) := (HY7.out.setM mr).drew
            obtain ⟨W8, hW8⟩ : ∃ W8, W8 = (w7.setCell ⟨Q, 3, none⟩ (.int .u64 (mr : Nat))).drew := ⟨_, rfl⟩
            rw [← hW8] at hY8
            rw [← hW8]
            obtain ⟨c82, c83, f82, f83⟩ := hY8.all
            have HY8 : Hid (XpAt w P Q s kc (-(kn : Int)) mr g2 n2 top2 sig pr W8) := hY8
            clear hW8 hY8 HY7 c72 c73 f72 f73
            by_cases hm00 : mr = 0
            · have hmrb : ((mr : Int) != 0) = false := by rw [hm00]; rfl
              have HX : Hid (ExPost w P A D sig pr W8) := by
                have h1 := HMm.out
                rw [hm00, Nat.add_zero] at h1
                refine ⟨g2, n2, top2, HY8.out.x, ExpOk.same (A' := man) (D' := 2 ^ kn) ⟨0, hi, .inl ⟨HD2.out, by rw [Nat.pow_zero, Nat.mul_one, h1], by omega⟩⟩ HV2.out (Nat.pow_pos (by omega)) HDp.out, by omega, by omega, by omega, HY8.out.below⟩
              clear hm00
              go_wp2
              exact bodyPost_end (v := .tuple #[]) (by simp [results, Oabg.results80]) rfl ⟨rfl, HX.out⟩
            · have hmrb : ((mr : Int) != 0) = true := by rw [bne_iff_ne]; omega
              clear hm00
              go_wp2_with fail
              go_at_call 110
              refine (fraction_any P g2 n2 hi top2 sig pr mr kn (by omega) hmrl hk0 hk (by omega) (by omega) _ HY8.out.x HD2.out).mono ?_
              rintro e w9 ⟨rfl, hEx⟩
              have HX : Hid (ExPost w P A D sig pr w9) := hEx.back HY8.out.below (by rw [HMm.out]; exact HV2.out) (Nat.pow_pos (by omega)) HDp.out
              clear hEx
              go_wp2
              exact bodyPost_end (v := .tuple #[]) (by simp [results, Oabg.results80]) rfl ⟨rfl, HX.out⟩
        · have hd64 : decide ((kn : Int) < 64) = false := decide_eq_false (by omega)
          have hml2 : man < 2 ^ kn := by
            have h1 := two_pow_le (n := 53) (k := kn) (by omega)
            have h2 : (2 : Nat) ^ 53 = 9007199254740992 := rfl
            omega
          go_wp2_with fail
          go_at_call 110
          refine (fraction_any P g0 0 0 (-1) sig pr man kn (by omega) hml2 hk0 hk (by omega) (by omega) _ HY.out.x (DgN.start g0)).mono ?_
          rintro e w9 ⟨rfl, hEx⟩
          have HX : Hid (ExPost w P A D sig pr w9) := hEx.back HY.out.below (by rw [Nat.zero_mul, Nat.zero_add]; exact HV2.out) (Nat.pow_pos (by omega)) HDp.out
          clear hEx
          go_wp2
          exact bodyPost_end (v := .tuple #[]) (by simp [results, Oabg.results80]) rfl ⟨rfl, HX.out⟩

end Go.Proofs.Ygcoab
