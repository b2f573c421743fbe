import Derived.Test.YgcoabWFracA
import Derived.Test.YgcoabWWhole
namespace Go.Proofs.Ygcoab
open Go.RowKit

theorem lay_limb {k lo hi : Nat} (hk : k + 2 ≤ 18) (hl : lo < 18446744073709551616) (hh : hi < 18446744073709551616) : LimbZ (lay k lo hi) 0 (k + 2) :=
  ⟨fun j hj => by omega, fun j hj => by unfold lay upd; rw [if_neg (by omega), if_neg (by omega)], by omega, hk, upd_lt (upd_lt (fun j => by omega) hl) hh⟩

theorem lay1_limb {k lo : Nat} (hk : k + 1 ≤ 18) (hl : lo < 18446744073709551616) : LimbZ (upd (fun _ => 0) k lo) 0 (k + 1) :=
  ⟨fun j hj => by omega, fun j hj => by unfold upd; rw [if_neg (by omega)], by omega, hk, upd_lt (fun j => by omega) hl⟩

/-- the last limb: nothing leaves it -/
theorem last_val {man k at' s : Nat} (hk : at' + k = 1152) (h17 : at' / 64 = 17) (hs : s = at' % 64) (hm : man < 2 ^ k) : mv (upd (fun _ => 0) 17 (man * 2 ^ s % 18446744073709551616)) 18 = man * 2 ^ at' := by
  have h1 : man * 2 ^ s < 18446744073709551616 := by
    have h2 : k + s = 64 := by omega
    have h3 : 2 ^ k * 2 ^ s = 18446744073709551616 := by rw [← Nat.pow_add, h2]
    rw [← h3]
    exact Nat.mul_lt_mul_of_pos_right hm (Nat.pow_pos (by omega))
  rw [mv_lay1 (by omega), Nat.mod_eq_of_lt h1, Nat.mul_assoc]
  obtain ⟨e, he⟩ : ∃ e, e = 64 * 17 := ⟨_, rfl⟩
  have h4 : (18446744073709551616 : Nat) ^ 17 = 2 ^ e := (pow_64 e 17 he).symm
  rw [h4, ← Nat.pow_add]
  have h5 : s + e = at' := by omega
  rw [h5]

theorem lay1_all {man ex k : Nat} (hk : k = ex / 64) (hs : ex % 64 = 0) (he : ex ≤ 1151) : mv (upd (fun _ => 0) k man) 18 = man * 2 ^ ex := by
  rw [mv_lay1 (by omega)]
  congr 1
  rw [pow_64 ex k (by omega)]

theorem TurnAt.next {w W W' W0 : World} {P A k at' n0 : Nat} {top0 sig pr : Int} {f f2 : Nat → Nat} {low high l high2 t : Nat} {g : Nat → Nat} {n : Nat} {top : Int} {N v : Nat} {g' : Nat → Nat} {n' : Nat} {top' : Int}
    (h : TurnAt w P A k at' n0 top0 sig pr f low high t g n top N W0) (hF : FwAt w P f2 g n top sig pr W) (hp : PutAt W P N v true n top sig pr 18 g' n' top' W') (hz : LimbZ f2 l high2) (he : mv f2 18 + v * fx = 1000000000000000000 * mv f 18) (hd : at' + 18 * t < 1152) :
    TurnAt w P A k at' n0 top0 sig pr f2 l high2 (t + 1) g' n' top' (N * 1000000000000000000 + v) W' := by
  have h1 := hp.dg
  rw [show (18 - 18 : Nat) = 0 from rfl, Nat.pow_zero, Nat.div_one, show (10 : Nat) ^ 18 = 1000000000000000000 from rfl] at h1
  have h2 := h.fr.next he (mv_fx hz.lim)
  have h3 := hp.bal
  have h4 := h.bal
  have h5 := hp.le
  have h6 := h.le
  rw [if_pos rfl] at h3
  exact ⟨hF.put hp, hz, by rw [Nat.mul_add]; exact h2, h1, by omega, by omega, by omega⟩

set_option maxHeartbeats 4000000 in
set_option maxRecDepth 100000 in
theorem fraction_any (P : Nat) (g0 : Nat → Nat) (n0 H : Nat) (top0 sig pr : Int) (man k : Nat) (hm64 : man < 18446744073709551616) (hm : man < 2 ^ k) (hk0 : 0 < k) (hk : k ≤ 1074) (hn0 : n0 ≤ 36) (ht0 : top0 = (n0 : Int) - 1) (w : World) (hE : ExAt P g0 n0 top0 sig pr w) (hD : DgN g0 n0 H) :
    Calls Oabg.prog 110 #[.pointer (some ⟨P, 0, none⟩), .int .u64 man, .int .i16 k] w fun e w' => e = .returned (.tuple #[]) ∧ ExPost w P (H * 2 ^ k + man) (2 ^ k) sig pr w' := by
  obtain ⟨at', hat⟩ : ∃ a, a = 1152 - k := ⟨_, rfl⟩
  have hxe := xe_eq
  have HF0 : ∀ V, V = man * 2 ^ at' → Hid (FrAt (H * 2 ^ k + man) k at' H (18 * 0) V) := fun V hV => FrAt.start (by omega) hm hV
  have HF : Hid (∀ V, V = man * 2 ^ at' → FrAt (H * 2 ^ k + man) k at' H (18 * 0) V) := HF0
  clear HF0 hxe
  obtain ⟨A, hA⟩ : ∃ A, A = H * 2 ^ k + man := ⟨_, rfl⟩
  rw [← hA] at HF
  rw [← hA]
  clear hA
  obtain ⟨D, hDe⟩ : ∃ D, D = 2 ^ k := ⟨_, rfl⟩
  have HDe : Hid (D = 2 ^ k) := hDe
  rw [← hDe]
  obtain ⟨kk, hkk⟩ : ∃ x, x = at' / 64 := ⟨_, rfl⟩
  obtain ⟨s, hs⟩ : ∃ x, x = at' % 64 := ⟨_, rfl⟩
  obtain ⟨lo, hlo⟩ : ∃ lo, lo = man * 2 ^ s % 18446744073709551616 := ⟨_, rfl⟩
  obtain ⟨hi, hhi⟩ : ∃ hi, hi = man / 2 ^ (64 - s) := ⟨_, rfl⟩
  obtain ⟨hh, hhh⟩ : ∃ x, x = if s = 0 then kk + 1 else min (kk + 2) 18 := ⟨_, rfl⟩
  have hlol : lo < 18446744073709551616 := by omega
  have hhil : hi < 18446744073709551616 := by
    rw [hhi]
    exact Nat.lt_of_le_of_lt (Nat.div_le_self _ _) hm64
  have hkk18 : kk < 18 := by omega
  have hs64 : s < 64 := by omega
  have HL0 : Hid (s = 0 → mv (upd (fun _ => 0) kk lo) 18 = man * 2 ^ at' ∧ LimbZ (upd (fun _ => 0) kk lo) 0 hh) := by
    intro h0
    have hlm : lo = man := by rw [hlo, h0, Nat.pow_zero, Nat.mul_one]; omega
    refine ⟨by rw [hlm]; exact lay1_all hkk (by omega) (by omega), ?_⟩
    rw [hhh, if_pos h0]
    exact lay1_limb (by omega) hlol
  have HL1 : Hid (s ≠ 0 → kk + 1 < 18 → mv (lay kk lo hi) 18 = man * 2 ^ at' ∧ LimbZ (lay kk lo hi) 0 hh) := by
    intro h0 h1
    refine ⟨by rw [hlo, hhi]; exact lay_val hkk hs (by omega), ?_⟩
    rw [hhh, if_neg h0, Nat.min_eq_left (by omega)]
    exact lay_limb (by omega) hlol hhil
  have HL2 : Hid (s ≠ 0 → ¬ kk + 1 < 18 → mv (upd (fun _ => 0) kk lo) 18 = man * 2 ^ at' ∧ LimbZ (upd (fun _ => 0) kk lo) 0 hh) := by
    intro h0 h1
    have h17 : kk = 17 := by omega
    refine ⟨by rw [h17, hlo]; exact last_val (by omega) (by omega) hs hm, ?_⟩
    rw [hhh, if_neg h0, Nat.min_eq_right (by omega), h17]
    exact lay1_limb (by omega) hlol
  have e0 : IntKind.i16.wrap (1152 - (k : Int)) = (at' : Nat) := by
    have := i16_nat (n := at') (by omega)
    rw [← this]
    congr 1
    omega
  have e1 : (at' : Int).tdiv 64 = (kk : Nat) := by rw [Int.tdiv_eq_ediv_of_nonneg (by omega)]; omega
  have e2 : (at' : Int).tmod 64 = (s : Nat) := by rw [Int.tmod_eq_emod_of_nonneg (by omega)]; omega
  have e3 : IntKind.u64.wrap ((man : Int) * 2 ^ s) = (lo : Nat) := by
    rw [wrap64, hlo]
    have h2 : ((2 : Int) ^ s) = ((2 ^ s : Nat) : Int) := by simp
    rw [h2, ← Int.natCast_mul]
    omega
  have e4 : IntKind.i16.wrap ((kk : Int) + 1) = (kk : Int) + 1 := by
    have := i16_nat (n := kk + 1) (by omega)
    simpa using this
  have e5 : IntKind.i16.wrap (64 - (s : Int)) = ((64 - s : Nat) : Int) := by
    have := i16_nat (n := 64 - s) (by omega)
    rw [← this]
    congr 1
    omega
  have e6 : (man : Int) / 2 ^ (64 - s) = (hi : Nat) := by
    rw [hhi]
    simp
  have HH : Hid (hh = if s = 0 then kk + 1 else min (kk + 2) 18) := hhh
  have HDg : Hid (DgN g0 n0 H) := hD
  have hatl : at' < 1152 := by omega
  have HAt : Hid (at' + k = 1152) := by show at' + k = 1152; omega
  clear hlo hhi hhh hkk hs hDe hD hat
  go_enter Oabg.func110, Oabg.ntmps110
  go_upto_region 2 with (fail)
  have hW := FwAt.start hE
  obtain ⟨W1, hW1⟩ : ∃ W1, W1 = w.alloc (.cells #[.int .u64 0, .int .u64 0, .int .u64 0, .int .u64 0, .int .u64 0, .int .u64 0, .int .u64 0, .int .u64 0, .int .u64 0, .int .u64 0, .int .u64 0, .int .u64 0, .int .u64 0, .int .u64 0, .int .u64 0, .int .u64 0, .int .u64 0, .int .u64 0] 188) := ⟨_, rfl⟩
  rw [← hW1] at hW
  rw [← hW1]
  have ck := hW.at (j := kk) (by omega)
  have fk := hW.fr kk
  clear hW1 hE
  go_upto_region 3 with (fail)
  have hW2 := hW.putW kk lo
  obtain ⟨W2, hW2e⟩ : ∃ W2, W2 = W1.setCell ⟨w.heap.size, kk, none⟩ (.int .u64 lo) := ⟨_, rfl⟩
  rw [← hW2e] at hW2
  rw [← hW2e]
  clear hW2e ck fk hW
  go_cut [32] (fun s32 wx => s32 = .bool (decide (s ≠ 0 ∧ kk + 1 < 18)) ∧ wx = W2)
  case first =>
    clear hW2
    by_cases h0 : s = 0
    · have hn0 : ((s : Int) != 0) = false := by rw [h0]; rfl
      have hd : decide (s ≠ 0 ∧ kk + 1 < 18) = false := decide_eq_false (by omega)
      clear h0
      go_wp2
      go_meet
      exact ⟨by rw [hd], rfl⟩
    · have hn0 : ((s : Int) != 0) = true := by rw [bne_iff_ne]; omega
      by_cases h1 : kk + 1 < 18
      · have hl1 : decide ((kk : Int) + 1 < 18) = true := decide_eq_true (by omega)
        have hd : decide (s ≠ 0 ∧ kk + 1 < 18) = true := decide_eq_true ⟨h0, h1⟩
        clear h0 h1
        go_wp2
        go_meet
        exact ⟨by rw [hd], rfl⟩
      · have hl1 : decide ((kk : Int) + 1 < 18) = false := decide_eq_false (by omega)
        have hd : decide (s ≠ 0 ∧ kk + 1 < 18) = false := decide_eq_false (by omega)
        clear h0 h1
        go_wp2
        go_meet
        exact ⟨by rw [hd], rfl⟩
  case rest =>
  obtain ⟨rfl, hw⟩ := hcut
  rw [hw]
  clear hw
  go_upto_if 32 with (fail)
  go_cut [] (fun wx => ∃ f, FwAt w P f g0 n0 top0 sig pr wx ∧ mv f 18 = man * 2 ^ at' ∧ LimbZ f 0 hh)
  case first =>
    have HW2 : Hid (FwAt w P (upd (fun _ => 0) kk lo) g0 n0 top0 sig pr W2) := hW2
    by_cases h0 : s ≠ 0 ∧ kk + 1 < 18
    · have hd : decide (s ≠ 0 ∧ kk + 1 < 18) = true := decide_eq_true h0
      rw [hd]
      have ck1 := hW2.at (j := kk + 1) (by omega)
      have fk1 := hW2.fr (kk + 1)
      have HX : Hid (mv (lay kk lo hi) 18 = man * 2 ^ at' ∧ LimbZ (lay kk lo hi) 0 hh) := HL1.out h0.1 h0.2
      have hkk17 := h0.2
      clear h0 hW2
      go_wp2
      go_meet
      exact ⟨_, HW2.out.putW (kk + 1) hi, HX.out.1, HX.out.2⟩
    · have hd : decide (s ≠ 0 ∧ kk + 1 < 18) = false := decide_eq_false h0
      rw [hd]
      have HX : Hid (mv (upd (fun _ => 0) kk lo) 18 = man * 2 ^ at' ∧ LimbZ (upd (fun _ => 0) kk lo) 0 hh) := by
        by_cases h1 : s = 0
        · exact HL0.out h1
        · exact HL2.out h1 (fun h2 => h0 ⟨h1, h2⟩)
      clear h0 hW2
      go_wp2
      go_meet
      exact ⟨_, HW2.out, HX.out.1, HX.out.2⟩
  case rest =>
  obtain ⟨f, hW3, hF3, hZ3⟩ := hcut
  clear hW2 HL0 HL1 HL2 hlol hhil
  have hhl := hZ3.h18
  have HI : Hid (TurnAt w P A k at' n0 top0 sig pr f 0 hh 0 g0 n0 top0 H wc) := ⟨hW3, hZ3, HF.out _ hF3, HDg.out, by omega, by omega, by omega⟩
  clear hW3 hF3 hZ3 HF HDg
  generalize wc = W3 at *
  go_upto_region 6 with (fail)
  go_cut [52] (fun s52 wx => s52 = .bool (decide (s ≠ 0 ∧ kk + 1 < 18)) ∧ wx = W3)
  case first =>
    by_cases h0 : s = 0
    · have hn0 : ((s : Int) != 0) = false := by rw [h0]; rfl
      have hd : decide (s ≠ 0 ∧ kk + 1 < 18) = false := decide_eq_false (by omega)
      clear h0
      go_wp2
      go_meet
      exact ⟨by rw [hd], rfl⟩
    · have hn0 : ((s : Int) != 0) = true := by rw [bne_iff_ne]; omega
      by_cases h1 : kk + 1 < 18
      · have hl1 : decide ((kk : Int) + 1 < 18) = true := decide_eq_true (by omega)
        have hd : decide (s ≠ 0 ∧ kk + 1 < 18) = true := decide_eq_true ⟨h0, h1⟩
        clear h0 h1
        go_wp2
        go_meet
        exact ⟨by rw [hd], rfl⟩
      · have hl1 : decide ((kk : Int) + 1 < 18) = false := decide_eq_false (by omega)
        have hd : decide (s ≠ 0 ∧ kk + 1 < 18) = false := decide_eq_false (by omega)
        clear h0 h1
        go_wp2
        go_meet
        exact ⟨by rw [hd], rfl⟩
  case rest =>
  obtain ⟨rfl, hw⟩ := hcut
  rw [hw]
  clear hw
  go_upto_if 52 with (fail)
  go_cut [9] (fun s9 wx => s9 = .int .i64 (hh : Nat) ∧ wx = W3)
  case first =>
    by_cases h0 : s ≠ 0 ∧ kk + 1 < 18
    · have hd : decide (s ≠ 0 ∧ kk + 1 < 18) = true := decide_eq_true h0
      rw [hd]
      have HQ : Hid (hh = kk + 2) := by show hh = kk + 2; rw [HH.out, if_neg h0.1, Nat.min_eq_left (by omega)]
      have hkk17 := h0.2
      clear h0
      go_wp2
      go_meet
      exact ⟨by rw [HQ.out]; exact congrArg (Value.int IntKind.i64) (by omega), rfl⟩
    · have hd : decide (s ≠ 0 ∧ kk + 1 < 18) = false := decide_eq_false h0
      rw [hd]
      have HQ : Hid (hh = kk + 1) := by
        show hh = kk + 1
        rw [HH.out]
        by_cases h1 : s = 0
        · rw [if_pos h1]
        · rw [if_neg h1, Nat.min_eq_right (by omega)]
          omega
      clear h0
      go_wp2
      go_meet
      exact ⟨by rw [HQ.out]; simp, rfl⟩
  case rest =>
  obtain ⟨rfl, hw⟩ := hcut
  rw [hw]
  clear hw e1 e2 e3 e4 e5 e6 e0 HH hkk18 hs64
  go_wp2_with fail
  go_loopg [8, 9, 10] 1200 (fun m s8 s9 s10 wr => ∃ f low high t g n top N, s8 = .int .i64 (low : Nat) ∧ s9 = .int .i64 (high : Nat) ∧ s10 = .int .i64 ((t : Nat) + 1 : Int) ∧ TurnAt w P A k at' n0 top0 sig pr f low high t g n top N wr ∧ 1200 - (at' + 18 * t) ≤ m)
  case atStart => exact ⟨f, 0, hh, 0, g0, n0, top0, H, rfl, rfl, rfl, HI.out, by omega⟩
  case round =>
    clear HI hhl
    generalize wr = Wt at *
    obtain ⟨f, low, high, t, g, n, top, N, rfl, rfl, rfl, hT, hgm⟩ := hrel
    have HM : Hid (1200 - (at' + 18 * t) ≤ gk) := hgm
    have HT : Hid (TurnAt w P A k at' n0 top0 sig pr f low high t g n top N Wt) := hT
    clear hgm
    go_wp2_with fail
    go_loopg [8] 18 (fun m s8 wx => ∃ l : Nat, s8 = .int .i64 (l : Nat) ∧ wx = Wt ∧ LimbZ f l high ∧ high - l ≤ m)
    case atStart => exact ⟨low, rfl, rfl, hT.lz, by have := hT.lz.h18; omega⟩
    case round =>
      obtain ⟨l, rfl, hwx, hZ, hlm⟩ := hrel
      rw [hwx]
      clear hwx
      have hl18 := hZ.h18
      have hle := hZ.le
      by_cases hl : l < high
      · have hdl : decide ((l : Int) < (high : Int)) = true := decide_eq_true (by omega)
        have cl := hT.fw.at (j := l) (by omega)
        by_cases h0 : f l = 0
        · have hq0 : ((f l : Int) == 0) = true := by rw [h0]; rfl
          have HZ : Hid (LimbZ f (l + 1) high) := hZ.up hl h0
          have hlt : high - (l + 1) < gk := by omega
          clear hT hZ h0 hle
          go_wp2
          go_roundg (high - (l + 1))
          case measure => exact hlt
          case rel => exact ⟨l + 1, by simp, rfl, HZ.out, Nat.le_refl _⟩
        · have hq0 : ((f l : Int) == 0) = false := by rw [beq_eq_false_iff_ne]; omega
          have hVp : 0 < mv f 18 := mv_pos (i := l) (by omega) h0
          have hne : ((l : Int) == (high : Int)) = false := by rw [beq_eq_false_iff_ne]; omega
          have HZ : Hid (LimbZ f l high) := hZ
          have HEn : Hid (∀ pl, Calls Oabg.prog 149 #[.pointer (some ⟨P, 0, none⟩), .int .i64 pl] Wt fun e w' => e = .returned (.bool (decide (sig < n) || decide (pr < pl))) ∧ Below Wt.heap.size Wt w') := fun pl => enough_any P g n top sig pr pl Wt hT.fw.ex
          have hdeg : at' + 18 * t < 1152 := by
            by_cases hc : at' + 18 * t < 1152
            · exact hc
            · have := hT.fr.stop (by rw [xe_eq]; omega)
              omega
          clear h0 hT hZ
          go_wp2_with fail
          go_at_call 149
          refine (HEn.out _).mono ?_
          rintro e w4 ⟨rfl, hb4⟩
          have hF4 := HT.out.fw.step hb4
          clear hb4 HEn
          by_cases hen : sig < (n : Int) ∨ pr < (t : Int) * 18
          · have hb : (decide (sig < (n : Int)) || decide (pr < (t : Int) * 18)) = true := by simpa using hen
            have hn41 : n < 1441 := by
              have := HT.out.le
              omega
            have cdig := hF4.ex.at hn41
            obtain ⟨c1, c2, c3, c4, cf⟩ := hF4.ex.all
            have cdf := cf n
            have HX : Hid (ExPost w P A D sig pr (((w4.setCell ⟨P, n, none⟩ (.int .u8 49)).drew).setCell ⟨P, 1441, none⟩ (.int .i64 ((n + 1 : Nat) : Int)))) := by
              have h1 := HT.out.fr.between hVp
              rw [← HDe.out] at h1
              have h2 := HT.out.bal
              have h3 := HT.out.le
              refine ⟨upd g n 49, n + 1, top, ((hF4.ex.putDig hn41 49).drew).putN (n + 1), ⟨18 * t, N, .inr ⟨n, rfl, upd_at g n 49, ?_, h1.1, h1.2, by omega, by omega⟩⟩, by omega, by omega, by omega, below_set (below_set hF4.below (Nat.le_refl _) _ _).drew (Nat.le_refl _) _ _⟩
              have h4 := HT.out.dg
              refine ⟨fun j hj => ?_, ?_, fun hp => ?_⟩
              · unfold upd
                rw [if_neg (by omega)]
                exact h4.dig j hj
              · rw [← h4.val]
                refine dv_congr fun j hj => ?_
                unfold upd
                rw [if_neg (by omega)]
              · unfold upd
                rw [if_neg (by omega)]
                exact h4.lead hp
            have hE5 : ExAt P (upd g n 49) n top sig pr ((w4.setCell ⟨P, n, none⟩ (.int .u8 49)).drew) := (hF4.ex.putDig hn41 49).drew
            clear hF4 hen
            go_wp2_with fail
            go_region
            obtain ⟨W5, hW5⟩ : ∃ W5, W5 = (w4.setCell ⟨P, n, none⟩ (.int .u8 49)).drew := ⟨_, rfl⟩
            rw [← hW5] at HX hE5
            rw [← hW5]
            clear hW5 c1 c2 c3 c4 cf cdig cdf
            obtain ⟨c1, c2, c3, c4, cf⟩ := hE5.all
            clear hE5
            go_wp2
            exact bodyPost_ret (v := .tuple #[]) (by simp [results, Oabg.results110]) rfl ⟨rfl, HX.out⟩
          · have hb : (decide (sig < (n : Int)) || decide (pr < (t : Int) * 18)) = false := by simpa using hen
            clear hen
            go_wp2_with fail
            go_loopg [11, 12] 18 (fun m s11 s12 wx => ∃ f' i c, s11 = .int .u64 (c : Nat) ∧ s12 = .int .i64 (i : Nat) ∧ FwAt w P f' g n top sig pr wx ∧ MlAt f f' l i c ∧ l ≤ i ∧ i ≤ high ∧ high - i ≤ m)
            case atStart => exact ⟨f, l, 0, rfl, rfl, hF4, MlAt.start HZ.out, Nat.le_refl _, hle, by omega⟩
            case round =>
              obtain ⟨f', i, c, rfl, rfl, hF, hM, hli, hih, him⟩ := hrel
              clear hF4
              by_cases hi' : i < high
              · have hdi : decide ((i : Int) < (high : Int)) = true := decide_eq_true (by omega)
                have ci := hF.at (j := i) (by omega)
                have hsame := hM.same i (Nat.le_refl _)
                have hxl := hM.lim i
                obtain ⟨x, hx⟩ : ∃ x, x = f' i := ⟨_, rfl⟩
                rw [← hx] at ci hxl
                have hfx : f i = x := by rw [hx, hsame]
                obtain ⟨q1, q2, q3⟩ := ml_arith x c hxl hM.c
                obtain ⟨h1, hh1⟩ : ∃ y, y = x * 1000000000000000000 / 18446744073709551616 := ⟨_, rfl⟩
                obtain ⟨l1, hl1⟩ : ∃ y, y = x * 1000000000000000000 % 18446744073709551616 := ⟨_, rfl⟩
                obtain ⟨h2, hh2⟩ : ∃ y, y = h1 + (l1 + c) / 18446744073709551616 := ⟨_, rfl⟩
                obtain ⟨l2, hl2⟩ : ∃ y, y = (l1 + c) % 18446744073709551616 := ⟨_, rfl⟩
                have HMu : Hid (∀ w : World, Calls Oabg.prog 151 #[.int .u64 x, .int .u64 1000000000000000000] w fun e w' => e = .returned (.agg #[.int .u64 (h1 : Nat), .int .u64 (l1 : Nat)]) ∧ Below w.heap.size w w') := fun w => by
                  rw [hh1, hl1]
                  exact mul64_ten x hxl w
                rw [← hh1, ← hl1] at q2 q3
                rw [← hh1] at q1
                have hc := hM.c
                have HAd : Hid (∀ w : World, Calls Oabg.prog 150 #[.agg #[.int .u64 (h1 : Nat), .int .u64 (l1 : Nat)], .agg #[.int .u64 0, .int .u64 (c : Nat)]] w fun e w' => (∃ o, e = .returned (.tuple #[.agg #[.int .u64 (h2 : Nat), .int .u64 (l2 : Nat)], .bool o])) ∧ Below w.heap.size w w') := fun w => by
                  rw [hh2, hl2]
                  exact add_carry h1 l1 c q1 (by omega) (by omega) w
                have HN : Hid (MlAt f (upd f' i l2) l (i + 1) h2) := by
                  rw [← hh2] at q2 q3
                  rw [← hl2] at q3
                  exact hM.next hli (by omega) q2 (by rw [hfx]; exact q3)
                have HF : Hid (FwAt w P f' g n top sig pr _) := hF
                have hmeas : high - (i + 1) < gk := by omega
                clear hF hM hsame hx hfx q1 q2 q3 hh1 hl1 hh2 hl2 hc him
                go_wp2_with fail
                go_at_call 151
                refine (HMu.out _).mono ?_
                rintro e w5 ⟨rfl, hb5⟩
                have HF5 : Hid (FwAt w P f' g n top sig pr w5) := HF.out.step hb5
                clear hb5 HF ci HMu
                go_wp2_with fail
                go_at_call 150
                refine (HAd.out _).mono ?_
                rintro e w6 ⟨⟨o, rfl⟩, hb6⟩
                have hF6 := HF5.out.step hb6
                clear hb6 HF5 HAd
                go_upto_region 21 with (fail)
                have hF7 := hF6.step (below_alloc w6 (.cells #[.int .u64 (h2 : Nat), .int .u64 (l2 : Nat)] 115))
                have hB7 := Blk.start w6 #[.int .u64 (h2 : Nat), .int .u64 (l2 : Nat)] 115
                have hQ : w6.heap.size ≠ w.heap.size := by have := hF6.size; omega
                obtain ⟨W7, hW7⟩ : ∃ W7, W7 = w6.alloc (.cells #[.int .u64 (h2 : Nat), .int .u64 (l2 : Nat)] 115) := ⟨_, rfl⟩
                obtain ⟨Q, hQe⟩ : ∃ Q, Q = w6.heap.size := ⟨_, rfl⟩
                rw [← hW7] at hF7 hB7
                rw [← hQe] at hB7 hQ
                rw [← hW7, ← hQe]
                have d0 := hB7.cell 0
                have d1 := hB7.cell 1
                simp at d0 d1
                have ci := hF7.at (j := i) (by omega)
                have fi := hF7.fr i
                have HF8 : Hid (FwAt w P (upd f' i l2) g n top sig pr ((W7.setCell ⟨w.heap.size, i, none⟩ (.int .u64 (l2 : Nat))).drew)) := (hF7.putW i l2).drew
                clear hW7 hQe hB7 hF7 hF6
                go_region
                go_wp2
                go_roundg (high - (i + 1))
                case measure => exact hmeas
                case rel => exact ⟨_, i + 1, h2, rfl, by simp, HF8.out, HN.out, by omega, by omega, Nat.le_refl _⟩
              · have hdi : decide ((i : Int) < (high : Int)) = false := decide_eq_false (by omega)
                have hie : high = i := by omega
                subst hie
                obtain ⟨hEq, hLz⟩ := hM.done HZ.out
                have hcl := hM.c
                have hnl : n ≤ 1422 := by have := HT.out.le; omega
                have ht1 : -100000 ≤ top := by have := HT.out.bal; omega
                have ht2 : top ≤ 100000 := by have := HT.out.bal; have := HT.out.le; omega
                have hm2 : 1200 - (at' + 18 * (t + 1)) < 1200 - (at' + 18 * t) := by omega
                have HF : Hid (FwAt w P f' g n top sig pr _) := hF
                by_cases h18 : high < 18
                · have hd18 : decide ((high : Int) < 18) = true := decide_eq_true (by omega)
                  by_cases hc0 : c = 0
                  · subst hc0
                    have HLz : Hid (LimbZ f' l high) := hLz
                    have HEq : Hid (mv f' 18 + 0 * fx = 1000000000000000000 * mv f 18) := by
                      rw [Nat.zero_mul] at hEq ⊢
                      exact hEq
                    clear hF hM hEq hLz
                    go_wp2_with fail
                    go_at_call 109
                    refine (put_any P 0 (by omega) true g n N top sig pr hnl ht1 ht2 _ HF.out.ex HT.out.dg).mono ?_
                    rintro e w9 ⟨rfl, g', n', top', hPA⟩
                    have HTn : Hid (TurnAt w P A k at' n0 top0 sig pr f' l high (t + 1) g' n' top' (N * 1000000000000000000 + 0) w9) := HT.out.next HF.out hPA HLz.out HEq.out hdeg
                    clear hPA
                    go_wp2
                    go_roundg (1200 - (at' + 18 * (t + 1)))
                    case measure => exact Nat.lt_of_lt_of_le hm2 HM.out
                    case rel => exact ⟨_, l, high, t + 1, g', n', top', _, rfl, rfl, by simp, HTn.out, Nat.le_refl _⟩
                  · have hcb : ((c : Int) != 0) = true := by rw [bne_iff_ne]; omega
                    have hp := hLz.push h18 (c := c) (by omega)
                    have HLz : Hid (LimbZ (upd f' high c) l (high + 1)) := hp.1
                    have HEq : Hid (mv (upd f' high c) 18 + 0 * fx = 1000000000000000000 * mv f 18) := by
                      rw [Nat.zero_mul, Nat.add_zero, hp.2]
                      exact hEq
                    have ch := hF.at (j := high) h18
                    have fh := hF.fr high
                    have HF9 : Hid (FwAt w P (upd f' high c) g n top sig pr _) := hF.putW high c
                    clear hF hM hEq hLz hp
                    go_wp2_with fail
                    go_at_call 109
                    refine (put_any P 0 (by omega) true g n N top sig pr hnl ht1 ht2 _ HF9.out.ex HT.out.dg).mono ?_
                    rintro e w9 ⟨rfl, g', n', top', hPA⟩
                    have HTn : Hid (TurnAt w P A k at' n0 top0 sig pr (upd f' high c) l (high + 1) (t + 1) g' n' top' (N * 1000000000000000000 + 0) w9) := HT.out.next HF9.out hPA HLz.out HEq.out hdeg
                    clear hPA
                    go_wp2
                    go_roundg (1200 - (at' + 18 * (t + 1)))
                    case measure => exact Nat.lt_of_lt_of_le hm2 HM.out
                    case rel => exact ⟨_, l, (high + 1), t + 1, g', n', top', _, rfl, by simp, by simp, HTn.out, Nat.le_refl _⟩
                · have hd18 : decide ((high : Int) < 18) = false := decide_eq_false (by omega)
                  have h18e : high = 18 := by omega
                  have HLz : Hid (LimbZ f' l high) := hLz
                  have HEq : Hid (mv f' 18 + c * fx = 1000000000000000000 * mv f 18) := by
                    rw [fx_eq]
                    rw [h18e] at hEq
                    exact hEq
                  clear hF hM hEq hLz h18e
                  go_wp2_with fail
                  go_at_call 109
                  refine (put_any P c (by omega) true g n N top sig pr hnl ht1 ht2 _ HF.out.ex HT.out.dg).mono ?_
                  rintro e w9 ⟨rfl, g', n', top', hPA⟩
                  have HTn : Hid (TurnAt w P A k at' n0 top0 sig pr f' l high (t + 1) g' n' top' (N * 1000000000000000000 + c) w9) := HT.out.next HF.out hPA HLz.out HEq.out hdeg
                  clear hPA
                  go_wp2
                  go_roundg (1200 - (at' + 18 * (t + 1)))
                  case measure => exact Nat.lt_of_lt_of_le hm2 HM.out
                  case rel => exact ⟨_, l, high, t + 1, g', n', top', _, rfl, rfl, by simp, HTn.out, Nat.le_refl _⟩
      · have hdl : decide ((l : Int) < (high : Int)) = false := decide_eq_false (by omega)
        have hlh : l = high := by omega
        subst hlh
        have HX : Hid (ExPost w P A D sig pr Wt) := by
          have h1 := hT.fr
          rw [hZ.none] at h1
          refine ⟨g, n, top, hT.fw.ex, ⟨18 * t, N, .inl ⟨hT.dg, by rw [HDe.out]; exact h1.exact, ?_⟩⟩, ?_, ?_, ?_, hT.fw.below⟩
          · have := hT.bal
            omega
          · have := hT.le
            have := hT.deg
            omega
          · have := hT.bal
            have := hT.deg
            omega
          · have := hT.bal
            have := hT.le
            have := hT.deg
            omega
        clear hT hZ
        go_wp2
        exact bodyPost_ret (v := .tuple #[]) (by simp [results, Oabg.results110]) rfl ⟨rfl, HX.out⟩

end Go.Proofs.Ygcoab
