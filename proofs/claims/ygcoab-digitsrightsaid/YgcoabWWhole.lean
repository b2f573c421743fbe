import Derived.Test.YgcoabWRow
namespace Go.Proofs.Ygcoab
open Go.RowKit

def GroupsPost (w : World) (T : Nat) (e : Ending) (w' : World) : Prop :=
  ∃ C h n, e = .returned (.agg C) ∧ GrC C h n ∧ n ≤ 20 ∧ T = gv h n ∧ (∀ j, h j < 1000000000000000000) ∧ Below w.heap.size w w'

theorem i16_nat {n : Nat} (h : n < 32768) : IntKind.i16.wrap (n : Int) = n := by
  simp [IntKind.wrap, IntKind.bits, IntKind.signed]
  omega

set_option maxHeartbeats 4000000 in
set_option maxRecDepth 100000 in
theorem groups_any (man ex : Nat) (hm : man < 18446744073709551616) (he : ex ≤ 1023) (w : World) :
    Calls Oabg.prog 108 #[.int .u64 man, .int .i16 ex] w (GroupsPost w (man * 2 ^ ex)) := by
  obtain ⟨T, hT⟩ : ∃ T, T = man * 2 ^ ex := ⟨_, rfl⟩
  have HTr : Hid (T < 1000000000000000000 ^ 20) := by rw [hT]; exact whole_room hm he
  rw [← hT]
  obtain ⟨k, hk⟩ : ∃ k, k = ex / 64 := ⟨_, rfl⟩
  obtain ⟨s, hs⟩ : ∃ s, s = ex % 64 := ⟨_, rfl⟩
  obtain ⟨lo, hlo⟩ : ∃ lo, lo = man * 2 ^ s % 18446744073709551616 := ⟨_, rfl⟩
  obtain ⟨hi, hhi⟩ : ∃ hi, hi = man / 2 ^ (64 - s) := ⟨_, rfl⟩
  have HL : Hid (mv (lay k lo hi) 18 = T) := by rw [hlo, hhi, hT]; exact lay_val hk hs (by omega)
  have HL1 : Hid (s = 0 → mv (upd (fun _ => 0) k lo) 18 = T) := by
    intro h0
    have : lo = man := by rw [hlo, h0, Nat.pow_zero, Nat.mul_one]; omega
    rw [this, hT]
    exact lay1_val hk (by omega) (by omega)
  have e1 : (ex : Int).tdiv 64 = (k : Nat) := by rw [Int.tdiv_eq_ediv_of_nonneg (by omega)]; omega
  have e2 : (ex : Int).tmod 64 = (s : Nat) := by rw [Int.tmod_eq_emod_of_nonneg (by omega)]; omega
  have e3 : IntKind.u64.wrap ((man : Int) * 2 ^ s) = (lo : Nat) := by
    rw [wrap64, hlo]
    have h2 : ((2 : Int) ^ s) = ((2 ^ s : Nat) : Int) := by simp
    rw [h2, ← Int.natCast_mul]
    omega
  have hk18 : k < 16 := by omega
  have hs64 : s < 64 := by omega
  have hlol : lo < 18446744073709551616 := by omega
  have hhil : hi < 18446744073709551616 := by
    rw [hhi]
    exact Nat.lt_of_le_of_lt (Nat.div_le_self _ _) hm
  have e4 : IntKind.i16.wrap ((k : Int) + 1) = (k : Int) + 1 := by
    have := i16_nat (n := k + 1) (by omega)
    simpa using this
  have e5 : IntKind.i16.wrap (64 - (s : Int)) = ((64 - s : Nat) : Int) := by
    have := i16_nat (n := 64 - s) (by omega)
    rw [← this]
    congr 1
    omega
  have e6 : (man : Int) / 2 ^ (64 - s) = (hi : Nat) := by
    rw [hhi]
    simp
  clear hT hk hs hlo hhi
  go_enter Oabg.func108, Oabg.ntmps108
  go_upto_region 2 with (fail)
  have hW := WwAt.start w
  have hz1 : ((w.alloc (.cells #[.int .u64 0, .int .u64 0, .int .u64 0, .int .u64 0, .int .u64 0, .int .u64 0, .int .u64 0, .int .u64 0, .int .u64 0, .int .u64 0, .int .u64 0, .int .u64 0, .int .u64 0, .int .u64 0, .int .u64 0, .int .u64 0, .int .u64 0, .int .u64 0, .int .u64 0, .int .u64 0, .int .i64 0] 151)).alloc (.cells #[.int .u64 0, .int .u64 0, .int .u64 0, .int .u64 0, .int .u64 0, .int .u64 0, .int .u64 0, .int .u64 0, .int .u64 0, .int .u64 0, .int .u64 0, .int .u64 0, .int .u64 0, .int .u64 0, .int .u64 0, .int .u64 0, .int .u64 0, .int .u64 0] 188)).heap.size = w.heap.size + 2 := by simp [go_sem]
  obtain ⟨W1, hW1⟩ : ∃ W1, W1 = ((w.alloc (.cells #[.int .u64 0, .int .u64 0, .int .u64 0, .int .u64 0, .int .u64 0, .int .u64 0, .int .u64 0, .int .u64 0, .int .u64 0, .int .u64 0, .int .u64 0, .int .u64 0, .int .u64 0, .int .u64 0, .int .u64 0, .int .u64 0, .int .u64 0, .int .u64 0, .int .u64 0, .int .u64 0, .int .i64 0] 151)).alloc (.cells #[.int .u64 0, .int .u64 0, .int .u64 0, .int .u64 0, .int .u64 0, .int .u64 0, .int .u64 0, .int .u64 0, .int .u64 0, .int .u64 0, .int .u64 0, .int .u64 0, .int .u64 0, .int .u64 0, .int .u64 0, .int .u64 0, .int .u64 0, .int .u64 0] 188)) := ⟨_, rfl⟩
  rw [← hW1] at hW hz1
  rw [← hW1]
  have ck := hW.at (j := k) (by omega)
  have fk := hW.fr k
  clear hW1
  go_upto_region 3 with (fail)
  have hW2 := hW.put k lo
  have hz2 : (W1.setCell ⟨w.heap.size + 1, k, none⟩ (.int .u64 lo)).heap.size = w.heap.size + 2 := by rw [← hz1]; simp [go_sem]
  obtain ⟨W2, hW2e⟩ : ∃ W2, W2 = W1.setCell ⟨w.heap.size + 1, k, none⟩ (.int .u64 lo) := ⟨_, rfl⟩
  rw [← hW2e] at hW2 hz2
  rw [← hW2e]
  clear hW2e ck fk hW hz1
  go_upto_if 19 with (fail)
  go_cut [] (fun wx => ∃ f, WwAt w f wx ∧ mv f 18 = T ∧ (∀ j, f j < 18446744073709551616) ∧ wx.heap.size = w.heap.size + 2)
  case first =>
    have HW2 : Hid (WwAt w (upd (fun _ => 0) k lo) W2) := hW2
    by_cases h0 : s = 0
    · have hn0 : ((s : Int) != 0) = false := by rw [h0]; rfl
      have HF : Hid (mv (upd (fun _ => 0) k lo) 18 = T) := HL1.out h0
      clear h0 hW2
      go_wp2
      go_meet
      exact ⟨_, HW2.out, HF.out, upd_lt (fun j => by omega) hlol, hz2⟩
    · have hn0 : ((s : Int) != 0) = true := by rw [bne_iff_ne]; omega
      have ck1 := hW2.at (j := k + 1) (by omega)
      have fk1 := hW2.fr (k + 1)
      clear h0 hW2
      go_wp2
      go_meet
      exact ⟨_, HW2.out.put (k + 1) hi, HL.out, upd_lt (upd_lt (fun j => by omega) hlol) hhil, by rw [← hz2]; simp [go_sem]⟩
  case rest =>
  obtain ⟨f, hW3, hF3, hL3, hz3⟩ := hcut
  clear hW2 hz2 HL HL1 e1 e2 e3 e4 e5 e6 hk18 hs64 hlol hhil
  go_wp2_with fail
  have hG := hW3.groups hz3
  obtain ⟨W4, hW4⟩ : ∃ W4, W4 = wc.alloc (.cells #[.int .u64 0, .int .u64 0, .int .u64 0, .int .u64 0, .int .u64 0, .int .u64 0, .int .u64 0, .int .u64 0, .int .u64 0, .int .u64 0, .int .u64 0, .int .u64 0, .int .u64 0, .int .u64 0, .int .u64 0, .int .u64 0, .int .u64 0, .int .u64 0, .int .u64 0, .int .u64 0, .int .i64 0] 151) := ⟨_, rfl⟩
  rw [← hW4] at hG
  rw [← hW4]
  clear hW4 hW3 hz3
  go_loopg [7] 20 (fun m _ wr => ∃ f h n V, WgAt w f h n wr ∧ GvAt T h n V ∧ mv f 18 = V ∧ (∀ j, f j < 18446744073709551616) ∧ n < 20 ∧ 20 - n ≤ m)
  case atStart => exact ⟨f, _, 0, T, hG, GvAt.start T, hF3, hL3, by omega, by omega⟩
  case round =>
    obtain ⟨f0, h, n, V, hG0, hGv, hV, hL, hn, hmm⟩ := hrel
    have HGv : Hid (GvAt T h n V) := hGv
    have HD0 : Hid (DwAt V f0 18 0 0) := by rw [← hV]; exact DwAt.start (Nat.le_refl _) hL
    have HM : Hid (20 - n ≤ gk) := hmm
    clear hG hF3 hL3 hGv hV hL hmm
    go_wp2_with fail
    go_loopg [7, 8, 9] 18 (fun m s7 s8 s9 wr => ∃ f rest any k, s7 = .int .u64 (rest : Nat) ∧ s8 = .int .u64 (any : Nat) ∧ s9 = .int .i64 ((k : Nat) - 1 : Int) ∧ WgAt w f h n wr ∧ DwAt V f k rest any ∧ k ≤ 18 ∧ k ≤ m)
    case atStart => exact ⟨f0, 0, 0, 18, rfl, rfl, rfl, hG0, HD0.out, by omega, by omega⟩
    case round =>
      obtain ⟨f, rest, any, k, rfl, rfl, rfl, hG, hD, hk18, hkm⟩ := hrel
      clear HD0 hG0
      rcases Nat.eq_zero_or_pos k with h0 | h0
      · subst h0
        obtain ⟨hV, han⟩ := hD.done
        have hr := hD.r
        have cn := hG.cn
        have chn := hG.at hn
        have fn := hG.fr
        have hnx : GvAt T (upd h n rest) (n + 1) (mv f 18) := HGv.out.next hr hV
        have HG2 : Hid (WgAt w f (upd h n rest) (n + 1) ((wr.setCell ⟨w.heap.size + 2, n, none⟩ (.int .u64 (rest : Nat))).setCell ⟨w.heap.size + 2, 20, none⟩ (.int .i64 ((n + 1 : Nat) : Int)))) := (hG.putG hn rest).putN (n + 1)
        have hn20 : n ≠ 20 := by omega
        by_cases ha : any = 0
        · have ha' : ((any : Int) == 0) = true := by rw [ha]; rfl
          have HT : Hid (T = gv (upd h n rest) (n + 1)) := by
            have := hnx
            rw [han.1 ha] at this
            exact this.full
          have HL : Hid (∀ j, upd h n rest j < 1000000000000000000) := hnx.lt
          clear ha han hV hD hnx hG HGv
          go_upto_region 15 with (fail)
          have hg : WgAt w f (upd h n rest) (n + 1) ((wr.setCell ⟨w.heap.size + 2, n, none⟩ (.int .u64 (rest : Nat))).setCell ⟨w.heap.size + 2, 20, none⟩ (.int .i64 ((n : Int) + 1))) := HG2.out
          obtain ⟨W6, hW6⟩ : ∃ W6, W6 = (wr.setCell ⟨w.heap.size + 2, n, none⟩ (.int .u64 (rest : Nat))).setCell ⟨w.heap.size + 2, 20, none⟩ (.int .i64 ((n : Int) + 1)) := ⟨_, rfl⟩
          rw [← hW6] at hg
          rw [← hW6]
          clear hW6 HG2 cn chn fn
          obtain ⟨h', hh'⟩ : ∃ h', h' = upd h n rest := ⟨_, rfl⟩
          rw [← hh'] at hg HT HL
          clear hh'
          obtain ⟨C, hC1, hC2⟩ := hg.rg
          obtain ⟨d, hd1, hd2⟩ := under151
          have hr4 := hg.ww.r4
          have HBl : Hid (Below w.heap.size w (W6.setRow w.heap.size C)) := below_setRow hg.ww.below (Nat.le_refl _)
          have HR4 : Hid (Blk w.heap.size 151 C (W6.setRow w.heap.size C)) := hr4.setRow
          have HI : Hid ((Oabg.prog.info? 151).map (·.size) = some C.size) := by rw [hC2.size]; exact info151s
          have HC2 : Hid (GrC C h' (n + 1)) := hC2
          refine wp_region_lit (l := [_, _]) ?_
          refine wpList_load_row rfl 151 _ rfl (w.heap.size + 2) rfl 151 C (0, 0) d hC1.row hd1 (by cases d <;> first | rfl | exact absurd hd2 (by simp)) HI.out ?_
          refine wpList_store_row rfl 151 _ _ rfl w.heap.size C rfl rfl 151 _ hr4.row HI.out (by rw [hC2.size]; rfl) hC2.all ?_
          clear hg hr4 hC1 hC2
          go_wp2
          exact bodyPost_ret (v := .agg C) (results_cell_row rfl _ _ w.heap.size 151 C (0, 0) d rfl HR4.out.row hd1 (by cases d <;> first | rfl | exact absurd hd2 (by simp)) HI.out) rfl ⟨C, h', n + 1, rfl, HC2.out, by omega, HT.out, HL.out, HBl.out⟩
        · have ha' : ((any : Int) == 0) = false := by rw [beq_eq_false_iff_ne]; omega
          have hn1 : n + 1 < 20 := by
            by_cases h19 : n + 1 = 20
            · exfalso
              rw [h19] at hnx
              exact ha (han.2 (hnx.last HTr.out))
            · omega
          have hn1' : ((n : Int) + 1 == 20) = false := by rw [beq_eq_false_iff_ne]; omega
          have HNx : Hid (GvAt T (upd h n rest) (n + 1) (mv f 18)) := hnx
          have HL : Hid (∀ j, f j < 18446744073709551616) := hD.lim
          have HMM : Hid (20 - (n + 1) < 20 - n) := by show 20 - (n + 1) < 20 - n; omega
          clear ha han hV hD hnx hG HGv
          go_wp2
          go_roundg (20 - (n + 1))
          case measure => exact Nat.lt_of_lt_of_le HMM.out HM.out
          case rel => exact ⟨f, _, n + 1, _, HG2.out, HNx.out, rfl, HL.out, hn1, Nat.le_refl _⟩
      · obtain ⟨i, rfl⟩ : ∃ i, k = i + 1 := ⟨k - 1, by omega⟩
        have hi : i < 18 := by omega
        have cw := hG.ww.at hi
        have fw := hG.ww.fr i
        have hr := hD.r
        have hfi := hD.lim i
        obtain ⟨fi, hfi'⟩ : ∃ x, x = f i := ⟨_, rfl⟩
        rw [← hfi'] at cw hfi
        have hnx := hD.next hi
        rw [← hfi'] at hnx
        obtain ⟨q, hq⟩ : ∃ q, q = (rest * 18446744073709551616 + fi) / 1000000000000000000 := ⟨_, rfl⟩
        obtain ⟨r, hr'⟩ : ∃ r, r = (rest * 18446744073709551616 + fi) % 1000000000000000000 := ⟨_, rfl⟩
        obtain ⟨an, han⟩ : ∃ an, an = any ||| q := ⟨_, rfl⟩
        rw [← hq, ← hr', ← han] at hnx
        have eor : bits .or .u64 (any : Int) (q : Int) = (an : Nat) := by
          rw [u64_or_nat _ _ hD.anyl (by rw [hq]; exact dv_quot hr hfi), han]
        have HDv : Hid (∀ w : World, Calls Oabg.prog 148 #[.agg #[.int .u64 (rest : Nat), .int .u64 (fi : Nat)], .int .u64 1000000000000000000] w fun e w' => e = .returned (.tuple #[.int .u64 (q : Nat), .int .u64 (r : Nat), .bool true]) ∧ Below w.heap.size w w') := fun w => by
          rw [hq, hr']
          exact div_ten rest fi hr hfi w
        have HN : Hid (DwAt V (upd f i q) i r an) := hnx
        have HG : Hid (WgAt w f h n wr) := hG
        have hgk : i < gk := by omega
        have hk1 : ((i + 1 : Nat) : Int) - 1 = (i : Nat) := by omega
        have hge : decide ((0 : Int) ≤ (i : Int)) = true := decide_eq_true (by omega)
        clear hnx hD hG hr hfi hfi' hq hr' han hkm hk18 h0
        rw [hk1]
        go_wp2_with fail
        go_at_call 148
        refine (HDv.out _).mono ?_
        rintro e w5 ⟨rfl, hb5⟩
        have hG5 := HG.out.step hb5
        have cw5 := hG5.ww.at hi
        have fw5 := hG5.ww.fr i
        have HG5 : Hid (WgAt w f h n w5) := hG5
        clear hG5 hb5 cw fw HG HDv
        go_wp2
        go_roundg i
        case measure => exact hgk
        case rel => exact ⟨_, r, an, i, rfl, rfl, rfl, HG5.out.putW i q, HN.out, by omega, Nat.le_refl _⟩

end Go.Proofs.Ygcoab
