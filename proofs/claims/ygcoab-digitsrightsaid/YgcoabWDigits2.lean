import Derived.Test.YgcoabWDigits
namespace Go.Proofs.Ygcoab
open Go.RowKit

def DoPost (w : World) (N : Nat) (e : Ending) (w' : World) : Prop := ∃ b, e = .returned (.string b) ∧ DigS N b ∧ Below w.heap.size w w'

theorem digS_zero : DigS 0 { data := #[48] } := by
  refine ⟨[48], rfl, ?_, rfl, by decide, .inl rfl⟩
  intro x hx
  cases hx with
  | head => omega
  | tail _ h => cases h

/-- the outer loop's relation -/
structure DoAt (w : World) (B L N0 : Nat) (f : Nat → Int) (at' : Nat) (v : Value) (N : Nat) (W : World) : Prop where
  g : DgAt w B L N0 f at' N W
  n : IsN W v N
  le : N ≤ N0
  nine : ∃ r, L - at' = 9 * r

theorem DoAt.room {w W : World} {B L N0 bl at' N : Nat} {f : Nat → Int} {v : Value} (h : DoAt w B L N0 f at' v N W) (hN : 0 < N) (hb : N0 < 2 ^ bl) (hL : L = bl / 3 + 9) : 9 ≤ at' := by
  obtain ⟨r, hr⟩ := h.nine
  have hs := h.g.sum
  have hle := h.g.le
  have h1 : 10 ^ (L - at') ≤ N0 := by
    rw [← hs]
    exact Nat.le_trans (Nat.le_mul_of_pos_left _ hN) (Nat.le_add_right _ _)
  rw [hr] at h1
  have := dig_room h1 hb
  omega

/-- digitsOf's numbers have fewer bits -/
def dgB : Nat := 20000
theorem dgB_eq : dgB = 20000 := rfl

structure NFit (N0 : Nat) : Prop where
  f : ∀ N, N ≤ N0 → FitsN N

set_option maxRecDepth 100000 in
set_option maxHeartbeats 4000000 in
theorem digitsOf_any {w : World} {u : Value} {N0 : Nat} (hu : IsN w u N0) (hb20 : N0 < 2 ^ dgB) : Calls Oabg.prog 64 #[u] w (DoPost w N0) := by
  obtain ⟨bl, hbl⟩ : ∃ bl, bl = blen N0 := ⟨_, rfl⟩
  have hlt : N0 < 2 ^ bl := by rw [hbl]; exact lt_blen N0
  have hgB := dgB_eq
  have hbl2 : bl ≤ 20000 := by have := blen_le hb20; omega
  have HF : Hid (NFit N0) := ⟨fun N hN => FitsN.of (a := dgB) (Nat.lt_of_le_of_lt hN hb20) (by omega)⟩
  have HBl : Hid (Calls Oabg.prog 98 #[u] w fun e w' => e = .returned (.int .i64 bl) ∧ w' = w) := by rw [hbl]; exact bitLen_any hu (HF.out.f N0 (Nat.le_refl _))
  have HLt : Hid (N0 < 2 ^ bl) := hlt
  obtain ⟨a0, l0, c0, rfl⟩ := hu.shape
  obtain ⟨L, hL⟩ : ∃ L : Nat, L = bl / 3 + 9 := ⟨_, rfl⟩
  obtain ⟨q3, hq3⟩ : ∃ q : Nat, q = bl / 3 := ⟨_, rfl⟩
  have ew1 : Int.tdiv (bl : Int) 3 = (q3 : Nat) := by rw [Int.tdiv_eq_ediv_of_nonneg (by omega)]; omega
  have ew1' : IntKind.i64.wrap (q3 : Int) = (q3 : Nat) := by rw [IntKind.wrap_i64]; omega
  have ew2 : IntKind.i64.wrap ((q3 : Int) + 9) = (L : Nat) := by rw [IntKind.wrap_i64]; omega
  have hmk := fun w => make83 w (L : Int) L rfl (by omega)
  have hLl : L ≤ 10000 := by omega
  have HLe : Hid (L = bl / 3 + 9) := hL
  have hA := below_alloc w (.cells (Array.replicate L (.int .u8 0)) 5)
  have hI : DoAt w w.heap.size L N0 (fun _ => 0) L (.slice a0 l0 c0) N0 (w.alloc (.cells (Array.replicate L (.int .u8 0)) 5)) :=
    ⟨⟨BufAt.start w L, Nat.le_refl _, fun j h1 h2 => by omega, by simp [dval], hA, Nat.le_refl _⟩, hu.step hA, Nat.le_refl _, ⟨0, by omega⟩⟩
  clear hbl hlt hbl2 hb20 hL hq3 hA hu hgB
  go_enter Oabg.func64, Oabg.ntmps64
  go_wp2_with fail
  go_at_call 98
  refine HBl.out.mono ?_
  rintro e w1 ⟨rfl, hq⟩
  obtain rfl := hq.symm
  clear HBl hq
  go_wp2_with fail
  obtain ⟨W0, hW⟩ : ∃ W, W = w.alloc (.cells (Array.replicate L (.int .u8 0)) 5) := ⟨_, rfl⟩
  obtain ⟨B, hB⟩ : ∃ B, B = w.heap.size := ⟨_, rfl⟩
  rw [← hW, ← hB] at hI
  rw [← hW, ← hB]
  have hBw : w.heap.size ≤ B := by omega
  clear hW hB hmk ew1 ew1' ew2
  go_loopg [0, 4] N0 (fun n s0 s4 wr => ∃ a l c N at' f, s0 = .slice a l c ∧ s4 = .int .i64 (at' : Nat) ∧ DoAt w B L N0 f at' (.slice a l c) N wr ∧ N ≤ n)
  case atStart => exact ⟨a0, l0, c0, N0, L, _, rfl, rfl, hI, Nat.le_refl _⟩
  case round =>
    obtain ⟨a, l, c, N, at', f, rfl, rfl, hD, hn⟩ := hrel
    clear hI
    have hnil := fun w' => neq48 w' a l c
    rw [hD.n.some_iff] at hnil
    rcases Nat.eq_zero_or_pos N with h0 | h0
    · -- done: the zeros ahead go
      rw [decide_eq_true h0] at hnil
      have hG : DgAt w B L N0 f at' 0 wr := by have := hD.g; rw [h0] at this; exact this
      clear hD hn h0
      go_wp2_with fail
      go_loopg [4] L (fun n s4 wx => ∃ t : Nat, s4 = .int .i64 (t : Nat) ∧ DgAt w B L N0 f t 0 wx ∧ L - t ≤ n)
      case atStart => exact ⟨at', rfl, hG, by omega⟩
      case round =>
        obtain ⟨t, rfl, hT, hn⟩ := hrel
        clear hG hnil
        have htl := hT.le
        by_cases he : t = L
        · -- nothing but zeros
          subst he
          have hN0 : N0 = 0 := by
            have := hT.sum
            rw [Nat.sub_self, Nat.zero_mul, Nat.zero_add] at this
            exact this.symm
          have HB : Hid (Below w.heap.size w _) := hT.below
          have HDg : Hid (DigS N0 { data := #[48] }) := by
            rw [hN0]
            exact digS_zero
          clear hT hn hN0
          go_wp2
          go_ret
          exact ⟨_, rfl, HDg.out, HB.out⟩
        · have htL : t < L := by omega
          have hcell := hT.buf.c t htL
          have hfr := hT.buf.fr
          by_cases h48 : f t = 48
          · have e48 : (f t == 48) = true := by rw [h48]; rfl
            have HT2 : Hid (DgAt w B L N0 f (t + 1) 0 _) := ⟨hT.buf, htL, fun j h1 h2 => hT.dig j (by omega) h2, by
              have := hT.sum
              rw [show L - t = (L - (t + 1)) + 1 by omega, Nat.zero_mul, Nat.zero_add] at this
              rw [Nat.zero_mul, Nat.zero_add, ← this]
              show _ = (f t - 48).toNat * 10 ^ (L - (t + 1)) + dval f (t + 1) (L - (t + 1))
              rw [h48]
              simp, hT.below, hT.lt⟩
            have HM : Hid (L - (t + 1) < gk) := by show L - (t + 1) < gk; omega
            clear hT hn h48
            go_wp2_with fail
            go_roundg (L - (t + 1))
            case measure => exact HM.out
            case rel => exact ⟨t + 1, congrArg (Value.int IntKind.i64) (by omega), HT2.out, Nat.le_refl _⟩
          · have e48 : (f t == 48) = false := by rw [beq_eq_false_iff_ne]; exact h48
            have hconv := fun w' (hw : w' = wr) => string_of B t (rowL f t (L - t)) (L - t) (L - t) w' (rowL_len f t (L - t)) (fun i hi => by rw [hw, hT.buf.c (t + i) (by omega), rowL_get f t (L - t) i hi])
            have HB : Hid (Below w.heap.size w _) := hT.below
            have HDg : Hid (DigS N0 (strOfNums (rowL f t (L - t)))) := by
              refine ⟨_, rfl, rowL_mem f t (L - t) (fun x => 48 ≤ x ∧ x ≤ 57) (fun j hj => hT.dig (t + j) (by omega) (by omega)), ?_, by rw [rowL_len]; omega, .inr ?_⟩
              · rw [rowL_val]
                have := hT.sum
                rw [Nat.zero_mul, Nat.zero_add] at this
                exact this
              · rw [rowL_get f t (L - t) 0 (by omega)]
                exact h48
            have hne : ((t : Int) == (L : Int)) = false := by rw [beq_eq_false_iff_ne]; omega
            clear hT hn h48
            go_wp2
            go_ret
            exact ⟨_, rfl, HDg.out, HB.out⟩
    · rw [decide_eq_false (by omega)] at hnil
      have HD : Hid (DoAt w B L N0 f at' (.slice a l c) N wr) := hD
      have HN : Hid (N ≤ gk) := hn
      have H0 : Hid (0 < N) := h0
      have h9 := hD.room h0 HLt.out HLe.out
      have hatL := hD.g.le
      clear hD hn h0
      go_wp2_with fail
      go_at_call 69
      refine (fromU64_any 1000000000 (by omega) _).mono ?_
      rintro e w2 ⟨v, rfl, hv, hb⟩
      obtain ⟨a1, l1, c1, rfl⟩ := hv.shape
      have HG2 : Hid (DgAt w B L N0 f at' N w2) := HD.out.g.step hb
      have HN2 : Hid (IsN w2 (.slice a l c) N) := HD.out.n.step hb
      have HV : Hid (IsN w2 (.slice a1 l1 c1) 1000000000) := hv
      clear hv hb
      go_wp2_with fail
      go_at_call 102
      refine (divMod_any HN2.out HV.out (HF.out.f N HD.out.le) (FitsN.of (a := 30) (by decide) (by omega)) (by omega)).mono ?_
      rintro e w3 ⟨q, r, rfl, hq, hr, hb⟩
      obtain ⟨a2, l2, c2, rfl⟩ := hq.shape
      obtain ⟨a3, l3, c3, rfl⟩ := hr.shape
      have HG3 : Hid (DgAt w B L N0 f at' N w3) := HG2.out.step hb
      have HQ : Hid (IsN w3 (.slice a2 l2 c2) (N / 1000000000)) := hq
      obtain ⟨v0, hv0⟩ : ∃ v0, v0 = N % 1000000000 := ⟨_, rfl⟩
      have HTo : Hid (Calls Oabg.prog 103 #[.slice a3 l3 c3] w3 fun e w' => e = .returned (.int .u64 v0) ∧ w' = w3) := by
        have := toU64_any hr
        rw [Nat.mod_eq_of_lt (Nat.lt_trans (Nat.mod_lt N (by omega)) (by omega)), ← hv0] at this
        exact this
      have hv0l : v0 < 1000000000 := by rw [hv0]; exact Nat.mod_lt N (by omega)
      have HV0 : Hid (v0 = N % 1000000000) := hv0
      clear hq hr hb HG2 HN2 HV hv0
      go_wp2_with fail
      go_at_call 103
      refine HTo.out.mono ?_
      rintro e w4 ⟨rfl, hqq⟩
      obtain rfl := hqq.symm
      clear HTo hqq
      obtain ⟨K, hK⟩ : ∃ K, K = v0 * 10 ^ (L - at') + dval f at' (L - at') := ⟨_, rfl⟩
      have hG : DgAt w B L K f at' v0 w3 := ⟨HG3.out.buf, HG3.out.le, HG3.out.dig, hK.symm, HG3.out.below, HG3.out.lt⟩
      have HKs : Hid (N / 1000000000 * 10 ^ (L - (at' - 9)) + K = N0) := by
        show _ = _
        have hs := HG3.out.sum
        rw [show L - (at' - 9) = 9 + (L - at') by omega, Nat.pow_add, hK, ← hs, HV0.out, ← Nat.mul_assoc, ← Nat.add_assoc, ← Nat.add_mul]
        congr 2
        have := Nat.div_add_mod N 1000000000
        have e9 : (10 : Nat) ^ 9 = 1000000000 := by decide
        rw [e9]
        omega
      clear hK HG3
      go_wp2_with fail
      go_loopg [4, 6, 25] 9 (fun n s4 s6 s25 wr => ∃ (k v i : Nat) (f : Nat → Int), s4 = .int .i64 (k : Nat) ∧ s6 = .int .u64 (v : Nat) ∧ s25 = .int .i64 (i : Nat) ∧ k + i = at' ∧ i ≤ 9 ∧ 9 - i ≤ n ∧ v < 10 ^ (9 - i) ∧ DgAt w B L K f k v wr ∧ IsN wr (.slice a2 l2 c2) (N / 1000000000))
      case atStart => exact ⟨at', v0, 0, f, rfl, rfl, rfl, by omega, by omega, by omega, hv0l, hG, HQ.out⟩
      case round =>
        obtain ⟨k, v, i, f2, rfl, rfl, rfl, hki, hi9, hin, hvl, hG2, hQ2⟩ := hrel
        by_cases h9' : i = 9
        · subst h9'
          have hv : v = 0 := by rw [Nat.sub_self, Nat.pow_zero] at hvl; omega
          have hG3 : DgAt w B L N0 f2 k (N / 1000000000) wr := by
            refine ⟨hG2.buf, hG2.le, hG2.dig, ?_, hG2.below, hG2.lt⟩
            have h1 := hG2.sum
            have h2 := HKs.out
            rw [hv, Nat.zero_mul, Nat.zero_add] at h1
            rw [show at' - 9 = k by omega, ← h1] at h2
            exact h2
          have HR : Hid (DoAt w B L N0 f2 k (.slice a2 l2 c2) (N / 1000000000) wr) := by
            obtain ⟨r, hr⟩ := HD.out.nine
            exact ⟨hG3, hQ2, Nat.le_trans (Nat.div_le_self _ _) HD.out.le, ⟨r + 1, by have := HD.out.g.le; omega⟩⟩
          have HM : Hid (N / 1000000000 < N) := Nat.div_lt_self H0.out (by omega)
          clear hG2 hQ2 hG3 hvl hin hv hG HKs HQ
          go_wp2_with fail
          go_roundg (N / 1000000000)
          case measure => exact Nat.lt_of_lt_of_le HM.out HN.out
          case rel => exact ⟨_, _, _, _, k, f2, rfl, rfl, HR.out, Nat.le_refl _⟩
        · obtain ⟨k', rfl⟩ : ∃ k', k = k' + 1 := ⟨k - 1, by omega⟩
          have HP : Hid (DgAt w B L K (updI f2 k' ((48 + v % 10 : Nat) : Int)) k' (v / 10) (wr.setCell ⟨B, k', none⟩ (.int .u8 ((48 + v % 10 : Nat) : Int)))) := hG2.put
          have HQ3 : Hid (IsN (wr.setCell ⟨B, k', none⟩ (.int .u8 ((48 + v % 10 : Nat) : Int))) (.slice a2 l2 c2) (N / 1000000000)) := hG2.buf.isN hG2.le hQ2
          have hkL : k' < L := hG2.le
          have hcell := hG2.buf.c k' hkL
          have hfr := hG2.buf.fr
          have hi8 : i < 9 := by omega
          have HVl : Hid (v / 10 < 10 ^ (9 - (i + 1))) := by
            show v / 10 < _
            rw [show 9 - i = 9 - (i + 1) + 1 by omega, Nat.pow_succ] at hvl
            exact (Nat.div_lt_iff_lt_mul (by omega)).2 hvl
          have hv9 : v < 1000000000 := Nat.lt_of_lt_of_le hvl (show 10 ^ (9 - i) ≤ 10 ^ 9 from Nat.pow_le_pow_right (by omega) (by omega))
          have HKi : Hid (k' + (i + 1) = at' ∧ i + 1 ≤ 9 ∧ 9 - (i + 1) < gk) := ⟨by omega, by omega, by omega⟩
          clear hG2 hQ2 hvl hin hki hi9 h9' hG
          go_wp2_with fail
          have hx : (48 + (v : Int) % 10) = ((48 + v % 10 : Nat) : Int) := by omega
          rw [hx]
          go_roundg (9 - (i + 1))
          case measure => exact HKi.out.2.2
          case rel => exact ⟨k', v / 10, i + 1, _, rfl, congrArg (Value.int IntKind.u64) (by omega), congrArg (Value.int IntKind.i64) (by omega), HKi.out.1, HKi.out.2.1, Nat.le_refl _, HVl.out, HP.out, HQ3.out⟩

end Go.Proofs.Ygcoab
