/- nat.Pow5, exact.pow10, exact.tenTo -/
import Derived.Test.YgcoabWSqrtC
namespace Go.Proofs.Ygcoab
open Go.RowKit

theorem pow5_lt (x : Nat) : 5 ^ x < 2 ^ (3 * x + 1) := by
  have h1 : (5 : Nat) ^ x ≤ 8 ^ x := Nat.pow_le_pow_left (by omega) x
  have h2 : (8 : Nat) ^ x = 2 ^ (3 * x) := by rw [show (8 : Nat) = 2 ^ 3 from rfl, ← Nat.pow_mul]
  rw [h2] at h1
  exact lt_pow_succ h1

theorem fits5 {x : Nat} (h : x ≤ 65535) : FitsN (5 ^ x) := FitsN.of (pow5_lt x) (by omega)

theorem isN_small (w : World) (c : Nat) (h0 : 0 < c) (hc : c < 4294967296) : IsN (w.alloc (.cells #[.int .u32 (c : Nat)] 145)) (.slice (some ⟨w.heap.size, 0, none⟩) 1 1) c :=
  .inr ⟨w.heap.size, 0, 1, 1, fun _ => c, rfl, by omega, by omega, by omega, by show c ≠ 0; omega, fun _ _ => hc, fun j hj => by
    obtain rfl : j = 0 := by omega
    simp [go_sem], by simp [go_sem], by simp [nv]⟩

/-- Pow5's loop: the bits from i on are done -/
structure P5At (w : World) (k : Nat) (p : Value) (i : Nat) (W : World) : Prop where
  p : IsN W p (5 ^ (k / 2 ^ i))
  le : i ≤ 16
  below : Below w.heap.size w W

theorem half_div (k j : Nat) : k / 2 ^ (j + 1) = k / 2 ^ j / 2 := by
  rw [Nat.pow_succ, Nat.div_div_eq_div_mul]

set_option maxRecDepth 100000 in
set_option maxHeartbeats 2000000 in
theorem pow5_any (k : Nat) (hk : k ≤ 65535) (w : World) :
    Calls Oabg.prog 107 #[.int .u16 k] w fun e w' => ∃ v, e = .returned v ∧ IsN w' v (5 ^ k) ∧ Below w.heap.size w w' := by
  have HK : Hid (k ≤ 65535) := hk
  have hI0 : P5At w k (.slice (some ⟨w.heap.size, 0, none⟩) 1 1) 16 (w.alloc (.cells #[.int .u32 1] 145)) := by
    refine ⟨?_, by omega, (Below.refl w.heap.size w).alloc (Nat.le_refl _) _⟩
    have e : 5 ^ (k / 2 ^ 16) = 1 := by rw [Nat.div_eq_of_lt (by omega)]
    rw [e]
    exact isN_one w
  clear hk
  go_enter Oabg.func107, Oabg.ntmps107
  go_wp2_with fail
  go_loopg [3, 4] 16 (fun n s3 s4 wr => ∃ a l c i, s3 = .slice a l c ∧ s4 = .int .i64 ((i : Nat) - 1 : Int) ∧ P5At w k (.slice a l c) i wr ∧ i ≤ n)
  case atStart => exact ⟨_, _, _, 16, rfl, rfl, hI0, by omega⟩
  case round =>
    obtain ⟨a, l, c, i, rfl, rfl, hI, hn⟩ := hrel
    clear hI0
    rcases Nat.eq_zero_or_pos i with h0 | h0
    · subst h0
      have HP : Hid (IsN wr (.slice a l c) (5 ^ k)) := by
        have := hI.p
        rw [Nat.pow_zero, Nat.div_one] at this
        exact this
      have HB : Hid (Below w.heap.size w wr) := hI.below
      clear hI hn
      go_wp2
      go_ret
      exact ⟨_, rfl, HP.out, HB.out⟩
    · obtain ⟨j, rfl⟩ : ∃ j, i = j + 1 := ⟨i - 1, by omega⟩
      have hj : ((j + 1 : Nat) : Int) - 1 = (j : Int) := by omega
      rw [hj]
      obtain ⟨q, hq⟩ : ∃ q, q = k / 2 ^ j := ⟨_, rfl⟩
      have hqs : (k : Int) / 2 ^ j = (q : Nat) := by rw [icast, ← Int.natCast_ediv, ← hq]
      have hql : q ≤ 65535 := by rw [hq]; exact Nat.le_trans (Nat.div_le_self _ _) HK.out
      have hand : bits .and .u16 (q : Int) 1 = ((q % 2 : Nat) : Int) := by
        have := u16_and_nat q 1 (by omega) (by omega)
        rw [Nat.and_one_is_mod] at this
        exact this
      have HI : Hid (IsN wr (.slice a l c) (5 ^ (q / 2))) := by
        have := hI.p
        rw [half_div, ← hq] at this
        exact this
      have HN : Hid (j ≤ gk - 1 ∧ j < gk) := ⟨by omega, by omega⟩
      have HL : Hid (j ≤ 16) := by have := hI.le; show j ≤ 16; omega
      have HB : Hid (Below w.heap.size w wr) := hI.below
      have HQ : Hid (q = k / 2 ^ j) := hq
      have HF : Hid (FitW (5 ^ (q / 2))) := ⟨fits5 (by omega)⟩
      have HF2 : Hid (FitW (5 ^ (q / 2) * 5 ^ (q / 2))) := ⟨by rw [← Nat.pow_add]; exact fits5 (by omega)⟩
      have hjl : j < 16 := by have := hI.le; omega
      clear hI hn hj hq h0
      rcases Nat.eq_zero_or_pos q with hq0 | hq0
      · -- nothing yet
        have HP : Hid (IsN wr (.slice a l c) (5 ^ (k / 2 ^ j))) := by
          have := HI.out
          rw [hq0] at this
          rw [← HQ.out, hq0]
          exact this
        have hne : ((q : Int) != 0) = false := by simp [hq0]
        have hod : (((q % 2 : Nat) : Int) == 1) = false := by rw [hq0]; decide
        clear HI hq0 hql
        go_wp2_with fail
        go_roundg j
        case measure => exact HN.out.2
        case rel => exact ⟨_, _, _, j, rfl, rfl, ⟨HP.out, HL.out, HB.out⟩, Nat.le_refl _⟩
      · have hne : ((q : Int) != 0) = true := by rw [bne_iff_ne]; omega
        go_wp2_with fail
        go_at_call 73
        refine (mul_any HI.out HI.out HF.out.f HF.out.f).mono ?_
        rintro e w1 ⟨x, rfl, hx, hb⟩
        obtain ⟨a1, l1, c1, rfl⟩ := hx.shape
        have HX : Hid (IsN w1 (.slice a1 l1 c1) (5 ^ (q / 2) * 5 ^ (q / 2))) := hx
        have HB1 : Hid (Below w.heap.size w w1) := below_step HB.out HB.out.size hb
        clear hx hb HI HB
        rcases Nat.mod_two_eq_zero_or_one q with hp | hp
        · have HP : Hid (IsN w1 (.slice a1 l1 c1) (5 ^ (k / 2 ^ j))) := by
            have := HX.out
            rw [← Nat.pow_add, show q / 2 + q / 2 = q by omega, HQ.out] at this
            exact this
          have hod : (((q % 2 : Nat) : Int) == 1) = false := by rw [hp]; decide
          clear HX hp hql hq0
          go_wp2_with fail
          go_roundg j
          case measure => exact HN.out.2
          case rel => exact ⟨_, _, _, j, rfl, rfl, ⟨HP.out, HL.out, HB1.out⟩, Nat.le_refl _⟩
        · have hod : (((q % 2 : Nat) : Int) == 1) = true := by rw [hp]; decide
          have HE : Hid (5 ^ (q / 2) * 5 ^ (q / 2) * 5 = 5 ^ (k / 2 ^ j)) := by
            show _ = _
            rw [← HQ.out, ← Nat.pow_add, ← Nat.pow_succ]
            congr 1
            omega
          have hA := below_alloc w1 (.cells #[.int .u32 5] 145)
          have HX2 : Hid (IsN (w1.alloc (.cells #[.int .u32 5] 145)) (.slice a1 l1 c1) (5 ^ (q / 2) * 5 ^ (q / 2))) := HX.out.step hA
          have HB2 : Hid (Below w.heap.size w (w1.alloc (.cells #[.int .u32 5] 145))) := below_step HB1.out HB1.out.size hA
          clear HX hp hql hq0 hA HB1
          go_wp2_with fail
          go_at_call 73
          refine (mul_any HX2.out (isN_small w1 5 (by omega) (by omega)) HF2.out.f (FitsN.of (a := 3) (by decide) (by omega))).mono ?_
          rintro e w2 ⟨x, rfl, hx, hb⟩
          obtain ⟨a2, l2, c2, rfl⟩ := hx.shape
          have HP : Hid (IsN w2 (.slice a2 l2 c2) (5 ^ (k / 2 ^ j))) := by
            have := hx
            rw [HE.out] at this
            exact this
          have HB3 : Hid (Below w.heap.size w w2) := below_step HB2.out HB2.out.size hb
          clear hx hb HX2 HB2
          go_wp2_with fail
          go_roundg j
          case measure => exact HN.out.2
          case rel => exact ⟨_, _, _, j, rfl, rfl, ⟨HP.out, HL.out, HB3.out⟩, Nat.le_refl _⟩

theorem ten_pow (j : Nat) : 5 ^ j * 2 ^ j = 10 ^ j := by rw [← Nat.mul_pow]

theorem pow10_any (j : Nat) (hj : j ≤ 65535) (w : World) :
    Calls Oabg.prog 140 #[.int .i64 j] w fun e w' => ∃ v, e = .returned v ∧ IsN w' v (10 ^ j) ∧ Below w.heap.size w w' := by
  have ew : IntKind.u16.wrap (j : Int) = (j : Nat) := by rw [IntKind.wrap_u16]; omega
  have HP : Hid (∀ w : World, Calls Oabg.prog 107 #[.int .u16 j] w fun e w' => ∃ v, e = .returned v ∧ IsN w' v (5 ^ j) ∧ Below w.heap.size w w') := fun w => pow5_any j hj w
  have HL : Hid (∀ (W : World) (v : Value), IsN W v (5 ^ j) → Calls Oabg.prog 93 #[v, .int .u16 j] W fun e w' => ∃ u, e = .returned u ∧ IsN w' u (10 ^ j) ∧ Below W.heap.size W w') := fun W v h => by
    rw [← ten_pow]
    exact shl_any h (fits5 hj) hj
  clear hj
  go_enter Oabg.func140, Oabg.ntmps140
  go_wp2_with fail
  go_at_call 107
  refine (HP.out _).mono ?_
  rintro e w1 ⟨v, rfl, hv, hb⟩
  obtain ⟨a1, l1, c1, rfl⟩ := hv.shape
  have HV : Hid (IsN w1 (.slice a1 l1 c1) (5 ^ j)) := hv
  have HB : Hid (Below w.heap.size w w1) := hb
  clear hv hb
  go_wp2_with fail
  go_at_call 93
  refine (HL.out _ _ HV.out).mono ?_
  rintro e w2 ⟨v, rfl, hv, hb⟩
  have HV2 : Hid (IsN w2 v (10 ^ j)) := hv
  have HB2 : Hid (Below w.heap.size w w2) := below_step HB.out HB.out.size hb
  clear hv hb HV HB
  go_wp2
  go_ret
  exact ⟨v, rfl, HV2.out, HB2.out⟩

def tenN (k : Int) : Nat := if k < 0 then 1 else 10 ^ k.toNat
def tenD (k : Int) : Nat := if k < 0 then 10 ^ (-k).toNat else 1

theorem tenTo_neg (j : Nat) (h0 : 0 < j) (hj : j ≤ 65535) (w : World) :
    Calls Oabg.prog 100 #[.int .i64 (-(j : Int))] w fun e w' => ∃ r, e = .returned r ∧ RatAt w' r false 1 (10 ^ j) ∧ Below w.heap.size w w' := by
  have hlt : decide (-(j : Int) < 0) = true := decide_eq_true (by omega)
  have hlt' : -(j : Int) < 0 := by omega
  have ew : IntKind.i64.wrap (- -(j : Int)) = (j : Nat) := by rw [IntKind.wrap_i64]; omega
  have HP : Hid (∀ w : World, Calls Oabg.prog 140 #[.int .i64 j] w fun e w' => ∃ v, e = .returned v ∧ IsN w' v (10 ^ j) ∧ Below w.heap.size w w') := fun w => pow10_any j hj w
  have hR := RVar.start w
  have hB := (Below.refl w.heap.size w).alloc (Nat.le_refl _) (.cells #[.bool false, .slice none 0 0, .slice none 0 0] 50)
  obtain ⟨W, hW⟩ : ∃ W, W = w.alloc (.cells #[.bool false, .slice none 0 0, .slice none 0 0] 50) := ⟨_, rfl⟩
  rw [← hW] at hR hB
  have HR : Hid (RVar w.heap.size W) := hR
  have HB : Hid (Below w.heap.size w W) := hB
  clear hR hB
  go_enter Oabg.func100, Oabg.ntmps100
  go_wp2_with fail
  go_at_call 69
  rw [show w.alloc (.cells #[.bool false, .slice none 0 0, .slice none 0 0] 50) = W from hW.symm]
  clear hW
  refine (fromU64_any 1 (by omega) _).mono ?_
  rintro e w1 ⟨v, rfl, hv, hb⟩
  obtain ⟨a1, l1, c1, rfl⟩ := hv.shape
  have HR1 : Hid (RVar w.heap.size w1) := HR.out.step hb
  have HB1 : Hid (Below w.heap.size w w1) := below_step HB.out HB.out.size hb
  have HV : Hid (IsN w1 (.slice a1 l1 c1) 1) := hv
  clear HR HB hv hb
  go_wp2_with fail
  go_at_call 140
  refine (HP.out _).mono ?_
  rintro e w2 ⟨v, rfl, hv, hb⟩
  obtain ⟨a2, l2, c2, rfl⟩ := hv.shape
  obtain ⟨r0, r1, r2, rf, rs, HR2⟩ := (HR1.out.step hb).all
  have HB2 : Hid (Below w.heap.size w w2) := below_step HB1.out HB1.out.size hb
  have HV2 : Hid (IsN w2 (.slice a1 l1 c1) 1) := HV.out.step hb
  have HV3 : Hid (IsN w2 (.slice a2 l2 c2) (10 ^ j)) := hv
  clear HR1 HB1 HV hv hb
  go_wp2
  exact bodyPost_ret (v := .agg #[.bool false, .slice a1 l1 c1, .slice a2 l2 c2]) (by simp [results, Oabg.results100, go_sem, r0, r1, r2]) rfl ⟨_, rfl, ⟨_, _, _, _, _, _, rfl, HV2.out.setR HR2.out, HV3.out.setR HR2.out⟩, below_set3 HB2.out (Nat.le_refl _)⟩

theorem tenTo_pos (j : Nat) (hj : j ≤ 65535) (w : World) :
    Calls Oabg.prog 100 #[.int .i64 (j : Int)] w fun e w' => ∃ r, e = .returned r ∧ RatAt w' r false (10 ^ j) 1 ∧ Below w.heap.size w w' := by
  have hlt : decide ((j : Int) < 0) = false := decide_eq_false (by omega)
  have HP : Hid (∀ w : World, Calls Oabg.prog 140 #[.int .i64 j] w fun e w' => ∃ v, e = .returned v ∧ IsN w' v (10 ^ j) ∧ Below w.heap.size w w') := fun w => pow10_any j hj w
  have hR := RVar.start w
  have hB := (Below.refl w.heap.size w).alloc (Nat.le_refl _) (.cells #[.bool false, .slice none 0 0, .slice none 0 0] 50)
  obtain ⟨W, hW⟩ : ∃ W, W = w.alloc (.cells #[.bool false, .slice none 0 0, .slice none 0 0] 50) := ⟨_, rfl⟩
  rw [← hW] at hR hB
  have HR : Hid (RVar w.heap.size W) := hR
  have HB : Hid (Below w.heap.size w W) := hB
  clear hR hB
  go_enter Oabg.func100, Oabg.ntmps100
  go_wp2_with fail
  go_at_call 140
  rw [show w.alloc (.cells #[.bool false, .slice none 0 0, .slice none 0 0] 50) = W from hW.symm]
  clear hW
  refine (HP.out _).mono ?_
  rintro e w1 ⟨v, rfl, hv, hb⟩
  obtain ⟨a1, l1, c1, rfl⟩ := hv.shape
  have HR1 : Hid (RVar w.heap.size w1) := HR.out.step hb
  have HB1 : Hid (Below w.heap.size w w1) := below_step HB.out HB.out.size hb
  have HV : Hid (IsN w1 (.slice a1 l1 c1) (10 ^ j)) := hv
  clear HR HB hv hb
  go_wp2_with fail
  go_at_call 67
  refine (whole_any false HV.out).mono ?_
  rintro e w2 ⟨v, rfl, hv, hb⟩
  obtain ⟨a2, l2, c2, a3, l3, c3, rfl, i1, j1⟩ := hv
  obtain ⟨r0, r1, r2, rf, rs, HR2⟩ := (HR1.out.step hb).all
  have HB2 : Hid (Below w.heap.size w w2) := below_step HB1.out HB1.out.size hb
  have HV2 : Hid (IsN w2 (.slice a2 l2 c2) (10 ^ j)) := i1
  have HV3 : Hid (IsN w2 (.slice a3 l3 c3) 1) := j1
  clear HR1 HB1 HV i1 j1 hb
  go_wp2
  exact bodyPost_ret (v := .agg #[.bool false, .slice a2 l2 c2, .slice a3 l3 c3]) (by simp [results, Oabg.results100, go_sem, r0, r1, r2]) rfl ⟨_, rfl, ⟨_, _, _, _, _, _, rfl, HV2.out.setR HR2.out, HV3.out.setR HR2.out⟩, below_set3 HB2.out (Nat.le_refl _)⟩

theorem tenTo_any (k : Int) (h1 : -65535 ≤ k) (h2 : k ≤ 65535) (w : World) :
    Calls Oabg.prog 100 #[.int .i64 k] w fun e w' => ∃ r, e = .returned r ∧ RatAt w' r false (tenN k) (tenD k) ∧ Below w.heap.size w w' := by
  unfold tenN tenD
  by_cases hk : k < 0
  · obtain ⟨j, rfl⟩ : ∃ j : Nat, k = -(j : Int) := ⟨(-k).toNat, by omega⟩
    rw [if_pos hk, if_pos hk, show (-(-(j : Int))).toNat = j by omega]
    exact tenTo_neg j (by omega) (by omega) w
  · obtain ⟨j, rfl⟩ : ∃ j : Nat, k = (j : Int) := ⟨k.toNat, by omega⟩
    rw [if_neg hk, if_neg hk, Int.toNat_natCast]
    exact tenTo_pos j (by omega) w

end Go.Proofs.Ygcoab
