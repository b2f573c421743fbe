/- the law's pow10Nat, pow10Frac, wholeFrac, pow2Frac(1) -/
import Derived.Test.YgcoabWDigE
namespace Go.Proofs.Ygcoab
open Go.RowKit

theorem pow10Nat_any (j : Nat) (hj : j ≤ 65535) (w : World) :
    Calls Oabg.prog 74 #[.int .i64 j] w fun e w' => ∃ v, e = .returned v ∧ IsN w' v (10 ^ j) ∧ Below w.heap.size w w' := by
  have ew : IntKind.u16.wrap (j : Int) = (j : Nat) := by rw [IntKind.wrap_u16]; omega
  have HP : Hid (∀ w : World, Calls Oabg.prog 107 #[.int .u16 j] w fun e w' => ∃ v, e = .returned v ∧ IsN w' v (5 ^ j) ∧ Below w.heap.size w w') := fun w => pow5_any j hj w
  have HL : Hid (∀ (W : World) (v : Value), IsN W v 1 → Calls Oabg.prog 93 #[v, .int .u16 j] W fun e w' => ∃ u, e = .returned u ∧ IsN w' u (2 ^ j) ∧ Below W.heap.size W w') := fun W v h => by
    have := shl_any h (FitsN.of (a := 1) (by decide) (by omega)) hj
    rw [Nat.one_mul] at this
    exact this
  have HM : Hid (∀ (W : World) (u v : Value), IsN W u (5 ^ j) → IsN W v (2 ^ j) → Calls Oabg.prog 73 #[u, v] W fun e w' => ∃ r, e = .returned r ∧ IsN w' r (10 ^ j) ∧ Below W.heap.size W w') := fun W u v h1 h2 => by
    rw [← ten_pow]
    exact mul_any h1 h2 (fits5 hj) (FitsN.of (a := j + 1) (lt_pow_succ (Nat.le_refl _)) (by omega))
  clear hj
  go_enter Oabg.func74, Oabg.ntmps74
  go_wp2_with fail
  go_at_call 107
  refine (HP.out _).mono ?_
  rintro e w1 ⟨v, rfl, hv, hb⟩
  obtain ⟨a1, l1, c1, rfl⟩ := hv.shape
  have HV : Hid (IsN w1 (.slice a1 l1 c1) (5 ^ j)) := hv
  have HB : Hid (Below w.heap.size w w1) := hb
  clear hv hb
  go_wp2_with fail
  go_at_call 71
  refine (one_any _).mono ?_
  rintro e w2 ⟨v, rfl, hv, hb⟩
  obtain ⟨a2, l2, c2, rfl⟩ := hv.shape
  have HV2 : Hid (IsN w2 (.slice a1 l1 c1) (5 ^ j)) := HV.out.step hb
  have HO : Hid (IsN w2 (.slice a2 l2 c2) 1) := hv
  have HB2 : Hid (Below w.heap.size w w2) := below_step HB.out HB.out.size hb
  clear hv hb HV HB
  go_wp2_with fail
  go_at_call 93
  refine (HL.out _ _ HO.out).mono ?_
  rintro e w3 ⟨v, rfl, hv, hb⟩
  obtain ⟨a3, l3, c3, rfl⟩ := hv.shape
  have HV3 : Hid (IsN w3 (.slice a1 l1 c1) (5 ^ j)) := HV2.out.step hb
  have HO3 : Hid (IsN w3 (.slice a3 l3 c3) (2 ^ j)) := hv
  have HB3 : Hid (Below w.heap.size w w3) := below_step HB2.out HB2.out.size hb
  clear hv hb HV2 HO HB2
  go_wp2_with fail
  go_at_call 73
  refine (HM.out _ _ _ HV3.out HO3.out).mono ?_
  rintro e w4 ⟨v, rfl, hv, hb⟩
  have HV4 : Hid (IsN w4 v (10 ^ j)) := hv
  have HB4 : Hid (Below w.heap.size w w4) := below_step HB3.out HB3.out.size hb
  clear hv hb HV3 HO3 HB3
  go_wp2
  go_ret
  exact ⟨v, rfl, HV4.out, HB4.out⟩

theorem pow10Frac_neg (j : Nat) (h0 : 0 < j) (hj : j ≤ 65535) (w : World) :
    Calls Oabg.prog 30 #[.int .i64 (-(j : Int))] w fun e w' => ∃ r, e = .returned r ∧ RatAt w' r false 1 (10 ^ j) ∧ Below w.heap.size w w' := by
  have hlt : decide (-(j : Int) < 0) = true := decide_eq_true (by omega)
  have hlt' : -(j : Int) < 0 := by omega
  have ew : IntKind.i64.wrap (- -(j : Int)) = (j : Nat) := by rw [IntKind.wrap_i64]; omega
  have HP : Hid (∀ w : World, Calls Oabg.prog 74 #[.int .i64 j] w fun e w' => ∃ v, e = .returned v ∧ IsN w' v (10 ^ j) ∧ Below w.heap.size w w') := fun w => pow10Nat_any j hj w
  have hR := RVar.start w
  have hB := (Below.refl w.heap.size w).alloc (Nat.le_refl _) (.cells #[.bool false, .slice none 0 0, .slice none 0 0] 50)
  obtain ⟨W, hW⟩ : ∃ W, W = w.alloc (.cells #[.bool false, .slice none 0 0, .slice none 0 0] 50) := ⟨_, rfl⟩
  rw [← hW] at hR hB
  have HR : Hid (RVar w.heap.size W) := hR
  have HB : Hid (Below w.heap.size w W) := hB
  clear hR hB
  go_enter Oabg.func30, Oabg.ntmps30
  go_wp2_with fail
  go_at_call 71
  rw [show w.alloc (.cells #[.bool false, .slice none 0 0, .slice none 0 0] 50) = W from hW.symm]
  clear hW
  refine (one_any _).mono ?_
  rintro e w1 ⟨v, rfl, hv, hb⟩
  obtain ⟨a1, l1, c1, rfl⟩ := hv.shape
  have HR1 : Hid (RVar w.heap.size w1) := HR.out.step hb
  have HB1 : Hid (Below w.heap.size w w1) := below_step HB.out HB.out.size hb
  have HV : Hid (IsN w1 (.slice a1 l1 c1) 1) := hv
  clear HR HB hv hb
  go_wp2_with fail
  go_at_call 74
  refine (HP.out _).mono ?_
  rintro e w2 ⟨v, rfl, hv, hb⟩
  obtain ⟨a2, l2, c2, rfl⟩ := hv.shape
  obtain ⟨r0, r1, r2, rf, rs, HR2⟩ := (HR1.out.step hb).all
  have HB2 : Hid (Below w.heap.size w w2) := below_step HB1.out HB1.out.size hb
  have HV2 : Hid (IsN w2 (.slice a1 l1 c1) 1) := HV.out.step hb
  have HV3 : Hid (IsN w2 (.slice a2 l2 c2) (10 ^ j)) := hv
  clear HR1 HB1 HV hv hb
  go_wp2
  exact bodyPost_ret (v := .agg #[.bool false, .slice a1 l1 c1, .slice a2 l2 c2]) (by simp [results, Oabg.results30, go_sem, r0, r1, r2]) rfl ⟨_, rfl, ⟨_, _, _, _, _, _, rfl, HV2.out.setR HR2.out, HV3.out.setR HR2.out⟩, below_set3 HB2.out (Nat.le_refl _)⟩

theorem pow10Frac_pos (j : Nat) (hj : j ≤ 65535) (w : World) :
    Calls Oabg.prog 30 #[.int .i64 (j : Int)] w fun e w' => ∃ r, e = .returned r ∧ RatAt w' r false (10 ^ j) 1 ∧ Below w.heap.size w w' := by
  have hlt : decide ((j : Int) < 0) = false := decide_eq_false (by omega)
  have HP : Hid (∀ w : World, Calls Oabg.prog 74 #[.int .i64 j] w fun e w' => ∃ v, e = .returned v ∧ IsN w' v (10 ^ j) ∧ Below w.heap.size w w') := fun w => pow10Nat_any j hj w
  have hR := RVar.start w
  have hB := (Below.refl w.heap.size w).alloc (Nat.le_refl _) (.cells #[.bool false, .slice none 0 0, .slice none 0 0] 50)
  obtain ⟨W, hW⟩ : ∃ W, W = w.alloc (.cells #[.bool false, .slice none 0 0, .slice none 0 0] 50) := ⟨_, rfl⟩
  rw [← hW] at hR hB
  have HR : Hid (RVar w.heap.size W) := hR
  have HB : Hid (Below w.heap.size w W) := hB
  clear hR hB
  go_enter Oabg.func30, Oabg.ntmps30
  go_wp2_with fail
  go_at_call 74
  rw [show w.alloc (.cells #[.bool false, .slice none 0 0, .slice none 0 0] 50) = W from hW.symm]
  clear hW
  refine (HP.out _).mono ?_
  rintro e w1 ⟨v, rfl, hv, hb⟩
  obtain ⟨a1, l1, c1, rfl⟩ := hv.shape
  have HR1 : Hid (RVar w.heap.size w1) := HR.out.step hb
  have HB1 : Hid (Below w.heap.size w w1) := below_step HB.out HB.out.size hb
  have HV : Hid (IsN w1 (.slice a1 l1 c1) (10 ^ j)) := hv
  clear HR HB hv hb
  go_wp2_with fail
  go_at_call 71
  refine (one_any _).mono ?_
  rintro e w2 ⟨v, rfl, hv, hb⟩
  obtain ⟨a2, l2, c2, rfl⟩ := hv.shape
  obtain ⟨r0, r1, r2, rf, rs, HR2⟩ := (HR1.out.step hb).all
  have HB2 : Hid (Below w.heap.size w w2) := below_step HB1.out HB1.out.size hb
  have HV2 : Hid (IsN w2 (.slice a1 l1 c1) (10 ^ j)) := HV.out.step hb
  have HV3 : Hid (IsN w2 (.slice a2 l2 c2) 1) := hv
  clear HR1 HB1 HV hv hb
  go_wp2
  exact bodyPost_ret (v := .agg #[.bool false, .slice a1 l1 c1, .slice a2 l2 c2]) (by simp [results, Oabg.results30, go_sem, r0, r1, r2]) rfl ⟨_, rfl, ⟨_, _, _, _, _, _, rfl, HV2.out.setR HR2.out, HV3.out.setR HR2.out⟩, below_set3 HB2.out (Nat.le_refl _)⟩

theorem pow10Frac_any (k : Int) (h1 : -65535 ≤ k) (h2 : k ≤ 65535) (w : World) :
    Calls Oabg.prog 30 #[.int .i64 k] w fun e w' => ∃ r, e = .returned r ∧ RatAt w' r false (tenN k) (tenD k) ∧ Below w.heap.size w w' := by
  unfold tenN tenD
  by_cases hk : k < 0
  · obtain ⟨j, rfl⟩ : ∃ j : Nat, k = -(j : Int) := ⟨(-k).toNat, by omega⟩
    rw [if_pos hk, if_pos hk, show (-(-(j : Int))).toNat = j by omega]
    exact pow10Frac_neg j (by omega) (by omega) w
  · obtain ⟨j, rfl⟩ : ∃ j : Nat, k = (j : Int) := ⟨k.toNat, by omega⟩
    rw [if_neg hk, if_neg hk, Int.toNat_natCast]
    exact pow10Frac_pos j (by omega) w

theorem wholeFrac_any {w : World} {v : Value} {N : Nat} (neg : Bool) (h : IsN w v N) :
    Calls Oabg.prog 70 #[.bool neg, v] w fun e w' => ∃ r, e = .returned r ∧ RatAt w' r neg N 1 ∧ Below w.heap.size w w' := by
  obtain ⟨a, n, c, rfl⟩ := h.shape
  have HN : Hid (IsN w (.slice a n c) N) := h
  have hR := RVar.start w
  have hB := (Below.refl w.heap.size w).alloc (Nat.le_refl _) (.cells #[.bool false, .slice none 0 0, .slice none 0 0] 50)
  have hN := h.step hB
  obtain ⟨W, hW⟩ : ∃ W, W = w.alloc (.cells #[.bool false, .slice none 0 0, .slice none 0 0] 50) := ⟨_, rfl⟩
  rw [← hW] at hR hB hN
  have HR : Hid (RVar w.heap.size W) := hR
  have HB : Hid (Below w.heap.size w W) := hB
  have HV : Hid (IsN W (.slice a n c) N) := hN
  clear hR hB hN h HN
  go_enter Oabg.func70, Oabg.ntmps70
  go_wp2_with fail
  go_at_call 71
  rw [show w.alloc (.cells #[.bool false, .slice none 0 0, .slice none 0 0] 50) = W from hW.symm]
  clear hW
  refine (one_any _).mono ?_
  rintro e w2 ⟨v, rfl, hv, hb⟩
  obtain ⟨a2, l2, c2, rfl⟩ := hv.shape
  obtain ⟨r0, r1, r2, rf, rs, HR2⟩ := (HR.out.step hb).all
  have HB2 : Hid (Below w.heap.size w w2) := below_step HB.out HB.out.size hb
  have HV2 : Hid (IsN w2 (.slice a n c) N) := HV.out.step hb
  have HV3 : Hid (IsN w2 (.slice a2 l2 c2) 1) := hv
  clear HR HB HV hv hb
  go_wp2
  exact bodyPost_ret (v := .agg #[.bool neg, .slice a n c, .slice a2 l2 c2]) (by simp [results, Oabg.results70, go_sem, r0, r1, r2]) rfl ⟨_, rfl, ⟨_, _, _, _, _, _, rfl, HV2.out.setR HR2.out, HV3.out.setR HR2.out⟩, below_set3 HB2.out (Nat.le_refl _)⟩

end Go.Proofs.Ygcoab
