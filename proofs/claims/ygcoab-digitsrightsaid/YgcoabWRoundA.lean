import Derived.Test.YgcoabPlainRound
import Derived.Test.YgcoabWDivMod
namespace Go.Proofs.Ygcoab
open Go.RowKit

theorem emin_yes {E M : Nat} (h : FOk E M) (w : World) :
    Calls Oabg.prog 130 #[fmtV E M] w fun e w' => e = .returned (.int .i64 (eminZ E)) ∧ Below w.heap.size w w' := by
  have h' := h
  have hb := bias_lt h'
  have hc : IntKind.i64.wrap (biasN E : Int) = (biasN E : Int) := by rw [IntKind.wrap_i64]; omega
  have hd : IntKind.i64.wrap (1 - (biasN E : Int)) = eminZ E := by rw [IntKind.wrap_i64]; unfold eminZ; omega
  have hd' : (1 - (biasN E : Int)) = eminZ E := rfl
  obtain ⟨h1, h2, h3, h4⟩ := h
  unfold fmtV
  go_enter Oabg.func130, Oabg.ntmps130
  go_wp2_with (go_at_call 105; refine (bias_yes h' _).mono ?_; rintro e w' ⟨rfl, hb⟩; obtain ⟨hF, hB⟩ := (fmt_start w E M).1.below (fmt_start w E M).2 hb)
  go_ret
  exact ⟨rfl, hB⟩

theorem emax_yes {E M : Nat} (h : FOk E M) (w : World) :
    Calls Oabg.prog 131 #[fmtV E M] w fun e w' => e = .returned (.int .i64 (emaxZ E)) ∧ Below w.heap.size w w' := by
  have h' := h
  have hb := bias_lt h'
  have hc : IntKind.i64.wrap (biasN E : Int) = emaxZ E := by rw [IntKind.wrap_i64]; unfold emaxZ; omega
  obtain ⟨h1, h2, h3, h4⟩ := h
  unfold fmtV
  go_enter Oabg.func131, Oabg.ntmps131
  go_wp2_with (go_at_call 105; refine (bias_yes h' _).mono ?_; rintro e w' ⟨rfl, hb⟩; obtain ⟨hF, hB⟩ := (fmt_start w E M).1.below (fmt_start w E M).2 hb)
  go_ret
  exact ⟨rfl, hB⟩

theorem shift_neg {w : World} {u v : Value} {N D : Nat} (j : Nat) (h0 : 0 < j) (hj : j ≤ 65535) (hN : IsN w u N) (hD : IsN w v D) (fD : FitsN D) :
    Calls Oabg.prog 133 #[u, v, .int .i64 (-(j : Int))] w fun e w' => ∃ x y, e = .returned (.tuple #[x, y]) ∧ IsN w' x N ∧ IsN w' y (D * 2 ^ j) ∧ Below w.heap.size w w' := by
  have hlt : decide (-(j : Int) < 0) = true := decide_eq_true (by omega)
  have hu16 : IntKind.u16.wrap (j : Int) = j := by rw [IntKind.wrap_u16]; omega
  have HN : Hid (IsN w u N) := hN
  have HS : Hid (Calls Oabg.prog 93 #[v, .int .u16 j] w fun e w' => ∃ u, e = .returned u ∧ IsN w' u (D * 2 ^ j) ∧ Below w.heap.size w w') := shl_any hD fD hj
  clear hN hD fD
  go_enter Oabg.func133, Oabg.ntmps133
  go_wp2_with fail
  go_at_call 93
  refine HS.out.mono ?_
  rintro e w1 ⟨y, rfl, hy, hb⟩
  go_wp2
  go_ret2
  exact ⟨_, _, rfl, HN.out.step hb, hy, hb⟩

theorem shift_pos {w : World} {u v : Value} {N D : Nat} (j : Nat) (hj : j ≤ 65535) (hN : IsN w u N) (hD : IsN w v D) (fN : FitsN N) :
    Calls Oabg.prog 133 #[u, v, .int .i64 (j : Int)] w fun e w' => ∃ x y, e = .returned (.tuple #[x, y]) ∧ IsN w' x (N * 2 ^ j) ∧ IsN w' y D ∧ Below w.heap.size w w' := by
  have hlt : decide ((j : Int) < 0) = false := decide_eq_false (by omega)
  have hu16 : IntKind.u16.wrap (j : Int) = j := by rw [IntKind.wrap_u16]; omega
  have HD : Hid (IsN w v D) := hD
  have HS : Hid (Calls Oabg.prog 93 #[u, .int .u16 j] w fun e w' => ∃ u, e = .returned u ∧ IsN w' u (N * 2 ^ j) ∧ Below w.heap.size w w') := shl_any hN fN hj
  clear hN hD fN
  go_enter Oabg.func133, Oabg.ntmps133
  go_wp2_with fail
  go_at_call 93
  refine HS.out.mono ?_
  rintro e w1 ⟨x, rfl, hx, hb⟩
  go_wp2
  go_ret2
  exact ⟨_, _, rfl, hx, HD.out.step hb, hb⟩

theorem shift_any {w : World} {u v : Value} {N D : Nat} (k : Int) (h1 : -65535 ≤ k) (h2 : k ≤ 65535) (hN : IsN w u N) (hD : IsN w v D) (fN : FitsN N) (fD : FitsN D) :
    Calls Oabg.prog 133 #[u, v, .int .i64 k] w fun e w' => ∃ x y, e = .returned (.tuple #[x, y]) ∧ IsN w' x (sNum N k) ∧ IsN w' y (shD D k) ∧ Below w.heap.size w w' := by
  by_cases hk : k < 0
  · obtain ⟨j, rfl⟩ : ∃ j : Nat, k = -(j : Int) := ⟨(-k).toNat, by omega⟩
    unfold sNum shD
    rw [if_pos hk, if_pos hk, show (-(-(j : Int))).toNat = j by omega]
    exact shift_neg j (by omega) (by omega) hN hD fD
  · obtain ⟨j, rfl⟩ : ∃ j : Nat, k = (j : Int) := ⟨k.toNat, by omega⟩
    unfold sNum shD
    rw [if_neg hk, if_neg hk, Int.toNat_natCast]
    exact shift_pos j (by omega) hN hD fN

theorem blen_bound {N : Nat} (h : SmallN N) : blen N ≤ 1000000 := by
  have := blen_le h
  have := bitMax_eq
  omega

theorem log2_any {w : World} {u v : Value} {N D : Nat} (lo hi : Int) (h1 : -60000 ≤ lo) (h2 : hi ≤ 60000) (hlh : lo ≤ hi) (hN : IsN w u N) (hD : IsN w v D) (fN : SmallN N) (fD : SmallN D) :
    Calls Oabg.prog 129 #[u, v, .int .i64 lo, .int .i64 hi] w fun e w' => e = .returned (.int .i64 (log2Z N D lo hi)) ∧ Below w.heap.size w w' := by
  have b1 := blen_bound fN
  have b2 := blen_bound fD
  have T1 : Hid (∀ w', Below w.heap.size w w' → Calls Oabg.prog 98 #[u] w' fun e w'' => e = .returned (.int .i64 (blen N)) ∧ w'' = w') := fun w' hw => bitLen_any (hN.step hw) fN.fits
  have T2 : Hid (∀ w', Below w.heap.size w w' → Calls Oabg.prog 98 #[v] w' fun e w'' => e = .returned (.int .i64 (blen D)) ∧ w'' = w') := fun w' hw => bitLen_any (hD.step hw) fD.fits
  obtain ⟨e, he⟩ : ∃ e : Int, e = (blen N : Int) - (blen D : Int) := ⟨_, rfl⟩
  have hZ : log2Z N D lo hi = if hi + 1 < e then hi + 1 else if e < lo then lo - 1 else if cmpZ (sNum N (-e)) (shD D (-e)) < 0 then e - 1 else e := by rw [he]; rfl
  have hw1 : IntKind.i64.wrap ((blen N : Int) - (blen D : Int)) = e := by rw [IntKind.wrap_i64]; omega
  have hw2 : IntKind.i64.wrap (hi + 1) = hi + 1 := by rw [IntKind.wrap_i64]; omega
  have hw3 : IntKind.i64.wrap (lo - 1) = lo - 1 := by rw [IntKind.wrap_i64]; omega
  have hw4 : IntKind.i64.wrap (e - 1) = e - 1 := by rw [IntKind.wrap_i64]; omega
  have hw5 : IntKind.i64.wrap (-e) = -e := by rw [IntKind.wrap_i64]; omega
  rw [hZ]
  clear hZ
  by_cases hc1 : hi + 1 < e
  · rw [if_pos hc1]
    have hd1 : decide (e > hi + 1) = true := decide_eq_true hc1
    have hd1' : decide (hi + 1 < e) = true := decide_eq_true hc1
    clear hN hD fN fD b1 b2 he hc1 hlh
    go_enter Oabg.func129, Oabg.ntmps129
    go_wp2_with fail
    go_at_call 98
    refine (T1.out _ (Below.refl _ _)).mono ?_
    rintro ee w' ⟨rfl, hq⟩
    obtain rfl := hq.symm
    go_wp2_with fail
    go_at_call 98
    refine (T2.out _ (Below.refl _ _)).mono ?_
    rintro ee w' ⟨rfl, hq⟩
    obtain rfl := hq.symm
    go_wp2
    go_ret
    exact ⟨rfl, Below.refl _ _⟩
  · rw [if_neg hc1]
    have hd1 : decide (e > hi + 1) = false := decide_eq_false hc1
    have hd1' : decide (hi + 1 < e) = false := decide_eq_false hc1
    by_cases hc2 : e < lo
    · rw [if_pos hc2]
      have hd2 : decide (e < lo) = true := decide_eq_true hc2
      clear hN hD fN fD b1 b2 he hc1 hlh
      go_enter Oabg.func129, Oabg.ntmps129
      go_wp2_with fail
      go_at_call 98
      refine (T1.out _ (Below.refl _ _)).mono ?_
      rintro ee w' ⟨rfl, hq⟩
      obtain rfl := hq.symm
      go_wp2_with fail
      go_at_call 98
      refine (T2.out _ (Below.refl _ _)).mono ?_
      rintro ee w' ⟨rfl, hq⟩
      obtain rfl := hq.symm
      go_wp2
      go_ret
      exact ⟨rfl, Below.refl _ _⟩
    · rw [if_neg hc2]
      have hd2 : decide (e < lo) = false := decide_eq_false hc2
      have HS : Hid (Calls Oabg.prog 133 #[u, v, .int .i64 (-e)] w fun ee w' => ∃ x y, ee = .returned (.tuple #[x, y]) ∧ IsN w' x (sNum N (-e)) ∧ IsN w' y (shD D (-e)) ∧ Below w.heap.size w w') := shift_any (-e) (by omega) (by omega) hN hD fN.fits fD.fits
      obtain ⟨z, hz⟩ : ∃ z, z = cmpZ (sNum N (-e)) (shD D (-e)) := ⟨_, rfl⟩
      rw [← hz]
      have HZ : Hid (z = cmpZ (sNum N (-e)) (shD D (-e))) := hz
      clear hN hD fN fD b1 b2 he hc1 hlh hc2 hz
      go_enter Oabg.func129, Oabg.ntmps129
      go_wp2_with fail
      go_at_call 98
      refine (T1.out _ (Below.refl _ _)).mono ?_
      rintro ee w' ⟨rfl, hq⟩
      obtain rfl := hq.symm
      go_wp2_with fail
      go_at_call 98
      refine (T2.out _ (Below.refl _ _)).mono ?_
      rintro ee w' ⟨rfl, hq⟩
      obtain rfl := hq.symm
      go_wp2_with fail
      go_at_call 133
      refine HS.out.mono ?_
      rintro ee w1 ⟨x, y, rfl, hx, hy, hb1⟩
      go_wp2_with fail
      go_at_call 77
      refine (cmp_any hx hy).mono ?_
      rintro ee w2 ⟨rfl, hb2⟩
      rw [← HZ.out]
      have HB : Hid (Below w.heap.size w w2) := below_step hb1 hb1.size hb2
      clear hx hy hb1 hb2
      by_cases hz0 : z < 0
      · have hd3 : decide (z < 0) = true := decide_eq_true hz0
        go_wp2
        go_ret
        exact ⟨rfl, HB.out⟩
      · have hd3 : decide (z < 0) = false := decide_eq_false hz0
        go_wp2
        go_ret
        exact ⟨rfl, HB.out⟩

end Go.Proofs.Ygcoab
