/- SqrtFlags in plain numbers. -/
import Derived.Test.YgcoabPlainSqrt
namespace Go.Proofs.Ygcoab

/-- SqrtFlags' exponents at a finite value that is not zero -/
structure SqN (E M a : Nat) (real e : Int) (s : Nat) : Prop where
  real_eq : real = lgZ E M a / 2
  e_eq : e = max real (eminZ E)
  s_eq : e = eminZ E + s
  rb1 : -3000 ≤ real
  rb2 : real ≤ 3000
  top : s + 2 < 2 ^ E - 1
  emax : e ≤ emaxZ E
  hi : sqT E M a < 2 ^ (M + 1 + (M + 1) + (s + s))
  lo : s = 0 ∨ 2 ^ (M + M + (s + s)) ≤ sqT E M a

theorem two_pow_E {E M : Nat} (h : FOk E M) : 2 ^ E = 2 * (biasN E + 1) := by
  have h1 := h.e1
  have h2 := bias_ge h
  unfold biasN at *
  obtain ⟨t, rfl⟩ : ∃ t, E = t + 1 := ⟨E - 1, by omega⟩
  rw [Nat.add_sub_cancel, Nat.pow_succ] at *
  omega

theorem lg_bounds {E M a : Nat} (h : FOk E M) (hf : expF E M a ≠ topE E) (hz : clsF E M a ≠ 0) : 2 * eminZ E - 200 ≤ lgZ E M a ∧ lgZ E M a ≤ emaxZ E := by
  have hb := bias_ge h
  have hE := two_pow_E h
  have hU := unit_pos hf hz
  have hp := blen_pos hU
  have h4 := h.m2
  have hF : expF E M a ≤ 2 ^ E - 2 := by
    have h1 : expF E M a < 2 ^ E := Nat.mod_lt _ (two_pow_pos' E)
    unfold topE at hf
    omega
  have hl := unit_frac (fracF_lt M a) hF (by omega)
  have e1 : eminZ E = 1 - (biasN E : Int) := rfl
  have e2 : emaxZ E = (biasN E : Int) := rfl
  unfold lgZ mU
  omega

theorem sqT_bounds {E M a : Nat} (hf : expF E M a ≠ topE E) (hz : clsF E M a ≠ 0) : sqT E M a < 2 ^ (blen (unitU E M a) + mU E M) ∧ 2 ^ (blen (unitU E M a) - 1 + mU E M) ≤ sqT E M a := by
  have hU := unit_pos hf hz
  unfold sqT
  constructor
  · rw [Nat.pow_add]
    exact Nat.mul_lt_mul_of_pos_right (lt_blen _) (two_pow_pos' _)
  · rw [Nat.pow_add]
    exact Nat.mul_le_mul_right _ (blen_ge hU)

theorem sqN_of {E M a : Nat} (h : FOk E M) (hf : expF E M a ≠ topE E) (hz : clsF E M a ≠ 0) {real e : Int} (hr : real = lgZ E M a / 2) (he : e = max real (eminZ E)) : ∃ s, SqN E M a real e s := by
  have hb := bias_ge h
  have hbl := bias_lt h
  have hE := two_pow_E h
  have h3 := h.m1
  have h4 := h.m2
  have hp := blen_pos (unit_pos hf hz)
  obtain ⟨l1, l2⟩ := lg_bounds h hf hz
  obtain ⟨t1, t2⟩ := sqT_bounds hf hz
  have e1 : eminZ E = 1 - (biasN E : Int) := rfl
  have e2 : emaxZ E = (biasN E : Int) := rfl
  have hm : (mU E M : Int) = M + biasN E - 1 := by unfold mU; omega
  have hlg : lgZ E M a = (blen (unitU E M a) : Int) - 1 - (mU E M : Int) := rfl
  obtain ⟨s, hs⟩ : ∃ s : Nat, s = (e - eminZ E).toNat := ⟨_, rfl⟩
  refine ⟨s, hr, he, by omega, by omega, by omega, by omega, by omega, ?_, ?_⟩
  · exact Nat.lt_of_lt_of_le t1 (two_pow_le (by omega))
  · by_cases h0 : s = 0
    · exact .inl h0
    · exact .inr (Nat.le_trans (two_pow_le (by omega)) t2)

theorem sNum_small {A : Nat} {k : Int} (h : A < 2 ^ vb) (hk : k ≤ 100000) : SmallN (sNum A k) := by
  have hb := bitMax_eq
  have hv := vb_eq
  unfold sNum
  split
  · exact Nat.lt_of_lt_of_le h (two_pow_le (by omega))
  · exact pow_lt_mul h (by omega)

theorem shD_small {D : Nat} {k : Int} (h : D < 2 ^ vb) (hk : -100000 ≤ k) : SmallN (shD D k) := by
  have hb := bitMax_eq
  have hv := vb_eq
  unfold shD
  split
  · exact pow_lt_mul h (by omega)
  · exact Nat.lt_of_lt_of_le h (two_pow_le (by omega))

theorem quo_lt {X Y T P B : Nat} (hY : 0 < Y) (h : X * P = T * Y) (hT : T < B * P) : X / Y < B := by
  have h1 : X / Y * Y ≤ X := Nat.div_mul_le_self X Y
  have h2 := Nat.mul_le_mul_right P h1
  rw [h, Nat.mul_right_comm] at h2
  have h3 : X / Y * P ≤ T := Nat.le_of_mul_le_mul_right h2 hY
  exact Nat.lt_of_mul_lt_mul_right (Nat.lt_of_le_of_lt h3 hT)

theorem SqN.fit1 {E M a s : Nat} {real e k : Int} (h : FOk E M) (hf : expF E M a ≠ topE E) (hN : SqN E M a real e s) (hk : k = 2 * ((M : Int) - e)) : RtFit (sNum (vNum E M a) k) (shD (vDen E M a) k) := by
  have h4 := h.m2
  have hr := rb_eq
  have b1 := hN.rb1
  have b2 := hN.rb2
  have b3 := hN.e_eq
  have b4 := hN.emax
  have hbl := bias_lt h
  have e1 : eminZ E = 1 - (biasN E : Int) := rfl
  have e2 : emaxZ E = (biasN E : Int) := rfl
  have hY : 0 < shD (vDen E M a) k := shD_pos (vDen_pos E M a)
  refine ⟨sNum_small (vNum_lt h a) (by omega), shD_small (vDen_lt h a) (by omega), hY, ?_⟩
  have hi := hN.hi
  rw [Nat.pow_add] at hi
  refine Nat.lt_of_lt_of_le (quo_lt hY (sh_id h hf s (by rw [hk, hN.s_eq])) hi) (two_pow_le (by omega))

theorem SqN.fit2 {E M a s : Nat} {real e k : Int} (h : FOk E M) (hf : expF E M a ≠ topE E) (hN : SqN E M a real e s) (hq : real = eminZ E - 1) (hk : k = 2 * ((M : Int) - real)) : RtFit (sNum (vNum E M a) k) (shD (vDen E M a) k) := by
  have h4 := h.m2
  have hr := rb_eq
  have b1 := hN.rb1
  have b2 := hN.rb2
  have hY : 0 < shD (vDen E M a) k := shD_pos (vDen_pos E M a)
  refine ⟨sNum_small (vNum_lt h a) (by omega), shD_small (vDen_lt h a) (by omega), hY, ?_⟩
  have hs : s = 0 := by have := hN.s_eq; have := hN.e_eq; omega
  have hi := hN.hi
  rw [hs] at hi
  rw [sh_id' h hf (k := k) (by rw [hk, hq]), Nat.mul_div_cancel _ hY]
  have h5 : sqT E M a * 4 < 2 ^ (M + 1 + (M + 1) + 0 + 2) := by
    rw [Nat.pow_add _ _ 2]
    exact Nat.mul_lt_mul_of_pos_right hi (by decide)
  exact Nat.lt_of_lt_of_le h5 (two_pow_le (by omega))

theorem upT_le (mode n T P : Nat) : upT mode n T P ≤ n + 1 := by
  unfold upT
  split <;> omega

theorem SqN.res {E M a s n mode : Nat} {real e k : Int} (h : FOk E M) (hf : expF E M a ≠ topE E) (hN : SqN E M a real e s) (hk : k = 2 * ((M : Int) - e)) (hr : RootOf (sNum (vNum E M a) k / shD (vDen E M a) k) n) :
    SqRes E M mode (sqT E M a) (packP E M mode false e (rootUp mode n (sNum (vNum E M a) k) (shD (vDen E M a) k) % 18446744073709551616)) := by
  have hY : 0 < shD (vDen E M a) k := shD_pos (vDen_pos E M a)
  have hP := two_pow_pos' (s + s)
  have hI := sh_id h hf s (k := k) (by rw [hk, hN.s_eq])
  have hR := rootT_of hY hP hI hr
  rw [rootUp_eq hY hP hI]
  have hi := hN.hi
  have hlo0 := hN.lo
  generalize sqT E M a = T at *
  have hn : n < 2 ^ (M + 1) := by
    rw [Nat.pow_add, Nat.pow_add 2 (M + 1)] at hi
    exact root_mono (Nat.lt_of_mul_lt_mul_right (Nat.lt_of_le_of_lt hR.le hi))
  have hlo : s = 0 ∨ 2 ^ M ≤ n := by
    rcases hlo0 with h0 | h0
    · exact .inl h0
    · refine .inr ?_
      rw [Nat.pow_add, Nat.pow_add 2 M] at h0
      have := root_mono (Nat.lt_of_mul_lt_mul_right (Nat.lt_of_le_of_lt h0 hR.lt))
      omega
  refine ⟨n, s, hR, hn, hlo, hN.top, ?_⟩
  have hu := upT_le mode n T (2 ^ (s + s))
  generalize upT mode n T (2 ^ (s + s)) = n' at *
  have hes : (e - eminZ E).toNat = s := by have := hN.s_eq; omega
  have h53 : (2 : Nat) ^ (M + 1) ≤ 2 ^ 53 := two_pow_le (by have := h.m2; omega)
  have e53 : (2 : Nat) ^ 53 = 9007199254740992 := by decide
  have hg : s * 2 ^ M + n' < topS E M := by
    have h1 : (s + 2) * 2 ^ M < topS E M := Nat.mul_lt_mul_of_pos_right hN.top (two_pow_pos' M)
    rw [Nat.add_mul] at h1
    rw [Nat.pow_succ] at hn
    omega
  have ht := topS_lt h
  have ht2 := sgnB_lt h
  have hX : packX E M e (n' % 18446744073709551616) = s * 2 ^ M + n' := by
    unfold packX
    rw [hes, Nat.mod_eq_of_lt (show n' < 18446744073709551616 by omega), Nat.mod_eq_of_lt (by omega)]
  unfold packP
  rw [hX, if_neg (by omega)]
  show _ ||| 0 = _
  rw [Nat.or_zero]

end Go.Proofs.Ygcoab
