/- The finite operands' values: their bounds, the masked and the sign-turned pattern. -/
import Derived.Test.YgcoabWFin
import Derived.Test.YgcoabPlainSpecial
namespace Go.Proofs.Ygcoab

/-- a value's parts have fewer bits -/
def vb : Nat := 2200
theorem vb_eq : vb = 2200 := rfl

theorem pMan_congr {E M x y : Nat} (h1 : expF E M x = expF E M y) (h2 : fracF M x = fracF M y) : pMan E M x = pMan E M y := by
  unfold pMan
  rw [h1, h2]

theorem pExp_congr {E M x y : Nat} (h1 : expF E M x = expF E M y) (h2 : fracF M x = fracF M y) : pExp E M x = pExp E M y := by
  unfold pExp
  rw [h1, h2]

theorem vNum_congr {E M x y : Nat} (h1 : expF E M x = expF E M y) (h2 : fracF M x = fracF M y) : vNum E M x = vNum E M y := by
  unfold vNum
  rw [pMan_congr h1 h2, pExp_congr h1 h2]

theorem vDen_congr {E M x y : Nat} (h1 : expF E M x = expF E M y) (h2 : fracF M x = fracF M y) : vDen E M x = vDen E M y := by
  unfold vDen
  rw [pExp_congr h1 h2]

theorem mod_vNum (E M x : Nat) : vNum E M (x % 2 ^ (E + M + 1)) = vNum E M x := vNum_congr (mod_expF E M x) (mod_fracF E M x)
theorem mod_vDen (E M x : Nat) : vDen E M (x % 2 ^ (E + M + 1)) = vDen E M x := vDen_congr (mod_expF E M x) (mod_fracF E M x)
theorem mod_vNeg (E M x : Nat) : vNeg E M (x % 2 ^ (E + M + 1)) = vNeg E M x := by
  unfold vNeg
  rw [mod_expF, mod_negF]

theorem xor_vNum (E M x : Nat) : vNum E M (x ^^^ sgnB E M) = vNum E M x := vNum_congr (xor_expF E M x) (xor_fracF E M x)
theorem xor_vDen (E M x : Nat) : vDen E M (x ^^^ sgnB E M) = vDen E M x := vDen_congr (xor_expF E M x) (xor_fracF E M x)
theorem xor_vNeg {E M x : Nat} (h : expF E M x ≠ topE E) : vNeg E M (x ^^^ sgnB E M) = !vNeg E M x := by
  unfold vNeg
  rw [xor_expF, if_neg h, if_neg h, xor_negF]

theorem vDen_pos (E M x : Nat) : 0 < vDen E M x := by
  unfold vDen sDen
  split
  · exact two_pow_pos' _
  · omega

theorem pow_lt_mul {N a k b : Nat} (h : N < 2 ^ a) (hb : a + k ≤ b) : N * 2 ^ k < 2 ^ b := by
  have h1 := Nat.mul_lt_mul_of_pos_right h (two_pow_pos' k)
  rw [← Nat.pow_add] at h1
  exact Nat.lt_of_lt_of_le h1 (two_pow_le hb)

theorem vNum_lt {E M : Nat} (h : FOk E M) (x : Nat) : vNum E M x < 2 ^ vb := by
  have h1 := pMan_lt E M x
  have h2 := (pExp_bounds h x).2
  have h3 := h.m2
  unfold vNum sNum
  split
  · exact Nat.lt_of_lt_of_le h1 (two_pow_le (by have := vb_eq; omega))
  · exact pow_lt_mul h1 (by have := vb_eq; omega)

theorem vDen_lt {E M : Nat} (h : FOk E M) (x : Nat) : vDen E M x < 2 ^ vb := by
  have h2 := (pExp_bounds h x).1
  unfold vDen sDen
  split
  · exact Nat.pow_lt_pow_right (by omega) (by have := vb_eq; omega)
  · exact Nat.lt_of_lt_of_le (show 1 < 2 ^ 1 by decide) (two_pow_le (by have := vb_eq; omega))

theorem prod_lt {A B : Nat} (h1 : A < 2 ^ vb) (h2 : B < 2 ^ vb) : A * B < 2 ^ (vb + vb) := by
  have h3 : A * B ≤ A * 2 ^ vb := Nat.mul_le_mul_left _ (Nat.le_of_lt h2)
  exact Nat.lt_of_le_of_lt h3 (pow_lt_mul h1 (Nat.le_refl _))

theorem small_of {A a : Nat} (h : A < 2 ^ a) (ha : a ≤ 4401) : SmallN A := Nat.lt_of_lt_of_le h (two_pow_le (by have := bitMax_eq; omega))

theorem fits_of {A a : Nat} (h : A < 2 ^ a) (ha : a ≤ 4401) : FitsN A := FitsN.of h (by omega)

theorem add_lt_pow {x y a : Nat} (h1 : x < 2 ^ a) (h2 : y < 2 ^ a) : x + y < 2 ^ (a + 1) := by
  rw [Nat.pow_succ]
  omega

theorem fitR_of {A1 D1 A2 D2 : Nat} (h1 : A1 < 2 ^ vb) (h2 : D1 < 2 ^ vb) (h3 : A2 < 2 ^ vb) (h4 : D2 < 2 ^ vb) (p1 : 0 < D1) (p2 : 0 < D2) : FitR A1 D1 A2 D2 where
  f := ⟨fits_of h1 (by have := vb_eq; omega), fits_of h2 (by have := vb_eq; omega), fits_of h3 (by have := vb_eq; omega), fits_of h4 (by have := vb_eq; omega), fits_of (prod_lt h1 h4) (by have := vb_eq; omega), fits_of (prod_lt h3 h2) (by have := vb_eq; omega)⟩
  m := ⟨small_of (prod_lt h1 h3) (by have := vb_eq; omega), small_of (prod_lt h2 h4) (by have := vb_eq; omega), Nat.mul_pos p1 p2⟩
  x := small_of (prod_lt h1 h4) (by have := vb_eq; omega)
  y := small_of (prod_lt h3 h2) (by have := vb_eq; omega)
  s := small_of (add_lt_pow (prod_lt h1 h4) (prod_lt h3 h2)) (by have := vb_eq; omega)

theorem fitR_val {E M : Nat} (h : FOk E M) (x y : Nat) : FitR (vNum E M x) (vDen E M x) (vNum E M y) (vDen E M y) :=
  fitR_of (vNum_lt h x) (vDen_lt h x) (vNum_lt h y) (vDen_lt h y) (vDen_pos E M x) (vDen_pos E M y)

theorem vNum_pos {E M x : Nat} (h1 : expF E M x ≠ topE E) (h2 : clsF E M x ≠ 0) : 0 < vNum E M x := by
  have hp : 0 < pMan E M x := by
    unfold clsF at h2
    unfold pMan
    rw [if_neg h1] at h2 ⊢
    by_cases he : expF E M x = 0
    · rw [if_pos he]
      by_cases hf : fracF M x = 0
      · exfalso
        apply h2
        rw [if_neg (by simpa using he), if_neg (by simpa using hf)]
      · rw [if_neg hf]
        exact Nat.mul_pos (by omega) (two_pow_pos' _)
    · rw [if_neg he]
      have := two_pow_pos' M
      omega
  unfold vNum sNum
  split
  · exact hp
  · exact Nat.mul_pos hp (two_pow_pos' _)

theorem vNeg_finite {E M x : Nat} (h : expF E M x ≠ topE E) : vNeg E M x = negF E M x := by
  unfold vNeg
  rw [if_neg h]

end Go.Proofs.Ygcoab
