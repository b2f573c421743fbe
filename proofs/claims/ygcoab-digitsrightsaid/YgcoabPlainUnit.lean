/- A finite value in units of the least subnormal. -/
import Derived.Test.YgcoabPlainBin
import Derived.Test.YgcoabWRootAt
namespace Go.Proofs.Ygcoab

def unitU (E M x : Nat) : Nat := if expF E M x = 0 then fracF M x else (2 ^ M + fracF M x) * 2 ^ (expF E M x - 1)
def mU (E M : Nat) : Nat := M + biasN E - 1

theorem bias_ge {E M : Nat} (h : FOk E M) : 1 ≤ biasN E := by
  have h1 := two_pow_le (n := 1) (k := E - 1) (by have := h.e1; omega)
  unfold biasN
  omega

theorem unit_id {E M x : Nat} (h : FOk E M) (hf : expF E M x ≠ topE E) : vNum E M x * 2 ^ mU E M = unitU E M x * vDen E M x := by
  have hb := bias_ge h
  have hm := h.m1
  unfold vNum vDen unitU pMan pExp mU
  rw [if_neg hf, if_neg hf]
  by_cases h0 : expF E M x = 0
  · rw [if_pos h0, if_pos h0, if_pos h0]
    by_cases h1 : fracF M x = 0
    · rw [if_pos h1, if_pos h1, h1]
      simp [sNum]
    · rw [if_neg h1, if_neg h1]
      generalize M + 1 - blen (fracF M x) = t
      generalize fracF M x = f
      have hneg : (1 - (biasN E : Int) - M - (t : Nat)) < 0 := by omega
      unfold sNum sDen
      rw [if_pos hneg, if_pos hneg, show (-(1 - (biasN E : Int) - M - (t : Nat))).toNat = t + (M + biasN E - 1) by omega, Nat.mul_assoc, ← Nat.pow_add]
  · rw [if_neg h0, if_neg h0, if_neg h0]
    generalize hF : expF E M x = F at *
    generalize 2 ^ M + fracF M x = p
    unfold sNum sDen
    by_cases hn : (F : Int) - biasN E - M < 0
    · rw [if_pos hn, if_pos hn, Nat.mul_assoc, ← Nat.pow_add]
      congr 2
      omega
    · rw [if_neg hn, if_neg hn, Nat.mul_assoc, ← Nat.pow_add, Nat.mul_one]
      congr 2
      omega

theorem vDen_pow (E M x : Nat) : ∃ j, vDen E M x = 2 ^ j := by
  unfold vDen sDen
  split
  · exact ⟨_, rfl⟩
  · exact ⟨0, rfl⟩

theorem blen_mul_pow {x : Nat} (h : 0 < x) (k : Nat) : blen (x * 2 ^ k) = blen x + k := by
  have h1 := blen_pos h
  have h2 := blen_ge h
  have h3 := lt_blen x
  have h4 := two_pow_pos' k
  refine blen_eq (by omega) ?_ ?_
  · rw [show blen x + k - 1 = (blen x - 1) + k by omega, Nat.pow_add]
    exact Nat.mul_le_mul_right _ h2
  · rw [Nat.pow_add]
    exact Nat.mul_lt_mul_of_pos_right h3 h4

theorem blen_pow (j : Nat) : blen (2 ^ j) = j + 1 := blen_eq (by omega) (Nat.le_refl _) (Nat.pow_lt_pow_right (by omega) (by omega))

theorem unit_pos {E M x : Nat} (hf : expF E M x ≠ topE E) (hz : clsF E M x ≠ 0) : 0 < unitU E M x := by
  unfold clsF at hz
  rw [if_neg hf] at hz
  unfold unitU
  by_cases h0 : expF E M x = 0
  · rw [if_pos h0]
    by_cases h1 : fracF M x = 0
    · exfalso
      apply hz
      rw [if_neg (by simpa using h0), if_neg (by simpa using h1)]
    · omega
  · rw [if_neg h0]
    have := two_pow_pos' M
    exact Nat.mul_pos (by omega) (two_pow_pos' _)

/-- log2 of the value, by its unit's width -/
def lgZ (E M x : Nat) : Int := (blen (unitU E M x) : Int) - 1 - (mU E M : Int)

theorem log2_val {E M x : Nat} (h : FOk E M) (hf : expF E M x ≠ topE E) (hz : clsF E M x ≠ 0) {lo hi : Int} (h1 : lo ≤ lgZ E M x) (h2 : lgZ E M x ≤ hi + 1) : log2Z (vNum E M x) (vDen E M x) lo hi = lgZ E M x := by
  have hA := vNum_pos hf hz
  have hU := unit_pos hf hz
  have hI := unit_id h hf
  obtain ⟨j, hj⟩ := vDen_pow E M x
  rw [hj] at hI
  have hb : blen (vNum E M x) + mU E M = blen (unitU E M x) + j := by
    rw [← blen_mul_pow hA, ← blen_mul_pow hU, hI]
  have hd : (blen (vNum E M x) : Int) - (blen (vDen E M x) : Int) = lgZ E M x := by
    rw [hj, blen_pow]
    unfold lgZ
    omega
  unfold log2Z
  rw [hd, if_neg (by omega), if_neg (by omega), if_neg]
  rw [hj]
  rw [hj, blen_pow] at hd
  generalize vNum E M x = A at *
  generalize lgZ E M x = d at *
  have hle : shD (2 ^ j) (-d) ≤ sNum A (-d) := by
    have hAg := blen_ge hA
    have hAp := blen_pos hA
    unfold shD sNum
    by_cases hn : -d < 0
    · rw [if_pos hn, if_pos hn, ← Nat.pow_add]
      refine Nat.le_trans (two_pow_le ?_) hAg
      omega
    · rw [if_neg hn, if_neg hn]
      obtain ⟨t, ht⟩ : ∃ t : Nat, t = (-d).toNat := ⟨_, rfl⟩
      rw [← ht]
      refine Nat.le_trans (two_pow_le (k := blen A - 1 + t) (by omega)) ?_
      rw [Nat.pow_add]
      exact Nat.mul_le_mul_right _ hAg
  unfold cmpZ
  rw [if_neg (by omega)]
  split <;> omega

theorem unit_frac {E M x : Nat} (hf : fracF M x < 2 ^ M) (hF : expF E M x ≤ 2 ^ E - 2) (h1 : 1 ≤ 2 ^ E - 2) : blen (unitU E M x) ≤ M + (2 ^ E - 2) := by
  unfold unitU
  by_cases h0 : expF E M x = 0
  · rw [if_pos h0]
    have := blen_le hf
    omega
  · rw [if_neg h0]
    have e : (2 : Nat) ^ (M + 1) = 2 ^ M + 2 ^ M := by rw [Nat.pow_succ]; omega
    have h2 : (2 ^ M + fracF M x) * 2 ^ (expF E M x - 1) < 2 ^ (M + 1 + (expF E M x - 1)) := by
      rw [Nat.pow_add]
      exact Nat.mul_lt_mul_of_pos_right (by omega) (two_pow_pos' _)
    have := blen_le h2
    omega

/-- the square in units: T -/
def sqT (E M x : Nat) : Nat := unitU E M x * 2 ^ mU E M

theorem sh_id {E M x : Nat} (h : FOk E M) (hf : expF E M x ≠ topE E) (s : Nat) {k : Int} (hk : k = 2 * ((M : Int) - (eminZ E + s))) :
    sNum (vNum E M x) k * 2 ^ (s + s) = sqT E M x * shD (vDen E M x) k := by
  have hb := bias_ge h
  have hI := unit_id h hf
  have hm : (mU E M : Int) = M + biasN E - 1 := by unfold mU; omega
  have he : eminZ E = 1 - (biasN E : Int) := rfl
  unfold sqT
  generalize vNum E M x = A at *
  generalize vDen E M x = D at *
  generalize unitU E M x = U at *
  generalize mU E M = m at *
  unfold sNum shD
  by_cases hn : k < 0
  · rw [if_pos hn, if_pos hn]
    obtain ⟨t, ht⟩ : ∃ t : Nat, t = (-k).toNat := ⟨_, rfl⟩
    rw [← ht, show s + s = m + (m + t) by omega]
    calc A * 2 ^ (m + (m + t)) = A * 2 ^ m * 2 ^ (m + t) := by rw [Nat.pow_add, ← Nat.mul_assoc]
      _ = U * D * (2 ^ m * 2 ^ t) := by rw [hI, Nat.pow_add]
      _ = U * 2 ^ m * (D * 2 ^ t) := Nat.mul_mul_mul_comm U D (2 ^ m) (2 ^ t)
  · rw [if_neg hn, if_neg hn]
    obtain ⟨t, ht⟩ : ∃ t : Nat, t = k.toNat := ⟨_, rfl⟩
    rw [← ht, Nat.mul_assoc, ← Nat.pow_add, show t + (s + s) = m + m by omega]
    calc A * 2 ^ (m + m) = A * 2 ^ m * 2 ^ m := by rw [Nat.pow_add, ← Nat.mul_assoc]
      _ = U * D * 2 ^ m := by rw [hI]
      _ = U * 2 ^ m * D := Nat.mul_right_comm U D (2 ^ m)

theorem sh_id' {E M x : Nat} (h : FOk E M) (hf : expF E M x ≠ topE E) {k : Int} (hk : k = 2 * ((M : Int) - (eminZ E - 1))) :
    sNum (vNum E M x) k = sqT E M x * 4 * shD (vDen E M x) k := by
  have hb := bias_ge h
  have hI := unit_id h hf
  have hm : (mU E M : Int) = M + biasN E - 1 := by unfold mU; omega
  have he : eminZ E = 1 - (biasN E : Int) := rfl
  unfold sqT
  generalize vNum E M x = A at *
  generalize vDen E M x = D at *
  generalize unitU E M x = U at *
  generalize mU E M = m at *
  unfold sNum shD
  have hn : ¬ k < 0 := by omega
  rw [if_neg hn, if_neg hn, show k.toNat = m + (m + 2) by omega]
  calc A * 2 ^ (m + (m + 2)) = A * 2 ^ m * (2 ^ m * 2 ^ 2) := by rw [Nat.pow_add, Nat.pow_add, ← Nat.mul_assoc]
    _ = U * D * (2 ^ m * 4) := by rw [hI]
    _ = U * (2 ^ m * 4) * D := Nat.mul_right_comm U D _
    _ = U * 2 ^ m * 4 * D := by rw [← Nat.mul_assoc U (2 ^ m) 4]

theorem cmpZ_mul {a b c : Nat} (h : 0 < c) : cmpZ (a * c) (b * c) = cmpZ a b := by
  unfold cmpZ
  by_cases h1 : a < b
  · rw [if_pos h1, if_pos (Nat.mul_lt_mul_of_pos_right h1 h)]
  · rw [if_neg h1, if_neg (fun h2 => h1 (Nat.lt_of_mul_lt_mul_right h2))]
    by_cases h3 : a = b
    · rw [if_pos h3, h3, if_pos rfl]
    · rw [if_neg h3, if_neg (fun h4 => h3 (Nat.eq_of_mul_eq_mul_right h h4))]

/-- what rootAt has found, in units -/
structure RootT (T P n : Nat) : Prop where
  le : n * n * P ≤ T
  lt : T < (n + 1) * (n + 1) * P

theorem rootT_of {X Y T P n : Nat} (hY : 0 < Y) (hP : 0 < P) (h : X * P = T * Y) (hr : RootOf (X / Y) n) : RootT T P n := by
  have h1 : n * n * Y ≤ X := (Nat.le_div_iff_mul_le hY).1 hr.le
  have h2 : X < (n + 1) * (n + 1) * Y := (Nat.div_lt_iff_lt_mul hY).1 hr.lt
  constructor
  · have h3 := Nat.mul_le_mul_right P h1
    rw [h, Nat.mul_right_comm] at h3
    exact Nat.le_of_mul_le_mul_right h3 hY
  · have h3 := Nat.mul_lt_mul_of_pos_right h2 hP
    rw [h, Nat.mul_right_comm] at h3
    exact Nat.lt_of_mul_lt_mul_right h3

def upT (mode n T P : Nat) : Nat := if raisesB mode false (n % 2 == 1) (cmpZ (T * 4) ((n * 2 + 1) * (n * 2 + 1) * P)) (cmpZ (n * n * P) T != 0) = true then n + 1 else n

theorem rootUp_eq {X Y T P : Nat} (hY : 0 < Y) (hP : 0 < P) (h : X * P = T * Y) (mode n : Nat) : rootUp mode n X Y = upT mode n T P := by
  have e1 : cmpZ (X * 4) ((n * 2 + 1) * (n * 2 + 1) * Y) = cmpZ (T * 4) ((n * 2 + 1) * (n * 2 + 1) * P) := by
    rw [← cmpZ_mul hP, ← cmpZ_mul (a := T * 4) hY, Nat.mul_right_comm X, h, Nat.mul_right_comm T, Nat.mul_right_comm _ Y P]
  have e2 : cmpZ (n * n * Y) X = cmpZ (n * n * P) T := by
    rw [← cmpZ_mul hP, ← cmpZ_mul (a := n * n * P) hY, h, Nat.mul_right_comm _ Y P]
  unfold rootUp upT
  rw [e1, e2]

end Go.Proofs.Ygcoab
