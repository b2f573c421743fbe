/- The law's comparisons in units. -/
import Derived.Test.YgcoabPlainSqrt2
namespace Go.Proofs.Ygcoab

theorem cmp_units {Ar Dr Aw Dw G W c : Nat} (hc : 0 < c) (h1 : 0 < Dr) (h2 : 0 < Dw) (e1 : Ar * c = G * Dr) (e2 : Aw * c = W * Dw) : cmpZ (Ar * Dw) (Aw * Dr) = cmpZ G W := by
  rw [← cmpZ_mul (c := c) hc, ← cmpZ_mul (a := G) (c := Dr * Dw) (Nat.mul_pos h1 h2)]
  rw [Nat.mul_right_comm Ar, e1, Nat.mul_right_comm Aw, e2, Nat.mul_assoc G, Nat.mul_assoc W, Nat.mul_comm Dw Dr]

theorem cmp_square {Ar Dr Av Dv G U c : Nat} (hc : 0 < c) (h1 : 0 < Dr) (h2 : 0 < Dv) (e1 : Ar * c = G * Dr) (e2 : Av * c = U * Dv) : cmpZ (Ar * Ar * Dv) (Av * (Dr * Dr)) = cmpZ (G * G) (U * c) := by
  have e3 : Ar * Ar * (c * c) = G * G * (Dr * Dr) := by rw [Nat.mul_mul_mul_comm, e1, Nat.mul_mul_mul_comm]
  have e4 : Av * (c * c) = U * c * Dv := by rw [← Nat.mul_assoc, e2, Nat.mul_right_comm]
  exact cmp_units (Nat.mul_pos hc hc) (Nat.mul_pos h1 h1) h2 e3 e4

theorem cmp_side {Ar Dr Aw Dw Av Dv G W U c : Nat} (hc : 0 < c) (h1 : 0 < Dr) (h2 : 0 < Dw) (h3 : 0 < Dv) (e1 : Ar * c = G * Dr) (e2 : Aw * c = W * Dw) (e3 : Av * c = U * Dv) :
    cmpZ (4 * Av * (Dr * Dw * (Dr * Dw))) ((Ar * Dw + Aw * Dr) * (Ar * Dw + Aw * Dr) * (1 * Dv)) = cmpZ (U * c * 4) ((G + W) * (G + W)) := by
  have e4 : (Ar * Dw + Aw * Dr) * c = (G + W) * (Dr * Dw) := by
    rw [Nat.add_mul, Nat.mul_right_comm Ar, e1, Nat.mul_right_comm Aw, e2, Nat.add_mul, Nat.mul_assoc G, Nat.mul_assoc W, Nat.mul_comm Dw Dr]
  have e5 : (Ar * Dw + Aw * Dr) * (Ar * Dw + Aw * Dr) * (c * c) = (G + W) * (G + W) * (Dr * Dw * (Dr * Dw)) := by rw [Nat.mul_mul_mul_comm, e4, Nat.mul_mul_mul_comm]
  have e6 : 4 * Av * (c * c) = U * c * 4 * Dv := by
    rw [Nat.mul_assoc 4, ← Nat.mul_assoc Av, e3, Nat.mul_right_comm U Dv c, Nat.mul_comm 4, Nat.mul_right_comm]
  have hD := Nat.mul_pos h1 h2
  rw [Nat.one_mul]
  exact cmp_units (Nat.mul_pos hc hc) h3 (Nat.mul_pos hD hD) e6 e5

/-- the root's pattern is a finite value above zero -/
theorem SqRes.pat {E M mode T g : Nat} (h : SqRes E M mode T g) (hT : 0 < T) : 0 < g ∧ g < topS E M := by
  obtain ⟨n, s, hR, hn, hs, ht, rfl⟩ := h.ex
  have hu := upT_le mode n T (2 ^ (s + s))
  have hM := two_pow_pos' M
  constructor
  · -- were it zero, then s = 0 and n is not raised
    by_cases hc : 0 < s * 2 ^ M + upT mode n T (2 ^ (s + s))
    · exact hc
    · exfalso
      have h0 : upT mode n T (2 ^ (s + s)) = 0 := by omega
      have hs0 : s = 0 := by
        rcases hs with h | h
        · exact h
        · have : n ≤ upT mode n T (2 ^ (s + s)) := by unfold upT; split <;> omega
          omega
      have hn0 : n = 0 := by
        have : n ≤ upT mode n T (2 ^ (s + s)) := by unfold upT; split <;> omega
        omega
      have hlt := hR.lt
      rw [hn0, hs0] at hlt
      simp at hlt
      omega
  · have h1 : (s + 2) * 2 ^ M < topS E M := Nat.mul_lt_mul_of_pos_right ht hM
    rw [Nat.add_mul] at h1
    rw [Nat.pow_succ] at hn
    omega

theorem sqT_pos {E M a : Nat} (hf : expF E M a ≠ topE E) (hz : clsF E M a ≠ 0) : 0 < sqT E M a := Nat.mul_pos (unit_pos hf hz) (two_pow_pos' _)

theorem pat_neg {E M g : Nat} (hg : g < 2 ^ (E + M)) : negF E M g = false := by
  unfold negF
  rw [Nat.div_eq_of_lt hg]
  rfl

theorem pat_fin {E M g : Nat} (hg : g < topS E M) : expF E M g ≠ topE E := by
  unfold topS at hg
  have h1 : g / 2 ^ M < topE E := (Nat.div_lt_iff_lt_mul (two_pow_pos' M)).2 hg
  unfold expF
  have := Nat.mod_le (g / 2 ^ M) (2 ^ E)
  omega

theorem cut_small {E M y : Nat} (h : negF E M (y % 2 ^ (E + M + 1)) = false) : y % 2 ^ (E + M + 1) < 2 ^ (E + M) := by
  have h1 := Nat.mod_lt y (two_pow_pos' (E + M + 1))
  generalize y % 2 ^ (E + M + 1) = z at *
  rw [Nat.pow_succ] at h1
  by_cases hc : z < 2 ^ (E + M)
  · exact hc
  · exfalso
    unfold negF at h
    have h2 : z / 2 ^ (E + M) = 1 := Nat.div_eq_of_lt_le (by omega) (by omega)
    rw [h2] at h
    exact absurd h (by decide)

end Go.Proofs.Ygcoab
