/- ExactDigits in plain numbers. -/
import Derived.Test.YgcoabWNear
namespace Go.Proofs.Ygcoab

theorem sumV_abs (x y : Nat) : sumV false true x y = if y ≤ x then x - y else y - x := by
  unfold sumV
  simp

/-- rounding to nearest, ties to even, is the nearest whole number -/
theorem raised_near {X Y : Nat} (hY : 0 < Y) : NearW X Y (raisedN 0 false X Y) := by
  have hdm := Nat.div_add_mod X Y
  have hl := Nat.mod_lt X hY
  have hr : raisedN 0 false X Y = if raisesB 0 false (X / Y % 2 == 1) (halfZ X Y) (someB X Y) = true then X / Y + 1 else X / Y := rfl
  have hb : raisesB 0 false (X / Y % 2 == 1) (halfZ X Y) (someB X Y) = true ↔ (Y < X % Y * 2 ∨ (X % Y * 2 = Y ∧ X / Y % 2 = 1)) := by
    unfold raisesB halfZ
    simp only [show ¬ (0 : Nat) = 1 by decide, show ¬ (0 : Nat) = 2 by decide, show ¬ (0 : Nat) = 3 by decide, show ¬ (0 : Nat) = 4 by decide, if_false, Bool.or_eq_true, Bool.and_eq_true, decide_eq_true_eq, beq_iff_eq]
    rw [cz_gt, cz_eq]
  rw [hr]
  unfold NearW
  rw [sumV_abs]
  generalize hq : X / Y = q at *
  generalize hrr : X % Y = r at *
  have hqY : q * Y = Y * q := Nat.mul_comm _ _
  have hq1 : (q + 1) * Y = Y * q + Y := by rw [Nat.add_mul, Nat.one_mul, hqY]
  by_cases hc : Y < r * 2 ∨ (r * 2 = Y ∧ q % 2 = 1)
  · rw [if_pos (hb.2 hc), hq1, if_pos (by omega)]
    rcases hc with h | ⟨h1, h2⟩
    · left; omega
    · right; omega
  · rw [if_neg (fun h => hc (hb.1 h)), hqY]
    by_cases h0 : r = 0
    · rw [if_pos (by omega)]
      left; omega
    · rw [if_neg (by omega)]
      have h1 : ¬ Y < r * 2 := fun h => hc (.inl h)
      by_cases h2 : r * 2 = Y
      · right
        refine ⟨by omega, ?_⟩
        have h3 : ¬ q % 2 = 1 := fun h => hc (.inr ⟨h2, h⟩)
        omega
      · left; omega

theorem ten_flip (k : Int) : tenN (-k) = tenD k ∧ tenD (-k) = tenN k := by
  unfold tenN tenD
  by_cases h1 : k < 0
  · rw [if_pos h1, if_pos h1, if_neg (by omega), if_neg (by omega)]
    exact ⟨rfl, rfl⟩
  · rw [if_neg h1, if_neg h1]
    by_cases h2 : k = 0
    · subst h2
      exact ⟨by decide, by decide⟩
    · rw [if_pos (by omega), if_pos (by omega), Int.neg_neg]
      exact ⟨rfl, rfl⟩

/-- 10^k is 10^p times 10^(k-p) -/
theorem ten_mul (k : Int) (p : Nat) : tenN k * tenD (k - p) = 10 ^ p * tenN (k - p) * tenD k := by
  unfold tenN tenD
  by_cases h1 : k < 0
  · rw [if_pos h1, if_pos (by omega), if_pos (by omega), if_pos h1, Nat.one_mul, Nat.mul_one, ← Nat.pow_add]
    congr 1
    omega
  · rw [if_neg h1]
    by_cases h2 : k - p < 0
    · rw [if_pos h2, if_pos h2, if_neg h1, Nat.mul_one, Nat.mul_one, ← Nat.pow_add]
      congr 1
      omega
    · rw [if_neg h2, if_neg h2, if_neg h1, Nat.mul_one, Nat.mul_one, ← Nat.pow_add]
      congr 1
      omega

theorem units_ge {A D p : Nat} {k : Int} (hD : 0 < D) (h : TenLe A D k) : 10 ^ p ≤ unitsN A D (k - p) := by
  have hY : 0 < D * tenN (k - p) := Nat.mul_pos hD (tenN_pos _)
  have h1 : 10 ^ p * (D * tenN (k - p)) ≤ A * tenD (k - p) := by
    refine Nat.le_of_mul_le_mul_right ?_ (tenD_pos k)
    have e : 10 ^ p * (D * tenN (k - p)) * tenD k = tenN k * D * tenD (k - p) := by
      rw [Nat.mul_right_comm (tenN k), ten_mul k p]
      simp only [Nat.mul_left_comm, Nat.mul_comm]
    rw [e, Nat.mul_right_comm A]
    exact Nat.mul_le_mul_right _ h
  have h2 : 10 ^ p ≤ A * tenD (k - p) / (D * tenN (k - p)) := (Nat.le_div_iff_mul_le hY).2 h1
  refine Nat.le_trans h2 ?_
  unfold unitsN raisedN
  split <;> omega

theorem units_le {A D p : Nat} {k : Int} (hD : 0 < D) (h : ¬ TenLe A D (k + 1)) : unitsN A D (k - p) ≤ 10 ^ (p + 1) := by
  have hY : 0 < D * tenN (k - p) := Nat.mul_pos hD (tenN_pos _)
  have hk : k - p = (k + 1) - ((p + 1 : Nat) : Int) := by omega
  have h1 : A * tenD (k - p) < 10 ^ (p + 1) * (D * tenN (k - p)) := by
    refine Nat.lt_of_mul_lt_mul_right (a := tenD (k + 1)) ?_
    have e : 10 ^ (p + 1) * (D * tenN (k - p)) * tenD (k + 1) = tenN (k + 1) * D * tenD (k - p) := by
      rw [Nat.mul_right_comm (tenN (k + 1)), hk, ten_mul (k + 1) (p + 1)]
      simp only [Nat.mul_left_comm, Nat.mul_comm]
    rw [e, Nat.mul_right_comm A]
    exact Nat.mul_lt_mul_of_pos_right (Nat.lt_of_not_le h) (tenD_pos _)
  have h2 : A * tenD (k - p) / (D * tenN (k - p)) < 10 ^ (p + 1) := (Nat.div_lt_iff_lt_mul hY).2 h1
  unfold unitsN raisedN
  generalize A * tenD (k - p) / (D * tenN (k - p)) = q at *
  split <;> omega

theorem units_near {A D : Nat} {k : Int} (hD : 0 < D) : NearW (A * tenN (-k)) (D * tenD (-k)) (unitsN A D k) := by
  rw [(ten_flip k).1, (ten_flip k).2]
  exact raised_near (Nat.mul_pos hD (tenN_pos _))

end Go.Proofs.Ygcoab
