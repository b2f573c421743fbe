/- The root's law in units. -/
import Derived.Test.YgcoabPlainUnit
namespace Go.Proofs.Ygcoab

/-- a pattern's unit, by its number -/
def patU (M g : Nat) : Nat := if g / 2 ^ M = 0 then g % 2 ^ M else (2 ^ M + g % 2 ^ M) * 2 ^ (g / 2 ^ M - 1)

theorem unit_pat {E M g : Nat} (hg : g < 2 ^ (E + M)) : unitU E M g = patU M g := by
  have h1 : g / 2 ^ M < 2 ^ E := (Nat.div_lt_iff_lt_mul (two_pow_pos' M)).2 (by rw [← Nat.pow_add]; exact hg)
  unfold unitU patU expF fracF
  rw [Nat.mod_eq_of_lt h1]

theorem patU_next (M g : Nat) : patU M g < patU M (g + 1) := by
  have hP := two_pow_pos' M
  unfold patU
  generalize 2 ^ M = P at *
  have hd := Nat.div_add_mod g P
  have hl := Nat.mod_lt g hP
  generalize hF : g / P = F at *
  generalize hf : g % P = f at *
  have hmul : P * (F + 1) = P * F + P := Nat.mul_succ P F
  by_cases hc : f + 1 < P
  · have e1 : (g + 1) / P = F := by
      refine Nat.div_eq_of_lt_le ?_ ?_
      · rw [Nat.mul_comm]; omega
      · rw [Nat.mul_comm]; omega
    have e2 : (g + 1) % P = f + 1 := by
      have := Nat.div_add_mod (g + 1) P
      rw [e1] at this
      omega
    rw [e1, e2]
    by_cases h0 : F = 0
    · rw [if_pos h0, if_pos h0]; omega
    · rw [if_neg h0, if_neg h0]
      exact Nat.mul_lt_mul_of_pos_right (by omega) (two_pow_pos' _)
  · have e1 : (g + 1) / P = F + 1 := by
      have hmul2 : P * (F + 1 + 1) = P * (F + 1) + P := Nat.mul_succ P (F + 1)
      refine Nat.div_eq_of_lt_le ?_ ?_
      · rw [Nat.mul_comm]; omega
      · rw [Nat.mul_comm]; omega
    have e2 : (g + 1) % P = 0 := by
      have := Nat.div_add_mod (g + 1) P
      rw [e1] at this
      omega
    rw [e1, e2, if_neg (show ¬ F + 1 = 0 by omega), Nat.add_sub_cancel, Nat.add_zero]
    by_cases h0 : F = 0
    · rw [if_pos h0, h0]; omega
    · rw [if_neg h0]
      obtain ⟨t, rfl⟩ : ∃ t, F = t + 1 := ⟨F - 1, by omega⟩
      rw [Nat.add_sub_cancel, Nat.pow_succ, Nat.mul_comm (2 ^ t) 2, ← Nat.mul_assoc]
      exact Nat.mul_lt_mul_of_pos_right (by omega) (two_pow_pos' _)

theorem patU_lt {M g g' : Nat} (h : g < g') : patU M g < patU M g' := by
  induction g' with
  | zero => omega
  | succ k ih =>
    have := patU_next M k
    by_cases hc : g = k
    · rw [hc]; exact this
    · have := ih (by omega)
      omega

theorem patU_le {M g g' : Nat} (h : g ≤ g') : patU M g ≤ patU M g' := by
  by_cases hc : g = g'
  · rw [hc]; exact Nat.le_refl _
  · exact Nat.le_of_lt (patU_lt (by omega))

theorem lt_of_patU {M g g' : Nat} (h : patU M g < patU M g') : g < g' := by
  by_cases hc : g < g'
  · exact hc
  · have := patU_le (M := M) (Nat.le_of_not_lt hc)
    omega

theorem patU_at {M s n : Nat} (h1 : n ≤ 2 ^ (M + 1)) (h2 : s = 0 ∨ 2 ^ M ≤ n) : patU M (s * 2 ^ M + n) = n * 2 ^ s := by
  have hP := two_pow_pos' M
  rw [Nat.pow_succ] at h1
  unfold patU
  generalize 2 ^ M = P at *
  by_cases hc : n < P
  · have hs : s = 0 := by omega
    subst hs
    rw [Nat.zero_mul, Nat.zero_add, Nat.div_eq_of_lt hc, if_pos rfl, Nat.mod_eq_of_lt hc, Nat.pow_zero, Nat.mul_one]
  · by_cases hd : n < P * 2
    · obtain ⟨f, rfl⟩ : ∃ f, n = P + f := ⟨n - P, by omega⟩
      have e : s * P + (P + f) = f + P * (s + 1) := by rw [Nat.mul_comm s P, Nat.mul_succ]; omega
      rw [e, Nat.add_mul_div_left _ _ hP, Nat.add_mul_mod_self_left, Nat.div_eq_of_lt (by omega), Nat.mod_eq_of_lt (by omega), if_neg (by omega)]
      congr 2
      omega
    · obtain rfl : n = P * 2 := by omega
      have e : s * P + P * 2 = 0 + P * (s + 2) := by rw [Nat.mul_comm s P, Nat.mul_add]; omega
      rw [e, Nat.add_mul_div_left _ _ hP, Nat.add_mul_mod_self_left, Nat.zero_div, Nat.zero_mod, if_neg (by omega), show 0 + (s + 2) - 1 = s + 1 by omega, Nat.pow_succ, Nat.add_zero]
      rw [Nat.mul_comm (2 ^ s) 2, Nat.mul_assoc]

theorem cz_lt {a b : Nat} : cmpZ a b < 0 ↔ a < b := by
  unfold cmpZ
  split
  · omega
  · split <;> omega

theorem cz_gt {a b : Nat} : 0 < cmpZ a b ↔ b < a := by
  unfold cmpZ
  split
  · omega
  · split <;> omega

theorem cz_le {a b : Nat} : cmpZ a b ≤ 0 ↔ a ≤ b := by
  unfold cmpZ
  split
  · omega
  · split <;> omega

theorem cz_ge {a b : Nat} : 0 ≤ cmpZ a b ↔ b ≤ a := by
  unfold cmpZ
  split
  · omega
  · split <;> omega

theorem cz_eq {a b : Nat} : cmpZ a b = 0 ↔ a = b := by
  unfold cmpZ
  split
  · omega
  · split <;> omega

/-- what is known of the root's pattern -/
structure SqRes (E M mode T g : Nat) : Prop where
  ex : ∃ n s, RootT T (2 ^ (s + s)) n ∧ n < 2 ^ (M + 1) ∧ (s = 0 ∨ 2 ^ M ≤ n) ∧ s + 2 < 2 ^ E - 1 ∧ g = s * 2 ^ M + upT mode n T (2 ^ (s + s))

/-- what the law asks -/
def sqLaw (mode T G W : Nat) : Prop :=
  if mode = 2 ∨ mode = 4 then G * G ≤ T ∧ ¬ (G < W ∧ W * W ≤ T)
  else if mode = 3 then T ≤ G * G ∧ ¬ (W < G ∧ T ≤ W * W)
  else G = W ∨ (G < W ∧ T * 4 ≤ (G + W) * (G + W)) ∨ (W < G ∧ (G + W) * (G + W) ≤ T * 4)

theorem sq_pow (n s : Nat) : n * 2 ^ s * (n * 2 ^ s) = n * n * 2 ^ (s + s) := by
  rw [Nat.pow_add, Nat.mul_mul_mul_comm]

theorem mul_self_le' {a b : Nat} (h : a ≤ b) : a * a ≤ b * b := Nat.mul_le_mul h h
theorem mul_self_lt' {a b : Nat} (h : a < b) : a * a < b * b := Nat.mul_self_lt_mul_self h

theorem sqrt_law {E M mode T g : Nat} (h : SqRes E M mode T g) (y : Nat) : sqLaw mode T (patU M g) (patU M y) := by
  obtain ⟨n, s, hR, hn, hs, _, rfl⟩ := h.ex
  have hlo : patU M (s * 2 ^ M + n) = n * 2 ^ s := patU_at (by omega) hs
  have hhi : patU M (s * 2 ^ M + (n + 1)) = (n + 1) * 2 ^ s := patU_at (by omega) (by omega)
  have h1 : n * 2 ^ s * (n * 2 ^ s) ≤ T := by rw [sq_pow]; exact hR.le
  have h2 : T < (n + 1) * 2 ^ s * ((n + 1) * 2 ^ s) := by rw [sq_pow]; exact hR.lt
  have hS := two_pow_pos' s
  have hstep : n * 2 ^ s < (n + 1) * 2 ^ s := Nat.mul_lt_mul_of_pos_right (by omega) hS
  -- what lies above the floor, what lies below the next
  have up : ∀ {W}, W = patU M y → n * 2 ^ s < W → (n + 1) * 2 ^ s ≤ W := fun {W} hW hlt => by
    rw [hW, ← hlo] at hlt
    have := lt_of_patU hlt
    rw [hW, ← hhi]
    exact patU_le (by omega)
  have dn : ∀ {W}, W = patU M y → W < (n + 1) * 2 ^ s → W ≤ n * 2 ^ s := fun {W} hW hlt => by
    rw [hW, ← hhi] at hlt
    have := lt_of_patU hlt
    rw [hW, ← hlo]
    exact patU_le (by omega)
  have hsum : n * 2 ^ s + (n + 1) * 2 ^ s = (n * 2 + 1) * 2 ^ s := by rw [← Nat.add_mul]; congr 1; omega
  have hhalf : (n * 2 + 1) * (n * 2 + 1) * 2 ^ (s + s) = (n * 2 ^ s + (n + 1) * 2 ^ s) * (n * 2 ^ s + (n + 1) * 2 ^ s) := by rw [hsum, sq_pow]
  have hsq : n * n * 2 ^ (s + s) = n * 2 ^ s * (n * 2 ^ s) := (sq_pow n s).symm
  unfold sqLaw upT
  rw [hhalf, hsq]
  generalize hW : patU M y = W at *
  have hW' := up rfl
  have hW'' := dn rfl
  clear up dn hhalf hsq hsum hR hs hn hS
  generalize hL : n * 2 ^ s = L at *
  generalize hH : (n + 1) * 2 ^ s = H at *
  have m1 : L * L < H * H := mul_self_lt' hstep
  by_cases hm2 : mode = 2 ∨ mode = 4
  · rw [if_pos hm2]
    have hr : ∀ odd half some, raisesB mode false odd half some = false := fun odd half some => by
      unfold raisesB
      rcases hm2 with rfl | rfl
      · rfl
      · simp
    rw [hr, if_neg (by simp), hlo]
    refine ⟨h1, fun ⟨a, b⟩ => ?_⟩
    have := mul_self_le' (hW' a)
    omega
  · rw [if_neg hm2]
    by_cases hm3 : mode = 3
    · rw [if_pos hm3]
      have hr : ∀ odd half some, raisesB mode false odd half some = some := fun odd half some => by
        rw [hm3]
        unfold raisesB
        simp
      rw [hr]
      by_cases hT : L * L = T
      · have : (cmpZ (L * L) T != 0) = false := by simp [cz_eq.2 hT]
        rw [this, if_neg (by simp), hlo]
        refine ⟨by omega, fun ⟨a, b⟩ => ?_⟩
        have := mul_self_lt' a
        omega
      · have : (cmpZ (L * L) T != 0) = true := by
          rw [bne_iff_ne]
          exact fun hc => hT (cz_eq.1 hc)
        rw [this, if_pos rfl, hhi]
        refine ⟨by omega, fun ⟨a, b⟩ => ?_⟩
        have := mul_self_le' (hW'' a)
        omega
    · rw [if_neg hm3]
      have hr : (raisesB mode false (n % 2 == 1) (cmpZ (T * 4) ((L + H) * (L + H))) (cmpZ (L * L) T != 0) = true → (L + H) * (L + H) ≤ T * 4) ∧ (¬ raisesB mode false (n % 2 == 1) (cmpZ (T * 4) ((L + H) * (L + H))) (cmpZ (L * L) T != 0) = true → T * 4 ≤ (L + H) * (L + H)) := by
        rw [← cz_ge (a := T * 4), ← cz_le (a := T * 4)]
        generalize cmpZ (T * 4) ((L + H) * (L + H)) = hf
        generalize (cmpZ (L * L) T != 0) = sm
        generalize (n % 2 == 1) = od
        unfold raisesB
        by_cases hm1 : mode = 1
        · rw [if_pos hm1]
          simp only [decide_eq_true_eq]
          omega
        · rw [if_neg hm1, if_neg (by omega), if_neg hm3, if_neg (by omega)]
          cases od
          · simp only [Bool.and_false, Bool.or_false, decide_eq_true_eq]
            omega
          · simp only [Bool.and_true, Bool.or_eq_true, decide_eq_true_eq, beq_iff_eq]
            omega
      have q1 : (L + L) * (L + L) = L * L * 4 := by rw [← Nat.mul_two, Nat.mul_mul_mul_comm]
      have q2 : (H + H) * (H + H) = H * H * 4 := by rw [← Nat.mul_two, Nat.mul_mul_mul_comm]
      split
      · rename_i hb
        have hb' := hr.1 hb
        rw [hhi]
        rcases Nat.lt_trichotomy H W with a | a | a
        · refine .inr (.inl ⟨a, ?_⟩)
          have := mul_self_le' (show H + H ≤ H + W by omega)
          omega
        · exact .inl a
        · refine .inr (.inr ⟨a, ?_⟩)
          have := hW'' a
          have := mul_self_le' (show H + W ≤ L + H by omega)
          omega
      · rename_i hb
        have hb' := hr.2 hb
        rw [hlo]
        rcases Nat.lt_trichotomy L W with a | a | a
        · refine .inr (.inl ⟨a, ?_⟩)
          have := hW' a
          have := mul_self_le' (show L + H ≤ L + W by omega)
          omega
        · exact .inl a
        · refine .inr (.inr ⟨a, ?_⟩)
          have := mul_self_le' (show L + W ≤ L + L by omega)
          omega

end Go.Proofs.Ygcoab
