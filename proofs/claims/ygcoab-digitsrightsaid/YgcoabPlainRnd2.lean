import Derived.Test.YgcoabPlainRnd
namespace Go.Proofs.Ygcoab
open Go.RowKit

theorem ten_shift {j : Int} {a b : Nat} (h : (a : Int) = j + b) : 10 ^ a * tenD j = tenN j * 10 ^ b := by
  unfold tenN tenD
  by_cases hj : j < 0
  · rw [if_pos hj, if_pos hj, Nat.one_mul, ← Nat.pow_add]
    congr 1
    omega
  · rw [if_neg hj, if_neg hj, Nat.mul_one, ← Nat.pow_add]
    congr 1
    omega

theorem near_self (r : Nat) : NearI r 1 r := by
  unfold NearI
  constructor <;> left <;> omega

/-- the digits kept are the value in units of the last of them -/
theorem exp_units {A D : Nat} {g : Nat → Nat} {n : Nat} {top sig pr : Int} (hD : 0 < D) (h : ExpOk A D g n top sig pr) (keep : Nat) (hkeep : ∀ m p : Nat, n = m + 1 → (m : Int) - 1 - top = p → (sig < m ∨ pr < p) → keep < m) :
    unitsN A D (top + 1 - keep) = rndN g n keep := by
  apply units_uniq hD
  obtain ⟨p, N, h⟩ := h
  have hpos := Nat.mul_pos hD (tenD_pos (-(top + 1 - keep)))
  rcases h with ⟨a, b, c⟩ | ⟨m, a, b, c, d, e, f, s⟩
  · have hv := a.val
    by_cases hk : keep < n
    · refine (near_exact a.dig hk).scale ?_ (Nat.pow_pos (by omega)) hpos
      have hs := ten_shift (j := -(top + 1 - keep)) (a := p) (b := n - keep) (by omega)
      rw [hv, ← Nat.mul_assoc, ← b, Nat.mul_assoc, hs, ← Nat.mul_assoc]
    · have hr : rndN g n keep = N * 10 ^ (keep - n) := by
        unfold rndN upF
        rw [Nat.min_eq_right (by omega), hv, decide_eq_false (by omega)]
        simp
      rw [hr]
      refine (near_self _).scale ?_ (by omega) hpos
      have hs := ten_shift (j := -(top + 1 - keep)) (a := p + (keep - n)) (b := 0) (by omega)
      rw [Nat.pow_zero, Nat.mul_one, Nat.pow_add] at hs
      rw [Nat.mul_one, Nat.mul_right_comm, ← Nat.mul_assoc, ← b, Nat.mul_assoc A, Nat.mul_assoc A, ← hs, Nat.mul_right_comm (10 ^ p)]
  · have hk := hkeep m p a f s
    have hv := c.val
    rw [← hv] at d e
    subst a
    refine (near_sticky c.dig hk b d e).scale ?_ (Nat.mul_pos hD (Nat.pow_pos (by omega))) hpos
    have hs := ten_shift (j := -(top + 1 - keep)) (a := p) (b := m - keep) (by omega)
    generalize tenD (-(top + 1 - keep)) = x at *
    generalize tenN (-(top + 1 - keep)) = y at *
    rw [Nat.mul_assoc A, Nat.mul_left_comm (10 ^ p), hs, Nat.mul_assoc A, Nat.mul_left_comm y]

/-- what the digits say of the size -/
theorem exp_size {A D : Nat} {g : Nat → Nat} {n : Nat} {top sig pr : Int} (hD : 0 < D) (h : ExpOk A D g n top sig pr) :
    ∃ m p : Nat, (m : Int) - 1 - top = p ∧ A * 10 ^ p < 10 ^ m * D ∧ (0 < m → 10 ^ (m - 1) * D ≤ A * 10 ^ p) ∧ (m = n ∨ (n = m + 1 ∧ (sig < m ∨ pr < p))) := by
  obtain ⟨p, N, h⟩ := h
  rcases h with ⟨a, b, c⟩ | ⟨m, a, b, c, d, e, f, s⟩
  · refine ⟨n, p, c, ?_, fun hm => ?_, .inl rfl⟩
    · rw [b]
      exact Nat.mul_lt_mul_of_pos_right a.lt hD
    · rw [b]
      exact Nat.mul_le_mul_right _ (a.ge hm)
  · refine ⟨m, p, f, ?_, fun hm => ?_, .inr ⟨a, s⟩⟩
    · exact Nat.lt_of_lt_of_le e (Nat.mul_le_mul_right _ c.lt)
    · exact Nat.le_trans (Nat.mul_le_mul_right _ (c.ge hm)) (Nat.le_of_lt d)

theorem ten_le {A D m p : Nat} {top : Int} (hp : (m : Int) - 1 - top = p) (hm : 0 < m) (h : 10 ^ (m - 1) * D ≤ A * 10 ^ p) : TenLe A D top := by
  unfold TenLe
  have hs := ten_shift (j := top) (a := m - 1) (b := p) (by omega)
  apply Nat.le_of_mul_le_mul_right (c := 10 ^ p) _ (Nat.pow_pos (by omega))
  rw [Nat.mul_right_comm, ← hs, Nat.mul_right_comm, Nat.mul_right_comm A]
  exact Nat.mul_le_mul_right _ h

theorem ten_lt {A D m p : Nat} {top : Int} (hp : (m : Int) - 1 - top = p) (h : A * 10 ^ p < 10 ^ m * D) : ¬ TenLe A D (top + 1) := by
  unfold TenLe
  have hs := ten_shift (j := top + 1) (a := m) (b := p) (by omega)
  intro hc
  have h1 := Nat.mul_le_mul_right (10 ^ p) hc
  rw [Nat.mul_right_comm, ← hs, Nat.mul_right_comm, Nat.mul_right_comm A] at h1
  have h2 := Nat.le_of_mul_le_mul_right h1 (tenD_pos _)
  omega

theorem TenLe.down {A D : Nat} {k : Int} (h : TenLe A D (k + 1)) : TenLe A D k := by
  unfold TenLe at *
  have hs : tenN (k + 1) * tenD k = 10 * tenN k * tenD (k + 1) := by
    unfold tenN tenD
    by_cases h1 : k + 1 < 0
    · rw [if_pos h1, if_pos (by omega), if_pos (by omega), if_pos h1, Nat.one_mul, Nat.mul_one, show (-k).toNat = (-(k + 1)).toNat + 1 by omega, Nat.pow_succ, Nat.mul_comm]
    · by_cases h2 : k < 0
      · have : k = -1 := by omega
        subst this
        rfl
      · rw [if_neg h1, if_neg h2, if_neg h2, if_neg h1, show (k + 1).toNat = k.toNat + 1 by omega, Nat.pow_succ, Nat.mul_comm 10]
  apply Nat.le_of_mul_le_mul_right (c := tenD (k + 1)) _ (tenD_pos _)
  have h1 := Nat.mul_le_mul_right (tenD k) h
  rw [Nat.mul_right_comm, hs, Nat.mul_right_comm A] at h1
  refine Nat.le_trans ?_ h1
  rw [Nat.mul_right_comm (tenN k)]
  refine Nat.mul_le_mul_right _ (Nat.mul_le_mul_right _ ?_)
  omega

theorem TenLe.downTo {A D : Nat} {k : Int} (n : Nat) (h : TenLe A D (k + n)) : TenLe A D k := by
  induction n with
  | zero => simpa using h
  | succ n ih => exact ih (by rw [Int.natCast_succ, ← Int.add_assoc] at h; exact h.down)

theorem log_uniq {A D : Nat} {j k : Int} (h1 : TenLe A D j) (h2 : ¬ TenLe A D (j + 1)) (h3 : TenLe A D k) (h4 : ¬ TenLe A D (k + 1)) : j = k := by
  rcases Int.lt_trichotomy j k with h | h | h
  · exact (h2 (TenLe.downTo (k - (j + 1)).toNat (by rw [show j + 1 + ((k - (j + 1)).toNat : Int) = k by omega]; exact h3))).elim
  · exact h
  · exact (h4 (TenLe.downTo (j - (k + 1)).toNat (by rw [show k + 1 + ((j - (k + 1)).toNat : Int) = j by omega]; exact h1))).elim

/-- far below the last place -/
theorem exp_small {A D : Nat} {g : Nat → Nat} {n : Nat} {top sig pr : Int} (hD : 0 < D) (h : ExpOk A D g n top sig pr) (prec : Nat) (hk : top + 1 + prec < 0) : unitsN A D (-(prec : Int)) = 0 := by
  apply units_uniq hD
  obtain ⟨m, p, h1, h2, _, _⟩ := exp_size hD h
  rw [Int.neg_neg]
  have e1 : tenN (prec : Int) = 10 ^ prec := by unfold tenN; rw [if_neg (by omega)]; simp
  have e2 : tenD (prec : Int) = 1 := by unfold tenD; rw [if_neg (by omega)]
  rw [e1, e2, Nat.mul_one]
  obtain ⟨t, rfl⟩ : ∃ t, p = prec + m + t + 1 := ⟨p - prec - m - 1, by omega⟩
  have h3 : A * 10 ^ (prec + m + t + 1) = A * 10 ^ prec * 10 ^ t * 10 * 10 ^ m := by
    rw [Nat.pow_succ, Nat.pow_add, Nat.pow_add, ← Nat.mul_assoc, ← Nat.mul_assoc, ← Nat.mul_assoc]
    rw [Nat.mul_right_comm (A * 10 ^ prec) (10 ^ m), Nat.mul_right_comm _ (10 ^ m) 10]
  rw [h3, Nat.mul_comm (10 ^ m)] at h2
  have h4 : A * 10 ^ prec * 10 ^ t * 10 < D := Nat.lt_of_mul_lt_mul_right h2
  have h5 : A * 10 ^ prec * 1 ≤ A * 10 ^ prec * 10 ^ t := Nat.mul_le_mul_left _ (Nat.pow_pos (by omega))
  unfold NearI
  rw [Nat.zero_mul]
  constructor
  · left; omega
  · left; omega

theorem spTo_bytes {b c : ByteArray} {k : Nat} (hb : digTo b k = true) (hc : digTo c k = true) (h : spTo b k = spTo c k) : ∀ j, j < k → bAt b j = bAt c j := by
  induction k with
  | zero => intro j hj; omega
  | succ k ih =>
    have h1 : spTo b k * 10 + (bAt b k - 48) = spTo c k * 10 + (bAt c k - 48) := h
    have h2 := digTo_at (j := k) (by omega) hb
    have h3 := digTo_at (j := k) (by omega) hc
    have h4 := ih (digTo_le (by omega) hb) (digTo_le (by omega) hc) (by omega)
    intro j hj
    by_cases hjk : j = k
    · subst hjk; omega
    · exact h4 j (by omega)

theorem len_of_lt {N a b : Nat} (h1 : N < 10 ^ a) (h2 : b = 1 ∨ 10 ^ (b - 1) ≤ N) (ha : 0 < a) : b ≤ a := by
  rcases h2 with h2 | h2
  · omega
  · by_cases hc : b ≤ a
    · exact hc
    · have := Nat.pow_le_pow_right (n := 10) (show 0 < 10 by omega) (show a ≤ b - 1 by omega)
      omega

/-- the digits of a number are one string -/
theorem DigB.uniq {N : Nat} {b c : ByteArray} (hb : DigB N b) (hc : DigB N c) : b = c := by
  have h1 := len_of_lt hb.size.1 hc.size.2 hb.pos
  have h2 := len_of_lt hc.size.1 hb.size.2 hc.pos
  have hs : b.size = c.size := by omega
  refine ba_ext hs ?_
  have hd1 := hb.dig
  have hd2 := hc.dig
  unfold allDig at hd1 hd2
  rw [← hs] at hd2
  exact spTo_bytes hd1 hd2 (by rw [hb.val, hs, hc.val])

theorem spTo_dv (b : ByteArray) (k : Nat) : spTo b k = dv (bAt b) k := by
  induction k with
  | zero => rfl
  | succ k ih => show spTo b k * 10 + _ = dv (bAt b) k * 10 + _; rw [ih]

theorem dv_pad {h : Nat → Nat} {c : Nat} (z : Nat) (hz : ∀ j, c ≤ j → j < c + z → h j = 48) : dv h (c + z) = dv h c * 10 ^ z := by
  induction z with
  | zero => simp
  | succ z ih =>
    show dv h (c + z) * 10 + (h (c + z) - 48) = _
    rw [ih fun j h1 h2 => hz j h1 (by omega), hz (c + z) (by omega) (by omega), Nat.pow_succ, Nat.mul_assoc, Nat.sub_self, Nat.add_zero]

/-- digits out of a row, noughts behind them -/
theorem str_digB {o : Nat → Nat} {off cnt z : Nat} (hd : ∀ j, j < cnt → 48 ≤ o (off + j) ∧ o (off + j) ≤ 57) (hc : 0 < cnt) (hl : cnt + z = 1 ∨ o off ≠ 48) :
    DigB (dv (fun j => o (off + j)) cnt * 10 ^ z) (strOfNums (rowL (fun j => (o j : Int)) off cnt) ++ zerosB z) := by
  have hlen : (strOfNums (rowL (fun j => (o j : Int)) off cnt)).size = cnt := by rw [strOfNums_size, rowL_len]
  have hsz : (strOfNums (rowL (fun j => (o j : Int)) off cnt) ++ zerosB z).size = cnt + z := by rw [ByteArray.size_append, hlen, zerosB_size]
  have hat : ∀ j, j < cnt → bAt (strOfNums (rowL (fun j => (o j : Int)) off cnt) ++ zerosB z) j = o (off + j) := fun j hj => by
    rw [bAt_append, hlen, if_pos hj]
    have hm := (bAt_str (xs := rowL (fun j => (o j : Int)) off cnt) (j := j) (by rw [rowL_len]; exact hj) (fun x hx => rowL_mem (fun j => (o j : Int)) off cnt (fun x => 48 ≤ x ∧ x ≤ 57) (fun j hj => by have := hd j hj; omega) x hx)).1
    rw [hm, rowL_get _ _ _ _ hj]
    rfl
  have hz : ∀ j, cnt ≤ j → j < cnt + z → bAt (strOfNums (rowL (fun j => (o j : Int)) off cnt) ++ zerosB z) j = 48 := fun j h1 h2 => by
    rw [bAt_append, hlen, if_neg (by omega), zerosB_at (by omega)]
  generalize strOfNums (rowL (fun j => (o j : Int)) off cnt) ++ zerosB z = b at *
  refine ⟨?_, ?_, by omega, ?_⟩
  · unfold allDig
    rw [hsz, digTo_iff]
    intro j hj
    by_cases hjc : j < cnt
    · rw [hat j hjc]; exact hd j hjc
    · rw [hz j (by omega) hj]; omega
  · rw [hsz, spTo_dv, dv_pad z hz]
    congr 1
    exact dv_congr hat
  · rcases hl with hl | hl
    · left; omega
    · right
      rw [hat 0 hc]
      exact hl

end Go.Proofs.Ygcoab
