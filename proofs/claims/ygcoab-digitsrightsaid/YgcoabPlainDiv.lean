/- Long division, in plain numbers. -/
import Derived.Test.YgcoabPlainGuess
import Derived.Test.YgcoabPlainShr
import Derived.Test.YgcoabPlainMul
import Derived.Test.YgcoabWTakeAway
namespace Go.Proofs.Ygcoab

/-- the guess against the true digit -/
theorem gue_digit {u2 u1 u0 d1 d0 P U' D' : Nat} (hd : 0 < d1) (hU : U' < P) (hD : D' < P) (hk : (((u2 * 4294967296 + u1) * 4294967296 + u0) * P + U') / ((d1 * 4294967296 + d0) * P + D') < 4294967296) :
    (((u2 * 4294967296 + u1) * 4294967296 + u0) * P + U') / ((d1 * 4294967296 + d0) * P + D') ≤ gue u2 u1 u0 d1 d0 ∧
    gue u2 u1 u0 d1 d0 ≤ (((u2 * 4294967296 + u1) * 4294967296 + u0) * P + U') / ((d1 * 4294967296 + d0) * P + D') + 1 := by
  obtain ⟨H, hH⟩ : ∃ H, H = (u2 * 4294967296 + u1) * 4294967296 + u0 := ⟨_, rfl⟩
  obtain ⟨G, hG⟩ : ∃ G, G = d1 * 4294967296 + d0 := ⟨_, rfl⟩
  have hG0 : 4294967296 ≤ G := by omega
  rw [← hH, ← hG] at hk ⊢
  have hP : 0 < P := by omega
  have hDp : 0 < G * P + D' := by
    have := Nat.mul_le_mul hG0 (show 1 ≤ P from hP)
    omega
  have hle := Nat.div_mul_le_self (H * P + U') (G * P + D')
  have hlt := Nat.lt_div_mul_add (a := H * P + U') hDp
  obtain ⟨k, hkk⟩ : ∃ k, k = (H * P + U') / (G * P + D') := ⟨_, rfl⟩
  rw [← hkk] at hk hle hlt ⊢
  constructor
  · apply le_gue hd (by omega)
    rw [← hH, ← hG]
    have h1 : k * G * P ≤ H * P + U' := by
      have : k * (G * P + D') = k * G * P + k * D' := by rw [Nat.mul_add, Nat.mul_assoc]
      omega
    by_cases hc : k * G ≤ H
    · exact hc
    · have := Nat.mul_le_mul_right P (show H + 1 ≤ k * G by omega)
      rw [Nat.add_mul, Nat.one_mul] at this
      omega
  · have he := gue_mul (u2 := u2) (u1 := u1) (u0 := u0) (d1 := d1) (d0 := d0) (Nat.le_refl _)
    have hel := gue_le u2 u1 u0 d1 d0
    rw [← hH, ← hG] at he
    generalize gue u2 u1 u0 d1 d0 = e at *
    by_cases hc : e ≤ k + 1
    · exact hc
    · exfalso
      have h2 : (k + 2) * (G * P + D') ≤ e * (G * P + D') := Nat.mul_le_mul_right _ (by omega)
      have h3 : e * (G * P + D') = e * G * P + e * D' := by rw [Nat.mul_add, Nat.mul_assoc]
      have h4 := Nat.mul_le_mul_right P he
      have h5 : e * D' ≤ e * P := Nat.mul_le_mul_left e (by omega)
      have h6 : e * P ≤ 4294967296 * P := Nat.mul_le_mul_right P (by omega)
      have h7 : 4294967296 * P ≤ G * P := Nat.mul_le_mul_right P hG0
      have h8 : (k + 2) * (G * P + D') = k * (G * P + D') + (G * P + D') + (G * P + D') := by
        rw [Nat.add_mul]; omega
      omega

/-- one digit: what takeAway and putBack leave -/
theorem digit_right {U D e o V M : Nat} (hD : 0 < D) (h1 : U / D ≤ e) (hV : V < M) (ho : o ≤ 1) (h : V + e * D = U + o * M) :
    (o = 0 ∧ e = U / D ∧ V = U % D) ∨ (o = 1 ∧ U / D < e) := by
  rcases Nat.eq_zero_or_pos o with h0 | h0
  · left
    subst h0
    rw [Nat.zero_mul, Nat.add_zero] at h
    have h2 : e ≤ U / D := by rw [Nat.le_div_iff_mul_le hD]; omega
    have he : e = U / D := by omega
    refine ⟨rfl, he, ?_⟩
    have := Nat.div_add_mod U D
    rw [he, Nat.mul_comm] at h
    omega
  · right
    have : o = 1 := by omega
    subst this
    rw [Nat.one_mul] at h
    refine ⟨rfl, ?_⟩
    by_cases hc : U / D < e
    · exact hc
    · have he : e = U / D := by omega
      have := Nat.div_mul_le_self U D
      rw [he] at h
      omega

theorem digit_back {U D e V V' c M : Nat} (hD : 0 < D) (he : e = U / D + 1) (h : V + e * D = U + M) (hc : c ≤ 1) (hV' : V' < M) (h' : V' + c * M = V + D) : V' = U % D := by
  have h1 := Nat.div_add_mod U D
  have h2 := Nat.mod_lt U hD
  have h3 : e * D = D * (U / D) + D := by rw [he, Nat.add_mul, Nat.one_mul, Nat.mul_comm]
  rcases Nat.eq_zero_or_pos c with h0 | h0
  · subst h0
    omega
  · have : c = 1 := by omega
    subst this
    omega

/-- divLong's loop: the digits from j on are done -/
structure DvAt (A D : Nat) (h e : Nat → Nat) (n L K j : Nat) : Prop where
  val : nv h L + D * nv e K = A
  lt : nv h L < D * 2 ^ (32 * j)
  low : ∀ k, k < j → e k = 0

theorem row_split {h : Nat → Nat} {j n L : Nat} (hL : j + n + 1 ≤ L) : nv h L = nv h j + (nv (win h j) (n + 1) + nv (fun k => h (j + (n + 1 + k))) (L - j - (n + 1)) * 2 ^ (32 * (n + 1))) * 2 ^ (32 * j) := by
  have h1 := nv_split h j (L - j)
  rw [show j + (L - j) = L by omega] at h1
  have h2 := nv_split (fun i => h (j + i)) (n + 1) (L - j - (n + 1))
  rw [show n + 1 + (L - j - (n + 1)) = L - j by omega] at h2
  rw [h1, h2]
  rfl

theorem DvAt.top {A D : Nat} {h e : Nat → Nat} {n L K j : Nat} (H : DvAt A D h e n L K (j + 1)) (hL : j + n + 1 ≤ L) (hD : D < 2 ^ (32 * n)) :
    nv (fun k => h (j + (n + 1 + k))) (L - j - (n + 1)) = 0 ∧ nv h L = nv h j + nv (win h j) (n + 1) * 2 ^ (32 * j) ∧ nv (win h j) (n + 1) < D * 4294967296 := by
  have h1 := row_split (h := h) hL
  have h2 := H.lt
  rw [pow_next] at h2
  have hP := two_pow_pos' (32 * j)
  obtain ⟨P, hPP⟩ : ∃ P, P = 2 ^ (32 * j) := ⟨_, rfl⟩
  rw [← hPP] at h1 h2 hP ⊢
  obtain ⟨R, hR⟩ : ∃ R, R = nv (fun k => h (j + (n + 1 + k))) (L - j - (n + 1)) := ⟨_, rfl⟩
  rw [← hR] at h1 ⊢
  have h3 : nv (win h j) (n + 1) + R * 2 ^ (32 * (n + 1)) < D * 4294967296 := by
    by_cases hc : nv (win h j) (n + 1) + R * 2 ^ (32 * (n + 1)) < D * 4294967296
    · exact hc
    · have := Nat.mul_le_mul_right P (show D * 4294967296 ≤ nv (win h j) (n + 1) + R * 2 ^ (32 * (n + 1)) by omega)
      rw [Nat.mul_assoc] at this
      omega
  have h4 : R = 0 := by
    rcases Nat.eq_zero_or_pos R with h0 | h0
    · exact h0
    · have h5 := Nat.mul_le_mul_right (2 ^ (32 * (n + 1))) (show 1 ≤ R from h0)
      have h6 := Nat.mul_le_mul_right 4294967296 (show D ≤ 2 ^ (32 * n) by omega)
      rw [pow_next, Nat.mul_comm 4294967296] at h5
      rw [pow_next, Nat.mul_comm 4294967296] at h3
      omega
  refine ⟨h4, ?_, ?_⟩
  · rw [h1, h4, Nat.zero_mul, Nat.add_zero]
  · omega

theorem DvAt.next {A D : Nat} {h h' e : Nat → Nat} {n L K j : Nat} (H : DvAt A D h e n L K (j + 1)) (hL : j + n + 1 ≤ L) (hj : j < K) (hD : D < 2 ^ (32 * n)) (hD0 : 0 < D) (hf : ∀ k, h k < 4294967296)
    (hO : Outside h h' j (n + 1)) (hv : nv (win h' j) (n + 1) = nv (win h j) (n + 1) % D) : DvAt A D h' (upd e j (nv (win h j) (n + 1) / D)) n L K j := by
  obtain ⟨t1, t2, t3⟩ := H.top hL hD
  have h1 := row_split (h := h') hL
  have e1 : nv h' j = nv h j := nv_congr fun k hk => hO k (.inl hk)
  have e2 : nv (fun k => h' (j + (n + 1 + k))) (L - j - (n + 1)) = 0 := by
    rw [← t1]
    exact nv_congr fun k _ => hO _ (.inr (by omega))
  rw [e1, e2, Nat.zero_mul, Nat.add_zero, hv] at h1
  have h2 := nv_upd (h := e) (k := j) (x := nv (win h j) (n + 1) / D) (n := K) hj
  rw [H.low j (by omega), Nat.zero_mul, Nat.add_zero] at h2
  have h3 := H.val
  have h4 := Nat.div_add_mod (nv (win h j) (n + 1)) D
  have h5 := Nat.mod_lt (nv (win h j) (n + 1)) hD0
  have h6 := nv_lt (f := h) (n := j) (fun k _ => hf k)
  obtain ⟨P, hPP⟩ : ∃ P, P = 2 ^ (32 * j) := ⟨_, rfl⟩
  rw [← hPP] at h1 h2 t2 h6
  generalize nv (win h j) (n + 1) = U at *
  obtain ⟨q, hq⟩ : ∃ q, q = U / D := ⟨_, rfl⟩
  obtain ⟨r, hr⟩ : ∃ r, r = U % D := ⟨_, rfl⟩
  rw [← hq] at h2 h4 ⊢
  rw [← hr] at h1 h4 h5
  refine ⟨?_, ?_, fun k hk => ?_⟩
  · rw [h1, h2, Nat.mul_add]
    have h7 : r * P + D * (q * P) = U * P := by rw [← h4, Nat.add_mul, Nat.mul_assoc]; omega
    omega
  · rw [h1, ← hPP]
    have := Nat.mul_le_mul_right P (show r + 1 ≤ D by omega)
    rw [Nat.add_mul, Nat.one_mul] at this
    omega
  · unfold upd
    rw [if_neg (by omega)]
    exact H.low k (by omega)

theorem DvAt.done {A D : Nat} {h e : Nat → Nat} {n L K : Nat} (H : DvAt A D h e n L K 0) : nv e K = A / D ∧ nv h L = A % D := by
  have h1 := H.val
  have h2 := H.lt
  simp at h2
  have hd : 0 < D := by omega
  constructor
  · rw [← h1, Nat.add_mul_div_left _ _ hd, Nat.div_eq_of_lt h2, Nat.zero_add]
  · rw [← h1, Nat.add_mul_mod_self_left, Nat.mod_eq_of_lt h2]

end Go.Proofs.Ygcoab
