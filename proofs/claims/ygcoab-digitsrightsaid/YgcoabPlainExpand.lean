import Derived.Test.YgcoabWFracA
import Derived.Test.YgcoabWValue
namespace Go.Proofs.Ygcoab
open Go.RowKit

/-- man * 2^ex is m0 * 2^e0, halved i times -/
def RdAt (m0 : Nat) (e0 : Int) (man : Nat) (ex : Int) : Prop := ∃ i : Nat, man * 2 ^ i = m0 ∧ ex = e0 + i ∧ (i = 0 ∨ ex ≤ 0)

theorem RdAt.start (m0 : Nat) (e0 : Int) : RdAt m0 e0 m0 e0 := ⟨0, by simp, by simp, .inl rfl⟩

theorem RdAt.next {m0 : Nat} {e0 : Int} {man : Nat} {ex : Int} (h : RdAt m0 e0 man ex) (h2 : man % 2 = 0) (he : ex < 0) : RdAt m0 e0 (man / 2) (ex + 1) := by
  obtain ⟨i, h1, h3, h4⟩ := h
  refine ⟨i + 1, ?_, by omega, .inr (by omega)⟩
  rw [← h1, Nat.pow_succ, Nat.mul_comm (2 ^ i), ← Nat.mul_assoc]
  congr 1
  omega

theorem RdAt.le {m0 : Nat} {e0 : Int} {man : Nat} {ex : Int} (h : RdAt m0 e0 man ex) : man ≤ m0 := by
  obtain ⟨i, h1, _, _⟩ := h
  rw [← h1]
  exact Nat.le_mul_of_pos_right _ (Nat.pow_pos (by omega))

theorem RdAt.pos {m0 : Nat} {e0 : Int} {man : Nat} {ex : Int} (h : RdAt m0 e0 man ex) (h0 : 0 < m0) : 0 < man := by
  obtain ⟨i, h1, _, _⟩ := h
  cases man with
  | zero => rw [Nat.zero_mul] at h1; omega
  | succ n => omega

theorem RdAt.ge {m0 : Nat} {e0 : Int} {man : Nat} {ex : Int} (h : RdAt m0 e0 man ex) : e0 ≤ ex := by
  obtain ⟨i, _, h1, _⟩ := h
  omega

theorem RdAt.up {m0 : Nat} {e0 b : Int} {man : Nat} {ex : Int} (h : RdAt m0 e0 man ex) (h0 : e0 ≤ b) (hb : 0 ≤ b) : ex ≤ b := by
  obtain ⟨i, _, h1, h2⟩ := h
  rcases h2 with h2 | h2 <;> omega

/-- an odd number has no factor two: so much was halved -/
theorem RdAt.low {m0 c j : Nat} {e0 : Int} {man : Nat} {ex b : Int} (h : RdAt m0 e0 man ex) (hc : m0 = c * 2 ^ j) (hb : b ≤ e0 + j) (hb0 : b ≤ 0) (hd : man % 2 = 1 ∨ 0 ≤ ex) : b ≤ ex := by
  obtain ⟨i, h1, h2, h3⟩ := h
  rcases hd with hd | hd
  · by_cases hij : j ≤ i
    · omega
    · exfalso
      have h4 : j = i + (j - i) := by omega
      rw [hc, h4, Nat.pow_add, ← Nat.mul_assoc, Nat.mul_right_comm] at h1
      have h5 := Nat.eq_of_mul_eq_mul_right (Nat.pow_pos (n := i) (show 0 < 2 by omega)) h1
      have h6 : j - i = (j - i - 1) + 1 := by omega
      rw [h6, Nat.pow_succ, ← Nat.mul_assoc] at h5
      omega
  · omega

theorem RdAt.val {m0 : Nat} {e0 : Int} {man : Nat} {ex : Int} (h : RdAt m0 e0 man ex) : sNum m0 e0 * sDen ex = sNum man ex * sDen e0 := by
  obtain ⟨i, h1, h2, h3⟩ := h
  unfold sNum sDen
  by_cases he : e0 < 0
  · rw [if_pos he, if_pos he]
    by_cases hx : ex < 0
    · rw [if_pos hx, if_pos hx, ← h1, Nat.mul_assoc, ← Nat.pow_add]
      congr 2
      omega
    · have hx0 : ex = 0 := by rcases h3 with h3 | h3 <;> omega
      have hi : (-e0).toNat = i := by omega
      rw [if_neg hx, if_neg hx, hx0, hi, ← h1]
      simp
  · have hi : i = 0 := by rcases h3 with h3 | h3 <;> omega
    subst hi
    have : ex = e0 := by omega
    have hm : man = m0 := by simpa using h1
    rw [this, hm]

theorem sDen_pos (k : Int) : 0 < sDen k := by
  unfold sDen
  split
  · exact Nat.pow_pos (by omega)
  · omega

/-- the expansion of one fraction is that of an equal one -/
theorem ExpOk.same {A D A' D' : Nat} {g : Nat → Nat} {n : Nat} {top sig pr : Int} (h : ExpOk A' D' g n top sig pr) (he : A * D' = A' * D) (h0 : 0 < D') (h1 : 0 < D) : ExpOk A D g n top sig pr := by
  obtain ⟨p, N, h⟩ := h
  have key : A * 10 ^ p * D' = A' * 10 ^ p * D := by rw [Nat.mul_right_comm, he, Nat.mul_right_comm]
  refine ⟨p, N, ?_⟩
  rcases h with ⟨a, b, c⟩ | ⟨m, a, b, c, d, e, f⟩
  · refine .inl ⟨a, ?_, c⟩
    apply Nat.eq_of_mul_eq_mul_right h0
    rw [key, b, Nat.mul_right_comm]
  · refine .inr ⟨m, a, b, c, ?_, ?_, f⟩
    · apply Nat.lt_of_mul_lt_mul_right (a := D')
      rw [key, Nat.mul_right_comm]
      exact Nat.mul_lt_mul_of_pos_right d h1
    · apply Nat.lt_of_mul_lt_mul_right (a := D')
      rw [key, Nat.mul_right_comm (N + 1)]
      exact Nat.mul_lt_mul_of_pos_right e h1

theorem parts_ok {E M : Nat} (h : FOk E M) (x : Nat) (hf : expF E M x ≠ topE E) (hz : clsF E M x ≠ 0) :
    (∃ c j : Nat, pMan E M x = c * 2 ^ j ∧ -1074 ≤ pExp E M x + j) ∧ pExp E M x ≤ 1023 ∧ pMan E M x < 9007199254740992 := by
  have h1 := bias_lt h
  have h2 := expF_le h x
  have h3 := h.m2
  have h4 := pMan_lt E M x
  have h5 : (2 : Nat) ^ (M + 1) ≤ 9007199254740992 := two_pow_le (k := 53) (by omega)
  refine ⟨?_, ?_, by omega⟩
  · unfold pMan pExp
    rw [if_neg hf, if_neg hf]
    by_cases he : expF E M x = 0
    · rw [if_pos he, if_pos he]
      by_cases hfr : fracF M x = 0
      · exfalso
        apply hz
        unfold clsF
        rw [if_neg hf, if_neg (by simpa using he), if_neg (by simpa using hfr)]
      · rw [if_neg hfr, if_neg hfr]
        exact ⟨_, _, rfl, by omega⟩
    · rw [if_neg he, if_neg he]
      exact ⟨_, 0, by rw [Nat.pow_zero, Nat.mul_one], by omega⟩
  · unfold pExp
    rw [if_neg hf]
    split
    · split
      · omega
      · omega
    · have h6 : expF E M x < 2 ^ E := Nat.mod_lt _ (two_pow_pos' E)
      have h7 : (2 : Nat) ^ E = 2 ^ (E - 1) + 2 ^ (E - 1) := by
        have := h.e1
        have h8 : E = (E - 1) + 1 := by omega
        conv => lhs; rw [h8, Nat.pow_succ]
        omega
      have h9 := two_pow_pos' (E - 1)
      unfold biasN at h1 ⊢
      unfold topE at hf
      omega

end Go.Proofs.Ygcoab
