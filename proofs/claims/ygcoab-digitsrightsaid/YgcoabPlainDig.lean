/- One digit of the long division, in plain numbers. -/
import Derived.Test.YgcoabPlainDiv
namespace Go.Proofs.Ygcoab

/-- the guessed digit is the true one, or one above -/
structure DigAt (U D G : Nat) : Prop where
  lo : U / D ≤ G
  hi : G ≤ U / D + 1
  lt : G < 4294967296

theorem win_three (h : Nat → Nat) (j k : Nat) : nv (win h j) (k + 3) = ((h (j + (k + 2)) * 4294967296 + h (j + (k + 1))) * 4294967296 + h (j + k)) * 2 ^ (32 * k) + nv (win h j) k := by
  show nv (win h j) k + win h j k * 2 ^ (32 * k) + win h j (k + 1) * 2 ^ (32 * (k + 1)) + win h j (k + 2) * 2 ^ (32 * (k + 2)) = _
  rw [pow_next (k + 1), pow_next k]
  unfold win
  generalize 2 ^ (32 * k) = P
  generalize nv (fun i => h (j + i)) k = x
  generalize h (j + (k + 2)) = a
  generalize h (j + (k + 1)) = b
  generalize h (j + k) = c
  have e1 : a * (4294967296 * (4294967296 * P)) = a * 4294967296 * 4294967296 * P := by rw [Nat.mul_assoc (a * 4294967296), Nat.mul_assoc a]
  have e2 : b * (4294967296 * P) = b * 4294967296 * P := by rw [Nat.mul_assoc b]
  rw [Nat.add_mul, Nat.add_mul, Nat.add_mul, e1, e2]
  omega

theorem two_top (g : Nat → Nat) (k : Nat) : nv g (k + 2) = (g (k + 1) * 4294967296 + g k) * 2 ^ (32 * k) + nv g k := by
  show nv g k + g k * 2 ^ (32 * k) + g (k + 1) * 2 ^ (32 * (k + 1)) = _
  rw [pow_next k, Nat.add_mul, Nat.mul_assoc]
  omega

theorem dig_of {A D : Nat} {h e g : Nat → Nat} {n L K j : Nat} (H : DvAt A D h e n L K (j + 1)) (hL : j + n + 1 ≤ L) (hn : 2 ≤ n) (hf : ∀ k, h k < 4294967296) (hg : ∀ i, i < n → g i < 4294967296) (hD : nv g n = D) (ht : g (n - 1) ≠ 0) :
    h (j + n) ≤ g (n - 1) ∧ DigAt (nv (win h j) (n + 1)) D (gue (h (j + n)) (h (j + n - 1)) (h (j + n - 2)) (g (n - 1)) (g (n - 2))) := by
  obtain ⟨k, rfl⟩ : ∃ k, n = k + 2 := ⟨n - 2, by omega⟩
  have hD2 : D < 2 ^ (32 * (k + 2)) := by rw [← hD]; exact nv_lt hg
  obtain ⟨_, _, t3⟩ := H.top hL hD2
  rw [show k + 2 - 1 = k + 1 by omega, show k + 2 - 2 = k by omega, show j + (k + 2) - 1 = j + (k + 1) by omega, show j + (k + 2) - 2 = j + k by omega] at *
  have hU := nv_lt (f := win h j) (n := k) (fun i _ => hf _)
  have hDl := nv_lt (f := g) (n := k) (fun i hi => hg i (by omega))
  have hd := two_top g k
  have hw := win_three h j k
  rw [hD] at hd
  rw [show k + 2 + 1 = k + 3 by omega] at *
  have g0 := hg k (by omega)
  have h1 := hf (j + (k + 1))
  have h0 := hf (j + k)
  have hP := two_pow_pos' (32 * k)
  obtain ⟨P, hPP⟩ : ∃ P, P = 2 ^ (32 * k) := ⟨_, rfl⟩
  rw [← hPP] at hU hDl hd hw hP
  generalize nv (win h j) (k + 3) = U at *
  generalize nv (win h j) k = U' at *
  generalize nv g k = D' at *
  generalize h (j + (k + 2)) = u2 at *
  generalize h (j + (k + 1)) = u1 at *
  generalize h (j + k) = u0 at *
  generalize g (k + 1) = d1 at *
  generalize g k = d0 at *
  have hD0 : 0 < D := by
    rw [hd]
    have := Nat.mul_le_mul (show 1 ≤ d1 * 4294967296 + d0 by omega) (show 1 ≤ P from hP)
    omega
  refine ⟨?_, ?_⟩
  · by_cases hc : u2 ≤ d1
    · exact hc
    · exfalso
      have a1 := Nat.mul_le_mul_right P (show (d1 + 1) * 4294967296 * 4294967296 ≤ (u2 * 4294967296 + u1) * 4294967296 + u0 by omega)
      have a2 : D < (d1 + 1) * 4294967296 * P := by
        rw [hd]
        have := Nat.mul_le_mul_right P (show d1 * 4294967296 + d0 + 1 ≤ (d1 + 1) * 4294967296 by omega)
        rw [Nat.add_mul, Nat.one_mul] at this
        omega
      have a3 := Nat.mul_lt_mul_of_pos_right a2 (show 0 < 4294967296 by omega)
      have a4 : (d1 + 1) * 4294967296 * P * 4294967296 = (d1 + 1) * 4294967296 * 4294967296 * P := by rw [Nat.mul_right_comm]
      omega
  · have hk : U / D < 4294967296 := by
      rw [Nat.div_lt_iff_lt_mul hD0, Nat.mul_comm]
      exact t3
    rw [hw, hd] at hk ⊢
    obtain ⟨b1, b2⟩ := gue_digit (u2 := u2) (u1 := u1) (u0 := u0) (d1 := d1) (d0 := d0) (by omega) hU hDl hk
    refine ⟨b1, b2, ?_⟩
    have := gue_le u2 u1 u0 d1 d0
    omega

theorem Outside.trans {h h' h'' : Nat → Nat} {j n : Nat} (a : Outside h h' j n) (b : Outside h' h'' j n) : Outside h h'' j n := fun k hk => (b k hk).trans (a k hk)

/-- what takeAway says of the digit -/
theorem dig_take {A D : Nat} {h h' e : Nat → Nat} {n L K j G o : Nat} (H : DvAt A D h e n L K (j + 1)) (hL : j + n + 1 ≤ L) (hj : j < K) (hD : D < 2 ^ (32 * n)) (hD0 : 0 < D) (hf : ∀ k, h k < 4294967296) (hf' : ∀ k, h' k < 4294967296)
    (hG : DigAt (nv (win h j) (n + 1)) D G) (hO : Outside h h' j (n + 1)) (ho : o ≤ 1) (hv : nv (win h' j) (n + 1) + G * D = nv (win h j) (n + 1) + o * 2 ^ (32 * (n + 1))) :
    (o = 0 → DvAt A D h' (upd e j G) n L K j) ∧
    (o = 1 → 0 < G ∧ ∀ (h'' : Nat → Nat) (c : Nat), (∀ k, h'' k < 4294967296) → Outside h' h'' j (n + 1) → c ≤ 1 → nv (win h'' j) (n + 1) + c * 2 ^ (32 * (n + 1)) = nv (win h' j) (n + 1) + D → DvAt A D h'' (upd e j (G - 1)) n L K j) := by
  have hV := nv_lt (f := win h' j) (n := n + 1) (fun i _ => hf' _)
  have hr := digit_right hD0 hG.lo hV ho hv
  constructor
  · intro h0
    rcases hr with ⟨_, k1, k2⟩ | ⟨k, _⟩
    · rw [k1]
      exact H.next hL hj hD hD0 hf hO k2
    · omega
  · intro h1
    rcases hr with ⟨k, _⟩ | ⟨_, k1⟩
    · omega
    · have hh := hG.hi
      have hG1 : G = nv (win h j) (n + 1) / D + 1 := Nat.le_antisymm hh k1
      refine ⟨by rw [hG1]; exact Nat.succ_pos _, fun h'' c hf'' hO' hc hb => ?_⟩
      have hV'' := nv_lt (f := win h'' j) (n := n + 1) (fun i _ => hf'' _)
      subst h1
      rw [Nat.one_mul] at hv
      have := digit_back hD0 hG1 hv hc hV'' hb
      rw [show G - 1 = nv (win h j) (n + 1) / D by rw [hG1]; rfl]
      exact H.next hL hj hD hD0 hf (hO.trans hO') this

end Go.Proofs.Ygcoab
