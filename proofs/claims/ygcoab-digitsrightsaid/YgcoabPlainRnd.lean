import Derived.Test.YgcoabPlainDigZ
import Derived.Test.YgcoabPlainExpand
namespace Go.Proofs.Ygcoab
open Go.RowKit

/-- a is X / Y rounded to the nearest, ties to even -/
def NearI (X Y a : Nat) : Prop := (2 * (a * Y) < 2 * X + Y ∨ (2 * (a * Y) = 2 * X + Y ∧ a % 2 = 0)) ∧ (2 * X < 2 * (a * Y) + Y ∨ (2 * X = 2 * (a * Y) + Y ∧ a % 2 = 0))

theorem NearW.near {X Y a : Nat} (h : NearW X Y a) : NearI X Y a := by
  unfold NearW sumV at h
  unfold NearI
  rw [if_neg (by simp)] at h
  split at h
  · constructor <;> omega
  · constructor <;> omega

theorem NearI.uniq_le {X Y a b : Nat} (ha : NearI X Y a) (hb : NearI X Y b) (hY : 0 < Y) (hab : a < b) : False := by
  have h1 := ha.2
  have h2 := hb.1
  have h3 : (a + 1) * Y ≤ b * Y := Nat.mul_le_mul_right _ hab
  rw [Nat.add_mul, Nat.one_mul] at h3
  by_cases hb1 : b = a + 1
  · subst hb1
    rw [Nat.add_mul, Nat.one_mul] at h2
    omega
  · have h4 : (a + 2) * Y ≤ b * Y := Nat.mul_le_mul_right _ (by omega)
    rw [Nat.add_mul] at h4
    omega

theorem NearI.uniq {X Y a b : Nat} (ha : NearI X Y a) (hb : NearI X Y b) (hY : 0 < Y) : a = b := by
  rcases Nat.lt_trichotomy a b with h | h | h
  · exact (ha.uniq_le hb hY h).elim
  · exact h
  · exact (hb.uniq_le ha hY h).elim

theorem cancel_lt {a b c : Nat} (h : a * c < b * c) : a < b := Nat.lt_of_mul_lt_mul_right h

theorem NearI.scale {X Y X' Y' a : Nat} (h : NearI X Y a) (he : X * Y' = X' * Y) (hY : 0 < Y) (hY' : 0 < Y') : NearI X' Y' a := by
  have e1 : 2 * (a * Y') * Y = 2 * (a * Y) * Y' := by
    rw [Nat.mul_assoc 2, Nat.mul_assoc 2, Nat.mul_assoc a, Nat.mul_assoc a, Nat.mul_comm Y' Y]
  have e2 : (2 * X' + Y') * Y = (2 * X + Y) * Y' := by
    rw [Nat.add_mul, Nat.add_mul, Nat.mul_assoc, Nat.mul_assoc, he, Nat.mul_comm Y' Y]
  have e3 : (2 * (a * Y') + Y') * Y = (2 * (a * Y) + Y) * Y' := by
    rw [Nat.add_mul, Nat.add_mul, e1, Nat.mul_comm Y' Y]
  have e4 : 2 * X' * Y = 2 * X * Y' := by rw [Nat.mul_assoc, Nat.mul_assoc, he]
  constructor
  · rcases h.1 with q | ⟨q, r⟩
    · left
      apply cancel_lt (c := Y)
      rw [e1, e2]
      exact Nat.mul_lt_mul_of_pos_right q hY'
    · right
      refine ⟨?_, r⟩
      apply Nat.eq_of_mul_eq_mul_right hY
      rw [e1, e2, q]
  · rcases h.2 with q | ⟨q, r⟩
    · left
      apply cancel_lt (c := Y)
      rw [e3, e4]
      exact Nat.mul_lt_mul_of_pos_right q hY'
    · right
      refine ⟨?_, r⟩
      apply Nat.eq_of_mul_eq_mul_right hY
      rw [e3, e4, q]

theorem units_uniq {A D a : Nat} {k : Int} (hD : 0 < D) (h : NearI (A * tenN (-k)) (D * tenD (-k)) a) : unitsN A D k = a :=
  (units_near hD).near.uniq h (Nat.mul_pos hD (tenD_pos _))

/-- rounding a whole number's digits away -/
theorem near_cut {N q r R : Nat} {up : Bool} (hN : N = q * R + r) (hr : r < R) (hu : up = true ↔ (R < 2 * r ∨ (R = 2 * r ∧ q % 2 = 1))) : NearI N R (q + if up then 1 else 0) := by
  unfold NearI
  cases up
  · have h1 : ¬ (R < 2 * r ∨ (R = 2 * r ∧ q % 2 = 1)) := fun h => by have := hu.2 h; cases this
    simp only [Bool.false_eq_true, if_false, Nat.add_zero]
    rw [hN]
    constructor
    · left
      omega
    · by_cases h2 : 2 * r < R
      · left
        omega
      · right
        omega
  · have h1 := hu.1 rfl
    simp only [if_true]
    rw [hN, Nat.add_mul, Nat.one_mul]
    constructor
    · by_cases h2 : R < 2 * r
      · left
        omega
      · right
        omega
    · left
      omega

/-- the same where something is left behind the last digit -/
theorem near_open {X D N q r R : Nat} {up : Bool} (hN : N = q * R + r) (hr : r < R) (hR : R % 2 = 0) (h1 : N * D < X) (h2 : X < (N + 1) * D) (hu : up = true ↔ R ≤ 2 * r) : NearI X (D * R) (q + if up then 1 else 0) := by
  have e : ∀ a, a * (D * R) = a * R * D := fun a => by rw [Nat.mul_comm D, Nat.mul_assoc]
  have eN : N * D = q * R * D + r * D := by rw [hN, Nat.add_mul]
  rw [Nat.add_mul, Nat.one_mul, eN] at h2
  rw [eN] at h1
  unfold NearI
  rw [e, Nat.mul_comm D R]
  cases up
  · have h3 : ¬ R ≤ 2 * r := fun h => by have := hu.2 h; cases this
    simp only [Bool.false_eq_true, if_false, Nat.add_zero]
    have h4 : (2 * (r + 1)) * D ≤ R * D := Nat.mul_le_mul_right _ (by omega)
    rw [Nat.mul_assoc, Nat.add_mul, Nat.one_mul] at h4
    constructor
    · left
      omega
    · left
      omega
  · have h3 := hu.1 rfl
    simp only [if_true]
    rw [Nat.add_mul, Nat.one_mul, Nat.add_mul]
    have h4 : R * D ≤ (2 * r) * D := Nat.mul_le_mul_right _ h3
    have h5 : (r + 1) * D ≤ R * D := Nat.mul_le_mul_right _ (by omega)
    rw [Nat.mul_assoc] at h4
    rw [Nat.add_mul, Nat.one_mul] at h5
    constructor
    · left
      omega
    · left
      omega

/-- the digits behind the first k -/
def dvr (g : Nat → Nat) (k : Nat) : Nat → Nat
  | 0 => 0
  | m + 1 => dvr g k m * 10 + (g (k + m) - 48)

theorem dv_cut (g : Nat → Nat) (k m : Nat) : dv g (k + m) = dv g k * 10 ^ m + dvr g k m := by
  induction m with
  | zero => simp [dvr]
  | succ m ih =>
    show dv g (k + m) * 10 + (g (k + m) - 48) = dv g k * 10 ^ (m + 1) + (dvr g k m * 10 + (g (k + m) - 48))
    rw [ih, Nat.pow_succ, Nat.add_mul, ← Nat.mul_assoc, Nat.add_assoc]

theorem dvr_lt {g : Nat → Nat} {k m : Nat} (h : ∀ j, j < m → 48 ≤ g (k + j) ∧ g (k + j) ≤ 57) : dvr g k m < 10 ^ m := by
  induction m with
  | zero => exact Nat.one_pos
  | succ m ih =>
    have h1 := ih fun j hj => h j (by omega)
    have h2 := h m (by omega)
    show dvr g k m * 10 + (g (k + m) - 48) < 10 ^ (m + 1)
    rw [Nat.pow_succ]
    omega

theorem dvr_first (g : Nat → Nat) (k m : Nat) : dvr g k (m + 1) = (g k - 48) * 10 ^ m + dvr g (k + 1) m := by
  induction m with
  | zero => show 0 * 10 + (g (k + 0) - 48) = _; simp [dvr]
  | succ m ih =>
    show dvr g k (m + 1) * 10 + (g (k + (m + 1)) - 48) = (g k - 48) * 10 ^ (m + 1) + (dvr g (k + 1) m * 10 + (g (k + 1 + m) - 48))
    rw [ih, Nat.pow_succ, Nat.add_mul, ← Nat.mul_assoc, show k + (m + 1) = k + 1 + m by omega, Nat.add_assoc]

theorem dvr_zero {g : Nat → Nat} {k m : Nat} (h : ∀ j, j < m → 48 ≤ g (k + j)) : dvr g k m = 0 ↔ ∀ j, j < m → g (k + j) = 48 := by
  induction m with
  | zero => exact ⟨fun _ j hj => by omega, fun _ => rfl⟩
  | succ m ih =>
    have ih' := ih fun j hj => h j (by omega)
    have hm := h m (by omega)
    constructor
    · intro h0
      have h1 : dvr g k m * 10 + (g (k + m) - 48) = 0 := h0
      intro j hj
      by_cases hjm : j = m
      · subst hjm; omega
      · exact ih'.1 (by omega) j (by omega)
    · intro h0
      show dvr g k m * 10 + (g (k + m) - 48) = 0
      rw [ih'.2 fun j hj => h0 j (by omega), h0 m (by omega)]

/-- m digits from k on are noughts -/
def allZ (g : Nat → Nat) (k : Nat) : Nat → Bool
  | 0 => true
  | m + 1 => allZ g k m && decide (g (k + m) = 48)

theorem allZ_iff (g : Nat → Nat) (k m : Nat) : allZ g k m = true ↔ ∀ j, j < m → g (k + j) = 48 := by
  induction m with
  | zero => exact ⟨fun _ j hj => by omega, fun _ => rfl⟩
  | succ m ih =>
    unfold allZ
    rw [Bool.and_eq_true, ih, decide_eq_true_iff]
    constructor
    · rintro ⟨h1, h2⟩ j hj
      by_cases hjm : j = m
      · rw [hjm]; exact h2
      · exact h1 j (by omega)
    · intro h
      exact ⟨fun j hj => h j (by omega), h m (by omega)⟩

/-- whether the digits behind the first keep lift them -/
def upF (g : Nat → Nat) (n keep : Nat) : Bool := decide (keep < n ∧ (53 < g keep ∨ (g keep = 53 ∧ (allZ g (keep + 1) (n - (keep + 1)) = false ∨ dv g keep % 2 = 1))))

/-- what is left of the digits: the first keep of them, lifted, with noughts behind -/
def rndN (g : Nat → Nat) (n keep : Nat) : Nat := (dv g (min keep n) + if upF g n keep then 1 else 0) * 10 ^ (keep - n)

theorem near_exact {g : Nat → Nat} {n keep : Nat} (hd : ∀ j, j < n → 48 ≤ g j ∧ g j ≤ 57) (hk : keep < n) : NearI (dv g n) (10 ^ (n - keep)) (rndN g n keep) := by
  obtain ⟨m, rfl⟩ : ∃ m, n = keep + (m + 1) := ⟨n - keep - 1, by omega⟩
  unfold rndN
  rw [Nat.min_eq_left (by omega), show keep - (keep + (m + 1)) = 0 by omega, Nat.pow_zero, Nat.mul_one, show keep + (m + 1) - keep = m + 1 by omega]
  have hr := dvr_lt (g := g) (k := keep) (m := m + 1) fun j hj => hd _ (by omega)
  have hr2 := dvr_lt (g := g) (k := keep + 1) (m := m) fun j hj => hd _ (by omega)
  have hz := dvr_zero (g := g) (k := keep + 1) (m := m) fun j hj => (hd _ (by omega)).1
  have hf := dvr_first g keep m
  have hc := hd keep (by omega)
  refine near_cut (dv_cut g keep (m + 1)) hr ?_
  unfold upF
  rw [decide_eq_true_iff, hf, Nat.pow_succ]
  have hex : allZ g (keep + 1) (keep + (m + 1) - (keep + 1)) = false ↔ dvr g (keep + 1) m ≠ 0 := by
    rw [show keep + (m + 1) - (keep + 1) = m by omega, Ne, hz, ← allZ_iff]
    simp
  rw [hex]
  generalize dvr g (keep + 1) m = r2 at *
  generalize dv g keep = q at *
  generalize 10 ^ m = P at *
  obtain ⟨c, hc'⟩ : ∃ c, g keep = 48 + c := ⟨g keep - 48, by omega⟩
  rw [hc'] at hc ⊢
  rw [Nat.add_sub_cancel_left]
  have hlt : keep < keep + (m + 1) := by omega
  have hcl : c ≤ 9 := by omega
  have key : c = 0 ∨ c = 1 ∨ c = 2 ∨ c = 3 ∨ c = 4 ∨ c = 5 ∨ c = 6 ∨ c = 7 ∨ c = 8 ∨ c = 9 := by omega
  rcases key with rfl | rfl | rfl | rfl | rfl | rfl | rfl | rfl | rfl | rfl <;> omega

theorem near_sticky {A D p : Nat} {g : Nat → Nat} {m keep : Nat} (hd : ∀ j, j < m → 48 ≤ g j ∧ g j ≤ 57) (hk : keep < m) (h49 : g m = 49) (h1 : dv g m * D < A * 10 ^ p) (h2 : A * 10 ^ p < (dv g m + 1) * D) : NearI (A * 10 ^ p) (D * 10 ^ (m - keep)) (rndN g (m + 1) keep) := by
  obtain ⟨t, rfl⟩ : ∃ t, m = keep + (t + 1) := ⟨m - keep - 1, by omega⟩
  unfold rndN
  rw [Nat.min_eq_left (by omega), show keep - (keep + (t + 1) + 1) = 0 by omega, Nat.pow_zero, Nat.mul_one, show keep + (t + 1) - keep = t + 1 by omega]
  have hr := dvr_lt (g := g) (k := keep) (m := t + 1) fun j hj => hd _ (by omega)
  have hr2 := dvr_lt (g := g) (k := keep + 1) (m := t) fun j hj => hd _ (by omega)
  have hf := dvr_first g keep t
  have hc := hd keep (by omega)
  refine near_open (dv_cut g keep (t + 1)) hr (by rw [Nat.pow_succ]; omega) h1 h2 ?_
  unfold upF
  rw [decide_eq_true_iff, hf, Nat.pow_succ]
  have hex : allZ g (keep + 1) (keep + (t + 1) + 1 - (keep + 1)) = false := by
    have h := mt (allZ_iff g (keep + 1) (keep + (t + 1) + 1 - (keep + 1))).1 (fun h => by
      have := h t (by omega)
      rw [show keep + 1 + t = keep + (t + 1) by omega] at this
      omega)
    simpa using h
  have hlt : keep < keep + (t + 1) + 1 := by omega
  simp only [hex, hlt, true_and, true_or, and_true]
  generalize dvr g (keep + 1) t = r2 at *
  generalize 10 ^ t = P at *
  clear hex h49 h1 h2 hr hf
  obtain ⟨c, hc'⟩ : ∃ c, g keep = 48 + c := ⟨g keep - 48, by omega⟩
  rw [hc'] at hc ⊢
  rw [Nat.add_sub_cancel_left]
  have key : c = 0 ∨ c = 1 ∨ c = 2 ∨ c = 3 ∨ c = 4 ∨ c = 5 ∨ c = 6 ∨ c = 7 ∨ c = 8 ∨ c = 9 := by omega
  rcases key with rfl | rfl | rfl | rfl | rfl | rfl | rfl | rfl | rfl | rfl <;> omega

end Go.Proofs.Ygcoab
