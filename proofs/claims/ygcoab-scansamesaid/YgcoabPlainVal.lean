/- Plain: what a string of digits spells; Itoa read back. No Go in sight. -/
import Derived.Test.YgcoabPlainFixed
namespace Go.Proofs.Ygcoab
open Go.RowKit

/-- what the first k digits of s spell -/
def valTo (s : ByteArray) : Nat → Nat
  | 0 => 0
  | k + 1 => 10 * valTo s k + (bAt s k - 48)

theorem valTo_mono (s : ByteArray) {j k : Nat} (h : j ≤ k) : valTo s j ≤ valTo s k := by
  induction k with
  | zero => have : j = 0 := by omega
            subst this; omega
  | succ k ih =>
    by_cases e : j = k + 1
    · subst e; omega
    · have := ih (by omega)
      simp only [valTo]; omega

def valL : List Int → Int := fun xs => xs.foldl (fun a d => 10 * a + (d - 48)) 0

theorem valL_snoc (xs : List Int) (d : Int) : valL (xs ++ [d]) = 10 * valL xs + (d - 48) := by
  unfold valL; rw [List.foldl_append]; rfl

theorem valL_digsL (f u : Nat) (hf : 0 < f) (h : u < 10 ^ f) : valL (digsL f u) = u := by
  induction f generalizing u with
  | zero => omega
  | succ f ih =>
    simp only [digsL]
    rw [valL_snoc]
    split
    · rename_i h0
      show 10 * 0 + _ = _
      omega
    · rename_i h0
      have hd := div_lt_pow (a := f + 1) (by omega) h
      simp only [Nat.add_sub_cancel] at hd
      have hf' := one_le_of_pow h0 hd
      rw [ih (u / 10) (by omega) hd]
      omega

theorem digsL_range (f u : Nat) : ∀ x ∈ digsL f u, 48 ≤ x ∧ x ≤ 57 := by
  induction f generalizing u with
  | zero => intro x hx; simp [digsL] at hx
  | succ f ih =>
    intro x hx
    simp only [digsL, List.mem_append, List.mem_singleton] at hx
    rcases hx with hx | hx
    · split at hx
      · simp at hx
      · exact ih _ x hx
    · omega

theorem digsL_len_le (f u m : Nat) (hm : 0 < m) (h : u < 10 ^ m) : (digsL f u).length ≤ m := by
  induction f generalizing u m with
  | zero => simp [digsL]
  | succ f ih =>
    simp only [digsL]
    split
    · simp; omega
    · rename_i h0
      have hd := div_lt_pow (a := m) (by omega) h
      have hm' := one_le_of_pow h0 hd
      have := ih (u / 10) (m - 1) (by omega) hd
      simp; omega

theorem digsL_head (f u : Nat) (hu : 0 < u) (h : u < 10 ^ f) : (digsL f u).getD 0 0 ≠ 48 := by
  induction f generalizing u with
  | zero => simp at h; omega
  | succ f ih =>
    simp only [digsL]
    split
    · simp; omega
    · rename_i h0
      have hd := div_lt_pow (a := f + 1) (by omega) h
      simp only [Nat.add_sub_cancel] at hd
      have hf' := one_le_of_pow h0 hd
      rw [getD_app_l _ _ _ _ (digsL_ne (by omega))]
      exact ih (u / 10) (by omega) hd

theorem valTo_nums (xs : List Int) (h : ∀ x ∈ xs, 48 ≤ x ∧ x ≤ 57) : ∀ k, k ≤ xs.length → (valTo (strOfNums xs) k : Int) = valL (xs.take k) := by
  intro k
  induction k with
  | zero => intro _; simp [valTo, valL]
  | succ k ih =>
    intro hk
    have hk' : k < xs.length := by omega
    have hb := bAt_nums xs k (fun x hx => by have := h x hx; omega)
    have hm := h xs[k] (List.getElem_mem hk')
    rw [List.getD_eq_getElem?_getD, List.getElem?_eq_getElem hk', Option.getD_some] at hb
    rw [List.take_succ_eq_append_getElem hk', valL_snoc, ← ih (by omega)]
    simp only [valTo]
    omega

/-- the digits of u as a string -/
def digB (u : Nat) : ByteArray := strOfNums (digsL 20 u)

theorem itoaB_pos (u : Nat) : itoaB (u : Int) = digB u := by
  unfold itoaB itoaL digB
  rw [if_neg (by omega), Int.natAbs_natCast]; rfl

theorem itoaB_neg (u : Nat) (hu : 0 < u) : itoaB (-(u : Int)) = ⟨#[45]⟩ ++ digB u := by
  unfold itoaB itoaL digB
  rw [if_pos (by omega), show (-(u : Int)).natAbs = u from by omega, nums_minus]

theorem digB_size (u : Nat) (h : u < 10000000000000000000) : 0 < (digB u).size ∧ (digB u).size ≤ 19 := by
  unfold digB
  rw [strOfNums_size]
  exact ⟨digsL_ne (by omega), digsL_len_le 20 u 19 (by omega) (by simpa using h)⟩

theorem digB_at (u k : Nat) (h : k < (digB u).size) : 48 ≤ bAt (digB u) k ∧ bAt (digB u) k ≤ 57 := by
  unfold digB at *
  rw [strOfNums_size] at h
  rw [bAt_nums _ _ (fun x hx => by have := digsL_range 20 u x hx; omega), List.getD_eq_getElem?_getD, List.getElem?_eq_getElem h, Option.getD_some]
  have := digsL_range 20 u _ (List.getElem_mem h)
  omega

theorem digB_dig (u : Nat) : allDig (digB u) = true := by
  unfold allDig
  rw [digTo_iff]
  intro j hj
  exact digB_at u j hj

theorem digB_head (u : Nat) (hu : 0 < u) (h : u < 10000000000000000000) : bAt (digB u) 0 ≠ 48 := by
  unfold digB
  have hr := digsL_range 20 u
  have hh := digsL_head 20 u hu (by omega)
  rw [bAt_nums _ _ (fun x hx => by have := hr x hx; omega)]
  have hl : 0 < (digsL 20 u).length := digsL_ne (by omega)
  have := hr _ (List.getElem_mem hl)
  rw [List.getD_eq_getElem?_getD, List.getElem?_eq_getElem hl, Option.getD_some] at hh ⊢
  omega

theorem digB_val (u : Nat) (h : u < 10000000000000000000) : valTo (digB u) (digB u).size = u := by
  have hs : (digB u).size = (digsL 20 u).length := by unfold digB; rw [strOfNums_size]
  have hv := valTo_nums (digsL 20 u) (digsL_range 20 u) (digsL 20 u).length (Nat.le_refl _)
  rw [List.take_length, valL_digsL 20 u (by omega) (by omega)] at hv
  rw [hs]
  unfold digB
  omega

end Go.Proofs.Ygcoab
