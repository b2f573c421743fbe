import Derived.Test.YgcoabWDigLd
import Derived.Test.YgcoabPlainFixed
namespace Go.Proofs.Ygcoab
open Go.RowKit

theorem vNum_zero {E M x : Nat} (h1 : expF E M x ≠ topE E) (h2 : clsF E M x = 0) : vNum E M x = 0 := by
  have hp : pMan E M x = 0 := by
    unfold clsF at h2
    unfold pMan
    rw [if_neg h1] at h2 ⊢
    by_cases he : expF E M x = 0
    · rw [if_pos he]
      by_cases hf : fracF M x = 0
      · rw [if_pos hf]
      · exfalso
        rw [if_neg (by simpa using he), if_pos (by simpa using hf)] at h2
        omega
    · exfalso
      rw [if_pos (by simpa using he)] at h2
      omega
  unfold vNum sNum
  rw [hp]
  split
  · rfl
  · exact Nat.zero_mul _

theorem units_zero {D : Nat} (hD : 0 < D) (k : Int) : unitsN 0 D k = 0 := by
  have h := units_near (A := 0) (k := k) hD
  have hp : 0 < D * tenD (-k) := Nat.mul_pos hD (tenD_pos _)
  unfold NearW sumV at h
  generalize D * tenD (-k) = X at h hp
  generalize unitsN 0 D k = n at h ⊢
  cases n with
  | zero => rfl
  | succ n =>
    have h2 : (n + 1) * X = n * X + X := Nat.succ_mul _ _
    simp at h
    rw [h2] at h
    omega

theorem DigB.zero {b : ByteArray} (h : DigB 0 b) : b = { data := #[48] } := by
  have h1 : b.size = 1 := by
    rcases h.size.2 with q | q
    · exact q
    · have := Nat.pow_pos (n := b.size - 1) (show 0 < 10 by omega)
      omega
  have hv := h.val
  have hd := h.dig
  unfold allDig at hd
  rw [h1] at hv hd
  have h2 : 0 * 10 + (bAt b 0 - 48) = 0 := hv
  have h3 := digTo_at (j := 0) (by omega) hd
  refine ba_ext (by rw [h1]; rfl) fun k hk => ?_
  have : k = 0 := by omega
  subst this
  have h4 : bAt { data := #[48] } 0 = 48 := rfl
  omega

theorem zerosB_size (n : Nat) : (zerosB n).size = n := by
  unfold zerosB
  rw [strOfNums_size, List.length_replicate]

theorem zerosB_at {n j : Nat} (hj : j < n) : bAt (zerosB n) j = 48 := by
  have h := (bAt_str (xs := List.replicate n 48) (j := j) (by rw [List.length_replicate]; exact hj) (fun x hx => by rw [List.mem_replicate] at hx; omega)).1
  unfold zerosB
  rw [h, List.getD_eq_getElem?_getD, List.getElem?_replicate, if_pos hj]
  rfl

theorem zerosB_dig (n : Nat) : allDig (zerosB n) = true := by
  unfold allDig
  rw [zerosB_size, digTo_iff]
  intro j hj
  rw [zerosB_at hj]
  omega

theorem zerosB_sp (n : Nat) : spTo (zerosB n) (zerosB n).size = 0 := by
  rw [zerosB_size]
  exact spTo_zero fun j hj => zerosB_at hj

/-- one more nought: the bytes of the longer number -/
theorem lifted_eq {b c : ByteArray} {t : Nat} (hb : b.size = t) (hc : c.size = t + 1) (h : ∀ j, j < t → bAt b j = bAt c j) (hl : bAt c t = 48) : b ++ { data := #[48] } = c := by
  refine ba_ext ?_ fun k hk => ?_
  · rw [ByteArray.size_append, hb, hc]; rfl
  · rw [ByteArray.size_append, hb] at hk
    have hk' : k < t + 1 := hk
    rw [bAt_append, hb]
    split
    · rename_i q
      exact h k q
    · have : k = t := by omega
      subst this
      rw [Nat.sub_self, hl]
      rfl

end Go.Proofs.Ygcoab
