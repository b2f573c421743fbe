/- Plain: what TextF writes, read back. No Go in sight. -/
import Derived.Test.YgcoabPlainText
namespace Go.Proofs.Ygcoab
open Go.RowKit

theorem ba_ext {a b : ByteArray} (h : a.size = b.size) (hb : ∀ k, k < a.size → bAt a k = bAt b k) : a = b := by
  apply ByteArray.ext
  apply Array.ext
  · simpa using h
  · intro i h1 h2
    have := hb i (by simpa using h1)
    unfold bAt at this
    have l1 : i < a.data.toList.length := by simpa using h1
    have l2 : i < b.data.toList.length := by simpa using h2
    rw [List.getD_eq_getElem?_getD, List.getD_eq_getElem?_getD, List.getElem?_eq_getElem l1, List.getElem?_eq_getElem l2] at this
    exact UInt8.toNat_inj.1 this

theorem bAt_append (a b : ByteArray) (k : Nat) : bAt (a ++ b) k = if k < a.size then bAt a k else bAt b (k - a.size) := by
  unfold bAt
  rw [ByteArray.data_append, Array.toList_append, List.getD_eq_getElem?_getD]
  have hl : a.data.toList.length = a.size := by simp
  split
  · rename_i h
    rw [List.getElem?_append_left (by omega), List.getD_eq_getElem?_getD]
  · rename_i h
    rw [List.getElem?_append_right (by omega), List.getD_eq_getElem?_getD, hl]

theorem bAt_nums (xs : List Int) (k : Nat) (h : ∀ x ∈ xs, 0 ≤ x ∧ x < 256) : bAt (strOfNums xs) k = (xs.getD k 0).toNat := by
  unfold bAt
  rw [strOfNums_data, List.getD_eq_getElem?_getD, List.getElem?_map, List.getD_eq_getElem?_getD]
  cases e : xs[k]? with
  | none => simp
  | some x =>
    have := h x (List.mem_of_getElem? e)
    simp
    omega

theorem getD_app_l {α : Type} (l r : List α) (d : α) (n : Nat) (h : n < l.length) : (l ++ r).getD n d = l.getD n d := by
  rw [List.getD_eq_getElem?_getD, List.getD_eq_getElem?_getD, List.getElem?_append_left h]

theorem getD_app_r {α : Type} (l r : List α) (d : α) (n : Nat) (h : l.length ≤ n) : (l ++ r).getD n d = r.getD (n - l.length) d := by
  rw [List.getD_eq_getElem?_getD, List.getD_eq_getElem?_getD, List.getElem?_append_right h]

/-- the sign k of the number without its point -/
def gAt (s : ByteArray) (pad k : Nat) : Nat := if k < pad then 48 else bAt s (k - pad)

theorem gAt_lt (s : ByteArray) (pad k : Nat) : gAt s pad k < 256 := by
  unfold gAt; split
  · omega
  · exact bAt_lt _ _

theorem fL_mem (s : ByteArray) (pad cut n : Nat) : ∀ x ∈ fL s pad cut n, 0 ≤ x ∧ x < 256 := by
  induction n with
  | zero => intro x hx; simp [fL] at hx
  | succ n ih =>
    intro x hx
    simp only [fL, List.mem_append, List.mem_singleton] at hx
    rcases hx with (hx | hx) | hx
    · exact ih x hx
    · split at hx <;> simp at hx
      subst hx; decide
    · subst hx
      have := gAt_lt s pad n
      unfold gAt at this
      split
      · decide
      · rename_i h; rw [if_neg h] at this; omega

theorem fL_snoc (s : ByteArray) (pad cut n : Nat) : fL s pad cut (n + 1) = (fL s pad cut n ++ if n = cut then [46] else []) ++ [(gAt s pad n : Int)] := by
  simp only [fL, gAt]
  congr 2
  split <;> simp

theorem fL_get (s : ByteArray) (pad cut n : Nat) : ∀ j, j < n + (if cut < n then 1 else 0) → (fL s pad cut n).getD j 0 = if cut < n then (if j < cut then (gAt s pad j : Int) else if j = cut then 46 else (gAt s pad (j - 1) : Int)) else (gAt s pad j : Int) := by
  induction n with
  | zero => intro j hj; simp at hj
  | succ n ih =>
    intro j hj
    have hl := fL_len s pad cut n
    rw [fL_snoc]
    by_cases hc : n = cut
    · rw [if_pos hc, if_pos (show cut < n + 1 from by omega)]
      rw [if_neg (by omega)] at hl
      rw [if_pos (by omega)] at hj
      by_cases h1 : j < n
      · have := ih j (by split <;> omega)
        rw [if_neg (by omega)] at this
        rw [List.append_assoc, getD_app_l _ _ _ _ (by omega), this, if_pos (by omega)]
      · by_cases h2 : j = n
        · rw [List.append_assoc, getD_app_r _ _ _ _ (by omega), hl, if_neg (by omega), if_pos (by omega)]
          simp [h2]
        · have : j = n + 1 := by omega
          subst this
          rw [getD_app_r _ _ _ _ (by simp [hl])]
          rw [if_neg (by omega), if_neg (by omega)]
          simp [hl]
    · rw [if_neg hc, List.append_nil]
      by_cases h1 : cut < n
      · rw [if_pos h1] at hl
        rw [if_pos (show cut < n + 1 from by omega)] at hj ⊢
        by_cases h2 : j < n + 1
        · have := ih j (by rw [if_pos h1]; omega)
          rw [if_pos h1] at this
          rw [getD_app_l _ _ _ _ (by omega), this]
        · have : j = n + 1 := by omega
          subst this
          rw [getD_app_r _ _ _ _ (by omega), if_neg (by omega), if_neg (by omega)]
          simp [hl]
      · rw [if_neg h1] at hl
        rw [if_neg (show ¬ cut < n + 1 from by omega)] at hj ⊢
        by_cases h2 : j < n
        · have := ih j (by rw [if_neg h1]; omega)
          rw [if_neg h1] at this
          rw [getD_app_l _ _ _ _ (by omega), this]
        · have : j = n := by omega
          subst this
          rw [getD_app_r _ _ _ _ (by omega)]
          simp [hl]

/-- TextF's string without the sign -/
def fixB (s : ByteArray) (pad cut : Nat) : ByteArray := strOfNums (fL s pad cut (s.size + pad))

theorem fixB_size (s : ByteArray) (pad cut : Nat) : (fixB s pad cut).size = s.size + pad + if cut < s.size + pad then 1 else 0 := by
  unfold fixB; rw [strOfNums_size, fL_len]

theorem fixB_at (s : ByteArray) (pad cut j : Nat) (h : j < s.size + pad + (if cut < s.size + pad then 1 else 0)) :
    bAt (fixB s pad cut) j = if cut < s.size + pad then (if j < cut then gAt s pad j else if j = cut then 46 else gAt s pad (j - 1)) else gAt s pad j := by
  unfold fixB
  rw [bAt_nums _ _ (fL_mem s pad cut _), fL_get s pad cut _ j h]
  split
  · split
    · simp
    · split <;> simp
  · simp

theorem fixB_zero (s : ByteArray) : fixB s 0 s.size = s := by
  apply ba_ext
  · rw [fixB_size]; simp
  · intro k hk
    rw [fixB_size] at hk
    rw [fixB_at _ _ _ _ hk, if_neg (by omega)]
    simp [gAt]

/-- zeros ahead of s -/
def padB (s : ByteArray) (pad : Nat) : ByteArray := strOfNums ((List.replicate pad (48 : Int)) ++ (List.range s.size).map fun i => (bAt s i : Int))

theorem padB_size (s : ByteArray) (pad : Nat) : (padB s pad).size = s.size + pad := by
  unfold padB; rw [strOfNums_size]; simp; omega

theorem padB_at (s : ByteArray) (pad k : Nat) (h : k < s.size + pad) : bAt (padB s pad) k = gAt s pad k := by
  unfold padB
  rw [bAt_nums]
  · unfold gAt
    split
    · rename_i h1
      rw [getD_app_l _ _ _ _ (by simpa using h1)]
      simp [List.getD_eq_getElem?_getD, h1]
    · rename_i h1
      rw [getD_app_r _ _ _ _ (by simp; omega)]
      simp [List.getD_eq_getElem?_getD, show k - pad < s.size from by omega]
  · intro x hx
    simp only [List.mem_append, List.mem_replicate, List.mem_map] at hx
    rcases hx with ⟨_, rfl⟩ | ⟨i, _, rfl⟩
    · decide
    · have := bAt_lt s i; omega

theorem fixB_join (s : ByteArray) (pad cut : Nat) (hc : cut < s.size + pad) :
    (fixB s pad cut).extract 0 cut ++ (fixB s pad cut).extract (cut + 1) (fixB s pad cut).size = padB s pad := by
  have hs := fixB_size s pad cut
  rw [if_pos hc] at hs
  have l1 : ((fixB s pad cut).extract 0 cut).size = cut := by rw [size_extract _ _ _ (by omega)]; omega
  have l2 : ((fixB s pad cut).extract (cut + 1) (fixB s pad cut).size).size = s.size + pad - cut := by rw [size_extract _ _ _ (by omega)]; omega
  apply ba_ext
  · rw [ByteArray.size_append, l1, l2, padB_size]; omega
  · intro k hk
    rw [ByteArray.size_append, l1, l2] at hk
    rw [bAt_append, l1, padB_at _ _ _ (by omega)]
    split
    · rename_i h1
      rw [bAt_extract _ _ _ _ (by omega), Nat.zero_add, fixB_at _ _ _ _ (by rw [if_pos hc]; omega), if_pos hc, if_pos h1]
    · rename_i h1
      rw [bAt_extract _ _ _ _ (by omega), fixB_at _ _ _ _ (by rw [if_pos hc]; omega), if_pos hc, if_neg (by omega), if_neg (by omega)]
      congr 1; omega

theorem padB_tail (s : ByteArray) (pad : Nat) : (padB s pad).extract pad (padB s pad).size = s := by
  have hs := padB_size s pad
  apply ba_ext
  · rw [size_extract _ _ _ (by omega)]; omega
  · intro k hk
    rw [size_extract _ _ _ (by omega)] at hk
    rw [bAt_extract _ _ _ _ (by omega), padB_at _ _ _ (by omega)]
    unfold gAt
    rw [if_neg (by omega)]
    congr 1; omega

theorem padB_zero (s : ByteArray) (pad i : Nat) (h : i < pad) : bAt (padB s pad) i = 48 := by
  rw [padB_at _ _ _ (by omega)]; unfold gAt; rw [if_pos h]

theorem minus_at (b : ByteArray) : bAt (⟨#[45]⟩ ++ b) 0 = 45 := by
  rw [bAt_append, if_pos (by decide)]; rfl

theorem minus_tail (b : ByteArray) : (⟨#[45]⟩ ++ b : ByteArray).extract 1 (⟨#[45]⟩ ++ b : ByteArray).size = b := by
  have hz : (⟨#[45]⟩ ++ b : ByteArray).size = b.size + 1 := by rw [ByteArray.size_append]; show 1 + b.size = _; omega
  apply ba_ext
  · rw [size_extract _ _ _ (by omega)]; omega
  · intro k hk
    rw [size_extract _ _ _ (by omega)] at hk
    rw [bAt_extract _ _ _ _ (by omega), bAt_append, if_neg (by show ¬ 1 + k < 1; omega)]
    congr 1
    show 1 + k - 1 = k
    omega

theorem nums_minus (xs : List Int) : strOfNums ([45] ++ xs) = ⟨#[45]⟩ ++ strOfNums xs := by
  apply ByteArray.ext
  apply Array.toList_inj.1
  rw [strOfNums_data, ByteArray.data_append, Array.toList_append, strOfNums_data]
  simp

theorem minus_size (b : ByteArray) : (⟨#[45]⟩ ++ b : ByteArray).size = b.size + 1 := by
  rw [ByteArray.size_append]; show 1 + b.size = _; omega

end Go.Proofs.Ygcoab
