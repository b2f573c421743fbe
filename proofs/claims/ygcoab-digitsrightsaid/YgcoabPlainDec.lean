/- Plain functions on byte strings: digits, the span of what is not zero, Make. No Go in sight. -/
import Derived.WalkKit
namespace Go.Proofs.Ygcoab
open Go.RowKit

/-- byte k of s as a number, 0 beyond the end -/
def bAt (s : ByteArray) (k : Nat) : Nat := (s.data.toList.getD k 0).toNat

theorem bAt_eq (s : ByteArray) (k : Nat) (h : k < s.size) : (s[k]'h).toNat = bAt s k := by
  have : k < s.data.toList.length := by simpa using h
  unfold bAt
  rw [List.getD_eq_getElem?_getD, List.getElem?_eq_getElem this]
  rfl

theorem bAt_lt (s : ByteArray) (k : Nat) : bAt s k < 256 := by
  unfold bAt; exact UInt8.toNat_lt _

/-- the first k bytes are digits -/
def digTo (s : ByteArray) : Nat → Bool
  | 0 => true
  | k + 1 => digTo s k && (decide (48 ≤ bAt s k) && decide (bAt s k ≤ 57))

def allDig (s : ByteArray) : Bool := digTo s s.size

theorem digTo_le {s : ByteArray} {j k : Nat} (h : j ≤ k) (hk : digTo s k = true) : digTo s j = true := by
  induction k with
  | zero => have : j = 0 := by omega
            subst this; exact hk
  | succ k ih =>
    by_cases e : j = k + 1
    · subst e; exact hk
    · simp [digTo] at hk
      exact ih (by omega) hk.1

theorem digTo_at {s : ByteArray} {j k : Nat} (h : j < k) (hk : digTo s k = true) : 48 ≤ bAt s j ∧ bAt s j ≤ 57 := by
  have := digTo_le (j := j + 1) h hk
  simp [digTo] at this
  exact ⟨this.2.1, this.2.2⟩

theorem digTo_iff (s : ByteArray) (k : Nat) : digTo s k = true ↔ ∀ j, j < k → 48 ≤ bAt s j ∧ bAt s j ≤ 57 := by
  constructor
  · intro h j hj; exact digTo_at hj h
  · induction k with
    | zero => intro _; rfl
    | succ k ih =>
      intro h
      simp [digTo]
      exact ⟨ih fun j hj => h j (by omega), h k (by omega)⟩

theorem allDig_bad {s : ByteArray} {k : Nat} (h : k < s.size) (hb : bAt s k < 48 ∨ 57 < bAt s k) : allDig s = false := by
  cases e : allDig s
  · rfl
  · have := digTo_at h e; omega

/-- the first place below k that is not '0' (s.size if none) -/
def fstTo (s : ByteArray) : Nat → Nat
  | 0 => s.size
  | k + 1 => if bAt s k = 48 then fstTo s k else min (fstTo s k) k

/-- behind the last place below k that is not '0' (0 if none) -/
def endTo (s : ByteArray) : Nat → Nat
  | 0 => 0
  | k + 1 => if bAt s k = 48 then endTo s k else k + 1

theorem endTo_le (s : ByteArray) (k : Nat) : endTo s k ≤ k := by
  induction k with
  | zero => simp [endTo]
  | succ k ih => simp only [endTo]; split <;> omega

theorem fstTo_le (s : ByteArray) (k : Nat) : fstTo s k ≤ s.size := by
  induction k with
  | zero => simp [fstTo]
  | succ k ih => simp only [fstTo]; split <;> omega

theorem fst_lt_end (s : ByteArray) (k : Nat) (hk : k ≤ s.size) : endTo s k = 0 ∧ fstTo s k = s.size ∨ 0 < endTo s k ∧ fstTo s k < endTo s k := by
  induction k with
  | zero => simp [endTo, fstTo]
  | succ k ih =>
    have := ih (by omega)
    simp only [endTo, fstTo]
    split <;> omega

theorem span_zero (s : ByteArray) (k : Nat) : ∀ j, j < k → (j < fstTo s k ∨ endTo s k ≤ j) → bAt s j = 48 := by
  induction k with
  | zero => intro j hj; omega
  | succ k ih =>
    intro j hj h
    simp only [endTo, fstTo] at h
    by_cases e : bAt s k = 48
    · rw [if_pos e, if_pos e] at h
      by_cases ej : j = k
      · subst ej; exact e
      · exact ih j (by omega) h
    · rw [if_neg e, if_neg e] at h
      exact ih j (by omega) (by omega)

theorem span_ends (s : ByteArray) (k : Nat) (hk : k ≤ s.size) (h : 0 < endTo s k) : bAt s (fstTo s k) ≠ 48 ∧ bAt s (endTo s k - 1) ≠ 48 := by
  induction k with
  | zero => simp [endTo] at h
  | succ k ih =>
    have hfe := fst_lt_end s k (by omega)
    simp only [endTo, fstTo] at h ⊢
    by_cases e : bAt s k = 48
    · rw [if_pos e] at h
      rw [if_pos e, if_pos e]; exact ih (by omega) h
    · rw [if_neg e, if_neg e]
      refine ⟨?_, by simpa using e⟩
      rcases hfe with ⟨h1, h2⟩ | ⟨h1, h2⟩
      · rw [h2, Nat.min_eq_right (by omega)]; exact e
      · rw [Nat.min_eq_left (by have := endTo_le s k; omega)]; exact (ih (by omega) h1).1

/-- a decimal -/
structure Dc where
  neg : Bool
  dig : ByteArray
  exp : Int

def Dc.no : Dc := ⟨false, ByteArray.empty, 0⟩

/-- what Make answers -/
def mkDc (neg : Bool) (s : ByteArray) (exp : Int) : Dc × Bool :=
  if allDig s = false then (Dc.no, false)
  else if endTo s s.size = 0 then (⟨neg, ByteArray.empty, 0⟩, true)
  else if 800 < (endTo s s.size : Int) - (fstTo s s.size : Int) ∨ 2000 < exp ∨ 2000 < exp + ((s.size : Int) - (endTo s s.size : Int)) ∨ exp + ((s.size : Int) - (endTo s s.size : Int)) < -2000 then (Dc.no, false)
  else (⟨neg, s.extract (fstTo s s.size) (endTo s s.size), exp + ((s.size : Int) - (endTo s s.size : Int))⟩, true)

theorem mkDc_bad {neg : Bool} {s : ByteArray} {exp : Int} (h : allDig s = false) : mkDc neg s exp = (Dc.no, false) := by
  unfold mkDc; rw [if_pos h]

theorem mkDc_zero {neg : Bool} {s : ByteArray} {exp : Int} (h : allDig s = true) (h0 : endTo s s.size = 0) : mkDc neg s exp = (⟨neg, ByteArray.empty, 0⟩, true) := by
  unfold mkDc; rw [if_neg (by simp [h]), if_pos h0]

theorem mkDc_far {neg : Bool} {s : ByteArray} {exp : Int} (h : allDig s = true) (h0 : endTo s s.size ≠ 0)
    (hf : 800 < (endTo s s.size : Int) - (fstTo s s.size : Int) ∨ 2000 < exp ∨ 2000 < exp + ((s.size : Int) - (endTo s s.size : Int)) ∨ exp + ((s.size : Int) - (endTo s s.size : Int)) < -2000) :
    mkDc neg s exp = (Dc.no, false) := by
  unfold mkDc; rw [if_neg (by simp [h]), if_neg h0, if_pos hf]

theorem mkDc_near {neg : Bool} {s : ByteArray} {exp : Int} (h : allDig s = true) (h0 : endTo s s.size ≠ 0)
    (hf : ¬ (800 < (endTo s s.size : Int) - (fstTo s s.size : Int) ∨ 2000 < exp ∨ 2000 < exp + ((s.size : Int) - (endTo s s.size : Int)) ∨ exp + ((s.size : Int) - (endTo s s.size : Int)) < -2000)) :
    mkDc neg s exp = (⟨neg, s.extract (fstTo s s.size) (endTo s s.size), exp + ((s.size : Int) - (endTo s s.size : Int))⟩, true) := by
  unfold mkDc; rw [if_neg (by simp [h]), if_neg h0, if_neg hf]

theorem mkDc_bad' {neg : Bool} {s : ByteArray} {exp : Int} (h : allDig s = false) : mkDc neg s exp = (⟨false, ByteArray.empty, 0⟩, false) := mkDc_bad h

theorem mkDc_far' {neg : Bool} {s : ByteArray} {exp : Int} (h : allDig s = true) (h0 : endTo s s.size ≠ 0)
    (hf : 800 < (endTo s s.size : Int) - (fstTo s s.size : Int) ∨ 2000 < exp ∨ 2000 < exp + ((s.size : Int) - (endTo s s.size : Int)) ∨ exp + ((s.size : Int) - (endTo s s.size : Int)) < -2000) :
    mkDc neg s exp = (⟨false, ByteArray.empty, 0⟩, false) := mkDc_far h h0 hf

/-! ### the span, from outside -/
theorem endTo_eq (s : ByteArray) (k e : Nat) (he : e ≤ k) (hz : ∀ j, e ≤ j → j < k → bAt s j = 48) (hn : e = 0 ∨ bAt s (e - 1) ≠ 48) : endTo s k = e := by
  induction k with
  | zero => simp [endTo]; omega
  | succ k ih =>
    simp only [endTo]
    by_cases h : e = k + 1
    · subst h
      rcases hn with hn | hn
      · omega
      · rw [if_neg (by simpa using hn)]
    · rw [if_pos (hz k (by omega) (by omega))]
      exact ih (by omega) fun j h1 h2 => hz j h1 (by omega)

theorem fstTo_eq (s : ByteArray) (k f : Nat) (hks : k ≤ s.size) (hf : f < k) (hz : ∀ j, j < f → bAt s j = 48) (hn : bAt s f ≠ 48) : fstTo s k = f := by
  have hall : ∀ j, j ≤ f → fstTo s j = s.size := by
    intro j
    induction j with
    | zero => intro _; rfl
    | succ j ih => intro h; simp only [fstTo]; rw [if_pos (hz j (by omega))]; exact ih (by omega)
  induction k with
  | zero => omega
  | succ k ih =>
    simp only [fstTo]
    by_cases e : f = k
    · subst e
      rw [if_neg hn, hall f (Nat.le_refl _)]; omega
    · have := ih (by omega) (by omega)
      split <;> omega

theorem bAt_extract (s : ByteArray) (a b k : Nat) (h : a + k < b) : bAt (s.extract a b) k = bAt s (a + k) := by
  unfold bAt
  congr 1
  rw [List.getD_eq_getElem?_getD, List.getD_eq_getElem?_getD]
  simp only [ByteArray.data_extract, Array.toList_extract, List.extract_eq_take_drop]
  rw [List.getElem?_take_of_lt (by omega), List.getElem?_drop]

theorem size_extract (s : ByteArray) (a b : Nat) (hb : b ≤ s.size) : (s.extract a b).size = b - a := by
  rw [ByteArray.size_extract, Nat.min_eq_left hb]

theorem extract_extract (s : ByteArray) (a b c d : Nat) (hd : a + d ≤ b) : (s.extract a b).extract c d = s.extract (a + c) (a + d) := by
  apply ByteArray.ext
  simp only [ByteArray.data_extract, Array.extract_extract]
  rw [Nat.min_eq_left (by omega)]

theorem allDig_extract (s : ByteArray) (a b : Nat) (hb : b ≤ s.size) (h : allDig s = true) : allDig (s.extract a b) = true := by
  unfold allDig at *
  rw [digTo_iff] at *
  intro j hj
  rw [size_extract s a b hb] at hj
  rw [bAt_extract s a b j (by omega)]
  exact h _ (by omega)

theorem extract_all (s : ByteArray) : s.extract 0 s.size = s := by
  apply ByteArray.ext
  simp [ByteArray.data_extract, ← ByteArray.size_data]

theorem isEmpty_false {s : ByteArray} (h : 0 < s.size) : s.toList.isEmpty = false := by
  rw [List.isEmpty_eq_false_iff, ByteArray.toList_eq]
  intro e
  have := congrArg List.length e
  simp at this
  simp [this] at h

theorem isEmpty_true {s : ByteArray} (h : s.size = 0) : s.toList.isEmpty = true := by
  rw [List.isEmpty_iff, ByteArray.toList_eq]
  apply List.eq_nil_of_length_eq_zero
  simpa using h

theorem empty_of_size {s : ByteArray} (h : s.size = 0) : s = ByteArray.empty := by
  simpa using h

end Go.Proofs.Ygcoab
