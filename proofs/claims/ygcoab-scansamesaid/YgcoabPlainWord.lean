/- Plain: the words of Scan's texts. No Go in sight. -/
import Derived.Test.YgcoabPlainSame
namespace Go.Proofs.Ygcoab
open Go.RowKit

theorem or32 : ∀ c, c < 256 → (c ||| 32 = if c / 32 % 2 = 1 then c else c + 32) := by decide +kernel

theorem or32_is {c u : Nat} (hc : c < 256) (h1 : 97 ≤ u) (h2 : u ≤ 122) : c ||| 32 = u ↔ c = u ∨ c + 32 = u := by
  rw [or32 c hc]
  split <;> omega

theorem word_letter {wd : Nat} (hw : wd = 1 ∨ wd = 2) : ∀ i, i < (wordB wd).size → 97 ≤ bAt (wordB wd) i ∧ bAt (wordB wd) i ≤ 122 := by
  rcases hw with rfl | rfl
  · intro i hi
    have hi : i < 8 := hi
    revert i
    decide
  · intro i hi
    have hi : i < 3 := hi
    revert i
    decide

theorem word_run {T : ByteArray} {h wd n : Nat} {neg : Bool} (r : runTo T h = some ⟨h, neg, false, [], 0, 0, 0, 0⟩) (hl : h ≤ 1) (hw : wd = 1 ∨ wd = 2) (h1 : 1 ≤ n)
    (hn : n ≤ (wordB wd).size) (hm : ∀ j, j < n → bAt T (h + j) ||| 32 = bAt (wordB wd) j) : runTo T (h + n) = some ⟨9, neg, false, [], 0, 0, wd, n⟩ := by
  induction n with
  | zero => omega
  | succ n ih =>
    by_cases h0 : n = 0
    · subst h0
      have hk := (or32_is (bAt_lt T (h + 0)) (word_letter hw 0 (by omega)).1 (word_letter hw 0 (by omega)).2).1 (hm 0 (by omega))
      show runTo T (h + 1) = _
      rw [runTo_next r]
      rw [Nat.add_zero] at hk
      rcases hw with rfl | rfl
      · rw [show bAt (wordB 1) 0 = 105 from rfl] at hk
        exact Sc.step_i (by omega) hl
      · rw [show bAt (wordB 2) 0 = 110 from rfl] at hk
        exact Sc.step_n (by omega) hl
    · have r' := ih (by omega) (by omega) (fun j hj => hm j (by omega))
      have hk := (or32_is (bAt_lt T (h + n)) (word_letter hw n (by omega)).1 (word_letter hw n (by omega)).2).1 (hm n (by omega))
      have hL := word_letter hw n (by omega)
      show runTo T (h + n + 1) = _
      rw [runTo_next r']
      exact Sc.step_w (by omega) ⟨by show n < (wordB wd).size; omega, hk⟩ rfl

/-- the word's answer -/
def wordR (T : ByteArray) (h : Nat) (neg : Bool) (wd n : Nat) : Sd :=
  if h + n = T.size ∧ wd = 2 ∧ n = 3 then ⟨2, false, ⟨#[]⟩, 0, 0, 0⟩
  else if h + n = T.size ∧ wd = 1 ∧ (n = 3 ∨ n = 8) then ⟨1, neg, ⟨#[]⟩, 0, 0, 0⟩
  else wrongAt T (h + n)

theorem word_is {T : ByteArray} {h wd n : Nat} {neg : Bool} (hT : T.size ≤ 1024) (r : runTo T h = some ⟨h, neg, false, [], 0, 0, 0, 0⟩) (hl : h ≤ 1) (hh : h ≤ T.size) (hw : wd = 1 ∨ wd = 2) (h1 : 1 ≤ n)
    (hm : IsMatch (T.extract h T.size) (wordB wd) n) : ScanIs T (wordR T h neg wd n) := by
  obtain ⟨m1, m2, m3, m4⟩ := hm
  have hz := size_extract T h T.size (Nat.le_refl _)
  rw [hz] at m1 m4
  have hb : ∀ j, h + j < T.size → bAt (T.extract h T.size) j = bAt T (h + j) := fun j hj => bAt_extract T h T.size j hj
  have r' := word_run r hl hw h1 m2 (fun j hj => by rw [← hb j (by omega)]; exact m3 j hj)
  by_cases he : h + n = T.size
  · rw [he] at r'
    refine .inr ⟨hT, .inr ⟨_, r', ?_⟩⟩
    unfold wordR Sc.fin
    simp only [he, true_and]
    rw [if_neg (show ¬ (9 = 2 ∨ 9 = 3 ∨ 9 = 5 ∨ 9 = 8) from by omega)]
    unfold wrongAt
    rw [if_neg (Nat.lt_irrefl _)]
  · have hw2 : wordR T h neg wd n = wrongAt T (h + n) := by
      unfold wordR
      rw [if_neg (by omega), if_neg (by omega)]
    rw [hw2]
    refine ScanIs.wrong hT (by omega) r' ?_
    cases e : (⟨9, neg, false, [], 0, 0, wd, n⟩ : Sc).step (bAt T (h + n)) with
    | none => rfl
    | some S' =>
      exfalso
      rcases Sc.step_inv e with ⟨_, h, _⟩ | ⟨_, h, _⟩ | ⟨_, h, _⟩ | ⟨_, h, _⟩ | ⟨_, h, _⟩ | ⟨_, h, _⟩ | ⟨_, h, _⟩ | ⟨_, h, _⟩ | ⟨_, h, _⟩ | ⟨⟨_, h, k⟩, _, _⟩ | ⟨_, h, _⟩
      all_goals try (simp at h; done)
      have h : n < (wordB wd).size := h
      have k : bAt T (_ + n) = bAt (wordB wd) n ∨ bAt T (_ + n) + 32 = bAt (wordB wd) n := k
      have hL := word_letter hw n h
      refine m4 (by omega) h ?_
      rw [hb n (by omega)]
      exact (or32_is (bAt_lt T _) hL.1 hL.2).2 k

theorem isMatch_exists (s u : ByteArray) : ∃ n, IsMatch s u n := by
  have key : ∀ k, k ≤ s.size → k ≤ u.size → (∃ i, i < k ∧ bAt s i ||| 32 ≠ bAt u i ∧ ∀ j, j < i → bAt s j ||| 32 = bAt u j) ∨ ∀ j, j < k → bAt s j ||| 32 = bAt u j := by
    intro k
    induction k with
    | zero => intro _ _; right; intro j hj; omega
    | succ k ih =>
      intro hk hu
      rcases ih (by omega) (by omega) with ⟨i, h1, h2, h3⟩ | h
      · exact .inl ⟨i, by omega, h2, h3⟩
      · by_cases e : bAt s k ||| 32 = bAt u k
        · right; intro j hj
          by_cases ej : j = k
          · subst ej; exact e
          · exact h j (by omega)
        · exact .inl ⟨k, by omega, e, h⟩
  rcases key (min s.size u.size) (Nat.min_le_left _ _) (Nat.min_le_right _ _) with ⟨i, h1, h2, h3⟩ | h
  · exact ⟨i, by omega, by omega, h3, fun _ _ => h2⟩
  · exact ⟨min s.size u.size, by omega, by omega, h, fun h1 h2 => by omega⟩

/-- no word begins where neither letter matches -/
theorem no_word {T : ByteArray} {h n1 n2 : Nat} (hh : h < T.size) (m1 : IsMatch (T.extract h T.size) ⟨#[105]⟩ n1) (m2 : IsMatch (T.extract h T.size) ⟨#[110]⟩ n2) (h1 : n1 ≠ 1) (h2 : n2 ≠ 1) :
    bAt T h ≠ 73 ∧ bAt T h ≠ 105 ∧ bAt T h ≠ 78 ∧ bAt T h ≠ 110 := by
  have hz := size_extract T h T.size (Nat.le_refl _)
  have hb := bAt_extract T h T.size 0 (by omega)
  rw [Nat.add_zero] at hb
  have k1 : n1 ≤ 1 := m1.2.1
  have k2 : n2 ≤ 1 := m2.2.1
  have e1 : n1 = 0 := by omega
  have e2 : n2 = 0 := by omega
  subst e1 e2
  have a1 := m1.2.2.2 (by omega) (by show 0 < 1; omega)
  have a2 := m2.2.2.2 (by omega) (by show 0 < 1; omega)
  rw [hb] at a1 a2
  have a1 : bAt T h ||| 32 ≠ 105 := a1
  have a2 : bAt T h ||| 32 ≠ 110 := a2
  rw [Ne, or32_is (bAt_lt T h) (by omega) (by omega)] at a1 a2
  omega

/-- a word begins where its first letter matches -/
theorem word_first {s u : ByteArray} {c n : Nat} (m1 : IsMatch s ⟨#[c.toUInt8]⟩ 1) (hc : c < 256) (m : IsMatch s u n) (hu : 0 < u.size) (hc' : bAt u 0 = c) : 1 ≤ n := by
  have a := m1.2.2.1 0 (by omega)
  have hs := m1.1
  by_cases h0 : n = 0
  · subst h0
    have b := m.2.2.2 (by omega) hu
    exfalso
    apply b
    rw [a, hc']
    show c.toUInt8.toNat = c
    simp; omega
  · omega

end Go.Proofs.Ygcoab
