import Derived.Test.YgcoabWWordN
import Derived.Test.YgcoabWWordP
import Derived.Test.YgcoabWWordM
import Derived.Test.YgcoabWMNum
import Derived.Test.YgcoabWNumScan
namespace Go.Proofs.Ygcoab
open Go.RowKit


theorem ext_all (T : ByteArray) : T.extract 0 T.size = T := by simp

theorem match_le1 {s : ByteArray} {c n : Nat} (m : IsMatch s ⟨#[c.toUInt8]⟩ n) (h : n ≠ 1) : n = 0 := by
  have : n ≤ 1 := m.2.1
  omega

theorem wordB1 : wordB 1 = ⟨#[105, 110, 102, 105, 110, 105, 116, 121]⟩ := rfl
theorem wordB2 : wordB 2 = ⟨#[110, 97, 110]⟩ := rfl

theorem mscan_none (T : ByteArray) (w : World) (hT : T.size ≤ 1024) (q0 : 0 < T.size) (q1 : bAt T 0 ≠ 43) (q2 : bAt T 0 ≠ 45) :
    Calls Oabg.prog 19 #[.string T] w fun r w' => ∃ R, r = .returned (scV R) ∧ ScanIs T R ∧ Below w.heap.size w w' := by
  have hr : runTo T 0 = some ⟨0, false, false, [], 0, 0, 0, 0⟩ := rfl
  have hE := ext_all T
  obtain ⟨n1, m1⟩ := isMatch_exists T ⟨#[105]⟩
  obtain ⟨n2, m2⟩ := isMatch_exists T ⟨#[110]⟩
  by_cases h1 : n1 = 1
  · subst h1
    obtain ⟨n, m⟩ := isMatch_exists T ⟨#[105, 110, 102, 105, 110, 105, 116, 121]⟩
    have hn1 : 1 ≤ n := word_first (c := 105) m1 (by omega) m (by decide) (by decide)
    have hi : ScanIs T (wordR T 0 false 1 n) := word_is hT hr (by omega) (by omega) (.inl rfl) hn1 (by rw [hE]; exact m)
    have hn : n ≤ T.size := m.1
    by_cases hb : n < T.size
    · refine (mscan_nib T w hT q0 q1 q2 m1 n m hb).mono fun r w' ⟨h, hB⟩ => ⟨_, h, ?_, hB⟩
      have : wordR T 0 false 1 n = wrongAt T (0 + n) := by
        unfold wordR
        rw [if_neg (by omega), if_neg (by omega)]
      rw [← this]; exact hi
    · have he : n = T.size := by omega
      by_cases h3 : n = 3
      · refine (mscan_ni3 T w hT q0 q1 q2 m1 n m (by omega) h3).mono fun r w' ⟨h, hB⟩ => ⟨_, h, ?_, hB⟩
        have : wordR T 0 false 1 n = ⟨1, false, ⟨#[]⟩, 0, 0, 0⟩ := by
          unfold wordR
          rw [if_neg (by omega), if_pos (by omega)]
        rw [← this]; exact hi
      · by_cases h8 : n = 8
        · refine (mscan_ni8 T w hT q0 q1 q2 m1 n m (by omega) h8).mono fun r w' ⟨h, hB⟩ => ⟨_, h, ?_, hB⟩
          have : wordR T 0 false 1 n = ⟨1, false, ⟨#[]⟩, 0, 0, 0⟩ := by
            unfold wordR
            rw [if_neg (by omega), if_pos (by omega)]
          rw [← this]; exact hi
        · refine (mscan_nic T w hT q0 q1 q2 m1 n m he h3 h8).mono fun r w' ⟨h, hB⟩ => ⟨_, h, ?_, hB⟩
          have : wordR T 0 false 1 n = wrongAt T (0 + n) := by
            unfold wordR
            rw [if_neg (by omega), if_neg (by omega)]
          rw [← this]; exact hi
  · by_cases h2 : n2 = 1
    · subst h2
      have e1 := match_le1 (c := 105) m1 h1
      subst e1
      obtain ⟨n, m⟩ := isMatch_exists T ⟨#[110, 97, 110]⟩
      have hn1 : 1 ≤ n := word_first (c := 110) m2 (by omega) m (by decide) (by decide)
      have hi : ScanIs T (wordR T 0 false 2 n) := word_is hT hr (by omega) (by omega) (.inr rfl) hn1 (by rw [hE]; exact m)
      have hn : n ≤ T.size := m.1
      by_cases hb : n < T.size
      · refine (mscan_nnb T w hT q0 q1 q2 m1 m2 n m hb).mono fun r w' ⟨h, hB⟩ => ⟨_, h, ?_, hB⟩
        have : wordR T 0 false 2 n = wrongAt T (0 + n) := by
          unfold wordR
          rw [if_neg (by omega), if_neg (by omega)]
        rw [← this]; exact hi
      · have he : n = T.size := by omega
        by_cases h3 : n = 3
        · refine (mscan_nn3 T w hT q0 q1 q2 m1 m2 n m (by omega) h3).mono fun r w' ⟨h, hB⟩ => ⟨_, h, ?_, hB⟩
          have : wordR T 0 false 2 n = ⟨2, false, ⟨#[]⟩, 0, 0, 0⟩ := by
            unfold wordR
            rw [if_pos (by omega)]
          rw [← this]; exact hi
        · refine (mscan_nnc T w hT q0 q1 q2 m1 m2 n m he h3).mono fun r w' ⟨h, hB⟩ => ⟨_, h, ?_, hB⟩
          have : wordR T 0 false 2 n = wrongAt T (0 + n) := by
            unfold wordR
            rw [if_neg (by omega), if_neg (by omega)]
          rw [← this]; exact hi
    · have hw : bAt T 0 ≠ 73 ∧ bAt T 0 ≠ 105 ∧ bAt T 0 ≠ 78 ∧ bAt T 0 ≠ 110 := no_word (T := T) (h := 0) q0 (by rw [hE]; exact m1) (by rw [hE]; exact m2) h1 h2
      have e1 := match_le1 (c := 105) m1 h1
      have e2 := match_le1 (c := 110) m2 h2
      subst e1 e2
      refine mscan_nu T w hT q0 q1 q2 m1 m2 fun w => ?_
      have := number_scan T 0 false w hT ⟨hr, by omega, fun _ _ => ⟨q1, q2⟩, fun _ => hw⟩ (by omega)
      rw [hE] at this
      exact this

theorem mscan_empty (T : ByteArray) (w : World) (hT : T.size ≤ 1024) (q0 : T.size = 0) :
    Calls Oabg.prog 19 #[.string T] w fun r w' => ∃ R, r = .returned (scV R) ∧ ScanIs T R ∧ Below w.heap.size w w' := by
  have hE := ext_all T
  obtain ⟨n1, m1⟩ := isMatch_exists T ⟨#[105]⟩
  obtain ⟨n2, m2⟩ := isMatch_exists T ⟨#[110]⟩
  have e1 : n1 = 0 := by have := m1.1; omega
  have e2 : n2 = 0 := by have := m2.1; omega
  subst e1 e2
  refine mscan_zu T w hT q0 m1 m2 fun w => ?_
  have := number_scan T 0 false w hT ⟨rfl, by omega, fun _ h => by omega, fun h => by omega⟩ (by omega)
  rw [hE] at this
  exact this

theorem mscan_sp (T : ByteArray) (w : World) (hT : T.size ≤ 1024) (q0 : 0 < T.size) (q1 : bAt T 0 = 43) :
    Calls Oabg.prog 19 #[.string T] w fun r w' => ∃ R, r = .returned (scV R) ∧ ScanIs T R ∧ Below w.heap.size w w' := by
  have hr : runTo T 1 = some ⟨1, false, false, [], 0, 0, 0, 0⟩ := by
    rw [runTo_next (S := ⟨0, false, false, [], 0, 0, 0, 0⟩) rfl, q1]; rfl
  have hsz : (T.extract 1 T.size).size = T.size - 1 := size_extract T 1 T.size (Nat.le_refl _)
  obtain ⟨n1, m1⟩ := isMatch_exists (T.extract 1 T.size) ⟨#[105]⟩
  obtain ⟨n2, m2⟩ := isMatch_exists (T.extract 1 T.size) ⟨#[110]⟩
  by_cases h1 : n1 = 1
  · subst h1
    obtain ⟨n, m⟩ := isMatch_exists (T.extract 1 T.size) ⟨#[105, 110, 102, 105, 110, 105, 116, 121]⟩
    have hn1 : 1 ≤ n := word_first (c := 105) m1 (by omega) m (by decide) (by decide)
    have hi : ScanIs T (wordR T 1 false 1 n) := word_is hT hr (by omega) (by omega) (.inl rfl) hn1 m
    have hn : n ≤ (T.extract 1 T.size).size := m.1
    by_cases hb : n < (T.extract 1 T.size).size
    · refine (mscan_pib T w hT q0 q1 m1 n m hb).mono fun r w' ⟨h, hB⟩ => ⟨_, h, ?_, hB⟩
      have : wordR T 1 false 1 n = wrongAt T (1 + n) := by
        unfold wordR
        rw [if_neg (by omega), if_neg (by omega)]
      rw [← this]; exact hi
    · have he : n = (T.extract 1 T.size).size := by omega
      by_cases h3 : n = 3
      · refine (mscan_pi3 T w hT q0 q1 m1 n m (by omega) h3).mono fun r w' ⟨h, hB⟩ => ⟨_, h, ?_, hB⟩
        have : wordR T 1 false 1 n = ⟨1, false, ⟨#[]⟩, 0, 0, 0⟩ := by
          unfold wordR
          rw [if_neg (by omega), if_pos (by omega)]
        rw [← this]; exact hi
      · by_cases h8 : n = 8
        · refine (mscan_pi8 T w hT q0 q1 m1 n m (by omega) h8).mono fun r w' ⟨h, hB⟩ => ⟨_, h, ?_, hB⟩
          have : wordR T 1 false 1 n = ⟨1, false, ⟨#[]⟩, 0, 0, 0⟩ := by
            unfold wordR
            rw [if_neg (by omega), if_pos (by omega)]
          rw [← this]; exact hi
        · refine (mscan_pic T w hT q0 q1 m1 n m he h3 h8).mono fun r w' ⟨h, hB⟩ => ⟨_, h, ?_, hB⟩
          have : wordR T 1 false 1 n = wrongAt T (1 + n) := by
            unfold wordR
            rw [if_neg (by omega), if_neg (by omega)]
          rw [← this]; exact hi
  · by_cases h2 : n2 = 1
    · subst h2
      have e1 := match_le1 (c := 105) m1 h1
      subst e1
      obtain ⟨n, m⟩ := isMatch_exists (T.extract 1 T.size) ⟨#[110, 97, 110]⟩
      have hn1 : 1 ≤ n := word_first (c := 110) m2 (by omega) m (by decide) (by decide)
      have hi : ScanIs T (wordR T 1 false 2 n) := word_is hT hr (by omega) (by omega) (.inr rfl) hn1 m
      have hn : n ≤ (T.extract 1 T.size).size := m.1
      by_cases hb : n < (T.extract 1 T.size).size
      · refine (mscan_pnb T w hT q0 q1 m1 m2 n m hb).mono fun r w' ⟨h, hB⟩ => ⟨_, h, ?_, hB⟩
        have : wordR T 1 false 2 n = wrongAt T (1 + n) := by
          unfold wordR
          rw [if_neg (by omega), if_neg (by omega)]
        rw [← this]; exact hi
      · have he : n = (T.extract 1 T.size).size := by omega
        by_cases h3 : n = 3
        · refine (mscan_pn3 T w hT q0 q1 m1 m2 n m (by omega) h3).mono fun r w' ⟨h, hB⟩ => ⟨_, h, ?_, hB⟩
          have : wordR T 1 false 2 n = ⟨2, false, ⟨#[]⟩, 0, 0, 0⟩ := by
            unfold wordR
            rw [if_pos (by omega)]
          rw [← this]; exact hi
        · refine (mscan_pnc T w hT q0 q1 m1 m2 n m he h3).mono fun r w' ⟨h, hB⟩ => ⟨_, h, ?_, hB⟩
          have : wordR T 1 false 2 n = wrongAt T (1 + n) := by
            unfold wordR
            rw [if_neg (by omega), if_neg (by omega)]
          rw [← this]; exact hi
    · have hw : 1 < T.size → bAt T 1 ≠ 73 ∧ bAt T 1 ≠ 105 ∧ bAt T 1 ≠ 78 ∧ bAt T 1 ≠ 110 := fun h => no_word (T := T) (h := 1) h m1 m2 h1 h2
      have e1 := match_le1 (c := 105) m1 h1
      have e2 := match_le1 (c := 110) m2 h2
      subst e1 e2
      refine mscan_pu T w hT q0 q1 m1 m2 fun w => ?_
      exact number_scan T 1 false w hT ⟨hr, by omega, fun h _ => by omega, hw⟩ (by omega)

theorem mscan_sm (T : ByteArray) (w : World) (hT : T.size ≤ 1024) (q0 : 0 < T.size) (q1 : bAt T 0 = 45) :
    Calls Oabg.prog 19 #[.string T] w fun r w' => ∃ R, r = .returned (scV R) ∧ ScanIs T R ∧ Below w.heap.size w w' := by
  have hr : runTo T 1 = some ⟨1, true, false, [], 0, 0, 0, 0⟩ := by
    rw [runTo_next (S := ⟨0, false, false, [], 0, 0, 0, 0⟩) rfl, q1]; rfl
  have hsz : (T.extract 1 T.size).size = T.size - 1 := size_extract T 1 T.size (Nat.le_refl _)
  obtain ⟨n1, m1⟩ := isMatch_exists (T.extract 1 T.size) ⟨#[105]⟩
  obtain ⟨n2, m2⟩ := isMatch_exists (T.extract 1 T.size) ⟨#[110]⟩
  by_cases h1 : n1 = 1
  · subst h1
    obtain ⟨n, m⟩ := isMatch_exists (T.extract 1 T.size) ⟨#[105, 110, 102, 105, 110, 105, 116, 121]⟩
    have hn1 : 1 ≤ n := word_first (c := 105) m1 (by omega) m (by decide) (by decide)
    have hi : ScanIs T (wordR T 1 true 1 n) := word_is hT hr (by omega) (by omega) (.inl rfl) hn1 m
    have hn : n ≤ (T.extract 1 T.size).size := m.1
    by_cases hb : n < (T.extract 1 T.size).size
    · refine (mscan_mib T w hT q0 q1 m1 n m hb).mono fun r w' ⟨h, hB⟩ => ⟨_, h, ?_, hB⟩
      have : wordR T 1 true 1 n = wrongAt T (1 + n) := by
        unfold wordR
        rw [if_neg (by omega), if_neg (by omega)]
      rw [← this]; exact hi
    · have he : n = (T.extract 1 T.size).size := by omega
      by_cases h3 : n = 3
      · refine (mscan_mi3 T w hT q0 q1 m1 n m (by omega) h3).mono fun r w' ⟨h, hB⟩ => ⟨_, h, ?_, hB⟩
        have : wordR T 1 true 1 n = ⟨1, true, ⟨#[]⟩, 0, 0, 0⟩ := by
          unfold wordR
          rw [if_neg (by omega), if_pos (by omega)]
        rw [← this]; exact hi
      · by_cases h8 : n = 8
        · refine (mscan_mi8 T w hT q0 q1 m1 n m (by omega) h8).mono fun r w' ⟨h, hB⟩ => ⟨_, h, ?_, hB⟩
          have : wordR T 1 true 1 n = ⟨1, true, ⟨#[]⟩, 0, 0, 0⟩ := by
            unfold wordR
            rw [if_neg (by omega), if_pos (by omega)]
          rw [← this]; exact hi
        · refine (mscan_mic T w hT q0 q1 m1 n m he h3 h8).mono fun r w' ⟨h, hB⟩ => ⟨_, h, ?_, hB⟩
          have : wordR T 1 true 1 n = wrongAt T (1 + n) := by
            unfold wordR
            rw [if_neg (by omega), if_neg (by omega)]
          rw [← this]; exact hi
  · by_cases h2 : n2 = 1
    · subst h2
      have e1 := match_le1 (c := 105) m1 h1
      subst e1
      obtain ⟨n, m⟩ := isMatch_exists (T.extract 1 T.size) ⟨#[110, 97, 110]⟩
      have hn1 : 1 ≤ n := word_first (c := 110) m2 (by omega) m (by decide) (by decide)
      have hi : ScanIs T (wordR T 1 true 2 n) := word_is hT hr (by omega) (by omega) (.inr rfl) hn1 m
      have hn : n ≤ (T.extract 1 T.size).size := m.1
      by_cases hb : n < (T.extract 1 T.size).size
      · refine (mscan_mnb T w hT q0 q1 m1 m2 n m hb).mono fun r w' ⟨h, hB⟩ => ⟨_, h, ?_, hB⟩
        have : wordR T 1 true 2 n = wrongAt T (1 + n) := by
          unfold wordR
          rw [if_neg (by omega), if_neg (by omega)]
        rw [← this]; exact hi
      · have he : n = (T.extract 1 T.size).size := by omega
        by_cases h3 : n = 3
        · refine (mscan_mn3 T w hT q0 q1 m1 m2 n m (by omega) h3).mono fun r w' ⟨h, hB⟩ => ⟨_, h, ?_, hB⟩
          have : wordR T 1 true 2 n = ⟨2, false, ⟨#[]⟩, 0, 0, 0⟩ := by
            unfold wordR
            rw [if_pos (by omega)]
          rw [← this]; exact hi
        · refine (mscan_mnc T w hT q0 q1 m1 m2 n m he h3).mono fun r w' ⟨h, hB⟩ => ⟨_, h, ?_, hB⟩
          have : wordR T 1 true 2 n = wrongAt T (1 + n) := by
            unfold wordR
            rw [if_neg (by omega), if_neg (by omega)]
          rw [← this]; exact hi
    · have hw : 1 < T.size → bAt T 1 ≠ 73 ∧ bAt T 1 ≠ 105 ∧ bAt T 1 ≠ 78 ∧ bAt T 1 ≠ 110 := fun h => no_word (T := T) (h := 1) h m1 m2 h1 h2
      have e1 := match_le1 (c := 105) m1 h1
      have e2 := match_le1 (c := 110) m2 h2
      subst e1 e2
      refine mscan_mu T w hT q0 q1 m1 m2 fun w => ?_
      exact number_scan T 1 true w hT ⟨hr, by omega, fun h _ => by omega, hw⟩ (by omega)

theorem mscan_any (T : ByteArray) (w : World) (hs : T.size ≤ 140737488351232) :
    Calls Oabg.prog 19 #[.string T] w fun r w' => ∃ R, r = .returned (scV R) ∧ ScanIs T R ∧ Below w.heap.size w w' := by
  by_cases hT : T.size ≤ 1024
  · by_cases h0 : T.size = 0
    · exact mscan_empty T w hT h0
    · by_cases h1 : bAt T 0 = 43
      · exact mscan_sp T w hT (by omega) h1
      · by_cases h2 : bAt T 0 = 45
        · exact mscan_sm T w hT (by omega) h2
        · exact mscan_none T w hT (by omega) h1 h2
  · exact (mscan_big T w hs (by omega)).mono fun r w' ⟨h, hB⟩ => ⟨_, h, .inl ⟨by omega, rfl⟩, hB⟩

end Go.Proofs.Ygcoab
