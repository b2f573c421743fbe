import Derived.Test.YgcoabWDec
namespace Go.Proofs.Ygcoab
open Go.RowKit

set_option maxHeartbeats 400000 in
theorem canonical_zero (neg : Bool) (w : World) :
    Calls Oabg.prog 17 #[decV ⟨neg, ByteArray.empty, 0⟩] w fun e w' => e = .returned (.bool true) ∧ Below w.heap.size w w' := by
  unfold decV
  go_enter Oabg.func17, Oabg.ntmps17
  go_wp2
  go_ret
  exact ⟨rfl, (Below.refl _ _).alloc (Nat.le_refl _) _⟩

set_option maxHeartbeats 400000 in
theorem canonical_some (neg : Bool) (t : ByteArray) (x : Int) (w : World) (h0 : 0 < t.size) (h8 : t.size ≤ 800) (ha : allDig t = true) (hf : bAt t 0 ≠ 48) (hl : bAt t (t.size - 1) ≠ 48) (h1 : -2000 ≤ x) (h2 : x ≤ 2000) :
    Calls Oabg.prog 17 #[decV ⟨neg, t, x⟩] w fun e w' => e = .returned (.bool true) ∧ Below w.heap.size w w' := by
  have hz : ((t.size : Int) == 0) = false := by rw [beq_eq_false_iff_ne]; omega
  have hb0 := bAt_eq t 0 h0
  have hbl := bAt_eq t (t.size - 1) (by omega)
  have hf' : ((bAt t 0 : Int) != 48) = true := by simp; omega
  have hl' : ((bAt t (t.size - 1) : Int) != 48) = true := by simp; omega
  have hB0 := bAt_lt t 0
  have hBl := bAt_lt t (t.size - 1)
  have HA : Hid (allDig t = true) := ha
  clear ha hf hl
  unfold decV
  go_enter Oabg.func17, Oabg.ntmps17
  go_wp2_with (go_at_call 16; refine (isDigits_any t _ (by omega)).mono ?_; rintro e w' ⟨rfl, rfl⟩; rw [HA.out])
  go_ret
  exact ⟨rfl, (Below.refl _ _).alloc (Nat.le_refl _) _⟩

theorem make_eq {neg n : Bool} {s t : ByteArray} {exp x : Int} {ok : Bool} (h : mkDc neg s exp = (⟨n, t, x⟩, ok)) (w : World) (hs : s.size ≤ 140737488351232) (he : -9223372036854775808 ≤ exp) :
    Calls Oabg.prog 15 #[.bool neg, .string s, .int .i64 exp] w fun e w' => e = .returned (.tuple #[.agg #[.bool n, .string t, .int .i16 x], .bool ok]) ∧ Below w.heap.size w w' := by
  have := make_any neg s exp w hs he
  rw [h] at this
  exact this

theorem isDigits_eq {b : Bool} (s : ByteArray) (h : allDig s = b) (w : World) (hs : s.size ≤ 140737488351232) :
    Calls Oabg.prog 16 #[.string s] w fun e w' => e = .returned (.bool b) ∧ w' = w := by
  have := isDigits_any s w hs
  rw [h] at this
  exact this

set_option maxHeartbeats 400000 in
theorem makeRight_bad (neg : Bool) (s : ByteArray) (exp : Int) (w : World) (hs : s.size ≤ 140737488351232) (he : -9223372036854775808 ≤ exp) (ha : allDig s = false) :
    Calls Oabg.prog 3 #[.bool neg, .string s, .int .i64 exp] w fun e w' => e = .returned (.bool true) ∧ Below w.heap.size w w' := by
  have HA : Hid (allDig s = false) := ha
  clear ha
  go_enter Oabg.func3, Oabg.ntmps3
  go_wp2_with (first | (go_at_call 15; refine (make_eq (mkDc_bad' HA.out) _ hs he).mono ?_; rintro e w1 ⟨rfl, hb⟩) | (go_at_call 16; refine (isDigits_eq s HA.out _ hs).mono ?_; rintro e w' ⟨rfl, rfl⟩))
  go_ret
  exact ⟨rfl, hb.alloc hb.size _⟩

set_option maxHeartbeats 1600000 in
theorem makeRight_good (neg n : Bool) (s t : ByteArray) (exp x : Int) (ok : Bool) (w : World) (hs : s.size ≤ 140737488351232) (he : -9223372036854775808 ≤ exp) (ha : allDig s = true)
    (hm : mkDc neg s exp = (⟨n, t, x⟩, ok)) :
    Calls Oabg.prog 3 #[.bool neg, .string s, .int .i64 exp] w fun e w' => e = .returned (.bool true) ∧ Below w.heap.size w w' := by
  have HA : Hid (allDig s = true) := ha
  have HM : Hid (mkDc neg s exp = (⟨n, t, x⟩, ok)) := hm
  clear ha hm
  go_enter Oabg.func3, Oabg.ntmps3
  go_wp2_with (first | (go_at_call 15; refine (make_eq HM.out _ hs he).mono ?_; rintro e w1 ⟨rfl, hb⟩) | (go_at_call 16; refine (isDigits_eq s HA.out _ hs).mono ?_; rintro e w' ⟨rfl, rfl⟩))
  go_loop [9] (fun z => ∃ k : Nat, k ≤ s.size ∧ z = .int .i64 k ∧ Hid (∀ j, s.size - k ≤ j → j < s.size → bAt s j = 48)) (fun z => s.size - (intOf z).toNat)
  case atStart => exact ⟨0, Nat.zero_le _, rfl, fun j h1 h2 => by omega⟩
  case round =>
    obtain ⟨k, hk, rfl, HZ⟩ := hrel
    have hB := bAt_lt s (s.size - 1 - k)
    by_cases hc : k < s.size ∧ bAt s (s.size - 1 - k) = 48
    · obtain ⟨hlt, h48⟩ := hc
      have hb' := bAt_eq s (s.size - 1 - k) (by omega)
      have h48' : ((bAt s (s.size - 1 - k) : Int) == 48) = true := by simp; omega
      have H48 : Hid (bAt s (s.size - 1 - k) = 48) := h48
      clear h48
      go_wp2
      go_round
      case rel => exact ⟨k + 1, by omega, by go_num, fun j h1 h2 => by
        by_cases e : j = s.size - 1 - k
        · rw [e]; exact H48.out
        · exact HZ.out j (by omega) h2⟩
      case measure => simp [intOf]; omega
    · have HE : Hid (endTo s s.size = s.size - k) := by
        refine endTo_eq s s.size (s.size - k) (by omega) HZ.out ?_
        by_cases hlt : k < s.size
        · right
          intro h
          exact hc ⟨hlt, by rw [← h]; congr 1; omega⟩
        · left; omega
      have hb' : ∀ h : s.size - 1 - k < s.size, (s[s.size - 1 - k]'h).toNat = bAt s (s.size - 1 - k) := fun h => bAt_eq s _ h
      have h48' : k < s.size → ((bAt s (s.size - 1 - k) : Int) == 48) = false := fun h => by rw [beq_eq_false_iff_ne]; intro e; exact hc ⟨h, by omega⟩
      clear hc
      go_wp2
      all_goals
        obtain ⟨e, hE⟩ : ∃ e, e = s.size - k := ⟨_, rfl⟩
        rw [← hE] at HE ⊢
        have hes : e ≤ s.size := by omega
        have HK : Hid (e = s.size - k) := hE
        clear hE h48' hb'
        go_loop [10] (fun v => ∃ j : Nat, j ≤ e ∧ v = .string (s.extract j e) ∧ Hid (∀ i, i < j → bAt s i = 48)) (fun v => match v with | .string u => u.size | _ => 0)
        case atStart => exact ⟨0, Nat.zero_le _, rfl, fun i h1 => by omega⟩
        case round =>
          obtain ⟨j, hj, rfl, HF⟩ := hrel
          have hsz := size_extract s j e hes
          by_cases hje : j < e
          · have hne : (s.extract j e).toList.isEmpty = false := isEmpty_false (by omega)
            have hb0 : ∀ h : 0 < (s.extract j e).size, ((s.extract j e)[0]'h).toNat = bAt s j := fun h => by rw [bAt_eq, bAt_extract s j e 0 (by omega)]; rfl
            by_cases h48 : bAt s j = 48
            · have h48' : ((bAt s j : Int) == 48) = true := by simp; omega
              have H48 : Hid (bAt s j = 48) := h48
              clear h48
              go_wp2
              go_round
              case rel => exact ⟨j + 1, by omega, by rw [extract_extract s j e 1 (e - j) (by omega)]; congr 2; omega, fun i h => by
                by_cases q : i = j
                · rw [q]; exact H48.out
                · exact HF.out i (by omega)⟩
              case measure => simp [hsz]; omega
            · have h48' : ((bAt s j : Int) == 48) = false := by rw [beq_eq_false_iff_ne]; omega
              have HJ : Hid (fstTo s s.size = j) := fstTo_eq s s.size j (Nat.le_refl _) (by omega) HF.out h48
              have hfn := bAt_extract s j e 0 (by omega)
              by_cases hx : exp ≤ 2000
              · by_cases hfar : 800 < (e : Int) - (j : Int) ∨ 2000 < exp + (k : Int) ∨ exp + (k : Int) < -2000
                · have hq := HM.out.symm.trans (mkDc_far' HA.out (by rw [HE.out]; omega) (by rw [HE.out, HJ.out]; have := HK.out; omega))
                  simp only [Prod.mk.injEq, Dc.mk.injEq] at hq
                  obtain ⟨⟨rfl, rfl, rfl⟩, rfl⟩ := hq
                  clear h48 hfn
                  go_wp2
                  all_goals (go_ret; exact ⟨rfl, hb.alloc hb.size _⟩)
                · have hq := HM.out.symm.trans (mkDc_near HA.out (by rw [HE.out]; omega) (by rw [HE.out, HJ.out]; have := HK.out; omega))
                  rw [HE.out, HJ.out, show exp + ((s.size : Int) - (e : Int)) = exp + (k : Int) from by have := HK.out; omega] at hq
                  simp only [Prod.mk.injEq, Dc.mk.injEq] at hq
                  obtain ⟨⟨rfl, rfl, rfl⟩, rfl⟩ := hq
                  have hc1 : allDig (s.extract j e) = true := allDig_extract s j e hes HA.out
                  have HC : Hid (∀ w', Calls Oabg.prog 17 #[.agg #[.bool n, .string (s.extract j e), .int .i16 (exp + (k : Int))]] w' fun e w2 => e = .returned (.bool true) ∧ Below w'.heap.size w' w2) := fun w' =>
                    canonical_some n (s.extract j e) (exp + (k : Int)) w' (by omega) (by omega) hc1 (by rw [hfn]; exact h48) (by
                      rw [hsz, bAt_extract s j e (e - j - 1) (by omega), show j + (e - j - 1) = e - 1 from by omega]
                      have := (span_ends s s.size (Nat.le_refl _) (by rw [HE.out]; omega)).2
                      rwa [HE.out] at this) (by omega) (by omega)
                  clear h48 hfn hc1
                  go_wp2_with (go_at_call 17; refine (HC.out _).mono ?_; rintro e' w2 ⟨rfl, hb2⟩)
                  go_ret
                  exact ⟨rfl, (hb.alloc hb.size _).trans (hb2.mono (by have := hb.size; simp; omega))⟩
              · have hq := HM.out.symm.trans (mkDc_far' HA.out (by rw [HE.out]; omega) (by omega))
                simp only [Prod.mk.injEq, Dc.mk.injEq] at hq
                obtain ⟨⟨rfl, rfl, rfl⟩, rfl⟩ := hq
                clear h48 hfn
                go_wp2
                all_goals (go_ret; exact ⟨rfl, hb.alloc hb.size _⟩)
          · have hne : (s.extract j e).toList.isEmpty = true := isEmpty_true (by omega)
            have he0 : Hid (e = 0) := by
              cases Nat.eq_zero_or_pos e with
              | inl h => exact h
              | inr h =>
                have := (span_ends s s.size (Nat.le_refl _) (by rw [HE.out]; omega)).2
                rw [HE.out] at this
                exact absurd (HF.out (e - 1) (by omega)) this
            have hq := HM.out.symm.trans (mkDc_zero HA.out (by rw [HE.out]; exact he0.out))
            simp only [Prod.mk.injEq, Dc.mk.injEq] at hq
            obtain ⟨⟨rfl, rfl, rfl⟩, rfl⟩ := hq
            go_wp2_with (go_at_call 17; refine (canonical_zero n _).mono ?_; rintro e' w2 ⟨rfl, hb2⟩)
            go_ret
            exact ⟨rfl, (hb.alloc hb.size _).trans (hb2.mono (by have := hb.size; simp; omega))⟩
end Go.Proofs.Ygcoab
