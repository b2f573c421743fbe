import Derived.Test.YgcoabWTextRight
namespace Go.Proofs.Ygcoab
open Go.RowKit

theorem mkDc_cases (neg : Bool) (s : ByteArray) (exp : Int) :
    (∃ n t x, mkDc neg s exp = (⟨n, t, x⟩, false)) ∨ mkDc neg s exp = (⟨neg, ByteArray.empty, 0⟩, true) ∨ ∃ t x, mkDc neg s exp = (⟨neg, t, x⟩, true) ∧ Canon t x := by
  cases ha : allDig s
  · exact .inl ⟨_, _, _, mkDc_bad' ha⟩
  · by_cases h0 : endTo s s.size = 0
    · exact .inr (.inl (mkDc_zero ha h0))
    · by_cases hf : 800 < (endTo s s.size : Int) - (fstTo s s.size : Int) ∨ 2000 < exp ∨ 2000 < exp + ((s.size : Int) - (endTo s s.size : Int)) ∨ exp + ((s.size : Int) - (endTo s s.size : Int)) < -2000
      · exact .inl ⟨_, _, _, mkDc_far' ha h0 hf⟩
      · refine .inr (.inr ⟨_, _, mkDc_near ha h0 hf, ?_⟩)
        have hel := endTo_le s s.size
        have hfe := fst_lt_end s s.size (Nat.le_refl _)
        have hse := span_ends s s.size (Nat.le_refl _) (by omega)
        have hz := size_extract s (fstTo s s.size) (endTo s s.size) hel
        refine ⟨by omega, by omega, allDig_extract s _ _ hel ha, ?_, ?_, by omega, by omega⟩
        · rw [bAt_extract _ _ _ _ (by omega)]; exact hse.1
        · rw [hz, bAt_extract _ _ _ _ (by omega), show fstTo s s.size + (endTo s s.size - fstTo s s.size - 1) = endTo s s.size - 1 from by omega]; exact hse.2

/-- what TextRight puts together behind the sign w0 -/
def wantB (w0 t : ByteArray) (x : Int) : ByteArray :=
  (if absI x < 10 then (if x < 0 then (if 1 < t.size then w0 ++ t.extract 0 1 ++ (⟨#[46]⟩ ++ t.extract 1 t.size) else w0 ++ t.extract 0 1) ++ ⟨#[101]⟩ ++ ⟨#[45]⟩ else (if 1 < t.size then w0 ++ t.extract 0 1 ++ (⟨#[46]⟩ ++ t.extract 1 t.size) else w0 ++ t.extract 0 1) ++ ⟨#[101]⟩ ++ ⟨#[43]⟩) ++ ⟨#[48]⟩
   else (if x < 0 then (if 1 < t.size then w0 ++ t.extract 0 1 ++ (⟨#[46]⟩ ++ t.extract 1 t.size) else w0 ++ t.extract 0 1) ++ ⟨#[101]⟩ ++ ⟨#[45]⟩ else (if 1 < t.size then w0 ++ t.extract 0 1 ++ (⟨#[46]⟩ ++ t.extract 1 t.size) else w0 ++ t.extract 0 1) ++ ⟨#[101]⟩ ++ ⟨#[43]⟩)) ++ itoaB (absI x)

theorem e_minus (b : ByteArray) : (⟨#[101, 45]⟩ ++ b : ByteArray) = ⟨#[101]⟩ ++ (⟨#[45]⟩ ++ b) := by
  apply ByteArray.ext; simp
theorem e_plus (b : ByteArray) : (⟨#[101, 43]⟩ ++ b : ByteArray) = ⟨#[101]⟩ ++ (⟨#[43]⟩ ++ b) := by
  apply ByteArray.ext; simp

theorem wantB_eq (w0 t : ByteArray) (x : Int) : w0 ++ bodyB t x = wantB w0 t x := by
  unfold wantB bodyB headB markB absI
  by_cases h1 : x < 0
  · rw [if_pos h1, if_pos h1, if_pos h1]
    by_cases h2 : -x < 10
    · rw [if_pos h2, if_pos h2]
      split <;> simp only [ByteArray.append_assoc, e_minus]
    · rw [if_neg h2, if_neg h2]
      split <;> simp only [ByteArray.append_assoc, e_minus]
  · rw [if_neg h1, if_neg h1, if_neg h1]
    by_cases h2 : x < 10
    · rw [if_pos h2, if_pos h2]
      split <;> simp only [ByteArray.append_assoc, e_plus]
    · rw [if_neg h2, if_neg h2]
      split <;> simp only [ByteArray.append_assoc, e_plus]

theorem text_pos (t : ByteArray) (x : Int) (w : World) (hc : Canon t x) :
    Calls Oabg.prog 20 #[.agg #[.bool false, .string t, .int .i16 x]] w fun e w' => ∃ T, e = .returned (.string T) ∧ Hid (T = wantB ⟨#[]⟩ t (x + (t.size : Int) - 1)) ∧ Below w.heap.size w w' :=
  (text_some false t x w hc).mono fun _ _ ⟨k1, k2⟩ => ⟨_, k1, by rw [← wantB_eq, nil_app]; rfl, k2⟩

theorem text_neg (t : ByteArray) (x : Int) (w : World) (hc : Canon t x) :
    Calls Oabg.prog 20 #[.agg #[.bool true, .string t, .int .i16 x]] w fun e w' => ∃ T, e = .returned (.string T) ∧ Hid (T = wantB ⟨#[45]⟩ t (x + (t.size : Int) - 1)) ∧ Below w.heap.size w w' :=
  (text_some true t x w hc).mono fun _ _ ⟨k1, k2⟩ => ⟨_, k1, by rw [← wantB_eq]; rfl, k2⟩

set_option maxHeartbeats 400000 in
theorem textRight_no (neg n : Bool) (s t : ByteArray) (exp x i : Int) (w : World) (hs : s.size ≤ 140737488351232) (he : -9223372036854775808 ≤ exp) (h1 : -9223372036854775808 ≤ i) (h2 : i ≤ 9223372036854775807)
    (hm : mkDc neg s exp = (⟨n, t, x⟩, false)) :
    Calls Oabg.prog 6 #[.bool neg, .string s, .int .i64 exp, .int .i64 i] w fun e w' => e = .returned (.bool true) ∧ Below w.heap.size w w' := by
  have HM : Hid (mkDc neg s exp = (⟨n, t, x⟩, false)) := hm
  clear hm
  go_enter Oabg.func6, Oabg.ntmps6
  go_wp2_with (first | (go_at_call 21; refine (itoaRight_any i _ h1 h2).mono ?_; rintro e w1 ⟨rfl, hb⟩) | (go_at_call 15; refine (make_eq HM.out _ hs he).mono ?_; rintro e w2 ⟨rfl, hb2⟩))
  go_ret
  exact ⟨rfl, (below_two hb hb2).alloc (below_two hb hb2).size _⟩

set_option maxHeartbeats 400000 in
theorem textRight_zero (neg : Bool) (s : ByteArray) (exp i : Int) (w : World) (hs : s.size ≤ 140737488351232) (he : -9223372036854775808 ≤ exp) (h1 : -9223372036854775808 ≤ i) (h2 : i ≤ 9223372036854775807)
    (hm : mkDc neg s exp = (⟨neg, ByteArray.empty, 0⟩, true)) :
    Calls Oabg.prog 6 #[.bool neg, .string s, .int .i64 exp, .int .i64 i] w fun e w' => e = .returned (.bool true) ∧ Below w.heap.size w w' := by
  have HM : Hid (mkDc neg s exp = (⟨neg, ByteArray.empty, 0⟩, true)) := hm
  clear hm
  cases neg
  · have hz : ((signed false ⟨#[48, 101, 43, 48, 48]⟩).toList == (⟨#[]⟩ ++ ⟨#[48, 101, 43, 48, 48]⟩ : ByteArray).toList) = true := by decide +kernel
    go_enter Oabg.func6, Oabg.ntmps6
    go_wp2_with (first | (go_at_call 21; refine (itoaRight_any i _ h1 h2).mono ?_; rintro e w1 ⟨rfl, hb⟩) | (go_at_call 15; refine (make_eq HM.out _ hs he).mono ?_; rintro e w2 ⟨rfl, hb2⟩) | (go_at_call 20; refine (text_zero false _).mono ?_; rintro e w3 ⟨rfl, hb3⟩))
    go_ret
    exact ⟨rfl, (below_two hb hb2).trans (((Below.refl _ _).alloc (Nat.le_refl _) _ |>.trans (hb3.mono (by simp))).mono (below_two hb hb2).size)⟩
  · have hz : ((signed true ⟨#[48, 101, 43, 48, 48]⟩).toList == (⟨#[45]⟩ ++ ⟨#[48, 101, 43, 48, 48]⟩ : ByteArray).toList) = true := by decide +kernel
    go_enter Oabg.func6, Oabg.ntmps6
    go_wp2_with (first | (go_at_call 21; refine (itoaRight_any i _ h1 h2).mono ?_; rintro e w1 ⟨rfl, hb⟩) | (go_at_call 15; refine (make_eq HM.out _ hs he).mono ?_; rintro e w2 ⟨rfl, hb2⟩) | (go_at_call 20; refine (text_zero true _).mono ?_; rintro e w3 ⟨rfl, hb3⟩))
    go_ret
    exact ⟨rfl, (below_two hb hb2).trans (((Below.refl _ _).alloc (Nat.le_refl _) _ |>.trans (hb3.mono (by simp))).mono (below_two hb hb2).size)⟩

theorem below_tr {w w1 w2 w3 w4 : World} {o : Obj} (h1 : Below w.heap.size w w1) (h2 : Below w1.heap.size w1 w2) (h3 : Below (w2.alloc o).heap.size (w2.alloc o) w3) (h4 : Below w3.heap.size w3 w4) : Below w.heap.size w w4 :=
  below_two (below_two h1 h2) (below_box h3 h4)

set_option maxHeartbeats 1000000 in
theorem textRight_some (neg : Bool) (s t : ByteArray) (exp x i : Int) (w : World) (hs : s.size ≤ 140737488351232) (he : -9223372036854775808 ≤ exp) (h1 : -9223372036854775808 ≤ i) (h2 : i ≤ 9223372036854775807)
    (hm : mkDc neg s exp = (⟨neg, t, x⟩, true)) (hc : Canon t x) :
    Calls Oabg.prog 6 #[.bool neg, .string s, .int .i64 exp, .int .i64 i] w fun e w' => e = .returned (.bool true) ∧ Below w.heap.size w w' := by
  have HM : Hid (mkDc neg s exp = (⟨neg, t, x⟩, true)) := hm
  have HC : Hid (Canon t x) := hc
  have hc0 := hc.h0
  have hc8 := hc.h8
  have hc1 := hc.h1
  have hc2 := hc.h2
  have hz1 := itoaB_size (x + (t.size : Int) - 1)
  have hz2 := itoaB_size (-(x + (t.size : Int) - 1))
  have ht0 : ((t.size : Int) == 0) = false := by rw [beq_eq_false_iff_ne]; omega
  clear hm hc
  cases neg
  · go_enter Oabg.func6, Oabg.ntmps6
    go_wp2_with (first | (go_at_call 21; refine (itoaRight_any i _ h1 h2).mono ?_; rintro e w1 ⟨rfl, hb⟩) | (go_at_call 15; refine (make_eq HM.out _ hs he).mono ?_; rintro e w2 ⟨rfl, hb2⟩) | (go_at_call 20; refine (text_pos t x _ HC.out).mono ?_; rintro e w3 ⟨T, rfl, HT, hb3⟩) | (go_at_call 22; refine (itoa_any _ _ (by omega) (by omega)).mono ?_; rintro e w4 ⟨rfl, hb4⟩; have hT := HT.out; simp (disch := omega) only [wantB, absI, if_pos, if_neg] at hT))
    all_goals (go_ret; exact ⟨rfl, below_tr hb hb2 hb3 hb4⟩)
  · go_enter Oabg.func6, Oabg.ntmps6
    go_wp2_with (first | (go_at_call 21; refine (itoaRight_any i _ h1 h2).mono ?_; rintro e w1 ⟨rfl, hb⟩) | (go_at_call 15; refine (make_eq HM.out _ hs he).mono ?_; rintro e w2 ⟨rfl, hb2⟩) | (go_at_call 20; refine (text_neg t x _ HC.out).mono ?_; rintro e w3 ⟨T, rfl, HT, hb3⟩) | (go_at_call 22; refine (itoa_any _ _ (by omega) (by omega)).mono ?_; rintro e w4 ⟨rfl, hb4⟩; have hT := HT.out; simp (disch := omega) only [wantB, absI, if_pos, if_neg] at hT))
    all_goals (go_ret; exact ⟨rfl, below_tr hb hb2 hb3 hb4⟩)

theorem textRight_walk (a0 : Bool) (a1 : ByteArray) (a2 a3 : Int) (z1 : a1.size ≤ 140737488351232) (z2 : -9223372036854775808 ≤ a2 ∧ a2 ≤ 9223372036854775807) (z3 : -9223372036854775808 ≤ a3 ∧ a3 ≤ 9223372036854775807) (w : World) :
    Calls Oabg.prog 6 #[.bool a0, .string a1, .int .i64 a2, .int .i64 a3] w fun e w' => e = .returned (.bool true) ∧ Below w.heap.size w w' := by
  rcases mkDc_cases a0 a1 a2 with ⟨n, t, x, h⟩ | h | ⟨t, x, h, hc⟩
  · exact textRight_no a0 n a1 t a2 x a3 w z1 z2.1 z3.1 z3.2 h
  · exact textRight_zero a0 a1 a2 a3 w z1 z2.1 z3.1 z3.2 h
  · exact textRight_some a0 a1 t a2 x a3 w z1 z2.1 z3.1 z3.2 h hc
end Go.Proofs.Ygcoab
