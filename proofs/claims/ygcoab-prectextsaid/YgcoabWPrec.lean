import Derived.Test.YgcoabWFixed
import Derived.Test.YgcoabPlainFixed
import Derived.Test.YgcoabWMake
namespace Go.Proofs.Ygcoab
open Go.RowKit

set_option maxHeartbeats 400000 in
theorem textE_none (neg : Bool) (s : ByteArray) (x : Int) (w : World) (h0 : s.size = 0) :
    Calls Oabg.prog 36 #[.bool neg, .string s, .int .i16 x] w fun e w' => e = .returned (.string ByteArray.empty) ∧ w' = w := by
  have he := isEmpty_true h0
  clear h0
  go_enter Oabg.func36, Oabg.ntmps36
  go_wp2
  go_ret
  exact ⟨rfl, rfl⟩

theorem textF_any (neg : Bool) (s : ByteArray) (p : Nat) (w : World) (hs : s.size ≤ 140737488351232) (h0 : 0 < s.size) (hp : p ≤ 2000) :
    Calls Oabg.prog 37 #[.bool neg, .string s, .int .u16 p] w fun e w' => e = .returned (.string (signed neg (fixB s (p + 1 - s.size) (s.size + (p + 1 - s.size) - p)))) ∧ Below w.heap.size w w' := by
  by_cases hc : s.size < p + 1
  · cases neg
    · exact textF_pp s p _ _ w hs h0 hp hc rfl (by omega)
    · have := textF_np s p _ _ w hs h0 hp hc rfl (show s.size + (p + 1 - s.size) - p + p = _ from by omega)
      rw [nums_minus] at this
      exact this
  · have e : p + 1 - s.size = 0 := by omega
    rw [e]
    cases neg
    · exact textF_p0 s p _ w hs h0 hp (by omega) (show s.size + 0 - p + p = _ from by omega)
    · have := textF_n0 s p _ w hs h0 hp (by omega) (show s.size + 0 - p + p = _ from by omega)
      rw [nums_minus] at this
      exact this

theorem fixed_any (s : ByteArray) (p : Nat) (w : World) (hs : s.size ≤ 140737488351232) (h0 : 0 < s.size) (hp : p ≤ 2000) :
    Calls Oabg.prog 38 #[.string (fixB s (p + 1 - s.size) (s.size + (p + 1 - s.size) - p)), .string s, .int .i64 p] w fun e w' => e = .returned (.bool true) ∧ Below w.heap.size w w' := by
  by_cases h : p = 0
  · subst h
    rw [show 0 + 1 - s.size = 0 from by omega, show s.size + 0 - 0 = s.size from by omega, fixB_zero]
    exact (fixedText_zero s w hs).mono fun e w' ⟨h1, h2⟩ => ⟨h1, by rw [h2]; exact Below.refl _ _⟩
  · obtain ⟨pad, hpad⟩ : ∃ pad, pad = p + 1 - s.size := ⟨_, rfl⟩
    rw [← hpad]
    obtain ⟨cut, hcut⟩ : ∃ cut, cut = s.size + pad - p := ⟨_, rfl⟩
    rw [← hcut]
    have hsz := fixB_size s pad cut
    rw [if_pos (by omega)] at hsz
    refine fixedText_pos (fixB s pad cut) s (padB s pad) p cut pad w hs (by omega) hp (by omega) hsz (by omega) (by omega) (by omega) ?_ (fixB_join s pad cut (by omega)) (padB_size s pad) (padB_tail s pad) (padB_zero s pad)
    rw [fixB_at s pad cut cut (by rw [if_pos (by omega)]; omega), if_pos (by omega), if_neg (by omega), if_pos rfl]

set_option maxHeartbeats 400000 in
theorem prec_empty (neg : Bool) (s : ByteArray) (x : Int) (p : Nat) (w : World) (h0 : s.size = 0) (hp : p ≤ 65535) :
    Calls Oabg.prog 9 #[.bool neg, .string s, .int .i16 x, .int .u16 p] w fun e w' => e = .returned (.bool true) ∧ Below w.heap.size w w' := by
  have he := isEmpty_true h0
  have H0 : Hid (s.size = 0) := h0
  clear h0
  go_enter Oabg.func9, Oabg.ntmps9
  go_wp2_with (first | (go_at_call 36; refine (textE_none neg s x _ H0.out).mono ?_; rintro e w' ⟨rfl, rfl⟩) | (go_at_call 37; refine (textF_none neg s p _ (.inl H0.out) hp).mono ?_; rintro e w' ⟨rfl, rfl⟩))
  go_ret
  exact ⟨rfl, Below.refl _ _⟩

/-- TextF for every prec: the string, unnamed -/
theorem textF_all (neg : Bool) (s : ByteArray) (p : Nat) (w : World) (hs : s.size ≤ 140737488351232) (h0 : 0 < s.size) (hp : p ≤ 65535) :
    Calls Oabg.prog 37 #[.bool neg, .string s, .int .u16 p] w fun e w' => ∃ f : ByteArray, e = .returned (.string f) ∧ Below w.heap.size w w' := by
  by_cases h : p ≤ 2000
  · exact (textF_any neg s p w hs h0 h).mono fun e w' ⟨h1, h2⟩ => ⟨_, h1, h2⟩
  · exact (textF_none neg s p w (.inr (by omega)) hp).mono fun e w' ⟨h1, h2⟩ => ⟨_, h1, by rw [h2]; exact Below.refl _ _⟩

set_option maxHeartbeats 400000 in
theorem prec_bad (neg : Bool) (s : ByteArray) (x : Int) (p : Nat) (w : World) (hs : s.size ≤ 140737488351232) (h0 : 0 < s.size) (hp : p ≤ 65535) (h1 : -32768 ≤ x) (h2 : x ≤ 32767) (ha : allDig s = false) :
    Calls Oabg.prog 9 #[.bool neg, .string s, .int .i16 x, .int .u16 p] w fun e w' => e = .returned (.bool true) ∧ Below w.heap.size w w' := by
  have he := isEmpty_false h0
  have HA : Hid (allDig s = false) := ha
  clear ha
  go_enter Oabg.func9, Oabg.ntmps9
  go_wp2_with (first | (go_at_call 36; refine (textE_any neg s x _ hs h0 h1 h2).mono ?_; rintro e w1 ⟨rfl, hb1⟩) | (go_at_call 37; refine (textF_all neg s p _ hs h0 hp).mono ?_; rintro e w2 ⟨f, rfl, hb2⟩) | (go_at_call 16; refine (isDigits_eq s HA.out _ hs).mono ?_; rintro e w' ⟨rfl, rfl⟩))
  go_ret
  exact ⟨rfl, hb1.trans (hb2.mono hb1.size)⟩

theorem bodyB_size (s : ByteArray) (x : Int) : 0 < (bodyB s x).size ∧ (bodyB s x).size ≤ s.size + 30 := by
  have h1 := itoaB_size (absI x)
  have h2 : 2 ≤ (markB x).size ∧ (markB x).size ≤ 3 := by
    unfold markB
    split <;> split <;> decide
  have h3 : (headB s).size ≤ s.size + 1 := by
    unfold headB
    split
    · rw [ByteArray.size_append, ByteArray.size_append, size_extract _ _ _ (by omega), size_extract _ _ _ (by omega)]
      show 1 - 0 + (1 + (s.size - 1)) ≤ _
      omega
    · rw [ByteArray.size_extract]; omega
  unfold bodyB
  rw [ByteArray.size_append, ByteArray.size_append]
  omega

theorem bodyB_eq (s : ByteArray) (x : Int) : bodyB s x = headB s ++ markB x ++ itoaB (absI x) := rfl

theorem textE_pos (s : ByteArray) (x : Int) (w : World) (hs : s.size ≤ 140737488351232) (h0 : 0 < s.size) (h1 : -32768 ≤ x) (h2 : x ≤ 32767) :
    Calls Oabg.prog 36 #[.bool false, .string s, .int .i16 x] w fun e w' => e = .returned (.string (bodyB s x)) ∧ Below w.heap.size w w' := textE_any false s x w hs h0 h1 h2

/-- a string with its minus in front, read as PrecText reads it -/
def Minus (m b : ByteArray) : Prop := m.toList.isEmpty = false ∧ 0 < m.size ∧ m.size ≤ 140737488360001 ∧ (∀ h : 0 < m.size, (m[0]'h).toNat = 45) ∧ m.extract 1 m.size = b

theorem minus_of (b : ByteArray) (hb : b.size ≤ 140737488360000) : Minus (⟨#[45]⟩ ++ b) b :=
  ⟨isEmpty_false (by rw [minus_size]; omega), by rw [minus_size]; omega, by rw [minus_size]; omega, fun h => by rw [bAt_eq _ _ h, minus_at], minus_tail b⟩

theorem textE_neg (s : ByteArray) (x : Int) (w : World) (hs : s.size ≤ 140737488351232) (h0 : 0 < s.size) (h1 : -32768 ≤ x) (h2 : x ≤ 32767) :
    Calls Oabg.prog 36 #[.bool true, .string s, .int .i16 x] w fun e w' => ∃ m, e = .returned (.string m) ∧ Minus m (bodyB s x) ∧ Below w.heap.size w w' :=
  (textE_any true s x w hs h0 h1 h2).mono fun _ _ ⟨k1, k2⟩ => ⟨_, k1, minus_of _ (by have := (bodyB_size s x).2; omega), k2⟩

theorem textF_pos (s : ByteArray) (p : Nat) (w : World) (hs : s.size ≤ 140737488351232) (h0 : 0 < s.size) (hp : p ≤ 2000) :
    Calls Oabg.prog 37 #[.bool false, .string s, .int .u16 p] w fun e w' => e = .returned (.string (fixB s (p + 1 - s.size) (s.size + (p + 1 - s.size) - p))) ∧ Below w.heap.size w w' := textF_any false s p w hs h0 hp

theorem textF_neg (s : ByteArray) (p : Nat) (w : World) (hs : s.size ≤ 140737488351232) (h0 : 0 < s.size) (hp : p ≤ 2000) :
    Calls Oabg.prog 37 #[.bool true, .string s, .int .u16 p] w fun e w' => ∃ m, e = .returned (.string m) ∧ Minus m (fixB s (p + 1 - s.size) (s.size + (p + 1 - s.size) - p)) ∧ Below w.heap.size w w' :=
  (textF_any true s p w hs h0 hp).mono fun _ _ ⟨k1, k2⟩ => ⟨_, k1, minus_of _ (by rw [fixB_size]; split <;> omega), k2⟩



set_option maxHeartbeats 1000000 in
theorem prec_pos_near (s : ByteArray) (x : Int) (p : Nat) (w : World) (hs : s.size ≤ 140737488351232) (h0 : 0 < s.size) (hp : p ≤ 2000) (h1 : -32768 ≤ x) (h2 : x ≤ 32767) (ha : allDig s = true) :
    Calls Oabg.prog 9 #[.bool false, .string s, .int .i16 x, .int .u16 p] w fun e w' => e = .returned (.bool true) ∧ Below w.heap.size w w' := by
  have he := isEmpty_false h0
  have hz1 := itoaB_size x
  have hz2 := itoaB_size (-x)
  have HA : Hid (allDig s = true) := ha
  clear ha
  obtain ⟨F, hF⟩ : ∃ F, F = fixB s (p + 1 - s.size) (s.size + (p + 1 - s.size) - p) := ⟨_, rfl⟩
  have HX : Hid (∀ w, Calls Oabg.prog 38 #[.string F, .string s, .int .i64 p] w fun e w' => e = .returned (.bool true) ∧ Below w.heap.size w w') := fun w => hF ▸ fixed_any s p w hs h0 hp
  have HT : Hid (∀ w, Calls Oabg.prog 37 #[.bool false, .string s, .int .u16 p] w fun e w' => e = .returned (.string F) ∧ Below w.heap.size w w') := fun w => hF ▸ textF_pos s p w hs h0 hp
  clear hF
  go_enter Oabg.func9, Oabg.ntmps9
  go_wp2_with (first | (go_at_call 36; refine (textE_pos s x _ hs h0 h1 h2).mono ?_; rintro e w1 ⟨rfl, hb1⟩) | (go_at_call 37; refine (HT.out _).mono ?_; rintro e w2 ⟨rfl, hb2⟩) | (go_at_call 16; refine (isDigits_eq s HA.out _ hs).mono ?_; rintro e w' ⟨rfl, rfl⟩) | (go_at_call 22; refine (itoa_any _ _ (by omega) (by omega)).mono ?_; rintro e w3 ⟨rfl, hb3⟩; have hbody := bodyB_eq s x; simp (disch := omega) only [headB, markB, absI, if_pos, if_neg] at hbody) | (go_at_call 38; refine (HX.out _).mono ?_; rintro e w4 ⟨rfl, hb4⟩))
  all_goals (go_ret; exact ⟨rfl, below_two (below_two (below_two hb1 hb2) hb3) hb4⟩)

set_option maxHeartbeats 1000000 in
theorem prec_pos_far (s : ByteArray) (x : Int) (p : Nat) (w : World) (hs : s.size ≤ 140737488351232) (h0 : 0 < s.size) (hp : 2000 < p) (hq : p ≤ 65535) (h1 : -32768 ≤ x) (h2 : x ≤ 32767) (ha : allDig s = true) :
    Calls Oabg.prog 9 #[.bool false, .string s, .int .i16 x, .int .u16 p] w fun e w' => e = .returned (.bool true) ∧ Below w.heap.size w w' := by
  have he := isEmpty_false h0
  have hz1 := itoaB_size x
  have hz2 := itoaB_size (-x)
  have HA : Hid (allDig s = true) := ha
  clear ha
  go_enter Oabg.func9, Oabg.ntmps9
  go_wp2_with (first | (go_at_call 36; refine (textE_pos s x _ hs h0 h1 h2).mono ?_; rintro e w1 ⟨rfl, hb1⟩) | (go_at_call 37; refine (textF_none false s p _ (.inr hp) hq).mono ?_; rintro e w2 ⟨rfl, rfl⟩) | (go_at_call 16; refine (isDigits_eq s HA.out _ hs).mono ?_; rintro e w' ⟨rfl, rfl⟩) | (go_at_call 22; refine (itoa_any _ _ (by omega) (by omega)).mono ?_; rintro e w3 ⟨rfl, hb3⟩; have hbody := bodyB_eq s x; simp (disch := omega) only [headB, markB, absI, if_pos, if_neg] at hbody))
  all_goals (go_ret; exact ⟨rfl, below_two hb1 hb3⟩)

set_option maxHeartbeats 1000000 in
theorem prec_neg_near (s : ByteArray) (x : Int) (p : Nat) (w : World) (hs : s.size ≤ 140737488351232) (h0 : 0 < s.size) (hp : p ≤ 2000) (h1 : -32768 ≤ x) (h2 : x ≤ 32767) (ha : allDig s = true) :
    Calls Oabg.prog 9 #[.bool true, .string s, .int .i16 x, .int .u16 p] w fun e w' => e = .returned (.bool true) ∧ Below w.heap.size w w' := by
  have he := isEmpty_false h0
  have hz1 := itoaB_size x
  have hz2 := itoaB_size (-x)
  have HA : Hid (allDig s = true) := ha
  clear ha
  obtain ⟨F, hF⟩ : ∃ F, F = fixB s (p + 1 - s.size) (s.size + (p + 1 - s.size) - p) := ⟨_, rfl⟩
  have HX : Hid (∀ w, Calls Oabg.prog 38 #[.string F, .string s, .int .i64 p] w fun e w' => e = .returned (.bool true) ∧ Below w.heap.size w w') := fun w => hF ▸ fixed_any s p w hs h0 hp
  have HT : Hid (∀ w, Calls Oabg.prog 37 #[.bool true, .string s, .int .u16 p] w fun e w' => ∃ m, e = .returned (.string m) ∧ Minus m F ∧ Below w.heap.size w w') := fun w => hF ▸ textF_neg s p w hs h0 hp
  clear hF
  go_enter Oabg.func9, Oabg.ntmps9
  go_wp2_with (first | (go_at_call 36; refine (textE_neg s x _ hs h0 h1 h2).mono ?_; rintro e w1 ⟨m, rfl, ⟨hm1, hm2, hm3, hm4, hm5⟩, hb1⟩) | (go_at_call 37; refine (HT.out _).mono ?_; rintro e w2 ⟨f, rfl, ⟨hf1, hf2, hf3, hf4, hf5⟩, hb2⟩) | (go_at_call 16; refine (isDigits_eq s HA.out _ hs).mono ?_; rintro e w' ⟨rfl, rfl⟩) | (go_at_call 22; refine (itoa_any _ _ (by omega) (by omega)).mono ?_; rintro e w3 ⟨rfl, hb3⟩; have hbody := bodyB_eq s x; simp (disch := omega) only [headB, markB, absI, if_pos, if_neg] at hbody) | (go_at_call 38; refine (HX.out _).mono ?_; rintro e w4 ⟨rfl, hb4⟩))
  all_goals (go_ret; exact ⟨rfl, below_two (below_two (below_two hb1 hb2) hb3) hb4⟩)

set_option maxHeartbeats 1000000 in
theorem prec_neg_far (s : ByteArray) (x : Int) (p : Nat) (w : World) (hs : s.size ≤ 140737488351232) (h0 : 0 < s.size) (hp : 2000 < p) (hq : p ≤ 65535) (h1 : -32768 ≤ x) (h2 : x ≤ 32767) (ha : allDig s = true) :
    Calls Oabg.prog 9 #[.bool true, .string s, .int .i16 x, .int .u16 p] w fun e w' => e = .returned (.bool true) ∧ Below w.heap.size w w' := by
  have he := isEmpty_false h0
  have hz1 := itoaB_size x
  have hz2 := itoaB_size (-x)
  have HA : Hid (allDig s = true) := ha
  clear ha
  go_enter Oabg.func9, Oabg.ntmps9
  go_wp2_with (first | (go_at_call 36; refine (textE_neg s x _ hs h0 h1 h2).mono ?_; rintro e w1 ⟨m, rfl, ⟨hm1, hm2, hm3, hm4, hm5⟩, hb1⟩) | (go_at_call 37; refine (textF_none true s p _ (.inr hp) hq).mono ?_; rintro e w2 ⟨rfl, rfl⟩) | (go_at_call 16; refine (isDigits_eq s HA.out _ hs).mono ?_; rintro e w' ⟨rfl, rfl⟩) | (go_at_call 22; refine (itoa_any _ _ (by omega) (by omega)).mono ?_; rintro e w3 ⟨rfl, hb3⟩; have hbody := bodyB_eq s x; simp (disch := omega) only [headB, markB, absI, if_pos, if_neg] at hbody))
  all_goals (go_ret; exact ⟨rfl, below_two hb1 hb3⟩)

theorem prec_walk (a0 : Bool) (a1 : ByteArray) (a2 a3 : Int) (z1 : a1.size ≤ 140737488351232) (z2 : -32768 ≤ a2 ∧ a2 ≤ 32767) (z3 : 0 ≤ a3 ∧ a3 ≤ 65535) (w : World) :
    Calls Oabg.prog 9 #[.bool a0, .string a1, .int .i16 a2, .int .u16 a3] w fun e w' => e = .returned (.bool true) ∧ Below w.heap.size w w' := by
  obtain ⟨p, rfl⟩ : ∃ p : Nat, a3 = (p : Int) := ⟨a3.toNat, by omega⟩
  by_cases h0 : a1.size = 0
  · exact prec_empty a0 a1 a2 p w h0 (by omega)
  · cases ha : allDig a1
    · exact prec_bad a0 a1 a2 p w z1 (by omega) (by omega) z2.1 z2.2 ha
    · by_cases hp : p ≤ 2000
      · cases a0
        · exact prec_pos_near a1 a2 p w z1 (by omega) hp z2.1 z2.2 ha
        · exact prec_neg_near a1 a2 p w z1 (by omega) hp z2.1 z2.2 ha
      · cases a0
        · exact prec_pos_far a1 a2 p w z1 (by omega) (by omega) (by omega) z2.1 z2.2 ha
        · exact prec_neg_far a1 a2 p w z1 (by omega) (by omega) (by omega) z2.1 z2.2 ha
end Go.Proofs.Ygcoab
