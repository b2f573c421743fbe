import Derived.Test.YgcoabWDText
namespace Go.Proofs.Ygcoab
open Go.RowKit

theorem itoa_eq {i : Int} {s : ByteArray} (h : itoaB i = s) (w : World) (h1 : -9223372036854775808 ≤ i) (h2 : i ≤ 9223372036854775807) :
    Calls Oabg.prog 22 #[.int .i64 i] w fun e w' => e = .returned (.string s) ∧ Below w.heap.size w w' := by
  have := itoa_any i w h1 h2
  rw [h] at this
  exact this

set_option maxHeartbeats 400000 in
theorem itoaRight_zero (w : World) :
    Calls Oabg.prog 21 #[.int .i64 0] w fun e w' => e = .returned (.bool true) ∧ Below w.heap.size w w' := by
  have h48 : itoaB 0 = ⟨#[48]⟩ := by decide +kernel
  have H : Hid (itoaB 0 = ⟨#[48]⟩) := h48
  clear h48
  go_enter Oabg.func21, Oabg.ntmps21
  go_wp2_with (go_at_call 22; refine (itoa_eq H.out _ (by omega) (by omega)).mono ?_; rintro e w1 ⟨rfl, hb⟩)
  go_ret
  exact ⟨rfl, hb⟩

set_option maxHeartbeats 400000 in
set_option maxRecDepth 100000 in
theorem itoaRight_pos (u : Nat) (w : World) (hu : 0 < u) (hl : u ≤ 9223372036854775807) :
    Calls Oabg.prog 21 #[.int .i64 u] w fun e w' => e = .returned (.bool true) ∧ Below w.heap.size w w' := by
  obtain ⟨s, hs⟩ : ∃ s, s = digB u := ⟨_, rfl⟩
  have HI : Hid (itoaB (u : Int) = s) := by rw [hs]; exact itoaB_pos u
  have hz := digB_size u (by omega)
  have HD : Hid (allDig s = true) := by rw [hs]; exact digB_dig u
  have hd0 := digB_at u 0 hz.1
  have hh := digB_head u hu (by omega)
  have hv := digB_val u (by omega)
  rw [← hs] at hz hd0 hh hv
  obtain ⟨hz1, hz2⟩ := hz
  obtain ⟨hd1, hd2⟩ := hd0
  have HV : Hid (valTo s s.size = u) := hv
  have hne := isEmpty_false hz1
  have hb0 := bAt_eq s 0 hz1
  have hu0 : ((u : Int) == 0) = false := by rw [beq_eq_false_iff_ne]; omega
  have h45 : ((bAt s 0 : Int) == 45) = false := by rw [beq_eq_false_iff_ne]; omega
  have h48 : ((bAt s 0 : Int) == 48) = false := by rw [beq_eq_false_iff_ne]; omega
  clear hs hh hv
  go_enter Oabg.func21, Oabg.ntmps21
  go_wp2_with (first | (go_at_call 22; refine (itoa_eq HI.out _ (by omega) (by omega)).mono ?_; rintro e w1 ⟨rfl, hb⟩) | (go_at_call 16; refine (isDigits_eq s HD.out _ (by omega)).mono ?_; rintro e w' ⟨rfl, rfl⟩))
  go_loop [5, 6] (fun x j => ∃ k : Nat, k ≤ s.size ∧ j = .int .i64 k ∧ x = .int .i64 (-(valTo s k : Int))) (fun _ j => s.size - (intOf j).toNat)
  case atStart => exact ⟨0, Nat.zero_le _, rfl, rfl⟩
  case round =>
    obtain ⟨k, hk, rfl, rfl⟩ := hrel
    by_cases hlt : k < s.size
    · have hbk := bAt_eq s k hlt
      have hdk := digTo_at hlt HD.out
      obtain ⟨hk1, hk2⟩ := hdk
      have hm := valTo_mono s (show k + 1 ≤ s.size from hlt)
      rw [HV.out] at hm
      have HS : Hid (valTo s (k + 1) = 10 * valTo s k + (bAt s k - 48)) := rfl
      have hm' : 10 * valTo s k + (bAt s k - 48) ≤ 9223372036854775807 := by rw [HS.out] at hm; omega
      clear hm
      go_wp2
      go_round
      case rel => exact ⟨k + 1, by omega, by go_num, by rw [HS.out]; go_num⟩
      case measure => simp [intOf]; omega
    · have hve : valTo s k = u := by rw [show k = s.size from by omega, HV.out]
      rw [hve]
      have hun : ((u : Int) < 0) = False := by simp
      clear hve
      go_wp2
      go_ret
      exact ⟨rfl, hb⟩

set_option maxHeartbeats 400000 in
set_option maxRecDepth 100000 in
theorem itoaRight_neg (u : Nat) (w : World) (hu : 0 < u) (hl : u ≤ 9223372036854775808) :
    Calls Oabg.prog 21 #[.int .i64 (-(u : Int))] w fun e w' => e = .returned (.bool true) ∧ Below w.heap.size w w' := by
  obtain ⟨s, hs⟩ : ∃ s, s = digB u := ⟨_, rfl⟩
  obtain ⟨m, hm⟩ : ∃ m, m = (⟨#[45]⟩ ++ s : ByteArray) := ⟨_, rfl⟩
  have HI : Hid (itoaB (-(u : Int)) = m) := by rw [hm, hs]; exact itoaB_neg u hu
  have hm1 : m.toList.isEmpty = false := isEmpty_false (by rw [hm, minus_size]; omega)
  have hm0 : 0 < m.size := by rw [hm, minus_size]; omega
  have hmb : (m[0]'hm0).toNat = 45 := by rw [bAt_eq, hm, minus_at]
  have hmt : m.extract 1 m.size = s := by rw [hm, minus_tail]
  clear hm
  have hz := digB_size u (by omega)
  have HD : Hid (allDig s = true) := by rw [hs]; exact digB_dig u
  have hd0 := digB_at u 0 hz.1
  have hh := digB_head u hu (by omega)
  have hv := digB_val u (by omega)
  rw [← hs] at hz hd0 hh hv
  obtain ⟨hz1, hz2⟩ := hz
  obtain ⟨hd1, hd2⟩ := hd0
  have HV : Hid (valTo s s.size = u) := hv
  have hne := isEmpty_false hz1
  have hb0 := bAt_eq s 0 hz1
  have hu0 : ((-(u : Int)) == 0) = false := by rw [beq_eq_false_iff_ne]; omega
  have h45 : ((bAt s 0 : Int) == 45) = false := by rw [beq_eq_false_iff_ne]; omega
  have h48 : ((bAt s 0 : Int) == 48) = false := by rw [beq_eq_false_iff_ne]; omega
  clear hs hh hv
  go_enter Oabg.func21, Oabg.ntmps21
  go_wp2_with (first | (go_at_call 22; refine (itoa_eq HI.out _ (by omega) (by omega)).mono ?_; rintro e w1 ⟨rfl, hb⟩) | (go_at_call 16; refine (isDigits_eq s HD.out _ (by omega)).mono ?_; rintro e w' ⟨rfl, rfl⟩))
  go_loop [5, 6] (fun x j => ∃ k : Nat, k ≤ s.size ∧ j = .int .i64 k ∧ x = .int .i64 (-(valTo s k : Int))) (fun _ j => s.size - (intOf j).toNat)
  case atStart => exact ⟨0, Nat.zero_le _, rfl, rfl⟩
  case round =>
    obtain ⟨k, hk, rfl, rfl⟩ := hrel
    by_cases hlt : k < s.size
    · have hbk := bAt_eq s k hlt
      have hdk := digTo_at hlt HD.out
      obtain ⟨hk1, hk2⟩ := hdk
      have hmv := valTo_mono s (show k + 1 ≤ s.size from hlt)
      rw [HV.out] at hmv
      have HS : Hid (valTo s (k + 1) = 10 * valTo s k + (bAt s k - 48)) := rfl
      have hm' : 10 * valTo s k + (bAt s k - 48) ≤ 9223372036854775808 := by rw [HS.out] at hmv; omega
      clear hmv
      go_wp2
      go_round
      case rel => exact ⟨k + 1, by omega, by go_num, by rw [HS.out]; go_num⟩
      case measure => simp [intOf]; omega
    · have hve : valTo s k = u := by rw [show k = s.size from by omega, HV.out]
      rw [hve]
      have hun : ((-(u : Int)) < 0) = True := by simp; omega
      clear hve
      go_wp2
      go_ret
      exact ⟨rfl, hb⟩

theorem itoaRight_any (i : Int) (w : World) (h1 : -9223372036854775808 ≤ i) (h2 : i ≤ 9223372036854775807) :
    Calls Oabg.prog 21 #[.int .i64 i] w fun e w' => e = .returned (.bool true) ∧ Below w.heap.size w w' := by
  rcases Int.lt_trichotomy i 0 with h | h | h
  · have := itoaRight_neg i.natAbs w (by omega) (by omega)
    rwa [show -(i.natAbs : Int) = i from by omega] at this
  · subst h; exact itoaRight_zero w
  · have := itoaRight_pos i.natAbs w (by omega) (by omega)
    rwa [show (i.natAbs : Int) = i from by omega] at this

end Go.Proofs.Ygcoab
