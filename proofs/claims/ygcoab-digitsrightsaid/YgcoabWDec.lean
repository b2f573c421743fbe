import Derived.Test.YgcoabRows
import Derived.Test.YgcoabPlainDec
import Derived.WalkKit
import Derived.WalkSpells
import Derived.WalkLawsBesides
namespace Go.Proofs.Ygcoab
open Go.RowKit

set_option maxHeartbeats 400000 in
theorem isDigits_any (s : ByteArray) (w : World) (hs : s.size ≤ 140737488351232) :
    Calls Oabg.prog 16 #[.string s] w fun e w' => e = .returned (.bool (allDig s)) ∧ w' = w := by
  go_enter Oabg.func16, Oabg.ntmps16
  go_wp2
  go_loop [3] (fun i => ∃ k : Nat, k ≤ s.size ∧ i = .int .i64 k ∧ digTo s k = true) (fun i => s.size - (intOf i).toNat)
  case atStart => exact ⟨0, Nat.zero_le _, rfl, rfl⟩
  case round =>
    obtain ⟨k, hk, rfl, hd⟩ := hrel
    have HD : Hid (digTo s k = true) := hd
    clear hd
    by_cases hlt : k < s.size
    · have hb := bAt_eq s k hlt
      have hB := bAt_lt s k
      go_wp2
      · go_ret
        exact ⟨by rw [allDig_bad hlt (by omega)]; rfl, rfl⟩
      · go_round
        case rel => exact ⟨k + 1, by omega, by go_num, by simp [digTo, HD.out]; omega⟩
        case measure => simp [intOf]; omega
      · go_ret
        exact ⟨by rw [allDig_bad hlt (by omega)]; rfl, rfl⟩
    · go_wp2
      go_ret
      have e : k = s.size := by omega
      exact ⟨by rw [allDig, ← e, HD.out]; rfl, rfl⟩
def decV (d : Dc) : Value := .agg #[.bool d.neg, .string d.dig, .int .i16 d.exp]

set_option maxHeartbeats 400000 in
theorem make_any (neg : Bool) (s : ByteArray) (exp : Int) (w : World) (hs : s.size ≤ 140737488351232) (he : -9223372036854775808 ≤ exp) :
    Calls Oabg.prog 15 #[.bool neg, .string s, .int .i64 exp] w fun e w' => e = .returned (.tuple #[decV (mkDc neg s exp).1, .bool (mkDc neg s exp).2]) ∧ Below w.heap.size w w' := by
  go_enter Oabg.func15, Oabg.ntmps15
  go_wp2
  go_loop [8, 9, 10] (fun f l i => ∃ k : Nat, k ≤ s.size ∧ i = .int .i64 k ∧ digTo s k = true ∧ f = .int .i64 (fstTo s k) ∧ l = .int .i64 (endTo s k)) (fun _ _ i => s.size - (intOf i).toNat)
  case atStart => exact ⟨0, Nat.zero_le _, rfl, rfl, rfl, rfl⟩
  case round =>
    obtain ⟨k, hk, rfl, hd, rfl, rfl⟩ := hrel
    have HD : Hid (digTo s k = true) := hd
    clear hd
    have hf := fstTo_le s k
    have hel := endTo_le s k
    by_cases hlt : k < s.size
    · have hb := bAt_eq s k hlt
      have hB := bAt_lt s k
      go_wp2
      · refine bodyPost_ret (v := .tuple #[decV Dc.no, .bool false]) (by simp [results, Oabg.results15, go_sem]; rfl) rfl ⟨by rw [mkDc_bad (allDig_bad hlt (by omega))], (Below.refl _ _).alloc (Nat.le_refl _) _⟩
      · go_round
        case rel => exact ⟨k + 1, by omega, by go_num, by simp [digTo, HD.out]; omega, by
          have hn : bAt s k ≠ 48 := by have h : ((bAt s k : Int) != 48) = true := by assumption
                                       simp at h; omega
          simp only [fstTo, if_neg hn]; split <;> go_num, by
          have hn : bAt s k ≠ 48 := by have h : ((bAt s k : Int) != 48) = true := by assumption
                                       simp at h; omega
          simp only [endTo, if_neg hn]; go_num⟩
        case measure => simp [intOf]; omega
      · go_round
        case rel => exact ⟨k + 1, by omega, by go_num, by simp [digTo, HD.out]; omega, by
          have hn : bAt s k = 48 := by have h : ((bAt s k : Int) != 48) = false := by assumption
                                       simp at h; omega
          simp only [fstTo, if_pos hn], by
          have hn : bAt s k = 48 := by have h : ((bAt s k : Int) != 48) = false := by assumption
                                       simp at h; omega
          simp only [endTo, if_pos hn]⟩
        case measure => simp [intOf]; omega
      · refine bodyPost_ret (v := .tuple #[decV Dc.no, .bool false]) (by simp [results, Oabg.results15, go_sem]; rfl) rfl ⟨by rw [mkDc_bad (allDig_bad hlt (by omega))], (Below.refl _ _).alloc (Nat.le_refl _) _⟩
    · have e : k = s.size := by omega
      subst e
      have hfe := fst_lt_end s s.size (Nat.le_refl _)
      by_cases h0 : endTo s s.size = 0
      · have H0 : Hid (endTo s s.size = 0) := h0
        have hz : (((endTo s s.size : Nat) : Int) == 0) = true := by simp [h0]
        clear h0
        go_wp2
        exact bodyPost_ret (v := .tuple #[decV ⟨neg, ByteArray.empty, 0⟩, .bool true]) (by simp [results, Oabg.results15, go_sem]; rfl) rfl ⟨by rw [mkDc_zero HD.out H0.out], (Below.refl _ _).alloc (Nat.le_refl _) _⟩
      · have hz : (((endTo s s.size : Nat) : Int) == 0) = false := by simp [h0]
        have hfe' : fstTo s s.size < endTo s s.size := by omega
        clear hfe
        by_cases hx : exp ≤ 2000
        · go_wp2
          all_goals first
            | exact bodyPost_ret (v := .tuple #[decV Dc.no, .bool false]) (by simp [results, Oabg.results15, go_sem]; rfl) rfl ⟨by rw [mkDc_far HD.out h0 (by omega)], (Below.refl _ _).alloc (Nat.le_refl _) _⟩
            | exact bodyPost_ret (v := .tuple #[decV ⟨neg, s.extract (fstTo s s.size) (endTo s s.size), exp + ((s.size : Int) - (endTo s s.size : Int))⟩, .bool true]) (by simp [results, Oabg.results15, go_sem]; rfl) rfl ⟨by rw [mkDc_near HD.out h0 (by omega)], (Below.refl _ _).alloc (Nat.le_refl _) _⟩
        · go_wp2
          all_goals exact bodyPost_ret (v := .tuple #[decV Dc.no, .bool false]) (by simp [results, Oabg.results15, go_sem]; rfl) rfl ⟨by rw [mkDc_far HD.out h0 (by omega)], (Below.refl _ _).alloc (Nat.le_refl _) _⟩
end Go.Proofs.Ygcoab
