import Derived.Test.YgcoabWScan
import Derived.Test.YgcoabWTextR2
import Derived.Test.YgcoabPlainScanText
import Derived.Deep.RegionWith
import Derived.RegionTactic
import Derived.ChangeAlike
namespace Go.Proofs.Ygcoab
open Go.RowKit

theorem body_le (s : ByteArray) (x : Int) : (bodyB s x).size ≤ s.size + 30 := by
  have h1 := itoaB_size (absI x)
  have h2 : (markB x).size ≤ 3 := by
    unfold markB
    split <;> split <;> decide
  have h3 : (headB s).size ≤ s.size + 1 := by
    unfold headB
    split
    · rw [ByteArray.size_append, ByteArray.size_append, size_extract _ _ _ (by omega), size_extract _ _ _ (by omega)]
      show 1 - 0 + (1 + (s.size - 1)) ≤ _
      omega
    · rw [ByteArray.size_extract]; omega
  unfold bodyB
  rw [ByteArray.size_append, ByteArray.size_append]
  omega

theorem signed_le (neg : Bool) (b : ByteArray) : (signed neg b).size ≤ b.size + 1 := by
  cases neg
  · show b.size ≤ _; omega
  · show (⟨#[45]⟩ ++ b : ByteArray).size ≤ _
    rw [minus_size]
    exact Nat.le_refl _

theorem scan_back (neg : Bool) (t : ByteArray) (x : Int) (w : World) (hc : Canon t x) :
    Calls Oabg.prog 18 #[.string (signed neg (bodyB t (x + (t.size : Int) - 1)))] w fun e w' => e = .returned (.agg #[.int .u8 0, .bool neg, .string t, .int .i16 x, .int .i64 0, .int .i32 0]) ∧ Below w.heap.size w w' := by
  have h1 := body_le t (x + (t.size : Int) - 1)
  have h2 := signed_le neg (bodyB t (x + (t.size : Int) - 1))
  have h3 := hc.h8
  refine (scan_any _ w (by omega)).mono ?_
  rintro e w' ⟨R, rfl, hR, hb⟩
  have := scan_text neg t x R hc.h0 hc.h8 hc.dig hc.fst hc.lst hc.h1 hc.h2 (by omega) hR
  subst this
  exact ⟨rfl, hb⟩

theorem scan_back0 (neg : Bool) (w : World) :
    Calls Oabg.prog 18 #[.string (signed neg ⟨#[48, 101, 43, 48, 48]⟩)] w fun e w' => e = .returned (.agg #[.int .u8 0, .bool neg, .string ByteArray.empty, .int .i16 0, .int .i64 0, .int .i32 0]) ∧ Below w.heap.size w w' := by
  have h2 := signed_le neg ⟨#[48, 101, 43, 48, 48]⟩
  have h3 : (⟨#[48, 101, 43, 48, 48]⟩ : ByteArray).size = 5 := rfl
  refine (scan_any _ w (by omega)).mono ?_
  rintro e w' ⟨R, rfl, hR, hb⟩
  have := scan_zero neg R hR
  subst this
  exact ⟨rfl, hb⟩

set_option maxHeartbeats 400000 in
theorem scanText_no (neg n : Bool) (s t : ByteArray) (exp x : Int) (w : World) (hs : s.size ≤ 140737488351232) (he : -9223372036854775808 ≤ exp)
    (hm : mkDc neg s exp = (⟨n, t, x⟩, false)) :
    Calls Oabg.prog 5 #[.bool neg, .string s, .int .i64 exp] w fun e w' => e = .returned (.bool true) ∧ Below w.heap.size w w' := by
  have HM : Hid (mkDc neg s exp = (⟨n, t, x⟩, false)) := hm
  clear hm
  go_enter Oabg.func5, Oabg.ntmps5
  go_wp2_with (go_at_call 15; refine (make_eq HM.out _ hs he).mono ?_; rintro e w2 ⟨rfl, hb2⟩)
  go_ret
  exact ⟨rfl, hb2.alloc hb2.size _⟩

theorem below_st {w w2 w3 w4 : World} {o : Obj} (h2 : Below w.heap.size w w2) (h3 : Below (w2.alloc o).drew.heap.size (w2.alloc o).drew w3) (h4 : Below w3.heap.size w3 w4) : Below w.heap.size w w4 :=
  below_two h2 (below_box (o := o) ⟨h3.os, h3.tape, h3.output, h3.size, h3.block⟩ h4)

set_option maxHeartbeats 400000 in
theorem scanText_yes (neg : Bool) (s t T : ByteArray) (exp x : Int) (w : World) (hs : s.size ≤ 140737488351232) (he : -9223372036854775808 ≤ exp)
    (hm : mkDc neg s exp = (⟨neg, t, x⟩, true))
    (hT : ∀ w, Calls Oabg.prog 20 #[.agg #[.bool neg, .string t, .int .i16 x]] w fun e w' => e = .returned (.string T) ∧ Below w.heap.size w w')
    (hB : ∀ w, Calls Oabg.prog 18 #[.string T] w fun e w' => e = .returned (.agg #[.int .u8 0, .bool neg, .string t, .int .i16 x, .int .i64 0, .int .i32 0]) ∧ Below w.heap.size w w') :
    Calls Oabg.prog 5 #[.bool neg, .string s, .int .i64 exp] w fun e w' => e = .returned (.bool true) ∧ Below w.heap.size w w' := by
  have HM : Hid (mkDc neg s exp = (⟨neg, t, x⟩, true)) := hm
  have HT : Hid (∀ w, Calls Oabg.prog 20 #[.agg #[.bool neg, .string t, .int .i16 x]] w fun e w' => e = .returned (.string T) ∧ Below w.heap.size w w') := hT
  have HB : Hid (∀ w, Calls Oabg.prog 18 #[.string T] w fun e w' => e = .returned (.agg #[.int .u8 0, .bool neg, .string t, .int .i16 x, .int .i64 0, .int .i32 0]) ∧ Below w.heap.size w w') := hB
  clear hm hT hB
  go_enter Oabg.func5, Oabg.ntmps5
  go_wp2_with (go_at_call 15; refine (make_eq HM.out _ hs he).mono ?_; rintro e w2 ⟨rfl, hb2⟩)
  go_region_with (first | (go_at_call 20; refine (HT.out _).mono ?_; rintro e w3 ⟨rfl, hb3⟩; have hold3 := old_cell hb3; have hz3 : w2.heap.size < w3.heap.size := (by have := hb3.size; simp at this; omega)) | (go_at_call 18; refine (HB.out _).mono ?_; rintro e w4 ⟨rfl, hb4⟩; have hold4 := old_cell hb4))
  all_goals go_wp2
  all_goals (go_ret; exact ⟨rfl, below_st hb2 hb3 hb4⟩)

theorem scanText_walk (a0 : Bool) (a1 : ByteArray) (a2 : Int) (z1 : a1.size ≤ 140737488351232) (z2 : -9223372036854775808 ≤ a2 ∧ a2 ≤ 9223372036854775807) (w : World) :
    Calls Oabg.prog 5 #[.bool a0, .string a1, .int .i64 a2] w fun e w' => e = .returned (.bool true) ∧ Below w.heap.size w w' := by
  rcases mkDc_cases a0 a1 a2 with ⟨n, t, x, h⟩ | h | ⟨t, x, h, hc⟩
  · exact scanText_no a0 n a1 t a2 x w z1 z2.1 h
  · exact scanText_yes a0 a1 _ _ a2 _ w z1 z2.1 h (fun w => text_zero a0 w) (fun w => scan_back0 a0 w)
  · exact scanText_yes a0 a1 t _ a2 x w z1 z2.1 h (fun w => text_some a0 t x w hc) (fun w => scan_back a0 t x w hc)
end Go.Proofs.Ygcoab
