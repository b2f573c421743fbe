import Derived.Test.YgcoabWMake
import Derived.Test.YgcoabWText
import Derived.Test.YgcoabPlainVal
namespace Go.Proofs.Ygcoab
open Go.RowKit

/-- old cells read as before -/
theorem old_cell {W w1 : World} (hb : Below W.heap.size W w1) : ∀ b o, b < W.heap.size → w1.cell? ⟨b, o, none⟩ = W.cell? ⟨b, o, none⟩ :=
  fun b o h => hb.cell (p := ⟨b, o, none⟩) h

theorem nil_app (b : ByteArray) : (⟨#[]⟩ ++ b : ByteArray) = b := by
  apply ByteArray.ext; simp

theorem below_box {w w1 w2 : World} {o : Obj} (h1 : Below (w.alloc o).heap.size (w.alloc o) w1) (h2 : Below w1.heap.size w1 w2) : Below w.heap.size w w2 := by
  have k1 : Below w.heap.size w w1 := ((Below.refl _ _).alloc (Nat.le_refl _) _).trans (h1.mono (by simp))
  exact k1.trans (h2.mono k1.size)

/-- a canonical decimal that is not zero -/
structure Canon (t : ByteArray) (x : Int) : Prop where
  h0 : 0 < t.size
  h8 : t.size ≤ 800
  dig : allDig t = true
  fst : bAt t 0 ≠ 48
  lst : bAt t (t.size - 1) ≠ 48
  h1 : -2000 ≤ x
  h2 : x ≤ 2000

set_option maxHeartbeats 400000 in
theorem ok_zero (neg : Bool) (w : World) :
    Calls Oabg.prog 59 #[.agg #[.bool neg, .string ByteArray.empty, .int .i16 0]] w fun e w' => e = .returned (.bool true) ∧ Below w.heap.size w w' := by
  go_enter Oabg.func59, Oabg.ntmps59
  go_wp2
  go_ret
  exact ⟨rfl, (Below.refl _ _).alloc (Nat.le_refl _) _⟩

set_option maxHeartbeats 400000 in
theorem ok_some (neg : Bool) (t : ByteArray) (x : Int) (w : World) (hc : Canon t x) :
    Calls Oabg.prog 59 #[.agg #[.bool neg, .string t, .int .i16 x]] w fun e w' => e = .returned (.bool true) ∧ Below w.heap.size w w' := by
  obtain ⟨h0, h8, ha, hf, hl, h1, h2⟩ := hc
  have hz : ((t.size : Int) == 0) = false := by rw [beq_eq_false_iff_ne]; omega
  have hb0 := bAt_eq t 0 h0
  have hbl := bAt_eq t (t.size - 1) (by omega)
  have hf' : ((bAt t 0 : Int) != 48) = true := by simp; omega
  have hl' : ((bAt t (t.size - 1) : Int) != 48) = true := by simp; omega
  have HA : Hid (allDig t = true) := ha
  clear ha hf hl
  go_enter Oabg.func59, Oabg.ntmps59
  go_wp2
  go_loop [4] (fun i => ∃ k : Nat, k ≤ t.size ∧ i = .int .i64 k) (fun i => t.size - (intOf i).toNat)
  case atStart => exact ⟨0, Nat.zero_le _, rfl⟩
  case round =>
    obtain ⟨k, hk, rfl⟩ := hrel
    by_cases hlt : k < t.size
    · have hb := bAt_eq t k hlt
      have hd := digTo_at hlt HA.out
      obtain ⟨hd1, hd2⟩ := hd
      go_wp2
      go_round
      case rel => exact ⟨k + 1, by omega, by go_num⟩
      case measure => simp [intOf]; omega
    · go_wp2
      go_ret
      exact ⟨rfl, (Below.refl _ _).alloc (Nat.le_refl _) _⟩

set_option maxHeartbeats 400000 in
theorem text_zero (neg : Bool) (w : World) :
    Calls Oabg.prog 20 #[.agg #[.bool neg, .string ByteArray.empty, .int .i16 0]] w fun e w' => e = .returned (.string (signed neg ⟨#[48, 101, 43, 48, 48]⟩)) ∧ Below w.heap.size w w' := by
  cases neg
  all_goals
    go_enter Oabg.func20, Oabg.ntmps20
    go_wp2_with (go_at_call 59; refine (ok_zero _ _).mono ?_; rintro e w1 ⟨rfl, hb⟩; have hold := old_cell hb)
    go_ret
    exact ⟨rfl, ((Below.refl _ _).alloc (Nat.le_refl _) _).trans (hb.mono (by simp))⟩

set_option maxHeartbeats 800000 in
theorem text_some (neg : Bool) (t : ByteArray) (x : Int) (w : World) (hc : Canon t x) :
    Calls Oabg.prog 20 #[.agg #[.bool neg, .string t, .int .i16 x]] w fun e w' => e = .returned (.string (signed neg (bodyB t (x + (t.size : Int) - 1)))) ∧ Below w.heap.size w w' := by
  have HC : Hid (Canon t x) := hc
  obtain ⟨h0, h8, _, _, _, h1, h2⟩ := hc
  have hne := isEmpty_false h0
  have hz1 := itoaB_size (x + (t.size : Int) - 1)
  have hz2 := itoaB_size (-(x + (t.size : Int) - 1))
  cases neg
  · go_enter Oabg.func20, Oabg.ntmps20
    go_wp2_with (first | (go_at_call 59; refine (ok_some _ _ _ _ HC.out).mono ?_; rintro e w1 ⟨rfl, hb⟩; have hold := old_cell hb) | (go_at_call 22; refine (itoa_any _ _ (by omega) (by omega)).mono ?_; rintro e w2 ⟨rfl, hb2⟩))
    all_goals (go_ret; exact ⟨by rw [show signed false (bodyB t (x + (t.size : Int) - 1)) = bodyB t (x + (t.size : Int) - 1) from rfl]; simp (disch := omega) only [bodyB, headB, markB, absI, if_pos, if_neg, nil_app, ByteArray.append_assoc]; rfl, below_box hb hb2⟩)
  · go_enter Oabg.func20, Oabg.ntmps20
    go_wp2_with (first | (go_at_call 59; refine (ok_some _ _ _ _ HC.out).mono ?_; rintro e w1 ⟨rfl, hb⟩; have hold := old_cell hb) | (go_at_call 22; refine (itoa_any _ _ (by omega) (by omega)).mono ?_; rintro e w2 ⟨rfl, hb2⟩))
    all_goals (go_ret; exact ⟨by rw [show signed true (bodyB t (x + (t.size : Int) - 1)) = ⟨#[45]⟩ ++ bodyB t (x + (t.size : Int) - 1) from rfl]; simp (disch := omega) only [bodyB, headB, markB, absI, if_pos, if_neg, ByteArray.append_assoc]; rfl, below_box hb hb2⟩)

end Go.Proofs.Ygcoab
