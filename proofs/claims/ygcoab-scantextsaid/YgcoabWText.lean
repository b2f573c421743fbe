import Derived.Test.YgcoabWDec
import Derived.Test.YgcoabWItoa
import Derived.Test.YgcoabPlainText
namespace Go.Proofs.Ygcoab
open Go.RowKit

theorem below_two {a b c : World} (h1 : Below a.heap.size a b) (h2 : Below b.heap.size b c) : Below a.heap.size a c := h1.trans (h2.mono h1.size)

set_option maxHeartbeats 400000 in
theorem textE_any (neg : Bool) (s : ByteArray) (x : Int) (w : World) (hs : s.size ≤ 140737488351232) (h0 : 0 < s.size) (h1 : -32768 ≤ x) (h2 : x ≤ 32767) :
    Calls Oabg.prog 36 #[.bool neg, .string s, .int .i16 x] w fun e w' => e = .returned (.string (signed neg (bodyB s x))) ∧ Below w.heap.size w w' := by
  have hne := isEmpty_false h0
  have hz1 := itoaB_size x
  have hz2 := itoaB_size (-x)
  cases neg
  · go_enter Oabg.func36, Oabg.ntmps36
    go_wp2_with (go_at_call 22; refine (itoa_any _ _ (by omega) (by omega)).mono ?_; rintro e w' ⟨rfl, hb⟩)
    all_goals (go_ret; exact ⟨by rw [show signed false (bodyB s x) = bodyB s x from rfl]; simp (disch := omega) only [bodyB, headB, markB, absI, if_pos, if_neg]; rfl, hb⟩)
  · go_enter Oabg.func36, Oabg.ntmps36
    go_wp2_with (go_at_call 22; refine (itoa_any _ _ (by omega) (by omega)).mono ?_; rintro e w' ⟨rfl, hb⟩)
    all_goals (go_ret; exact ⟨by rw [show signed true (bodyB s x) = ⟨#[45]⟩ ++ bodyB s x from rfl]; simp (disch := omega) only [bodyB, headB, markB, absI, if_pos, if_neg, ByteArray.append_assoc]; rfl, hb⟩)
end Go.Proofs.Ygcoab
