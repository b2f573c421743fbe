import Derived.Test.YgcoabWDigSp
import Derived.Test.YgcoabWSqrtS
namespace Go.Proofs.Ygcoab
open Go.RowKit

set_option maxRecDepth 100000 in
theorem exactDigits_no {E M : Nat} (h : ¬ FOk E M) (x prec : Int) (w : World) :
    Calls Oabg.prog 7 #[fmtV E M, .int .u64 x, .int .u16 prec] w fun e w' => e = .returned (.bool true) ∧ Below w.heap.size w w' := by
  have HN : Hid (∀ w : World, Calls Oabg.prog 23 #[.agg #[.int .u8 E, .int .u8 M]] w fun e w' => e = .returned (.bool false) ∧ Below w.heap.size w w') := fun w => ok_no h w
  clear h
  unfold fmtV
  go_enter Oabg.func7, Oabg.ntmps7
  go_wp2_with (go_at_call 23; refine (HN.out _).mono ?_; rintro e w' ⟨rfl, hb⟩; obtain ⟨hF, hB⟩ := (fmt_start w E M).1.below (fmt_start w E M).2 hb; clear hb)
  go_ret
  exact ⟨rfl, hB⟩

set_option maxRecDepth 100000 in
theorem exactDigits_off {E M : Nat} (h : FOk E M) (x prec : Nat) (fb : Bool) (hoff : fb = false ∨ 2000 < prec)
    (hE : ∀ w : World, Calls Oabg.prog 24 #[fmtV E M, .int .u64 x, .int .u16 prec] w fun e w' => e = .returned (.tuple #[.string { data := #[] }, .int .i16 0]) ∧ Below w.heap.size w w')
    (hF : ∀ w : World, Calls Oabg.prog 25 #[fmtV E M, .int .u64 x, .int .u16 prec] w fun e w' => e = .returned (.string { data := #[] }) ∧ Below w.heap.size w w')
    (hI : ∀ w : World, Calls Oabg.prog 26 #[fmtV E M, .int .u64 x] w fun e w' => e = .returned (.bool fb) ∧ Below w.heap.size w w') (w : World) :
    Calls Oabg.prog 7 #[fmtV E M, .int .u64 x, .int .u16 prec] w fun e w' => e = .returned (.bool true) ∧ Below w.heap.size w w' := by
  have h' := h
  have HE : Hid (∀ w : World, Calls Oabg.prog 24 #[.agg #[.int .u8 E, .int .u8 M], .int .u64 x, .int .u16 prec] w fun e w' => e = .returned (.tuple #[.string { data := #[] }, .int .i16 0]) ∧ Below w.heap.size w w') := hE
  have HF : Hid (∀ w : World, Calls Oabg.prog 25 #[.agg #[.int .u8 E, .int .u8 M], .int .u64 x, .int .u16 prec] w fun e w' => e = .returned (.string { data := #[] }) ∧ Below w.heap.size w w') := hF
  have HI : Hid (∀ w : World, Calls Oabg.prog 26 #[.agg #[.int .u8 E, .int .u8 M], .int .u64 x] w fun e w' => e = .returned (.bool fb) ∧ Below w.heap.size w w') := hI
  clear hE hF hI
  unfold fmtV
  go_enter Oabg.func7, Oabg.ntmps7
  have hB0 := fmt_start w E M
  go_wp2_with fail
  go_at_call 23
  refine (ok_yes h' _).mono ?_
  rintro e w1 ⟨rfl, hb⟩
  have hFB := fb_step hB0 hb
  obtain ⟨c0, c1⟩ := hFB.1.all
  clear hb hB0
  go_wp2_with fail
  go_at_call 24
  refine (HE.out _).mono ?_
  rintro e w2 ⟨rfl, hb⟩
  have hFB := fb_step hFB hb
  clear hb c0 c1
  obtain ⟨c0, c1⟩ := hFB.1.all
  go_wp2_with fail
  go_at_call 25
  refine (HF.out _).mono ?_
  rintro e w3 ⟨rfl, hb⟩
  have hFB := fb_step hFB hb
  clear hb c0 c1
  obtain ⟨c0, c1⟩ := hFB.1.all
  go_wp2_with fail
  go_at_call 26
  refine (HI.out _).mono ?_
  rintro e w4 ⟨rfl, hb⟩
  have hFB := fb_step hFB hb
  have HB : Hid (Below w.heap.size w w4) := hFB.2
  clear hb c0 c1
  cases fb
  · clear hoff
    go_wp2
    go_ret
    exact ⟨rfl, HB.out⟩
  · have hp : 2000 < prec := by rcases hoff with h | h; cases h; exact h
    clear hoff
    go_wp2
    go_ret
    exact ⟨rfl, HB.out⟩

end Go.Proofs.Ygcoab
