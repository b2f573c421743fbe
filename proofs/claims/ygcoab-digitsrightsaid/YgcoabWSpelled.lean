/- law.spelled -/
import Derived.Test.YgcoabWPowFrac
import Derived.Test.YgcoabWDec
namespace Go.Proofs.Ygcoab
open Go.RowKit

/-- the number that the first k bytes spell -/
def spTo (s : ByteArray) : Nat → Nat
  | 0 => 0
  | k + 1 => spTo s k * 10 + (bAt s k - 48)

theorem spTo_lt {s : ByteArray} {k : Nat} (h : digTo s k = true) : spTo s k < 10 ^ k := by
  induction k with
  | zero => exact Nat.zero_lt_one
  | succ k ih =>
    have h1 := ih (digTo_le (by omega) h)
    have h2 := digTo_at (j := k) (by omega) h
    show spTo s k * 10 + (bAt s k - 48) < _
    rw [Nat.pow_succ]
    omega

theorem spTo_fits {s : ByteArray} {k : Nat} (h : digTo s k = true) (hk : k ≤ 5000) : FitsN (spTo s k) :=
  FitsN.of (a := 4 * k + 1) (Nat.lt_trans (spTo_lt h) (ten_lt4 k)) (by omega)

theorem keepSp {w W W' : World} {p : Value} {P : Nat} (hb : Below W.heap.size W W') (h : IsN W p P ∧ Below w.heap.size w W) : IsN W' p P ∧ Below w.heap.size w W' :=
  ⟨h.1.step hb, below_step h.2 h.2.size hb⟩

set_option maxRecDepth 100000 in
set_option maxHeartbeats 2000000 in
theorem spelled_any (s : ByteArray) (hs : s.size ≤ 5000) (hd : allDig s = true) (w : World) :
    Calls Oabg.prog 32 #[.string s] w fun e w' => ∃ v, e = .returned v ∧ IsN w' v (spTo s s.size) ∧ Below w.heap.size w w' := by
  have HD : Hid (digTo s s.size = true) := hd
  clear hd
  go_enter Oabg.func32, Oabg.ntmps32
  go_wp2_with fail
  go_loopg [3, 4] s.size (fun n s3 s4 wr => ∃ a l c i, s3 = .slice a l c ∧ s4 = .int .i64 (i : Nat) ∧ i ≤ s.size ∧ IsN wr (.slice a l c) (spTo s i) ∧ Below w.heap.size w wr ∧ s.size - i ≤ n)
  case atStart => exact ⟨none, 0, 0, 0, rfl, rfl, by omega, isN_nil _, Below.refl _ _, by omega⟩
  case round =>
    obtain ⟨a, l, c, i, rfl, rfl, hi, hI, hB, hn⟩ := hrel
    by_cases he : i = s.size
    · rw [he] at hI ⊢
      have HI : Hid (IsN wr (.slice a l c) (spTo s s.size)) := hI
      have HB : Hid (Below w.heap.size w wr) := hB
      clear hI hB hn he hi
      go_wp2
      go_ret
      exact ⟨_, rfl, HI.out, HB.out⟩
    · have hil : i < s.size := by omega
      obtain ⟨d, hd⟩ : ∃ d : Nat, d = bAt s i - 48 := ⟨_, rfl⟩
      have hbd := digTo_at hil HD.out
      have hbi := bAt_eq s i hil
      have ew1 : IntKind.u8.wrap ((bAt s i : Int) - 48) = (d : Nat) := by rw [IntKind.wrap_u8]; omega
      have ew2 : IntKind.u64.wrap (d : Int) = (d : Nat) := w64_nat (by omega)
      have HdL : Hid (d ≤ 9) := by show d ≤ 9; omega
      have HP : Hid (spTo s (i + 1) = spTo s i * 10 + d) := by show _ = _; rw [hd]; rfl
      have HFt : Hid (FitW (spTo s i)) := ⟨spTo_fits (digTo_le hi HD.out) (by omega)⟩
      have HFt2 : Hid (FitW (spTo s i * 10)) := ⟨FitsN.of (a := 4 * i + 1 + 4) (by
        rw [Nat.pow_add]
        exact Nat.mul_lt_mul_of_lt_of_le (Nat.lt_trans (spTo_lt (digTo_le hi HD.out)) (ten_lt4 i)) (by decide) (by decide)) (by omega)⟩
      have HM : Hid (∀ (W : World) (x : Value), IsN W (.slice a l c) (spTo s i) → IsN W x 10 → Calls Oabg.prog 73 #[.slice a l c, x] W fun e w' => ∃ r, e = .returned r ∧ IsN w' r (spTo s i * 10) ∧ Below W.heap.size W w') := fun W x h1 h2 => mul_any h1 h2 HFt.out.f (FitsN.of (a := 4) (by decide) (by omega))
      have HAd : Hid (∀ (W : World) (x y : Value), IsN W x (spTo s i * 10) → IsN W y d → Calls Oabg.prog 76 #[x, y] W fun e w' => ∃ r, e = .returned r ∧ IsN w' r (spTo s (i + 1)) ∧ Below W.heap.size W w') := fun W x y h1 h2 => by
        rw [HP.out]
        exact add_any h1 h2 HFt2.out.f (FitsN.of (a := 4) (Nat.lt_of_le_of_lt HdL.out (by decide)) (by omega))
      have HU : Hid (∀ w : World, Calls Oabg.prog 69 #[.int .u64 d] w fun e w' => ∃ v, e = .returned v ∧ IsN w' v d ∧ Below w.heap.size w w') := fun w => fromU64_any d (by omega) w
      have HN : Hid (s.size - (i + 1) < gk) := by show s.size - (i + 1) < gk; omega
      have hI0 : IsN wr (.slice a l c) (spTo s i) ∧ Below w.heap.size w wr := ⟨hI, hB⟩
      clear hd hbd hn hI hB hi he
      go_upto_region 5 with (fail)
      have HI0 : Hid (IsN wr (.slice a l c) (spTo s i) ∧ Below w.heap.size w wr) := hI0
      clear hI0
      go_region_held3 (fun W => IsN W (.slice a l c) (spTo s i) ∧ Below w.heap.size w W)
        (first
          | exact ⟨HI0.out.1.drew, HI0.out.2.drew⟩
          | assumption
          | (with_reducible refine keepSp hbA ?_; assumption)
          | (with_reducible refine keepSp hbB ?_; assumption)
          | (with_reducible refine keepSp hbC ?_; assumption)
          | (with_reducible refine keepSp hbD ?_; assumption))
        (first
          | (go_at_call_of 69 (Value.int IntKind.u64 10); refine (fromU64_any 10 (by omega) _).mono ?_; rintro ee wA ⟨xA, rfl, hA, hbA⟩; obtain ⟨e1, e2, e3, rfl⟩ := hA.shape; have HSA : Hid (IsN wA (.slice a l c) (spTo s i) ∧ Below w.heap.size w wA) := keepSp hbA (by assumption))
          | (go_at_call 73; refine (HM.out _ _ HSA.out.1 hA).mono ?_; rintro ee wB ⟨xB, rfl, hB, hbB⟩; obtain ⟨f1, f2, f3, rfl⟩ := hB.shape)
          | (go_at_call_of 69 (Value.int IntKind.u64 (d : Int)); refine (HU.out _).mono ?_; rintro ee wC ⟨xC, rfl, hC, hbC⟩; obtain ⟨g1, g2, g3, rfl⟩ := hC.shape)
          | (go_at_call 76; refine (HAd.out _ _ _ (hB.step hbC) hC).mono ?_; rintro ee wD ⟨xD, rfl, hD, hbD⟩; obtain ⟨h1, h2, h3, rfl⟩ := hD.shape))
      all_goals (
        rename_i hH
        have HB : Hid (Below w.heap.size w _) := hH.2
        have HID : Hid (IsN wD (.slice h1 h2 h3) (spTo s (i + 1))) := hD
        clear hH hA hB hC hD
        clear HM HAd HU ew1 ew2 HSA HI0 hbA hbB hbC hbD
        go_wp2_with fail
        go_roundg (s.size - (i + 1))
        case measure => exact HN.out
        case rel => exact ⟨_, _, _, i + 1, rfl, congrArg (Value.int IntKind.i64) (by omega), by omega, HID.out, HB.out, Nat.le_refl _⟩)

end Go.Proofs.Ygcoab
