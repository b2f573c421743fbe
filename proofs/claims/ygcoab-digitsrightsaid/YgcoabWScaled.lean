import Derived.Test.YgcoabWRat
namespace Go.Proofs.Ygcoab
open Go.RowKit

theorem fits_one : FitsN 1 := FitsN.of (a := 1) (by omega) (by omega)

set_option maxHeartbeats 400000 in
theorem scaled_neg {w : World} {v : Value} {N : Nat} (neg : Bool) (j : Nat) (h0 : 0 < j) (hj : j ≤ 65535) (h : IsN w v N) :
    Calls Oabg.prog 68 #[.bool neg, v, .int .i64 (-(j : Int))] w fun e w' => ∃ r, e = .returned r ∧ RatAt w' r neg N (2 ^ j) ∧ Below w.heap.size w w' := by
  obtain ⟨a, n, c, rfl⟩ := h.shape
  have H : Hid (IsN w (.slice a n c) N) := h
  have hlt : decide (-(j : Int) < 0) = true := decide_eq_true (by omega)
  have hu16 : IntKind.u16.wrap (j : Int) = j := by rw [IntKind.wrap_u16]; omega
  clear h
  go_enter Oabg.func68, Oabg.ntmps68
  go_wp2_with fail
  go_at_call 69
  have hR := RVar.start w
  have hB := (Below.refl w.heap.size w).alloc (Nat.le_refl _) (.cells #[.bool false, .slice none 0 0, .slice none 0 0] 50)
  obtain ⟨W, hW⟩ : ∃ W, W = w.alloc (.cells #[.bool false, .slice none 0 0, .slice none 0 0] 50) := ⟨_, rfl⟩
  rw [← hW] at hR hB ⊢
  have HN : Hid (IsN W (.slice a n c) N) := H.out.step hB
  clear hW
  refine (fromU64_any 1 (by omega) _).mono ?_
  rintro e w1 ⟨u, rfl, hu, hb⟩
  obtain ⟨a', n', c', rfl⟩ := hu.shape
  have HU : Hid (IsN w1 (.slice a' n' c') 1) := hu
  have hR1 := hR.step hb
  have HN1 : Hid (IsN w1 (.slice a n c) N) := HN.out.step hb
  have hB1 := below_step hB (Nat.le_of_lt hR.size) hb
  clear hu hb hR hB
  go_wp2_with fail
  go_at_call 93
  refine (shl_any HU.out fits_one hj).mono ?_
  rintro e w2 ⟨u, rfl, hu, hb⟩
  obtain ⟨a2, n2, c2, rfl⟩ := hu.shape
  rw [Nat.one_mul] at hu
  have HU2 : Hid (IsN w2 (.slice a2 n2 c2) (2 ^ j)) := hu
  obtain ⟨r0, r1, r2, rf, rs, HR⟩ := (hR1.step hb).all
  have HN2 : Hid (IsN w2 (.slice a n c) N) := HN1.out.step hb
  have HB : Hid (Below w.heap.size w w2) := below_step hB1 (Nat.le_of_lt hR1.size) hb
  clear hu hb hR1 hB1
  go_wp2
  exact bodyPost_ret (v := .agg #[.bool neg, .slice a n c, .slice a2 n2 c2]) (by simp [results, Oabg.results68, go_sem, r0, r1, r2]) rfl ⟨_, rfl, ⟨a, n, c, a2, n2, c2, rfl, HN2.out.setR HR.out, HU2.out.setR HR.out⟩, below_set3 HB.out (Nat.le_refl _)⟩

set_option maxHeartbeats 400000 in
theorem scaled_pos {w : World} {v : Value} {N : Nat} (neg : Bool) (j : Nat) (hj : j ≤ 65535) (h : IsN w v N) (hN : FitsN N) :
    Calls Oabg.prog 68 #[.bool neg, v, .int .i64 (j : Int)] w fun e w' => ∃ r, e = .returned r ∧ RatAt w' r neg (N * 2 ^ j) 1 ∧ Below w.heap.size w w' := by
  obtain ⟨a, n, c, rfl⟩ := h.shape
  have H : Hid (IsN w (.slice a n c) N) := h
  have HFi : Hid (FitsN N) := hN
  have hlt : decide ((j : Int) < 0) = false := decide_eq_false (by omega)
  have hu16 : IntKind.u16.wrap (j : Int) = j := by rw [IntKind.wrap_u16]; omega
  clear h hN
  go_enter Oabg.func68, Oabg.ntmps68
  go_wp2_with fail
  go_at_call 93
  have hR := RVar.start w
  have hB := (Below.refl w.heap.size w).alloc (Nat.le_refl _) (.cells #[.bool false, .slice none 0 0, .slice none 0 0] 50)
  obtain ⟨W, hW⟩ : ∃ W, W = w.alloc (.cells #[.bool false, .slice none 0 0, .slice none 0 0] 50) := ⟨_, rfl⟩
  rw [← hW] at hR hB ⊢
  have HN : Hid (IsN W (.slice a n c) N) := H.out.step hB
  clear hW
  refine (shl_any HN.out HFi.out hj).mono ?_
  rintro e w1 ⟨u, rfl, hu, hb⟩
  obtain ⟨a', n', c', rfl⟩ := hu.shape
  have HU : Hid (IsN w1 (.slice a' n' c') (N * 2 ^ j)) := hu
  have hR1 := hR.step hb
  have hB1 := below_step hB (Nat.le_of_lt hR.size) hb
  clear hu hb hR hB
  go_wp2_with fail
  go_at_call 67
  refine (whole_any neg HU.out).mono ?_
  rintro e w2 ⟨u, rfl, hu, hb⟩
  obtain ⟨b1, m1, d1, b2, m2, d2, rfl, hv1, hv2⟩ := hu
  have HV1 : Hid (IsN w2 (.slice b1 m1 d1) (N * 2 ^ j)) := hv1
  have HV2 : Hid (IsN w2 (.slice b2 m2 d2) 1) := hv2
  obtain ⟨r0, r1, r2, rf, rs, HR⟩ := (hR1.step hb).all
  have HB : Hid (Below w.heap.size w w2) := below_step hB1 (Nat.le_of_lt hR1.size) hb
  clear hv1 hv2 hb hR1 hB1
  go_wp2
  exact bodyPost_ret (v := .agg #[.bool neg, .slice b1 m1 d1, .slice b2 m2 d2]) (by simp [results, Oabg.results68, go_sem, r0, r1, r2]) rfl ⟨_, rfl, ⟨b1, m1, d1, b2, m2, d2, rfl, HV1.out.setR HR.out, HV2.out.setR HR.out⟩, below_set3 HB.out (Nat.le_refl _)⟩

/-- n * 2^k, as a fraction -/
def sNum (N : Nat) (k : Int) : Nat := if k < 0 then N else N * 2 ^ k.toNat
def sDen (k : Int) : Nat := if k < 0 then 2 ^ (-k).toNat else 1

theorem scaled_any {w : World} {v : Value} {N : Nat} (neg : Bool) (k : Int) (h1 : -65535 ≤ k) (h2 : k ≤ 65535) (h : IsN w v N) (hN : FitsN N) :
    Calls Oabg.prog 68 #[.bool neg, v, .int .i64 k] w fun e w' => ∃ r, e = .returned r ∧ RatAt w' r neg (sNum N k) (sDen k) ∧ Below w.heap.size w w' := by
  unfold sNum sDen
  by_cases hk : k < 0
  · obtain ⟨j, rfl⟩ : ∃ j : Nat, k = -(j : Int) := ⟨(-k).toNat, by omega⟩
    rw [if_pos hk, if_pos hk]
    have := scaled_neg neg j (by omega) (by omega) h
    simpa using this
  · obtain ⟨j, rfl⟩ : ∃ j : Nat, k = (j : Int) := ⟨k.toNat, by omega⟩
    rw [if_neg hk, if_neg hk]
    exact scaled_pos neg j (by omega) h hN

end Go.Proofs.Ygcoab
