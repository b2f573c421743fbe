import Derived.Test.YgcoabWRoundA
namespace Go.Proofs.Ygcoab
open Go.RowKit

set_option maxHeartbeats 400000 in
theorem makeRat_any {w : World} {u v : Value} {N D : Nat} (neg : Bool) (hN : IsN w u N) (hD : IsN w v D) (fN : FitsN N) (fD : FitsN D) (h0 : 0 < D) :
    Calls Oabg.prog 127 #[.bool neg, u, v] w fun e w' => ∃ r, e = .returned r ∧ RatAt w' r neg N D ∧ Below w.heap.size w w' := by
  have T1 : Hid (∀ w', Below w.heap.size w w' → Calls Oabg.prog 144 #[v] w' fun e w'' => ∃ r, e = .returned r ∧ IsN w'' r D ∧ Below w'.heap.size w' w'') := fun w' hw => take_any (hD.step hw) fD
  have T2 : Hid (∀ w', Below w.heap.size w w' → Calls Oabg.prog 144 #[u] w' fun e w'' => ∃ r, e = .returned r ∧ IsN w'' r N ∧ Below w'.heap.size w' w'') := fun w' hw => take_any (hN.step hw) fN
  have H0 : Hid (0 < D) := h0
  clear hN hD fN fD h0
  go_enter Oabg.func127, Oabg.ntmps127
  go_wp2_with fail
  go_at_call 144
  have hR := RVar.start w
  have hB := (Below.refl w.heap.size w).alloc (Nat.le_refl _) (.cells #[.bool false, .slice none 0 0, .slice none 0 0] 50)
  obtain ⟨W, hW⟩ : ∃ W, W = w.alloc (.cells #[.bool false, .slice none 0 0, .slice none 0 0] 50) := ⟨_, rfl⟩
  rw [← hW] at hR hB ⊢
  clear hW
  refine (T1.out _ hB).mono ?_
  rintro e w1 ⟨d, rfl, hd, hb⟩
  obtain ⟨b', off', n', c', g, rfl, k2, k3, k4, k5, k6, k7, k8, k9⟩ := hd.pos H0.out
  have hnil := fun w' => nil48 w' (some ⟨b', off', none⟩) n' c'
  have hR1 := hR.step hb
  have hB1 := below_step hB (Nat.le_of_lt hR.size) hb
  have HD1 : Hid (IsN w1 (.slice (some ⟨b', off', none⟩) n' c') D) := hd
  clear hd k2 k3 k4 k5 k6 k7 k8 k9 hb hR hB
  go_wp2_with fail
  go_at_call 144
  refine (T2.out _ hB1).mono ?_
  rintro e w2 ⟨x, rfl, hx, hb⟩
  obtain ⟨a, n, c, rfl⟩ := hx.shape
  obtain ⟨r0, r1, r2, rf, rs, HR⟩ := (hR1.step hb).all
  have HX : Hid (IsN w2 (.slice a n c) N) := hx
  have HD2 : Hid (IsN w2 (.slice (some ⟨b', off', none⟩) n' c') D) := HD1.out.step hb
  have HB : Hid (Below w.heap.size w w2) := below_step hB1 (Nat.le_of_lt hR1.size) hb
  clear hx hb hR1 hB1
  go_wp2
  exact bodyPost_ret (v := .agg #[.bool neg, .slice a n c, .slice (some ⟨b', off', none⟩) n' c']) (by simp [results, Oabg.results127, go_sem, r0, r1, r2]) rfl ⟨_, rfl, ⟨a, n, c, _, n', c', rfl, HX.out.setR HR.out, HD2.out.setR HR.out⟩, below_set3 HB.out (Nat.le_refl _)⟩

theorem signed_any {E M : Nat} (h : FOk E M) (neg : Bool) (x : Nat) (hx : x < 18446744073709551616) (w : World) :
    Calls Oabg.prog 170 #[fmtV E M, .bool neg, .int .u64 x] w fun e w' => e = .returned (.int .u64 ((if neg then x ||| sgnB E M else x : Nat) : Int)) ∧ Below w.heap.size w w' := by
  have h' := h
  have ho : bits .or .u64 (x : Int) (sgnB E M : Int) = ((x ||| sgnB E M : Nat) : Int) := u64_or_nat _ _ hx (sgnB_lt h')
  obtain ⟨h1, h2, h3, h4⟩ := h
  unfold fmtV
  cases neg
  · go_enter Oabg.func170, Oabg.ntmps170
    go_wp2
    go_ret
    exact ⟨rfl, below_alloc _ _⟩
  · go_enter Oabg.func170, Oabg.ntmps170
    go_wp2_with (go_at_call 97; refine (signBit_yes h' _).mono ?_; rintro e w' ⟨rfl, hb⟩; obtain ⟨hF, hB⟩ := (fmt_start w E M).1.below (fmt_start w E M).2 hb)
    go_ret
    exact ⟨rfl, hB⟩

theorem topS_pos {E M : Nat} (h : FOk E M) : 0 < topS E M := by
  unfold topS topE
  have := h.e1
  have := two_pow_le (n := 2) (k := E) this
  exact Nat.mul_pos (by omega) (two_pow_pos' _)

theorem maxFinite_yes {E M : Nat} (h : FOk E M) (neg : Bool) (w : World) :
    Calls Oabg.prog 163 #[fmtV E M, .bool neg] w fun e w' => e = .returned (.int .u64 (maxP E M neg)) ∧ Below w.heap.size w w' := by
  have h' := h
  have hp := topS_pos h'
  have hl := topS_lt h'
  have hs2 := sgnB_lt h'
  obtain ⟨h1, h2, h3, h4⟩ := h
  have ht : IntKind.u64.wrap (IntKind.u64.wrap (2 ^ E) - 1) = (topE E : Nat) := w64_pow1 (by omega)
  have hs := w64_topS h'
  obtain ⟨y, hy⟩ : ∃ y, y = topS E M - 1 := ⟨_, rfl⟩
  have hm : IntKind.u64.wrap ((topS E M : Int) - 1) = (y : Nat) := by rw [wrap64]; omega
  have hyl : y < 18446744073709551616 := by omega
  have hM : maxP E M neg = if neg then y ||| sgnB E M else y := by rw [hy]; rfl
  have HS : Hid (∀ w, Calls Oabg.prog 170 #[fmtV E M, .bool neg, .int .u64 y] w fun e w' => e = .returned (.int .u64 (maxP E M neg)) ∧ Below w.heap.size w w') := fun w => by
    rw [hM]
    exact signed_any h' neg y hyl w
  clear hM hy hp hl hs2
  generalize maxP E M neg = z at *
  unfold fmtV
  go_enter Oabg.func163, Oabg.ntmps163
  go_wp2_with (first
    | (go_at_call 23; refine (ok_yes h' _).mono ?_; rintro e w' ⟨rfl, hb⟩; obtain ⟨hF, hB⟩ := (fmt_start w E M).1.below (fmt_start w E M).2 hb; obtain ⟨c0, c1⟩ := hF.all)
    | (go_at_call 170; refine (HS.out _).mono ?_; rintro e w1 ⟨rfl, hb1⟩))
  go_ret
  exact ⟨rfl, (hF.below hB hb1).2⟩

/-- bits and some flags -/
def RfPost (w : World) (z : Nat) (e : Ending) (w' : World) : Prop := ∃ fl : Int, e = .returned (.tuple #[.int .u64 z, .int .u8 fl]) ∧ Below w.heap.size w w'

theorem overflow_yes {E M : Nat} (h : FOk E M) (mode : Nat) (neg : Bool) (w : World) :
    Calls Oabg.prog 132 #[fmtV E M, .int .u8 mode, .bool neg] w (RfPost w (overP E M mode neg)) := by
  have h' := h
  obtain ⟨h1, h2, h3, h4⟩ := h
  have e2 : ((mode : Int) == 2) = (mode == 2) := by rw [Bool.eq_iff_iff]; simp; omega
  have e3 : ((mode : Int) == 3) = (mode == 3) := by rw [Bool.eq_iff_iff]; simp; omega
  have e4 : ((mode : Int) == 4) = (mode == 4) := by rw [Bool.eq_iff_iff]; simp; omega
  obtain ⟨m2, hm2⟩ : ∃ b, b = (mode == 2) := ⟨_, rfl⟩
  obtain ⟨m3, hm3⟩ : ∃ b, b = (mode == 3) := ⟨_, rfl⟩
  obtain ⟨m4, hm4⟩ : ∃ b, b = (mode == 4) := ⟨_, rfl⟩
  rw [← hm2] at e2
  rw [← hm3] at e3
  rw [← hm4] at e4
  have hO : overP E M mode neg = if (m2 || (m3 && neg) || (m4 && !neg)) = true then maxP E M neg else infP E M neg := by rw [hm2, hm3, hm4]; rfl
  rw [hO]
  clear hO hm2 hm3 hm4
  unfold fmtV
  cases m2 <;> cases m3 <;> cases m4 <;> cases neg <;> (
    go_enter Oabg.func132, Oabg.ntmps132
    go_wp2_with (first
      | (go_at_call 163; refine (maxFinite_yes h' _ _).mono ?_; rintro e w' ⟨rfl, hb⟩; obtain ⟨hF, hB⟩ := (fmt_start w E M).1.below (fmt_start w E M).2 hb)
      | (go_at_call 152; refine (inf_yes h' _ _).mono ?_; rintro e w' ⟨rfl, hb⟩; obtain ⟨hF, hB⟩ := (fmt_start w E M).1.below (fmt_start w E M).2 hb))
    go_ret2
    exact ⟨_, rfl, hB⟩)

end Go.Proofs.Ygcoab
