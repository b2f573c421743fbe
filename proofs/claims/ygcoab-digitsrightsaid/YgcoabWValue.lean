import Derived.Test.YgcoabWScaled
namespace Go.Proofs.Ygcoab
open Go.RowKit

/-- Value's world once p lies in block P -/
structure VAt (w : World) (P : Nat) (N : Bool) (c e : Int) (m : Nat) (W : World) : Prop where
  p0 : W.cell? ⟨P, 0, none⟩ = some (.bool N)
  p1 : W.cell? ⟨P, 1, none⟩ = some (.int .i8 c)
  p2 : W.cell? ⟨P, 2, none⟩ = some (.int .i16 e)
  p3 : W.cell? ⟨P, 3, none⟩ = some (.int .u64 m)
  rv : RVar (w.heap.size + 1) W
  below : Below w.heap.size w W
  size : P < W.heap.size
  lt : w.heap.size + 1 < P

theorem VAt.step {w W W' : World} {P m : Nat} {N : Bool} {c e : Int} (h : VAt w P N c e m W) (hb : Below W.heap.size W W') : VAt w P N c e m W' :=
  have k := fun o => hb.cell (p := ⟨P, o, none⟩) h.size
  ⟨(k 0).trans h.p0, (k 1).trans h.p1, (k 2).trans h.p2, (k 3).trans h.p3, h.rv.step hb, below_step h.below (by have := h.rv.size; omega) hb, Nat.lt_of_lt_of_le h.size hb.size, h.lt⟩

theorem VAt.drew {w W : World} {P m : Nat} {N : Bool} {c e : Int} (h : VAt w P N c e m W) : VAt w P N c e m W.drew :=
  ⟨h.p0, h.p1, h.p2, h.p3, ⟨h.rv.r0, h.rv.r1, h.rv.r2, h.rv.rf, h.rv.size⟩, h.below.drew, h.size, h.lt⟩

theorem VAt.all {w W : World} {P m : Nat} {N : Bool} {c e : Int} (h : VAt w P N c e m W) : W.cell? ⟨P, 0, none⟩ = some (.bool N) ∧ W.cell? ⟨P, 1, none⟩ = some (.int .i8 c) ∧ W.cell? ⟨P, 2, none⟩ = some (.int .i16 e) ∧ W.cell? ⟨P, 3, none⟩ = some (.int .u64 m) ∧
    W.cell? ⟨w.heap.size + 1, 0, none⟩ = some (.bool false) ∧ W.cell? ⟨w.heap.size + 1, 1, none⟩ = some (.slice none 0 0) ∧ W.cell? ⟨w.heap.size + 1, 2, none⟩ = some (.slice none 0 0) ∧ (∀ o, W.frozen? ⟨w.heap.size + 1, o, none⟩ = false) ∧ w.heap.size + 1 < W.heap.size ∧ ¬ (P = w.heap.size + 1) ∧ ¬ (w.heap.size + 1 = P) ∧ Hid (VAt w P N c e m W) :=
  ⟨h.p0, h.p1, h.p2, h.p3, h.rv.r0, h.rv.r1, h.rv.r2, h.rv.rf, h.rv.size, by have := h.lt; omega, by have := h.lt; omega, h⟩

theorem VAt.start {w W : World} {m : Nat} {N : Bool} {c e : Int} (rv : RVar (w.heap.size + 1) W) (hB : Below w.heap.size w W) :
    VAt w W.heap.size N c e m (W.alloc (.cells #[.bool N, .int .i8 c, .int .i16 e, .int .u64 m] 99)) :=
  ⟨by simp [go_sem], by simp [go_sem], by simp [go_sem], by simp [go_sem], rv.step (below_alloc _ _), hB.alloc (by have := rv.size; omega) _, by simp [go_sem], rv.size⟩

theorem rvar_start2 (w : World) (o : Obj) : RVar (w.heap.size + 1) ((w.alloc o).alloc (.cells #[.bool false, .slice none 0 0, .slice none 0 0] 50)) := by
  have := RVar.start (w.alloc o)
  simpa [go_sem] using this

def vNeg (E M x : Nat) : Bool := if expF E M x = topE E then false else negF E M x
def vNum (E M x : Nat) : Nat := sNum (pMan E M x) (pExp E M x)
def vDen (E M x : Nat) : Nat := sDen (pExp E M x)

theorem cls_special {E M x : Nat} (h : expF E M x = topE E) : clsF E M x = 3 ∨ clsF E M x = 4 := by
  unfold clsF; rw [if_pos h]; split
  · exact .inl rfl
  · exact .inr rfl

theorem cls_finite {E M x : Nat} (h : expF E M x ≠ topE E) : clsF E M x = 0 ∨ clsF E M x = 1 ∨ clsF E M x = 2 := by
  unfold clsF; rw [if_neg h]; split
  · exact .inr (.inr rfl)
  · split
    · exact .inr (.inl rfl)
    · exact .inl rfl

theorem pExp_bounds {E M : Nat} (h : FOk E M) (x : Nat) : -2000 ≤ pExp E M x ∧ pExp E M x ≤ 2047 := by
  have h1 := bias_lt h
  have h2 := expF_le h x
  have h3 := h.m2
  unfold pExp
  split
  · omega
  · split
    · split
      · omega
      · omega
    · omega

theorem pMan_lt (E M : Nat) (x : Nat) : pMan E M x < 2 ^ (M + 1) := by
  have h2 := two_pow_pos' (M + 1)
  have h3 := fracF_lt M x
  have e : (2 : Nat) ^ (M + 1) = 2 ^ M + 2 ^ M := by rw [Nat.pow_succ]; omega
  unfold pMan
  split
  · exact h2
  · split
    · split
      · exact h2
      · exact sub_man h3
    · omega

set_option maxHeartbeats 1000000 in
theorem value_special {E M : Nat} (h : FOk E M) (x : Nat) (hx : x < 18446744073709551616) (q : expF E M x = topE E) (w : World) :
    Calls Oabg.prog 27 #[fmtV E M, .int .u64 x] w fun e w' => ∃ r, e = .returned (.tuple #[r, .int .i8 (clsF E M x)]) ∧ RatAt w' r false 0 1 ∧ Below w.heap.size w w' := by
  have h' := h
  have hU := fun w => unpack_yes h x hx w
  have hc := cls_special q
  obtain ⟨c, hcc⟩ : ∃ c, c = clsF E M x := ⟨_, rfl⟩
  rw [← hcc] at hc ⊢
  simp only [← hcc] at hU
  obtain ⟨N, hN⟩ : ∃ b, b = pNeg E M x := ⟨_, rfl⟩
  obtain ⟨e, hE⟩ : ∃ b, b = pExp E M x := ⟨_, rfl⟩
  obtain ⟨m, hM⟩ : ∃ b, b = pMan E M x := ⟨_, rfl⟩
  simp only [← hN, ← hE, ← hM] at hU
  have HUn : Hid (∀ w : World, Calls Oabg.prog 66 #[.agg #[.int .u8 E, .int .u8 M], .int .u64 x] w fun r w' => r = .returned (.agg #[.bool N, .int .i8 c, .int .i16 e, .int .u64 m]) ∧ Below w.heap.size w w') := hU
  clear hU hN hE hM hcc q
  obtain ⟨h1, h2, h3, h4⟩ := h
  unfold fmtV
  go_enter Oabg.func27, Oabg.ntmps27
  go_wp2_with fail
  go_at_call 23
  have hF := (FAt.start w E M).step (below_alloc _ (.cells #[.bool false, .slice none 0 0, .slice none 0 0] 50))
  have hR := rvar_start2 w (.cells #[.int .u8 E, .int .u8 M] 39)
  have hB := ((Below.refl w.heap.size w).alloc (Nat.le_refl _) (.cells #[.int .u8 E, .int .u8 M] 39)).alloc (by simp) (.cells #[.bool false, .slice none 0 0, .slice none 0 0] 50)
  obtain ⟨W, hW⟩ : ∃ W, W = (w.alloc (.cells #[.int .u8 E, .int .u8 M] 39)).alloc (.cells #[.bool false, .slice none 0 0, .slice none 0 0] 50) := ⟨_, rfl⟩
  rw [← hW] at hF hR hB ⊢
  clear hW
  refine (ok_yes h' _).mono ?_
  rintro r w1 ⟨rfl, hb⟩
  have hF1 := hF.step hb
  have hR1 := hR.step hb
  have hB1 := below_step hB (Nat.le_of_lt hF.size) hb
  obtain ⟨c0, c1⟩ := hF1.all
  clear hF hR hB hb
  go_wp2_with fail
  go_at_call 66
  refine (HUn.out _).mono ?_
  rintro r w2 ⟨rfl, hb⟩
  have hV := VAt.start (N := N) (c := c) (e := e) (m := m) (hR1.step hb) (below_step hB1 (Nat.le_of_lt hF1.size) hb)
  clear hF1 hR1 hB1 hb
  have hk : ((c == 4) = true) ∨ ((c == 4) = false ∧ (c == 3) = true) := by
    rcases hc with rfl | rfl
    · exact .inr ⟨rfl, rfl⟩
    · exact .inl rfl
  clear hc
  rcases hk with hk | ⟨hk, hk2⟩
  · go_wp2_with fail
    obtain ⟨W3, hW3⟩ : ∃ W3, W3 = w2.alloc (.cells #[.bool N, .int .i8 c, .int .i16 e, .int .u64 m] 99) := ⟨_, rfl⟩
    rw [← hW3] at hV ⊢
    clear hW3
    generalize w2.heap.size = P at hV ⊢
    obtain ⟨p0, p1, p2, p3, r0, r1, r2, rf, rs, ne1, ne2, HV⟩ := hV.all
    clear hV
    go_region_with (first | (go_at_call 67; refine (whole_any false (isN_nil _)).mono ?_; rintro r w3 ⟨v, rfl, hr, hb⟩; obtain ⟨b1, m1, d1, b2, m2, d2, rfl, hv1, hv2⟩ := hr; have HV1 : Hid (IsN w3 (.slice b1 m1 d1) 0) := hv1; have HV2 : Hid (IsN w3 (.slice b2 m2 d2) 1) := hv2; obtain ⟨p0, p1, p2, p3, r0, r1, r2, rf, rs, ne1, ne2, HV⟩ := (HV.out.drew.step hb).all; clear hv1 hv2 hb))
    all_goals go_wp2
    all_goals exact bodyPost_ret (v := .tuple #[.agg #[.bool false, .slice b1 m1 d1, .slice b2 m2 d2], .int .i8 c]) (by simp [results, Oabg.results27, go_sem, r0, r1, r2]) rfl ⟨_, rfl, ⟨b1, m1, d1, b2, m2, d2, rfl, HV1.out.setR HV.out.rv, HV2.out.setR HV.out.rv⟩, below_set3 HV.out.below (by omega)⟩
  · go_wp2_with fail
    obtain ⟨W3, hW3⟩ : ∃ W3, W3 = w2.alloc (.cells #[.bool N, .int .i8 c, .int .i16 e, .int .u64 m] 99) := ⟨_, rfl⟩
    rw [← hW3] at hV ⊢
    clear hW3
    generalize w2.heap.size = P at hV ⊢
    obtain ⟨p0, p1, p2, p3, r0, r1, r2, rf, rs, ne1, ne2, HV⟩ := hV.all
    clear hV
    go_region_with (first | (go_at_call 67; refine (whole_any false (isN_nil _)).mono ?_; rintro r w3 ⟨v, rfl, hr, hb⟩; obtain ⟨b1, m1, d1, b2, m2, d2, rfl, hv1, hv2⟩ := hr; have HV1 : Hid (IsN w3 (.slice b1 m1 d1) 0) := hv1; have HV2 : Hid (IsN w3 (.slice b2 m2 d2) 1) := hv2; obtain ⟨p0, p1, p2, p3, r0, r1, r2, rf, rs, ne1, ne2, HV⟩ := (HV.out.drew.step hb).all; clear hv1 hv2 hb))
    all_goals go_wp2
    all_goals exact bodyPost_ret (v := .tuple #[.agg #[.bool false, .slice b1 m1 d1, .slice b2 m2 d2], .int .i8 c]) (by simp [results, Oabg.results27, go_sem, r0, r1, r2]) rfl ⟨_, rfl, ⟨b1, m1, d1, b2, m2, d2, rfl, HV1.out.setR HV.out.rv, HV2.out.setR HV.out.rv⟩, below_set3 HV.out.below (by omega)⟩

end Go.Proofs.Ygcoab
