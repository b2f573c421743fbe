import Derived.Test.YgcoabWValue2
namespace Go.Proofs.Ygcoab
open Go.RowKit

theorem IsN.drew {w : World} {v : Value} {N : Nat} (h : IsN w v N) : IsN w.drew v N := h

/-- v is the operand with the bits y, the sign N, the class c, the value (s, A/D) -/
def OpIs (w : World) (v : Value) (y : Nat) (N : Bool) (c : Int) (s : Bool) (A D : Nat) : Prop :=
  ∃ a n d a' n' d', v = .agg #[.int .u64 y, .bool N, .int .i8 c, .bool s, .slice a n d, .slice a' n' d'] ∧ IsN w (.slice a n d) A ∧ IsN w (.slice a' n' d') D

/-- an operand's variable in block R -/
structure OVar (R : Nat) (w : World) : Prop where
  r0 : w.cell? ⟨R, 0, none⟩ = some (.int .u64 0)
  r1 : w.cell? ⟨R, 1, none⟩ = some (.bool false)
  r2 : w.cell? ⟨R, 2, none⟩ = some (.int .i8 0)
  r3 : w.cell? ⟨R, 3, none⟩ = some (.bool false)
  r4 : w.cell? ⟨R, 4, none⟩ = some (.slice none 0 0)
  r5 : w.cell? ⟨R, 5, none⟩ = some (.slice none 0 0)
  rf : ∀ o, w.frozen? ⟨R, o, none⟩ = false
  size : R < w.heap.size

theorem OVar.step {R : Nat} {w w' : World} (h : OVar R w) (hb : Below w.heap.size w w') : OVar R w' :=
  have k := fun o => hb.cell (p := ⟨R, o, none⟩) h.size
  ⟨(k 0).trans h.r0, (k 1).trans h.r1, (k 2).trans h.r2, (k 3).trans h.r3, (k 4).trans h.r4, (k 5).trans h.r5, fun o => (hb.frozen (p := ⟨R, o, none⟩) h.size).trans (h.rf o), Nat.lt_of_lt_of_le h.size hb.size⟩

theorem OVar.drew {R : Nat} {w : World} (h : OVar R w) : OVar R w.drew := ⟨h.r0, h.r1, h.r2, h.r3, h.r4, h.r5, h.rf, h.size⟩

theorem OVar.all {R : Nat} {w : World} (h : OVar R w) : w.cell? ⟨R, 0, none⟩ = some (.int .u64 0) ∧ w.cell? ⟨R, 1, none⟩ = some (.bool false) ∧ w.cell? ⟨R, 2, none⟩ = some (.int .i8 0) ∧ w.cell? ⟨R, 3, none⟩ = some (.bool false) ∧
    w.cell? ⟨R, 4, none⟩ = some (.slice none 0 0) ∧ w.cell? ⟨R, 5, none⟩ = some (.slice none 0 0) ∧ (∀ o, w.frozen? ⟨R, o, none⟩ = false) ∧ R < w.heap.size :=
  ⟨h.r0, h.r1, h.r2, h.r3, h.r4, h.r5, h.rf, h.size⟩

theorem ovar_start (w : World) (o : Obj) : OVar (w.heap.size + 1) ((w.alloc o).alloc (.cells #[.int .u64 0, .bool false, .int .i8 0, .bool false, .slice none 0 0, .slice none 0 0] 92)) :=
  ⟨by simp [go_sem], by simp [go_sem], by simp [go_sem], by simp [go_sem], by simp [go_sem], by simp [go_sem], fun o => by simp [go_sem], by simp [go_sem]⟩

theorem IsN.setO {R : Nat} {w : World} {v u0 u1 u2 u3 u4 u5 : Value} {N : Nat} (h : IsN w v N) (k : OVar R w) :
    IsN ((((((w.setCell ⟨R, 0, none⟩ u0).setCell ⟨R, 1, none⟩ u1).setCell ⟨R, 2, none⟩ u2).setCell ⟨R, 3, none⟩ u3).setCell ⟨R, 4, none⟩ u4).setCell ⟨R, 5, none⟩ u5) v N := by
  have h3 := h.set3 (u0 := u0) (u1 := u1) (u2 := u2) k.r0 k.r1 k.r2 (fun _ h => by cases h) (fun _ h => by cases h) (fun _ h => by cases h)
  refine ((h3.set (z := .bool false) ?_ (fun _ h => by cases h)).set (z := .slice none 0 0) ?_ (fun _ h => by cases h)).set (z := .slice none 0 0) ?_ (fun _ h => by cases h)
  · repeat rw [cell_set_ne _ _ _ _ _ _ (by omega)]
    exact k.r3
  · repeat rw [cell_set_ne _ _ _ _ _ _ (by omega)]
    exact k.r4
  · repeat rw [cell_set_ne _ _ _ _ _ _ (by omega)]
    exact k.r5

theorem below_set6' {B b : Nat} {a w : World} {v0 v1 v2 v3 v4 v5 : Value} (h : Below B a w) (hb : B ≤ b) :
    Below B a ((((((w.setCell ⟨b, 0, none⟩ v0).setCell ⟨b, 1, none⟩ v1).setCell ⟨b, 2, none⟩ v2).setCell ⟨b, 3, none⟩ v3).setCell ⟨b, 4, none⟩ v4).setCell ⟨b, 5, none⟩ v5) :=
  (((((h.setCell (p := ⟨b, 0, none⟩) hb v0).setCell (p := ⟨b, 1, none⟩) hb v1).setCell (p := ⟨b, 2, none⟩) hb v2).setCell (p := ⟨b, 3, none⟩) hb v3).setCell (p := ⟨b, 4, none⟩) hb v4).setCell (p := ⟨b, 5, none⟩) hb v5

/-- open's world once v lies in block V -/
structure OAt (w : World) (E M V : Nat) (s : Bool) (x y : Value) (W : World) : Prop where
  fm : FAt w.heap.size E M W
  ov : OVar (w.heap.size + 1) W
  v0 : W.cell? ⟨V, 0, none⟩ = some (.bool s)
  v1 : W.cell? ⟨V, 1, none⟩ = some x
  v2 : W.cell? ⟨V, 2, none⟩ = some y
  below : Below w.heap.size w W
  size : V < W.heap.size

theorem OAt.step {w W W' : World} {E M V : Nat} {s : Bool} {x y : Value} (h : OAt w E M V s x y W) (hb : Below W.heap.size W W') : OAt w E M V s x y W' :=
  have k := fun o => hb.cell (p := ⟨V, o, none⟩) h.size
  ⟨h.fm.step hb, h.ov.step hb, (k 0).trans h.v0, (k 1).trans h.v1, (k 2).trans h.v2, below_step h.below (Nat.le_of_lt h.fm.size) hb, Nat.lt_of_lt_of_le h.size hb.size⟩

theorem OAt.drew {w W : World} {E M V : Nat} {s : Bool} {x y : Value} (h : OAt w E M V s x y W) : OAt w E M V s x y W.drew :=
  ⟨⟨h.fm.c0, h.fm.c1, h.fm.size⟩, h.ov.drew, h.v0, h.v1, h.v2, h.below.drew, h.size⟩

theorem OAt.start {w W : World} {E M : Nat} {s : Bool} {a a' : Option Addr} {n c n' c' : Nat} (fm : FAt w.heap.size E M W) (ov : OVar (w.heap.size + 1) W) (hB : Below w.heap.size w W) :
    OAt w E M W.heap.size s (.slice a n c) (.slice a' n' c') (W.alloc (.cells #[.bool s, .slice a n c, .slice a' n' c'] 50)) :=
  ⟨fm.step (below_alloc _ _), ov.step (below_alloc _ _), by simp [go_sem], by simp [go_sem], by simp [go_sem], hB.alloc (Nat.le_of_lt fm.size) _, by simp [go_sem]⟩

theorem OAt.all {w W : World} {E M V : Nat} {s : Bool} {x y : Value} (h : OAt w E M V s x y W) :
    (W.cell? ⟨w.heap.size, 0, none⟩ = some (.int .u8 E) ∧ W.cell? ⟨w.heap.size, 1, none⟩ = some (.int .u8 M)) ∧ (W.cell? ⟨V, 0, none⟩ = some (.bool s) ∧ W.cell? ⟨V, 1, none⟩ = some x ∧ W.cell? ⟨V, 2, none⟩ = some y) ∧ Hid (OAt w E M V s x y W) :=
  ⟨h.fm.all, ⟨h.v0, h.v1, h.v2⟩, h⟩

set_option maxHeartbeats 2000000 in
theorem open_yes {E M : Nat} (h : FOk E M) (x : Nat) (hx : x < 18446744073709551616) (w : World) :
    Calls Oabg.prog 60 #[fmtV E M, .int .u64 x] w fun e w' => ∃ r, e = .returned r ∧
      OpIs w' r (x % 2 ^ (E + M + 1)) (negF E M (x % 2 ^ (E + M + 1))) (clsF E M (x % 2 ^ (E + M + 1))) (vNeg E M (x % 2 ^ (E + M + 1))) (vNum E M (x % 2 ^ (E + M + 1))) (vDen E M (x % 2 ^ (E + M + 1))) ∧ Below w.heap.size w w' := by
  have h' := h
  have hma := and_mask h hx
  have hyl : x % 2 ^ (E + M + 1) < 18446744073709551616 := Nat.lt_of_le_of_lt (Nat.mod_le _ _) hx
  obtain ⟨y, hy⟩ : ∃ y, y = x % 2 ^ (E + M + 1) := ⟨_, rfl⟩
  simp only [← hy] at hma hyl ⊢
  clear hy
  have hsg := and_sgn h hyl
  have hV := fun w => value_yes h y hyl w
  obtain ⟨N, hN⟩ : ∃ b, b = negF E M y := ⟨_, rfl⟩
  obtain ⟨c, hc⟩ : ∃ b, b = clsF E M y := ⟨_, rfl⟩
  obtain ⟨s, hs⟩ : ∃ b, b = vNeg E M y := ⟨_, rfl⟩
  obtain ⟨A, hAA⟩ : ∃ b, b = vNum E M y := ⟨_, rfl⟩
  obtain ⟨D, hDD⟩ : ∃ b, b = vDen E M y := ⟨_, rfl⟩
  simp only [← hN, ← hc, ← hs, ← hAA, ← hDD] at hsg hV ⊢
  have HVa : Hid (∀ w : World, Calls Oabg.prog 27 #[.agg #[.int .u8 E, .int .u8 M], .int .u64 y] w fun e w' => ∃ r, e = .returned (.tuple #[r, .int .i8 c]) ∧ RatAt w' r s A D ∧ Below w.heap.size w w') := hV
  clear hV hN hc hs hAA hDD
  obtain ⟨h1, h2, h3, h4⟩ := h
  unfold fmtV
  go_enter Oabg.func60, Oabg.ntmps60
  go_wp2_with fail
  go_at_call 96
  have hF := (FAt.start w E M).step (below_alloc _ (.cells #[.int .u64 0, .bool false, .int .i8 0, .bool false, .slice none 0 0, .slice none 0 0] 92))
  have hR := ovar_start w (.cells #[.int .u8 E, .int .u8 M] 39)
  have hB := ((Below.refl w.heap.size w).alloc (Nat.le_refl _) (.cells #[.int .u8 E, .int .u8 M] 39)).alloc (by simp) (.cells #[.int .u64 0, .bool false, .int .i8 0, .bool false, .slice none 0 0, .slice none 0 0] 92)
  obtain ⟨W, hW⟩ : ∃ W, W = (w.alloc (.cells #[.int .u8 E, .int .u8 M] 39)).alloc (.cells #[.int .u64 0, .bool false, .int .i8 0, .bool false, .slice none 0 0, .slice none 0 0] 92) := ⟨_, rfl⟩
  rw [← hW] at hF hR hB ⊢
  clear hW
  refine (mask_yes h' _).mono ?_
  rintro r w1 ⟨rfl, hb⟩
  have hF1 := hF.step hb
  have hR1 := hR.step hb
  have hB1 := below_step hB (Nat.le_of_lt hF.size) hb
  obtain ⟨c0, c1⟩ := hF1.all
  clear hF hR hB hb
  go_wp2_with fail
  go_at_call 27
  refine (HVa.out _).mono ?_
  rintro r w2 ⟨v, rfl, hr, hb⟩
  obtain ⟨a1, n1, d1, a2, n2, d2, rfl, hv1, hv2⟩ := hr
  have hO := OAt.start (s := s) (a := a1) (n := n1) (c := d1) (a' := a2) (n' := n2) (c' := d2) (hF1.step hb) (hR1.step hb) (below_step hB1 (Nat.le_of_lt hF1.size) hb)
  have hA := below_alloc w2 (.cells #[.bool s, .slice a1 n1 d1, .slice a2 n2 d2] 50)
  have hv1' := hv1.step hA
  have hv2' := hv2.step hA
  clear hF1 hR1 hB1 hb hv1 hv2 hA HVa
  go_wp2_with fail
  obtain ⟨W3, hW3⟩ : ∃ W3, W3 = w2.alloc (.cells #[.bool s, .slice a1 n1 d1, .slice a2 n2 d2] 50) := ⟨_, rfl⟩
  rw [← hW3] at hO hv1' hv2' ⊢
  clear hW3
  generalize w2.heap.size = V at hO ⊢
  obtain ⟨⟨e0, e1⟩, ⟨v0, v1, v2⟩, HO⟩ := hO.all
  have HV1 : Hid (IsN W3 (.slice a1 n1 d1) A) := hv1'
  have HV2 : Hid (IsN W3 (.slice a2 n2 d2) D) := hv2'
  clear hO hv1' hv2' hma c0 c1
  go_region_with (first | (go_at_call 97; refine (signBit_yes h' _).mono ?_; rintro r w3 ⟨rfl, hb⟩; have HX1 : Hid (IsN w3 (.slice a1 n1 d1) A) := (IsN.drew HV1.out).step hb; have HX2 : Hid (IsN w3 (.slice a2 n2 d2) D) := (IsN.drew HV2.out).step hb; obtain ⟨⟨e0, e1⟩, ⟨v0, v1, v2⟩, HO⟩ := (HO.out.drew.step hb).all; obtain ⟨r0, r1, r2, r3, r4, r5, rf, rs⟩ := HO.out.ov.all; clear hb))
  all_goals go_wp2
  all_goals refine bodyPost_ret (v := .agg #[.int .u64 y, .bool N, .int .i8 c, .bool s, .slice a1 n1 d1, .slice a2 n2 d2]) ?_ rfl ⟨_, rfl, ⟨a1, n1, d1, a2, n2, d2, rfl, ?_, ?_⟩, ?_⟩
  all_goals first | exact HX1.out.setO HO.out.ov | exact HX2.out.setO HO.out.ov | exact below_set6' HO.out.below (by omega) | simp [results, Oabg.results60, go_sem, r0, r1, r2, r3, r4, r5]

end Go.Proofs.Ygcoab
