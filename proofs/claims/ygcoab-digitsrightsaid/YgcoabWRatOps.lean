import Derived.Test.YgcoabWRoundF
namespace Go.Proofs.Ygcoab
open Go.RowKit

theorem round_any {E M : Nat} (h : FOk E M) (mode : Nat) {w : World} {r : Value} {neg : Bool} {N D : Nat} (hr : RatAt w r neg N D) (h2 : Small2 N D) :
    Calls Oabg.prog 47 #[fmtV E M, .int .u8 mode, r] w fun e w' => e = .returned (.int .u64 (roundP E M mode neg N D)) ∧ Below w.heap.size w w' := by
  have h' := h
  obtain ⟨a, n, c, a', n', c', rfl, hu, hv⟩ := hr
  have HS2 : Hid (Small2 N D) := h2
  clear h2
  have hS := RfAt.start E M neg hu hv
  clear hu hv
  generalize hz : roundP E M mode neg N D = z at *
  have HR : Hid (∀ W : World, RfAt w E M neg (.slice a n c) (.slice a' n' c') N D W → Calls Oabg.prog 91 #[fmtV E M, .int .u8 mode, .agg #[.bool neg, .slice a n c, .slice a' n' c']] W (RfPost W z)) := fun W k => by
    rw [← hz]
    exact roundFlags_any h' mode ⟨a, n, c, a', n', c', rfl, k.n, k.d⟩ HS2.out
  clear HS2 hz
  obtain ⟨h1, h2, h3, h4⟩ := h
  unfold fmtV
  go_enter Oabg.func47, Oabg.ntmps47
  go_wp2_with fail
  go_at_call 91
  refine (HR.out _ hS).mono ?_
  rintro ee w1 ⟨fl, rfl, hb⟩
  have HB := (hS.step hb).below
  clear hb hS
  go_wp2
  go_ret
  exact ⟨rfl, HB⟩

/-- two fractions' variables and a result's -/
structure PrAt (w : World) (s1 s2 : Bool) (u1 v1 u2 v2 : Value) (A1 D1 A2 D2 : Nat) (W : World) : Prop where
  p0 : W.cell? ⟨w.heap.size, 0, none⟩ = some (.bool s1)
  p1 : W.cell? ⟨w.heap.size, 1, none⟩ = some u1
  p2 : W.cell? ⟨w.heap.size, 2, none⟩ = some v1
  q0 : W.cell? ⟨w.heap.size + 1, 0, none⟩ = some (.bool s2)
  q1 : W.cell? ⟨w.heap.size + 1, 1, none⟩ = some u2
  q2 : W.cell? ⟨w.heap.size + 1, 2, none⟩ = some v2
  size : w.heap.size + 2 < W.heap.size
  n1 : IsN W u1 A1
  d1 : IsN W v1 D1
  n2 : IsN W u2 A2
  d2 : IsN W v2 D2
  below : Below w.heap.size w W

theorem RVar.drew {R : Nat} {w : World} (h : RVar R w) : RVar R w.drew := ⟨h.r0, h.r1, h.r2, h.rf, h.size⟩

theorem PrAt.step {w W W' : World} {s1 s2 : Bool} {u1 v1 u2 v2 : Value} {A1 D1 A2 D2 : Nat} (h : PrAt w s1 s2 u1 v1 u2 v2 A1 D1 A2 D2 W) (hb : Below W.heap.size W W') : PrAt w s1 s2 u1 v1 u2 v2 A1 D1 A2 D2 W' :=
  have hs := h.size
  have k := fun o => hb.cell (p := ⟨w.heap.size, o, none⟩) (show w.heap.size < W.heap.size by omega)
  have k' := fun o => hb.cell (p := ⟨w.heap.size + 1, o, none⟩) (show w.heap.size + 1 < W.heap.size by omega)
  ⟨(k 0).trans h.p0, (k 1).trans h.p1, (k 2).trans h.p2, (k' 0).trans h.q0, (k' 1).trans h.q1, (k' 2).trans h.q2, Nat.lt_of_lt_of_le h.size hb.size, h.n1.step hb, h.d1.step hb, h.n2.step hb, h.d2.step hb, below_step h.below h.below.size hb⟩

theorem PrAt.drew {w W : World} {s1 s2 : Bool} {u1 v1 u2 v2 : Value} {A1 D1 A2 D2 : Nat} (h : PrAt w s1 s2 u1 v1 u2 v2 A1 D1 A2 D2 W) : PrAt w s1 s2 u1 v1 u2 v2 A1 D1 A2 D2 W.drew :=
  ⟨h.p0, h.p1, h.p2, h.q0, h.q1, h.q2, h.size, h.n1.drew, h.d1.drew, h.n2.drew, h.d2.drew, h.below.drew⟩

theorem PrAt.start {w : World} (s1 s2 : Bool) {u1 v1 u2 v2 : Value} {A1 D1 A2 D2 : Nat} (n1 : IsN w u1 A1) (d1 : IsN w v1 D1) (n2 : IsN w u2 A2) (d2 : IsN w v2 D2) :
    PrAt w s1 s2 u1 v1 u2 v2 A1 D1 A2 D2 (((w.alloc (.cells #[.bool s1, u1, v1] 50)).alloc (.cells #[.bool s2, u2, v2] 50)).alloc (.cells #[.bool false, .slice none 0 0, .slice none 0 0] 50)) := by
  have b1 := below_alloc w (.cells #[.bool s1, u1, v1] 50)
  have b2 := below_alloc (w.alloc (.cells #[.bool s1, u1, v1] 50)) (.cells #[.bool s2, u2, v2] 50)
  have b3 := below_alloc ((w.alloc (.cells #[.bool s1, u1, v1] 50)).alloc (.cells #[.bool s2, u2, v2] 50)) (.cells #[.bool false, .slice none 0 0, .slice none 0 0] 50)
  exact ⟨by simp [go_sem], by simp [go_sem], by simp [go_sem], by simp [go_sem], by simp [go_sem], by simp [go_sem], by simp [go_sem], ((n1.step b1).step b2).step b3, ((d1.step b1).step b2).step b3, ((n2.step b1).step b2).step b3, ((d2.step b1).step b2).step b3, below_step (below_step b1 b1.size b2) (Nat.le_trans b1.size b2.size) b3⟩

theorem PrAt.all {w W : World} {s1 s2 : Bool} {u1 v1 u2 v2 : Value} {A1 D1 A2 D2 : Nat} (h : PrAt w s1 s2 u1 v1 u2 v2 A1 D1 A2 D2 W) :
    W.cell? ⟨w.heap.size, 0, none⟩ = some (.bool s1) ∧ W.cell? ⟨w.heap.size, 1, none⟩ = some u1 ∧ W.cell? ⟨w.heap.size, 2, none⟩ = some v1 ∧ W.cell? ⟨w.heap.size + 1, 0, none⟩ = some (.bool s2) ∧ W.cell? ⟨w.heap.size + 1, 1, none⟩ = some u2 ∧ W.cell? ⟨w.heap.size + 1, 2, none⟩ = some v2 ∧ Hid (PrAt w s1 s2 u1 v1 u2 v2 A1 D1 A2 D2 W) :=
  ⟨h.p0, h.p1, h.p2, h.q0, h.q1, h.q2, h⟩

theorem pr_rvar (w : World) (s1 s2 : Bool) (u1 v1 u2 v2 : Value) : RVar (w.heap.size + 2) (((w.alloc (.cells #[.bool s1, u1, v1] 50)).alloc (.cells #[.bool s2, u2, v2] 50)).alloc (.cells #[.bool false, .slice none 0 0, .slice none 0 0] 50)) := by
  have hr := RVar.start ((w.alloc (.cells #[.bool s1, u1, v1] 50)).alloc (.cells #[.bool s2, u2, v2] 50))
  have hsz : ((w.alloc (.cells #[.bool s1, u1, v1] 50)).alloc (.cells #[.bool s2, u2, v2] 50)).heap.size = w.heap.size + 2 := by simp [go_sem]
  rw [hsz] at hr
  exact hr

theorem set3_size (w : World) (R : Nat) (x y z : Value) : (((w.setCell ⟨R, 0, none⟩ x).setCell ⟨R, 1, none⟩ y).setCell ⟨R, 2, none⟩ z).heap.size = w.heap.size := by simp [go_sem]

theorem PrAt.put {w W : World} {s1 s2 : Bool} {u1 v1 u2 v2 x y z : Value} {A1 D1 A2 D2 : Nat} (h : PrAt w s1 s2 u1 v1 u2 v2 A1 D1 A2 D2 W) (hr : RVar (w.heap.size + 2) W) :
    PrAt w s1 s2 u1 v1 u2 v2 A1 D1 A2 D2 (((W.setCell ⟨w.heap.size + 2, 0, none⟩ x).setCell ⟨w.heap.size + 2, 1, none⟩ y).setCell ⟨w.heap.size + 2, 2, none⟩ z) := by
  refine ⟨?_, ?_, ?_, ?_, ?_, ?_, ?_, h.n1.setR hr, h.d1.setR hr, h.n2.setR hr, h.d2.setR hr, below_set3 h.below (by omega)⟩
  · rw [cell_set3 _ _ _ _ _ _ _ (by omega)]; exact h.p0
  · rw [cell_set3 _ _ _ _ _ _ _ (by omega)]; exact h.p1
  · rw [cell_set3 _ _ _ _ _ _ _ (by omega)]; exact h.p2
  · rw [cell_set3 _ _ _ _ _ _ _ (by omega)]; exact h.q0
  · rw [cell_set3 _ _ _ _ _ _ _ (by omega)]; exact h.q1
  · rw [cell_set3 _ _ _ _ _ _ _ (by omega)]; exact h.q2
  · rw [set3_size]; exact h.size

theorem keepPrS {w W : World} {s1 s2 : Bool} {u1 v1 u2 v2 x y z : Value} {A1 D1 A2 D2 : Nat} (hr : RVar (w.heap.size + 2) W)
    (h : (W.cell? ⟨w.heap.size, 0, none⟩ = some (.bool s1) ∧ W.cell? ⟨w.heap.size, 1, none⟩ = some u1 ∧ W.cell? ⟨w.heap.size, 2, none⟩ = some v1 ∧ W.cell? ⟨w.heap.size + 1, 0, none⟩ = some (.bool s2) ∧ W.cell? ⟨w.heap.size + 1, 1, none⟩ = some u2 ∧ W.cell? ⟨w.heap.size + 1, 2, none⟩ = some v2) ∧ PrAt w s1 s2 u1 v1 u2 v2 A1 D1 A2 D2 W) :
    ((((W.setCell ⟨w.heap.size + 2, 0, none⟩ x).setCell ⟨w.heap.size + 2, 1, none⟩ y).setCell ⟨w.heap.size + 2, 2, none⟩ z).cell? ⟨w.heap.size, 0, none⟩ = some (.bool s1) ∧ (((W.setCell ⟨w.heap.size + 2, 0, none⟩ x).setCell ⟨w.heap.size + 2, 1, none⟩ y).setCell ⟨w.heap.size + 2, 2, none⟩ z).cell? ⟨w.heap.size, 1, none⟩ = some u1 ∧ (((W.setCell ⟨w.heap.size + 2, 0, none⟩ x).setCell ⟨w.heap.size + 2, 1, none⟩ y).setCell ⟨w.heap.size + 2, 2, none⟩ z).cell? ⟨w.heap.size, 2, none⟩ = some v1 ∧ (((W.setCell ⟨w.heap.size + 2, 0, none⟩ x).setCell ⟨w.heap.size + 2, 1, none⟩ y).setCell ⟨w.heap.size + 2, 2, none⟩ z).cell? ⟨w.heap.size + 1, 0, none⟩ = some (.bool s2) ∧ (((W.setCell ⟨w.heap.size + 2, 0, none⟩ x).setCell ⟨w.heap.size + 2, 1, none⟩ y).setCell ⟨w.heap.size + 2, 2, none⟩ z).cell? ⟨w.heap.size + 1, 1, none⟩ = some u2 ∧ (((W.setCell ⟨w.heap.size + 2, 0, none⟩ x).setCell ⟨w.heap.size + 2, 1, none⟩ y).setCell ⟨w.heap.size + 2, 2, none⟩ z).cell? ⟨w.heap.size + 1, 2, none⟩ = some v2) ∧ PrAt w s1 s2 u1 v1 u2 v2 A1 D1 A2 D2 (((W.setCell ⟨w.heap.size + 2, 0, none⟩ x).setCell ⟨w.heap.size + 2, 1, none⟩ y).setCell ⟨w.heap.size + 2, 2, none⟩ z) :=
  have k := h.2.put (x := x) (y := y) (z := z) hr
  ⟨⟨k.p0, k.p1, k.p2, k.q0, k.q1, k.q2⟩, k⟩

theorem keepPr {w W W' : World} {s1 s2 : Bool} {u1 v1 u2 v2 : Value} {A1 D1 A2 D2 : Nat} (hb : Below W.heap.size W W')
    (h : (W.cell? ⟨w.heap.size, 0, none⟩ = some (.bool s1) ∧ W.cell? ⟨w.heap.size, 1, none⟩ = some u1 ∧ W.cell? ⟨w.heap.size, 2, none⟩ = some v1 ∧ W.cell? ⟨w.heap.size + 1, 0, none⟩ = some (.bool s2) ∧ W.cell? ⟨w.heap.size + 1, 1, none⟩ = some u2 ∧ W.cell? ⟨w.heap.size + 1, 2, none⟩ = some v2) ∧ PrAt w s1 s2 u1 v1 u2 v2 A1 D1 A2 D2 W) :
    (W'.cell? ⟨w.heap.size, 0, none⟩ = some (.bool s1) ∧ W'.cell? ⟨w.heap.size, 1, none⟩ = some u1 ∧ W'.cell? ⟨w.heap.size, 2, none⟩ = some v1 ∧ W'.cell? ⟨w.heap.size + 1, 0, none⟩ = some (.bool s2) ∧ W'.cell? ⟨w.heap.size + 1, 1, none⟩ = some u2 ∧ W'.cell? ⟨w.heap.size + 1, 2, none⟩ = some v2) ∧ PrAt w s1 s2 u1 v1 u2 v2 A1 D1 A2 D2 W' :=
  have k := h.2.step hb
  ⟨⟨k.p0, k.p1, k.p2, k.q0, k.q1, k.q2⟩, k⟩

structure Fit4 (A1 D1 A2 D2 : Nat) : Prop where
  a1 : FitsN A1
  d1 : FitsN D1
  a2 : FitsN A2
  d2 : FitsN D2
  x : FitsN (A1 * D2)
  y : FitsN (A2 * D1)

set_option maxHeartbeats 2000000 in
theorem mulFrac_any {w : World} {p q : Value} {s1 s2 : Bool} {A1 D1 A2 D2 : Nat} (hp : RatAt w p s1 A1 D1) (hq : RatAt w q s2 A2 D2) (hf : Fit4 A1 D1 A2 D2) :
    Calls Oabg.prog 29 #[p, q] w fun e w' => ∃ r, e = .returned r ∧ RatAt w' r (!(s1 == s2)) (A1 * A2) (D1 * D2) ∧ Below w.heap.size w w' := by
  obtain ⟨a1, n1, c1, a2, n2, c2, rfl, i1, j1⟩ := hp
  obtain ⟨a3, n3, c3, a4, n4, c4, rfl, i2, j2⟩ := hq
  have HF : Hid (Fit4 A1 D1 A2 D2) := hf
  clear hf
  have hS := PrAt.start s1 s2 i1 j1 i2 j2
  clear i1 j1 i2 j2
  have hR := pr_rvar w s1 s2 (.slice a1 n1 c1) (.slice a2 n2 c2) (.slice a3 n3 c3) (.slice a4 n4 c4)
  obtain ⟨W, hW⟩ : ∃ W, W = (((w.alloc (.cells #[.bool s1, .slice a1 n1 c1, .slice a2 n2 c2] 50)).alloc (.cells #[.bool s2, .slice a3 n3 c3, .slice a4 n4 c4] 50)).alloc (.cells #[.bool false, .slice none 0 0, .slice none 0 0] 50)) := ⟨_, rfl⟩
  rw [← hW] at hS hR
  have HR0 : Hid (RVar (w.heap.size + 2) W.drew) := hR.drew
  clear hR
  have HA : Hid (∀ W : World, ((W.cell? ⟨w.heap.size, 0, none⟩ = some (.bool s1) ∧ W.cell? ⟨w.heap.size, 1, none⟩ = some (.slice a1 n1 c1) ∧ W.cell? ⟨w.heap.size, 2, none⟩ = some (.slice a2 n2 c2) ∧ W.cell? ⟨w.heap.size + 1, 0, none⟩ = some (.bool s2) ∧ W.cell? ⟨w.heap.size + 1, 1, none⟩ = some (.slice a3 n3 c3) ∧ W.cell? ⟨w.heap.size + 1, 2, none⟩ = some (.slice a4 n4 c4)) ∧ PrAt w s1 s2 (.slice a1 n1 c1) (.slice a2 n2 c2) (.slice a3 n3 c3) (.slice a4 n4 c4) A1 D1 A2 D2 W) → Calls Oabg.prog 73 #[.slice a1 n1 c1, .slice a3 n3 c3] W fun e w' => ∃ r, e = .returned r ∧ IsN w' r (A1 * A2) ∧ Below W.heap.size W w') := fun W k => mul_any k.2.n1 k.2.n2 HF.out.a1 HF.out.a2
  have HB : Hid (∀ W : World, ((W.cell? ⟨w.heap.size, 0, none⟩ = some (.bool s1) ∧ W.cell? ⟨w.heap.size, 1, none⟩ = some (.slice a1 n1 c1) ∧ W.cell? ⟨w.heap.size, 2, none⟩ = some (.slice a2 n2 c2) ∧ W.cell? ⟨w.heap.size + 1, 0, none⟩ = some (.bool s2) ∧ W.cell? ⟨w.heap.size + 1, 1, none⟩ = some (.slice a3 n3 c3) ∧ W.cell? ⟨w.heap.size + 1, 2, none⟩ = some (.slice a4 n4 c4)) ∧ PrAt w s1 s2 (.slice a1 n1 c1) (.slice a2 n2 c2) (.slice a3 n3 c3) (.slice a4 n4 c4) A1 D1 A2 D2 W) → Calls Oabg.prog 73 #[.slice a2 n2 c2, .slice a4 n4 c4] W fun e w' => ∃ r, e = .returned r ∧ IsN w' r (D1 * D2) ∧ Below W.heap.size W w') := fun W k => mul_any k.2.d1 k.2.d2 HF.out.d1 HF.out.d2
  go_enter Oabg.func29, Oabg.ntmps29
  go_upto_region 1 with (fail)
  rw [show (((w.alloc (.cells #[.bool s1, .slice a1 n1 c1, .slice a2 n2 c2] 50)).alloc (.cells #[.bool s2, .slice a3 n3 c3, .slice a4 n4 c4] 50)).alloc (.cells #[.bool false, .slice none 0 0, .slice none 0 0] 50)) = W from hW.symm]
  clear hW HF
  obtain ⟨p0, p1, p2, q0, q1, q2, HK⟩ := hS.all
  clear hS
  go_region_held3 (fun W => (W.cell? ⟨w.heap.size, 0, none⟩ = some (.bool s1) ∧ W.cell? ⟨w.heap.size, 1, none⟩ = some (.slice a1 n1 c1) ∧ W.cell? ⟨w.heap.size, 2, none⟩ = some (.slice a2 n2 c2) ∧ W.cell? ⟨w.heap.size + 1, 0, none⟩ = some (.bool s2) ∧ W.cell? ⟨w.heap.size + 1, 1, none⟩ = some (.slice a3 n3 c3) ∧ W.cell? ⟨w.heap.size + 1, 2, none⟩ = some (.slice a4 n4 c4)) ∧ PrAt w s1 s2 (.slice a1 n1 c1) (.slice a2 n2 c2) (.slice a3 n3 c3) (.slice a4 n4 c4) A1 D1 A2 D2 W)
    (first
      | exact ⟨⟨p0, p1, p2, q0, q1, q2⟩, HK.out.drew⟩
      | (with_reducible refine keepPr hbA ?_; assumption)
      | (with_reducible refine keepPr hbB ?_; assumption)
      | (with_reducible refine keepPrS HRA.out ?_; assumption)
      | (with_reducible refine keepPrS HRB.out ?_; assumption))
    (first
      | (go_at_call_of 73 (Value.slice a1 n1 c1); refine (HA.out _ (by assumption)).mono ?_; rintro ee wA ⟨xA, rfl, hA, hbA⟩; obtain ⟨e1, e2, e3, rfl⟩ := hA.shape; have HRA : Hid (RVar (w.heap.size + 2) wA) := RVar.step (by first | exact HR0.out | exact HRB.out) hbA; obtain ⟨ra0, ra1, ra2, raf, ras, _⟩ := HRA.out.all)
      | (go_at_call_of 73 (Value.slice a2 n2 c2); refine (HB.out _ (by assumption)).mono ?_; rintro ee wB ⟨xB, rfl, hB, hbB⟩; obtain ⟨f1, f2, f3, rfl⟩ := hB.shape; have HRB : Hid (RVar (w.heap.size + 2) wB) := RVar.step (by first | exact HR0.out | exact HRA.out) hbB; obtain ⟨rb0, rb1, rb2, rbf, rbs, _⟩ := HRB.out.all))
  rename_i hH
  have HBl : Hid (Below w.heap.size w _) := hH.2.below
  clear hH
  have HA2 : Hid (IsN wB (.slice e1 e2 e3) (A1 * A2)) := hA.step hbB
  have HB2 : Hid (IsN wB (.slice f1 f2 f3) (D1 * D2)) := hB
  clear hA hB hbA hbB ra0 ra1 ra2 raf ras HA HB HK p0 p1 p2 q0 q1 q2
  go_wp2
  exact bodyPost_ret (v := .agg #[.bool (!(s1 == s2)), .slice e1 e2 e3, .slice f1 f2 f3]) (by simp [results, Oabg.results29, go_sem, rb0, rb1, rb2]) rfl ⟨_, rfl, ⟨e1, e2, e3, f1, f2, f3, rfl, HA2.out.setR HRB.out, HB2.out.setR HRB.out⟩, HBl.out⟩

set_option maxHeartbeats 2000000 in
theorem divFrac_any {w : World} {p q : Value} {s1 s2 : Bool} {A1 D1 A2 D2 : Nat} (hp : RatAt w p s1 A1 D1) (hq : RatAt w q s2 A2 D2) (hf : Fit4 A1 D1 A2 D2) :
    Calls Oabg.prog 45 #[p, q] w fun e w' => ∃ r, e = .returned r ∧ RatAt w' r (!(s1 == s2)) (A1 * D2) (D1 * A2) ∧ Below w.heap.size w w' := by
  obtain ⟨a1, n1, c1, a2, n2, c2, rfl, i1, j1⟩ := hp
  obtain ⟨a3, n3, c3, a4, n4, c4, rfl, i2, j2⟩ := hq
  have HF : Hid (Fit4 A1 D1 A2 D2) := hf
  clear hf
  have hS := PrAt.start s1 s2 i1 j1 i2 j2
  clear i1 j1 i2 j2
  have hR := pr_rvar w s1 s2 (.slice a1 n1 c1) (.slice a2 n2 c2) (.slice a3 n3 c3) (.slice a4 n4 c4)
  obtain ⟨W, hW⟩ : ∃ W, W = (((w.alloc (.cells #[.bool s1, .slice a1 n1 c1, .slice a2 n2 c2] 50)).alloc (.cells #[.bool s2, .slice a3 n3 c3, .slice a4 n4 c4] 50)).alloc (.cells #[.bool false, .slice none 0 0, .slice none 0 0] 50)) := ⟨_, rfl⟩
  rw [← hW] at hS hR
  have HR0 : Hid (RVar (w.heap.size + 2) W.drew) := hR.drew
  clear hR
  have HA : Hid (∀ W : World, ((W.cell? ⟨w.heap.size, 0, none⟩ = some (.bool s1) ∧ W.cell? ⟨w.heap.size, 1, none⟩ = some (.slice a1 n1 c1) ∧ W.cell? ⟨w.heap.size, 2, none⟩ = some (.slice a2 n2 c2) ∧ W.cell? ⟨w.heap.size + 1, 0, none⟩ = some (.bool s2) ∧ W.cell? ⟨w.heap.size + 1, 1, none⟩ = some (.slice a3 n3 c3) ∧ W.cell? ⟨w.heap.size + 1, 2, none⟩ = some (.slice a4 n4 c4)) ∧ PrAt w s1 s2 (.slice a1 n1 c1) (.slice a2 n2 c2) (.slice a3 n3 c3) (.slice a4 n4 c4) A1 D1 A2 D2 W) → Calls Oabg.prog 73 #[.slice a1 n1 c1, .slice a4 n4 c4] W fun e w' => ∃ r, e = .returned r ∧ IsN w' r (A1 * D2) ∧ Below W.heap.size W w') := fun W k => mul_any k.2.n1 k.2.d2 HF.out.a1 HF.out.d2
  have HB : Hid (∀ W : World, ((W.cell? ⟨w.heap.size, 0, none⟩ = some (.bool s1) ∧ W.cell? ⟨w.heap.size, 1, none⟩ = some (.slice a1 n1 c1) ∧ W.cell? ⟨w.heap.size, 2, none⟩ = some (.slice a2 n2 c2) ∧ W.cell? ⟨w.heap.size + 1, 0, none⟩ = some (.bool s2) ∧ W.cell? ⟨w.heap.size + 1, 1, none⟩ = some (.slice a3 n3 c3) ∧ W.cell? ⟨w.heap.size + 1, 2, none⟩ = some (.slice a4 n4 c4)) ∧ PrAt w s1 s2 (.slice a1 n1 c1) (.slice a2 n2 c2) (.slice a3 n3 c3) (.slice a4 n4 c4) A1 D1 A2 D2 W) → Calls Oabg.prog 73 #[.slice a2 n2 c2, .slice a3 n3 c3] W fun e w' => ∃ r, e = .returned r ∧ IsN w' r (D1 * A2) ∧ Below W.heap.size W w') := fun W k => mul_any k.2.d1 k.2.n2 HF.out.d1 HF.out.a2
  go_enter Oabg.func45, Oabg.ntmps45
  go_upto_region 1 with (fail)
  rw [show (((w.alloc (.cells #[.bool s1, .slice a1 n1 c1, .slice a2 n2 c2] 50)).alloc (.cells #[.bool s2, .slice a3 n3 c3, .slice a4 n4 c4] 50)).alloc (.cells #[.bool false, .slice none 0 0, .slice none 0 0] 50)) = W from hW.symm]
  clear hW HF
  obtain ⟨p0, p1, p2, q0, q1, q2, HK⟩ := hS.all
  clear hS
  go_region_held3 (fun W => (W.cell? ⟨w.heap.size, 0, none⟩ = some (.bool s1) ∧ W.cell? ⟨w.heap.size, 1, none⟩ = some (.slice a1 n1 c1) ∧ W.cell? ⟨w.heap.size, 2, none⟩ = some (.slice a2 n2 c2) ∧ W.cell? ⟨w.heap.size + 1, 0, none⟩ = some (.bool s2) ∧ W.cell? ⟨w.heap.size + 1, 1, none⟩ = some (.slice a3 n3 c3) ∧ W.cell? ⟨w.heap.size + 1, 2, none⟩ = some (.slice a4 n4 c4)) ∧ PrAt w s1 s2 (.slice a1 n1 c1) (.slice a2 n2 c2) (.slice a3 n3 c3) (.slice a4 n4 c4) A1 D1 A2 D2 W)
    (first
      | exact ⟨⟨p0, p1, p2, q0, q1, q2⟩, HK.out.drew⟩
      | (with_reducible refine keepPr hbA ?_; assumption)
      | (with_reducible refine keepPr hbB ?_; assumption)
      | (with_reducible refine keepPrS HRA.out ?_; assumption)
      | (with_reducible refine keepPrS HRB.out ?_; assumption))
    (first
      | (go_at_call_of 73 (Value.slice a1 n1 c1); refine (HA.out _ (by assumption)).mono ?_; rintro ee wA ⟨xA, rfl, hA, hbA⟩; obtain ⟨e1, e2, e3, rfl⟩ := hA.shape; have HRA : Hid (RVar (w.heap.size + 2) wA) := RVar.step (by first | exact HR0.out | exact HRB.out) hbA; obtain ⟨ra0, ra1, ra2, raf, ras, _⟩ := HRA.out.all)
      | (go_at_call_of 73 (Value.slice a2 n2 c2); refine (HB.out _ (by assumption)).mono ?_; rintro ee wB ⟨xB, rfl, hB, hbB⟩; obtain ⟨f1, f2, f3, rfl⟩ := hB.shape; have HRB : Hid (RVar (w.heap.size + 2) wB) := RVar.step (by first | exact HR0.out | exact HRA.out) hbB; obtain ⟨rb0, rb1, rb2, rbf, rbs, _⟩ := HRB.out.all))
  rename_i hH
  have HBl : Hid (Below w.heap.size w _) := hH.2.below
  clear hH
  have HA2 : Hid (IsN wB (.slice e1 e2 e3) (A1 * D2)) := hA.step hbB
  have HB2 : Hid (IsN wB (.slice f1 f2 f3) (D1 * A2)) := hB
  clear hA hB hbA hbB ra0 ra1 ra2 raf ras HA HB HK p0 p1 p2 q0 q1 q2
  go_wp2
  exact bodyPost_ret (v := .agg #[.bool (!(s1 == s2)), .slice e1 e2 e3, .slice f1 f2 f3]) (by simp [results, Oabg.results45, go_sem, rb0, rb1, rb2]) rfl ⟨_, rfl, ⟨e1, e2, e3, f1, f2, f3, rfl, HA2.out.setR HRB.out, HB2.out.setR HRB.out⟩, HBl.out⟩

end Go.Proofs.Ygcoab
