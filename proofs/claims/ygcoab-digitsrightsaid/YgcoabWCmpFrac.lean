import Derived.Test.YgcoabWSqrtC
namespace Go.Proofs.Ygcoab
open Go.RowKit

/-- cmpFrac's world: two fractions that are not negative -/
structure C2At (w : World) (u1 v1 u2 v2 : Value) (A1 D1 A2 D2 : Nat) (W : World) : Prop where
  p0 : W.cell? ⟨w.heap.size, 0, none⟩ = some (.bool false)
  p1 : W.cell? ⟨w.heap.size, 1, none⟩ = some u1
  p2 : W.cell? ⟨w.heap.size, 2, none⟩ = some v1
  q0 : W.cell? ⟨w.heap.size + 1, 0, none⟩ = some (.bool false)
  q1 : W.cell? ⟨w.heap.size + 1, 1, none⟩ = some u2
  q2 : W.cell? ⟨w.heap.size + 1, 2, none⟩ = some v2
  size : w.heap.size + 1 < W.heap.size
  n1 : IsN W u1 A1
  d1 : IsN W v1 D1
  n2 : IsN W u2 A2
  d2 : IsN W v2 D2
  below : Below w.heap.size w W

theorem C2At.step {w W W' : World} {u1 v1 u2 v2 : Value} {A1 D1 A2 D2 : Nat} (h : C2At w u1 v1 u2 v2 A1 D1 A2 D2 W) (hb : Below W.heap.size W W') : C2At w u1 v1 u2 v2 A1 D1 A2 D2 W' :=
  have hs := h.size
  have k := fun o => hb.cell (p := ⟨w.heap.size, o, none⟩) (show w.heap.size < W.heap.size by omega)
  have k' := fun o => hb.cell (p := ⟨w.heap.size + 1, o, none⟩) (show w.heap.size + 1 < W.heap.size by omega)
  ⟨(k 0).trans h.p0, (k 1).trans h.p1, (k 2).trans h.p2, (k' 0).trans h.q0, (k' 1).trans h.q1, (k' 2).trans h.q2, Nat.lt_of_lt_of_le h.size hb.size, h.n1.step hb, h.d1.step hb, h.n2.step hb, h.d2.step hb, below_step h.below h.below.size hb⟩

theorem C2At.drew {w W : World} {u1 v1 u2 v2 : Value} {A1 D1 A2 D2 : Nat} (h : C2At w u1 v1 u2 v2 A1 D1 A2 D2 W) : C2At w u1 v1 u2 v2 A1 D1 A2 D2 W.drew :=
  ⟨h.p0, h.p1, h.p2, h.q0, h.q1, h.q2, h.size, h.n1, h.d1, h.n2, h.d2, h.below.drew⟩

theorem C2At.start {w : World} {u1 v1 u2 v2 : Value} {A1 D1 A2 D2 : Nat} (n1 : IsN w u1 A1) (d1 : IsN w v1 D1) (n2 : IsN w u2 A2) (d2 : IsN w v2 D2) :
    C2At w u1 v1 u2 v2 A1 D1 A2 D2 ((w.alloc (.cells #[.bool false, u1, v1] 50)).alloc (.cells #[.bool false, u2, v2] 50)) := by
  have b1 := below_alloc w (.cells #[.bool false, u1, v1] 50)
  have b2 := below_alloc (w.alloc (.cells #[.bool false, u1, v1] 50)) (.cells #[.bool false, u2, v2] 50)
  exact ⟨by simp [go_sem], by simp [go_sem], by simp [go_sem], by simp [go_sem], by simp [go_sem], by simp [go_sem], by simp [go_sem], (n1.step b1).step b2, (d1.step b1).step b2, (n2.step b1).step b2, (d2.step b1).step b2, below_step b1 b1.size b2⟩

theorem C2At.putX {w W : World} {R : Nat} {u1 v1 u2 v2 x y z : Value} {A1 D1 A2 D2 : Nat} (h : C2At w u1 v1 u2 v2 A1 D1 A2 D2 W) (hr : RVar R W) (hl : w.heap.size + 1 < R) :
    C2At w u1 v1 u2 v2 A1 D1 A2 D2 (((W.setCell ⟨R, 0, none⟩ x).setCell ⟨R, 1, none⟩ y).setCell ⟨R, 2, none⟩ z) := by
  refine ⟨?_, ?_, ?_, ?_, ?_, ?_, ?_, h.n1.setR hr, h.d1.setR hr, h.n2.setR hr, h.d2.setR hr, below_set3 h.below (by omega)⟩
  · rw [cell_set3 _ _ _ _ _ _ _ (by omega)]; exact h.p0
  · rw [cell_set3 _ _ _ _ _ _ _ (by omega)]; exact h.p1
  · rw [cell_set3 _ _ _ _ _ _ _ (by omega)]; exact h.p2
  · rw [cell_set3 _ _ _ _ _ _ _ (by omega)]; exact h.q0
  · rw [cell_set3 _ _ _ _ _ _ _ (by omega)]; exact h.q1
  · rw [cell_set3 _ _ _ _ _ _ _ (by omega)]; exact h.q2
  · rw [set3_size]; exact h.size

theorem C2At.all {w W : World} {u1 v1 u2 v2 : Value} {A1 D1 A2 D2 : Nat} (h : C2At w u1 v1 u2 v2 A1 D1 A2 D2 W) : (W.cell? ⟨w.heap.size, 0, none⟩ = some (.bool false) ∧ W.cell? ⟨w.heap.size, 1, none⟩ = some u1 ∧ W.cell? ⟨w.heap.size, 2, none⟩ = some v1 ∧ W.cell? ⟨w.heap.size + 1, 0, none⟩ = some (.bool false) ∧ W.cell? ⟨w.heap.size + 1, 1, none⟩ = some u2 ∧ W.cell? ⟨w.heap.size + 1, 2, none⟩ = some v2) ∧ C2At w u1 v1 u2 v2 A1 D1 A2 D2 W := ⟨⟨h.p0, h.p1, h.p2, h.q0, h.q1, h.q2⟩, h⟩

theorem keepC2 {w W W' : World} {u1 v1 u2 v2 : Value} {A1 D1 A2 D2 : Nat} (hb : Below W.heap.size W W') (h : (W.cell? ⟨w.heap.size, 0, none⟩ = some (.bool false) ∧ W.cell? ⟨w.heap.size, 1, none⟩ = some u1 ∧ W.cell? ⟨w.heap.size, 2, none⟩ = some v1 ∧ W.cell? ⟨w.heap.size + 1, 0, none⟩ = some (.bool false) ∧ W.cell? ⟨w.heap.size + 1, 1, none⟩ = some u2 ∧ W.cell? ⟨w.heap.size + 1, 2, none⟩ = some v2) ∧ C2At w u1 v1 u2 v2 A1 D1 A2 D2 W) : (W'.cell? ⟨w.heap.size, 0, none⟩ = some (.bool false) ∧ W'.cell? ⟨w.heap.size, 1, none⟩ = some u1 ∧ W'.cell? ⟨w.heap.size, 2, none⟩ = some v1 ∧ W'.cell? ⟨w.heap.size + 1, 0, none⟩ = some (.bool false) ∧ W'.cell? ⟨w.heap.size + 1, 1, none⟩ = some u2 ∧ W'.cell? ⟨w.heap.size + 1, 2, none⟩ = some v2) ∧ C2At w u1 v1 u2 v2 A1 D1 A2 D2 W' := (h.2.step hb).all

theorem keepC2A {w W : World} {o : Obj} {u1 v1 u2 v2 : Value} {A1 D1 A2 D2 : Nat} (h : (W.cell? ⟨w.heap.size, 0, none⟩ = some (.bool false) ∧ W.cell? ⟨w.heap.size, 1, none⟩ = some u1 ∧ W.cell? ⟨w.heap.size, 2, none⟩ = some v1 ∧ W.cell? ⟨w.heap.size + 1, 0, none⟩ = some (.bool false) ∧ W.cell? ⟨w.heap.size + 1, 1, none⟩ = some u2 ∧ W.cell? ⟨w.heap.size + 1, 2, none⟩ = some v2) ∧ C2At w u1 v1 u2 v2 A1 D1 A2 D2 W) : ((W.alloc o).cell? ⟨w.heap.size, 0, none⟩ = some (.bool false) ∧ (W.alloc o).cell? ⟨w.heap.size, 1, none⟩ = some u1 ∧ (W.alloc o).cell? ⟨w.heap.size, 2, none⟩ = some v1 ∧ (W.alloc o).cell? ⟨w.heap.size + 1, 0, none⟩ = some (.bool false) ∧ (W.alloc o).cell? ⟨w.heap.size + 1, 1, none⟩ = some u2 ∧ (W.alloc o).cell? ⟨w.heap.size + 1, 2, none⟩ = some v2) ∧ C2At w u1 v1 u2 v2 A1 D1 A2 D2 (W.alloc o) := (h.2.step (below_alloc W o)).all

theorem keepC2X {w W : World} {R : Nat} {u1 v1 u2 v2 x y z : Value} {A1 D1 A2 D2 : Nat} (hr : RVar R W) (hl : w.heap.size + 1 < R) (h : (W.cell? ⟨w.heap.size, 0, none⟩ = some (.bool false) ∧ W.cell? ⟨w.heap.size, 1, none⟩ = some u1 ∧ W.cell? ⟨w.heap.size, 2, none⟩ = some v1 ∧ W.cell? ⟨w.heap.size + 1, 0, none⟩ = some (.bool false) ∧ W.cell? ⟨w.heap.size + 1, 1, none⟩ = some u2 ∧ W.cell? ⟨w.heap.size + 1, 2, none⟩ = some v2) ∧ C2At w u1 v1 u2 v2 A1 D1 A2 D2 W) : ((((W.setCell ⟨R, 0, none⟩ x).setCell ⟨R, 1, none⟩ y).setCell ⟨R, 2, none⟩ z).cell? ⟨w.heap.size, 0, none⟩ = some (.bool false) ∧ (((W.setCell ⟨R, 0, none⟩ x).setCell ⟨R, 1, none⟩ y).setCell ⟨R, 2, none⟩ z).cell? ⟨w.heap.size, 1, none⟩ = some u1 ∧ (((W.setCell ⟨R, 0, none⟩ x).setCell ⟨R, 1, none⟩ y).setCell ⟨R, 2, none⟩ z).cell? ⟨w.heap.size, 2, none⟩ = some v1 ∧ (((W.setCell ⟨R, 0, none⟩ x).setCell ⟨R, 1, none⟩ y).setCell ⟨R, 2, none⟩ z).cell? ⟨w.heap.size + 1, 0, none⟩ = some (.bool false) ∧ (((W.setCell ⟨R, 0, none⟩ x).setCell ⟨R, 1, none⟩ y).setCell ⟨R, 2, none⟩ z).cell? ⟨w.heap.size + 1, 1, none⟩ = some u2 ∧ (((W.setCell ⟨R, 0, none⟩ x).setCell ⟨R, 1, none⟩ y).setCell ⟨R, 2, none⟩ z).cell? ⟨w.heap.size + 1, 2, none⟩ = some v2) ∧ C2At w u1 v1 u2 v2 A1 D1 A2 D2 (((W.setCell ⟨R, 0, none⟩ x).setCell ⟨R, 1, none⟩ y).setCell ⟨R, 2, none⟩ z) := (h.2.putX hr hl).all

set_option maxHeartbeats 4000000 in
theorem cmpFrac_pos {w : World} {p q : Value} {A1 D1 A2 D2 : Nat} (hp : RatAt w p false A1 D1) (hq : RatAt w q false A2 D2) (hf : Fit4 A1 D1 A2 D2) :
    Calls Oabg.prog 53 #[p, q] w fun e w' => e = .returned (.int .i8 (cmpZ (A1 * D2) (A2 * D1))) ∧ Below w.heap.size w w' := by
  obtain ⟨a1, n1, c1, a2, n2, c2, rfl, i1, j1⟩ := hp
  obtain ⟨a3, n3, c3, a4, n4, c4, rfl, i2, j2⟩ := hq
  have HF : Hid (Fit4 A1 D1 A2 D2) := hf
  clear hf
  have hS := C2At.start i1 j1 i2 j2
  clear i1 j1 i2 j2
  obtain ⟨W0, hW⟩ : ∃ W, W = ((w.alloc (.cells #[.bool false, .slice a1 n1 c1, .slice a2 n2 c2] 50)).alloc (.cells #[.bool false, .slice a3 n3 c3, .slice a4 n4 c4] 50)) := ⟨_, rfl⟩
  rw [← hW] at hS
  have HN : Hid (∀ W : World, ((W.cell? ⟨w.heap.size, 0, none⟩ = some (.bool false) ∧ W.cell? ⟨w.heap.size, 1, none⟩ = some (.slice a1 n1 c1) ∧ W.cell? ⟨w.heap.size, 2, none⟩ = some (.slice a2 n2 c2) ∧ W.cell? ⟨w.heap.size + 1, 0, none⟩ = some (.bool false) ∧ W.cell? ⟨w.heap.size + 1, 1, none⟩ = some (.slice a3 n3 c3) ∧ W.cell? ⟨w.heap.size + 1, 2, none⟩ = some (.slice a4 n4 c4)) ∧ C2At w (.slice a1 n1 c1) (.slice a2 n2 c2) (.slice a3 n3 c3) (.slice a4 n4 c4) A1 D1 A2 D2 W) → Calls Oabg.prog 43 #[.agg #[.bool false, .slice a3 n3 c3, .slice a4 n4 c4]] W fun e w' => ∃ r, e = .returned r ∧ RatAt w' r true A2 D2 ∧ Below W.heap.size W w') := fun W k => negFrac_any (s := false) ⟨a3, n3, c3, a4, n4, c4, rfl, k.2.n2, k.2.d2⟩
  have HSu : Hid (∀ (W : World) (e1 : Option Addr) (e2 e3 : Nat) (f1 : Option Addr) (f2 f3 : Nat), ((W.cell? ⟨w.heap.size, 0, none⟩ = some (.bool false) ∧ W.cell? ⟨w.heap.size, 1, none⟩ = some (.slice a1 n1 c1) ∧ W.cell? ⟨w.heap.size, 2, none⟩ = some (.slice a2 n2 c2) ∧ W.cell? ⟨w.heap.size + 1, 0, none⟩ = some (.bool false) ∧ W.cell? ⟨w.heap.size + 1, 1, none⟩ = some (.slice a3 n3 c3) ∧ W.cell? ⟨w.heap.size + 1, 2, none⟩ = some (.slice a4 n4 c4)) ∧ C2At w (.slice a1 n1 c1) (.slice a2 n2 c2) (.slice a3 n3 c3) (.slice a4 n4 c4) A1 D1 A2 D2 W) → IsN W (.slice e1 e2 e3) A2 → IsN W (.slice f1 f2 f3) D2 → Calls Oabg.prog 44 #[.agg #[.bool false, .slice a1 n1 c1, .slice a2 n2 c2], .agg #[.bool true, .slice e1 e2 e3, .slice f1 f2 f3]] W fun e w' => ∃ r, e = .returned r ∧ RatAt w' r (sumG false true (A1 * D2) (A2 * D1)) (sumV false true (A1 * D2) (A2 * D1)) (D1 * D2) ∧ Below W.heap.size W w') := fun W e1 e2 e3 f1 f2 f3 k h1 h2 => sumFrac_any ⟨a1, n1, c1, a2, n2, c2, rfl, k.2.n1, k.2.d1⟩ ⟨e1, e2, e3, f1, f2, f3, rfl, h1, h2⟩ HF.out
  obtain ⟨x, hx⟩ : ∃ x, x = A1 * D2 := ⟨_, rfl⟩
  obtain ⟨y, hy⟩ : ∃ y, y = A2 * D1 := ⟨_, rfl⟩
  rw [← hx, ← hy]
  rw [← hx, ← hy] at HSu
  obtain ⟨G, hG⟩ : ∃ G, G = sumG false true x y := ⟨_, rfl⟩
  obtain ⟨V, hV⟩ : ∃ V, V = sumV false true x y := ⟨_, rfl⟩
  rw [← hG, ← hV] at HSu
  have HG : Hid (G = if y ≤ x then false else true) := by
    show _ = _
    rw [hG]
    unfold sumG
    simp
  have HV : Hid (V = if y ≤ x then x - y else y - x) := by
    show _ = _
    rw [hV]
    unfold sumV
    simp
  clear hx hy hG hV HF
  go_enter Oabg.func53, Oabg.ntmps53
  go_upto_region 1 with (fail)
  rw [show ((w.alloc (.cells #[.bool false, .slice a1 n1 c1, .slice a2 n2 c2] 50)).alloc (.cells #[.bool false, .slice a3 n3 c3, .slice a4 n4 c4] 50)) = W0 from hW.symm]
  clear hW
  go_cut [5] (fun s5 wx => ∃ X e1 e2 e3 f1 f2 f3, s5 = .pointer (some ⟨X, 0, none⟩) ∧ RatV X G (.slice e1 e2 e3) (.slice f1 f2 f3) wx ∧ IsN wx (.slice e1 e2 e3) V ∧ Below w.heap.size w wx)
  case first =>
    have hS0 := hS.drew.all
    have HS0 : Hid ((W0.drew.cell? ⟨w.heap.size, 0, none⟩ = some (.bool false) ∧ W0.drew.cell? ⟨w.heap.size, 1, none⟩ = some (.slice a1 n1 c1) ∧ W0.drew.cell? ⟨w.heap.size, 2, none⟩ = some (.slice a2 n2 c2) ∧ W0.drew.cell? ⟨w.heap.size + 1, 0, none⟩ = some (.bool false) ∧ W0.drew.cell? ⟨w.heap.size + 1, 1, none⟩ = some (.slice a3 n3 c3) ∧ W0.drew.cell? ⟨w.heap.size + 1, 2, none⟩ = some (.slice a4 n4 c4)) ∧ C2At w (.slice a1 n1 c1) (.slice a2 n2 c2) (.slice a3 n3 c3) (.slice a4 n4 c4) A1 D1 A2 D2 W0.drew) := hS0
    have HSD : Hid (((W0.alloc (.cells #[.bool false, .slice none 0 0, .slice none 0 0] 50)).drew.cell? ⟨w.heap.size, 0, none⟩ = some (.bool false) ∧ (W0.alloc (.cells #[.bool false, .slice none 0 0, .slice none 0 0] 50)).drew.cell? ⟨w.heap.size, 1, none⟩ = some (.slice a1 n1 c1) ∧ (W0.alloc (.cells #[.bool false, .slice none 0 0, .slice none 0 0] 50)).drew.cell? ⟨w.heap.size, 2, none⟩ = some (.slice a2 n2 c2) ∧ (W0.alloc (.cells #[.bool false, .slice none 0 0, .slice none 0 0] 50)).drew.cell? ⟨w.heap.size + 1, 0, none⟩ = some (.bool false) ∧ (W0.alloc (.cells #[.bool false, .slice none 0 0, .slice none 0 0] 50)).drew.cell? ⟨w.heap.size + 1, 1, none⟩ = some (.slice a3 n3 c3) ∧ (W0.alloc (.cells #[.bool false, .slice none 0 0, .slice none 0 0] 50)).drew.cell? ⟨w.heap.size + 1, 2, none⟩ = some (.slice a4 n4 c4)) ∧ C2At w (.slice a1 n1 c1) (.slice a2 n2 c2) (.slice a3 n3 c3) (.slice a4 n4 c4) A1 D1 A2 D2 (W0.alloc (.cells #[.bool false, .slice none 0 0, .slice none 0 0] 50)).drew) := (hS.step (below_alloc W0 (.cells #[.bool false, .slice none 0 0, .slice none 0 0] 50))).drew.all
    have hps := hS.size
    have p0 := hS.p0
    have p1 := hS.p1
    have p2 := hS.p2
    have q0 := hS.q0
    have q1 := hS.q1
    have q2 := hS.q2
    clear hS hS0
    go_region_held3 (fun W => (W.cell? ⟨w.heap.size, 0, none⟩ = some (.bool false) ∧ W.cell? ⟨w.heap.size, 1, none⟩ = some (.slice a1 n1 c1) ∧ W.cell? ⟨w.heap.size, 2, none⟩ = some (.slice a2 n2 c2) ∧ W.cell? ⟨w.heap.size + 1, 0, none⟩ = some (.bool false) ∧ W.cell? ⟨w.heap.size + 1, 1, none⟩ = some (.slice a3 n3 c3) ∧ W.cell? ⟨w.heap.size + 1, 2, none⟩ = some (.slice a4 n4 c4)) ∧ C2At w (.slice a1 n1 c1) (.slice a2 n2 c2) (.slice a3 n3 c3) (.slice a4 n4 c4) A1 D1 A2 D2 W)
      (first
        | exact HS0.out
        | exact HSD.out
        | (with_reducible refine keepC2A ?_; assumption)
        | (with_reducible refine keepC2A ?_; exact HSA.out)
        | (with_reducible refine keepC2A ?_; exact HSB.out)
        | (with_reducible refine keepC2 hbA ?_; assumption)
        | (with_reducible refine keepC2 hbB ?_; assumption)
        | (with_reducible refine keepC2X HXB.out.1 HXB.out.2 ?_; assumption))
      (first
        | (go_at_call 43; refine (HN.out _ (by assumption)).mono ?_; rintro ee wA ⟨xA, rfl, hA, hbA⟩; obtain ⟨g1, g2, g3, h1, h2, h3, rfl, iA, jA⟩ := hA; have HSA : Hid ((wA.cell? ⟨w.heap.size, 0, none⟩ = some (.bool false) ∧ wA.cell? ⟨w.heap.size, 1, none⟩ = some (.slice a1 n1 c1) ∧ wA.cell? ⟨w.heap.size, 2, none⟩ = some (.slice a2 n2 c2) ∧ wA.cell? ⟨w.heap.size + 1, 0, none⟩ = some (.bool false) ∧ wA.cell? ⟨w.heap.size + 1, 1, none⟩ = some (.slice a3 n3 c3) ∧ wA.cell? ⟨w.heap.size + 1, 2, none⟩ = some (.slice a4 n4 c4)) ∧ C2At w (.slice a1 n1 c1) (.slice a2 n2 c2) (.slice a3 n3 c3) (.slice a4 n4 c4) A1 D1 A2 D2 wA) := keepC2 hbA (by assumption); (try have HXA : Hid (RVar W0.heap.size wA ∧ w.heap.size + 1 < W0.heap.size) := ⟨(RVar.start W0).drew.step hbA, hps⟩))
        | (go_at_call 44; refine (HSu.out _ _ _ _ _ _ _ (by assumption) (by first | with_reducible exact iA | with_reducible exact iA.alc) (by first | with_reducible exact jA | with_reducible exact jA.alc)).mono ?_; rintro ee wB ⟨xB, rfl, hB, hbB⟩; obtain ⟨e1, e2, e3, f1, f2, f3, rfl, iB, jB⟩ := hB; have HSB : Hid ((wB.cell? ⟨w.heap.size, 0, none⟩ = some (.bool false) ∧ wB.cell? ⟨w.heap.size, 1, none⟩ = some (.slice a1 n1 c1) ∧ wB.cell? ⟨w.heap.size, 2, none⟩ = some (.slice a2 n2 c2) ∧ wB.cell? ⟨w.heap.size + 1, 0, none⟩ = some (.bool false) ∧ wB.cell? ⟨w.heap.size + 1, 1, none⟩ = some (.slice a3 n3 c3) ∧ wB.cell? ⟨w.heap.size + 1, 2, none⟩ = some (.slice a4 n4 c4)) ∧ C2At w (.slice a1 n1 c1) (.slice a2 n2 c2) (.slice a3 n3 c3) (.slice a4 n4 c4) A1 D1 A2 D2 wB) := keepC2 hbB (by assumption); (try have HXB : Hid (RVar W0.heap.size wB ∧ w.heap.size + 1 < W0.heap.size) := ⟨HXA.out.1.step hbB, HXA.out.2⟩); (try have HXB : Hid (RVar wA.heap.size wB ∧ w.heap.size + 1 < wA.heap.size) := ⟨(RVar.start wA).step hbB, HSA.out.2.size⟩); (try obtain ⟨r0, r1, r2, rf, rs, _⟩ := HXB.out.1.all)))
    all_goals (rename_i hH; have HBl : Hid (Below w.heap.size w _) := hH.2.below; clear hH; have HI : Hid (IsN wB (.slice e1 e2 e3) V) := iB; clear iA jA iB jB)
    all_goals go_wp2
    all_goals go_meet
    all_goals first
      | exact ⟨_, _, _, _, _, _, _, rfl, RatV.start wB G _ _, HI.out.alc, HBl.out⟩
      | exact ⟨_, _, _, _, _, _, _, rfl, HXB.out.1.ratV.put, HI.out.setR HXB.out.1, HBl.out⟩
  case rest =>
  obtain ⟨X, e1, e2, e3, f1, f2, f3, rfl, hR, hI, hB⟩ := hcut
  have hlen := hI.len0
  obtain ⟨r0, r1, r2, rf, rs, HR⟩ := hR.all
  clear hS HN HSu hR hI
  by_cases hv : V = 0
  · rw [decide_eq_true hv] at hlen
    have hz : cmpZ x y = 0 := by
      have h1 := HV.out
      rw [hv] at h1
      refine cz_eq.2 ?_
      split at h1 <;> omega
    have HZ : Hid (cmpZ x y = 0) := hz
    clear hv hz HG HV
    go_wp2
    go_ret
    exact ⟨by rw [HZ.out]; rfl, hB⟩
  · rw [decide_eq_false hv] at hlen
    by_cases hle : y ≤ x
    · have hg : G = false := by have := HG.out; rw [if_pos hle] at this; exact this
      have hz : cmpZ x y = 1 := by
        have h1 := HV.out
        rw [if_pos hle] at h1
        unfold cmpZ
        rw [if_neg (by omega), if_neg (by omega)]
      have HZ : Hid (cmpZ x y = 1) := hz
      subst hg
      clear hv hz HG HV hle
      go_wp2
      go_ret
      exact ⟨by rw [HZ.out]; rfl, hB⟩
    · have hg : G = true := by have := HG.out; rw [if_neg hle] at this; exact this
      have hz : cmpZ x y = -1 := by
        unfold cmpZ
        rw [if_pos (by omega)]
      have HZ : Hid (cmpZ x y = -1) := hz
      subst hg
      clear hv hz HG HV hle
      go_wp2
      go_ret
      exact ⟨by rw [HZ.out]; rfl, hB⟩

end Go.Proofs.Ygcoab
