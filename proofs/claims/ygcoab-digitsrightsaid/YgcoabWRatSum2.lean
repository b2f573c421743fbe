import Derived.Test.YgcoabWRatSum
namespace Go.Proofs.Ygcoab
open Go.RowKit

theorem IsN.setRN {R : Nat} {w : World} {v u0 u1 u2 : Value} {N : Nat} (h : IsN w v N) (k : RVar R w) : IsN (((w.setCell ⟨R, 0, none⟩ u0).setCell ⟨R, 1, none⟩ u1).setCell ⟨R, 2, none⟩ u2) v N := h.setR k

theorem PrAt.putX {w W : World} {R : Nat} {s1 s2 : Bool} {u1 v1 u2 v2 x y z : Value} {A1 D1 A2 D2 : Nat} (h : PrAt w s1 s2 u1 v1 u2 v2 A1 D1 A2 D2 W) (hr : RVar R W) (hl : w.heap.size + 2 < R) :
    PrAt w s1 s2 u1 v1 u2 v2 A1 D1 A2 D2 (((W.setCell ⟨R, 0, none⟩ x).setCell ⟨R, 1, none⟩ y).setCell ⟨R, 2, none⟩ z) := by
  refine ⟨?_, ?_, ?_, ?_, ?_, ?_, ?_, h.n1.setR hr, h.d1.setR hr, h.n2.setR hr, h.d2.setR hr, below_set3 h.below (by omega)⟩
  · rw [cell_set3 _ _ _ _ _ _ _ (by omega)]; exact h.p0
  · rw [cell_set3 _ _ _ _ _ _ _ (by omega)]; exact h.p1
  · rw [cell_set3 _ _ _ _ _ _ _ (by omega)]; exact h.p2
  · rw [cell_set3 _ _ _ _ _ _ _ (by omega)]; exact h.q0
  · rw [cell_set3 _ _ _ _ _ _ _ (by omega)]; exact h.q1
  · rw [cell_set3 _ _ _ _ _ _ _ (by omega)]; exact h.q2
  · rw [set3_size]; exact h.size

theorem keepPrX {w W : World} {R : Nat} {s1 s2 : Bool} {u1 v1 u2 v2 x y z : Value} {A1 D1 A2 D2 : Nat} (hr : RVar R W) (hl : w.heap.size + 2 < R)
    (h : (W.cell? ⟨w.heap.size, 0, none⟩ = some (.bool s1) ∧ W.cell? ⟨w.heap.size, 1, none⟩ = some u1 ∧ W.cell? ⟨w.heap.size, 2, none⟩ = some v1 ∧ W.cell? ⟨w.heap.size + 1, 0, none⟩ = some (.bool s2) ∧ W.cell? ⟨w.heap.size + 1, 1, none⟩ = some u2 ∧ W.cell? ⟨w.heap.size + 1, 2, none⟩ = some v2) ∧ PrAt w s1 s2 u1 v1 u2 v2 A1 D1 A2 D2 W) :
    ((((W.setCell ⟨R, 0, none⟩ x).setCell ⟨R, 1, none⟩ y).setCell ⟨R, 2, none⟩ z).cell? ⟨w.heap.size, 0, none⟩ = some (.bool s1) ∧ (((W.setCell ⟨R, 0, none⟩ x).setCell ⟨R, 1, none⟩ y).setCell ⟨R, 2, none⟩ z).cell? ⟨w.heap.size, 1, none⟩ = some u1 ∧ (((W.setCell ⟨R, 0, none⟩ x).setCell ⟨R, 1, none⟩ y).setCell ⟨R, 2, none⟩ z).cell? ⟨w.heap.size, 2, none⟩ = some v1 ∧ (((W.setCell ⟨R, 0, none⟩ x).setCell ⟨R, 1, none⟩ y).setCell ⟨R, 2, none⟩ z).cell? ⟨w.heap.size + 1, 0, none⟩ = some (.bool s2) ∧ (((W.setCell ⟨R, 0, none⟩ x).setCell ⟨R, 1, none⟩ y).setCell ⟨R, 2, none⟩ z).cell? ⟨w.heap.size + 1, 1, none⟩ = some u2 ∧ (((W.setCell ⟨R, 0, none⟩ x).setCell ⟨R, 1, none⟩ y).setCell ⟨R, 2, none⟩ z).cell? ⟨w.heap.size + 1, 2, none⟩ = some v2) ∧ PrAt w s1 s2 u1 v1 u2 v2 A1 D1 A2 D2 (((W.setCell ⟨R, 0, none⟩ x).setCell ⟨R, 1, none⟩ y).setCell ⟨R, 2, none⟩ z) :=
  have k := h.2.putX (x := x) (y := y) (z := z) hr hl
  ⟨⟨k.p0, k.p1, k.p2, k.q0, k.q1, k.q2⟩, k⟩

theorem keepPrA {w W : World} {o : Obj} {s1 s2 : Bool} {u1 v1 u2 v2 : Value} {A1 D1 A2 D2 : Nat}
    (h : (W.cell? ⟨w.heap.size, 0, none⟩ = some (.bool s1) ∧ W.cell? ⟨w.heap.size, 1, none⟩ = some u1 ∧ W.cell? ⟨w.heap.size, 2, none⟩ = some v1 ∧ W.cell? ⟨w.heap.size + 1, 0, none⟩ = some (.bool s2) ∧ W.cell? ⟨w.heap.size + 1, 1, none⟩ = some u2 ∧ W.cell? ⟨w.heap.size + 1, 2, none⟩ = some v2) ∧ PrAt w s1 s2 u1 v1 u2 v2 A1 D1 A2 D2 W) :
    ((W.alloc o).cell? ⟨w.heap.size, 0, none⟩ = some (.bool s1) ∧ (W.alloc o).cell? ⟨w.heap.size, 1, none⟩ = some u1 ∧ (W.alloc o).cell? ⟨w.heap.size, 2, none⟩ = some v1 ∧ (W.alloc o).cell? ⟨w.heap.size + 1, 0, none⟩ = some (.bool s2) ∧ (W.alloc o).cell? ⟨w.heap.size + 1, 1, none⟩ = some u2 ∧ (W.alloc o).cell? ⟨w.heap.size + 1, 2, none⟩ = some v2) ∧ PrAt w s1 s2 u1 v1 u2 v2 A1 D1 A2 D2 (W.alloc o) :=
  have k := h.2.step (below_alloc W o)
  ⟨⟨k.p0, k.p1, k.p2, k.q0, k.q1, k.q2⟩, k⟩

/-- a fraction's variable in block X -/
structure RatV (X : Nat) (s : Bool) (u v : Value) (W : World) : Prop where
  c0 : W.cell? ⟨X, 0, none⟩ = some (.bool s)
  c1 : W.cell? ⟨X, 1, none⟩ = some u
  c2 : W.cell? ⟨X, 2, none⟩ = some v
  cf : ∀ o, W.frozen? ⟨X, o, none⟩ = false
  size : X < W.heap.size

theorem RatV.step {X : Nat} {s : Bool} {u v : Value} {W W' : World} (h : RatV X s u v W) (hb : Below W.heap.size W W') : RatV X s u v W' :=
  have k := fun o => hb.cell (p := ⟨X, o, none⟩) h.size
  ⟨(k 0).trans h.c0, (k 1).trans h.c1, (k 2).trans h.c2, fun o => (hb.frozen (p := ⟨X, o, none⟩) h.size).trans (h.cf o), Nat.lt_of_lt_of_le h.size hb.size⟩

theorem RatV.drew {X : Nat} {s : Bool} {u v : Value} {W : World} (h : RatV X s u v W) : RatV X s u v W.drew := ⟨h.c0, h.c1, h.c2, h.cf, h.size⟩

theorem RatV.start (W : World) (s : Bool) (u v : Value) : RatV W.heap.size s u v (W.alloc (.cells #[.bool s, u, v] 50)) :=
  ⟨by simp [go_sem], by simp [go_sem], by simp [go_sem], fun o => by simp [go_sem], by simp [go_sem]⟩

theorem RatV.put {R : Nat} {s s' : Bool} {u v x y : Value} {W : World} (h : RatV R s u v W) : RatV R s' x y (((W.setCell ⟨R, 0, none⟩ (.bool s')).setCell ⟨R, 1, none⟩ x).setCell ⟨R, 2, none⟩ y) := by
  refine ⟨?_, ?_, ?_, ?_, ?_⟩
  · rw [cell_set_ne _ _ _ _ _ _ (by omega), cell_set_ne _ _ _ _ _ _ (by omega)]
    exact cell_set_eq _ _ _ _ _ h.c0
  · rw [cell_set_ne _ _ _ _ _ _ (by omega)]
    refine cell_set_eq _ _ _ _ u ?_
    rw [cell_set_ne _ _ _ _ _ _ (by omega)]
    exact h.c1
  · refine cell_set_eq _ _ _ _ v ?_
    rw [cell_set_ne _ _ _ _ _ _ (by omega), cell_set_ne _ _ _ _ _ _ (by omega)]
    exact h.c2
  · intro o
    have := h.cf o
    simpa [go_sem] using this
  · rw [set3_size]; exact h.size

theorem RVar.ratV {R : Nat} {W : World} (h : RVar R W) : RatV R false (.slice none 0 0) (.slice none 0 0) W := ⟨h.r0, h.r1, h.r2, h.rf, h.size⟩

theorem RatV.all {X : Nat} {s : Bool} {u v : Value} {W : World} (h : RatV X s u v W) : W.cell? ⟨X, 0, none⟩ = some (.bool s) ∧ W.cell? ⟨X, 1, none⟩ = some u ∧ W.cell? ⟨X, 2, none⟩ = some v ∧ (∀ o, W.frozen? ⟨X, o, none⟩ = false) ∧ X < W.heap.size ∧ Hid (RatV X s u v W) :=
  ⟨h.c0, h.c1, h.c2, h.cf, h.size, h⟩

theorem RVar.other {R X : Nat} {W : World} {x y z : Value} (h : RVar R W) (hne : R ≠ X) : RVar R (((W.setCell ⟨X, 0, none⟩ x).setCell ⟨X, 1, none⟩ y).setCell ⟨X, 2, none⟩ z) := by
  refine ⟨?_, ?_, ?_, ?_, ?_⟩
  · rw [cell_set3 _ _ _ _ _ _ _ hne]; exact h.r0
  · rw [cell_set3 _ _ _ _ _ _ _ hne]; exact h.r1
  · rw [cell_set3 _ _ _ _ _ _ _ hne]; exact h.r2
  · intro o
    have := h.rf o
    simpa [go_sem] using this
  · rw [set3_size]; exact h.size

theorem set1_size (w : World) (R o : Nat) (x : Value) : (w.setCell ⟨R, o, none⟩ x).heap.size = w.heap.size := by simp [go_sem]

theorem RVar.other1 {R X o : Nat} {W : World} {x : Value} (h : RVar R W) (hne : R ≠ X) : RVar R (W.setCell ⟨X, o, none⟩ x) := by
  refine ⟨?_, ?_, ?_, ?_, ?_⟩
  · rw [cell_set_ne _ _ _ _ _ _ (by omega)]; exact h.r0
  · rw [cell_set_ne _ _ _ _ _ _ (by omega)]; exact h.r1
  · rw [cell_set_ne _ _ _ _ _ _ (by omega)]; exact h.r2
  · intro o
    have := h.rf o
    simpa [go_sem] using this
  · rw [set1_size]; exact h.size

theorem PrAt.set1 {w W : World} {R o : Nat} {s1 s2 : Bool} {u1 v1 u2 v2 z x : Value} {A1 D1 A2 D2 : Nat} (h : PrAt w s1 s2 u1 v1 u2 v2 A1 D1 A2 D2 W) (hz : W.cell? ⟨R, o, none⟩ = some z) (hn : ∀ x, z ≠ .int .u32 x) (hl : w.heap.size + 2 < R) :
    PrAt w s1 s2 u1 v1 u2 v2 A1 D1 A2 D2 (W.setCell ⟨R, o, none⟩ x) := by
  refine ⟨?_, ?_, ?_, ?_, ?_, ?_, ?_, h.n1.set hz hn, h.d1.set hz hn, h.n2.set hz hn, h.d2.set hz hn, h.below.setCell (p := ⟨R, o, none⟩) (by show _ ≤ R; omega) x⟩
  · rw [cell_set_ne _ _ _ _ _ _ (by omega)]; exact h.p0
  · rw [cell_set_ne _ _ _ _ _ _ (by omega)]; exact h.p1
  · rw [cell_set_ne _ _ _ _ _ _ (by omega)]; exact h.p2
  · rw [cell_set_ne _ _ _ _ _ _ (by omega)]; exact h.q0
  · rw [cell_set_ne _ _ _ _ _ _ (by omega)]; exact h.q1
  · rw [cell_set_ne _ _ _ _ _ _ (by omega)]; exact h.q2
  · rw [set1_size]; exact h.size

theorem SmAt.set1 {w W : World} {R o : Nat} {s1 s2 : Bool} {u1 v1 u2 v2 x y z t b : Value} {A1 D1 A2 D2 X Y Z : Nat} (h : SmAt w s1 s2 u1 v1 u2 v2 A1 D1 A2 D2 x y z X Y Z W) (hz : W.cell? ⟨R, o, none⟩ = some t) (hn : ∀ x, t ≠ .int .u32 x) (hl : w.heap.size + 2 < R) :
    SmAt w s1 s2 u1 v1 u2 v2 A1 D1 A2 D2 x y z X Y Z (W.setCell ⟨R, o, none⟩ b) :=
  ⟨h.pr.set1 hz hn hl, h.rv.other1 (by omega), h.x.set hz hn, h.y.set hz hn, h.z.set hz hn⟩

theorem RatV.put1 {R : Nat} {s : Bool} {u v x : Value} {W : World} (h : RatV R s u v W) : RatV R s x v (W.setCell ⟨R, 1, none⟩ x) := by
  refine ⟨?_, cell_set_eq _ _ _ _ _ h.c1, ?_, ?_, ?_⟩
  · rw [cell_set_ne _ _ _ _ _ _ (by omega)]; exact h.c0
  · rw [cell_set_ne _ _ _ _ _ _ (by omega)]; exact h.c2
  · intro o
    have := h.cf o
    simpa [go_sem] using this
  · rw [set1_size]; exact h.size

theorem RatV.put0 {R : Nat} {s s' : Bool} {u v : Value} {W : World} (h : RatV R s u v W) : RatV R s' u v (W.setCell ⟨R, 0, none⟩ (.bool s')) := by
  refine ⟨cell_set_eq _ _ _ _ _ h.c0, ?_, ?_, ?_, ?_⟩
  · rw [cell_set_ne _ _ _ _ _ _ (by omega)]; exact h.c1
  · rw [cell_set_ne _ _ _ _ _ _ (by omega)]; exact h.c2
  · intro o
    have := h.cf o
    simpa [go_sem] using this
  · rw [set1_size]; exact h.size

/-- sumFrac's world: with the variable r -/
structure SfAt (w : World) (s1 s2 : Bool) (u1 v1 u2 v2 : Value) (A1 D1 A2 D2 : Nat) (x y z : Value) (X Y Z R : Nat) (s : Bool) (a b : Value) (W : World) : Prop where
  sm : SmAt w s1 s2 u1 v1 u2 v2 A1 D1 A2 D2 x y z X Y Z W
  xv : RatV R s a b W
  lt : w.heap.size + 2 < R

theorem SfAt.step {w W W' : World} {s1 s2 s : Bool} {u1 v1 u2 v2 x y z a b : Value} {A1 D1 A2 D2 X Y Z R : Nat} (h : SfAt w s1 s2 u1 v1 u2 v2 A1 D1 A2 D2 x y z X Y Z R s a b W) (hb : Below W.heap.size W W') : SfAt w s1 s2 u1 v1 u2 v2 A1 D1 A2 D2 x y z X Y Z R s a b W' :=
  ⟨h.sm.step hb, h.xv.step hb, h.lt⟩

theorem SfAt.put0 {w W : World} {s1 s2 s s' : Bool} {u1 v1 u2 v2 x y z a b : Value} {A1 D1 A2 D2 X Y Z R : Nat} (h : SfAt w s1 s2 u1 v1 u2 v2 A1 D1 A2 D2 x y z X Y Z R s a b W) : SfAt w s1 s2 u1 v1 u2 v2 A1 D1 A2 D2 x y z X Y Z R s' a b (W.setCell ⟨R, 0, none⟩ (.bool s')) :=
  ⟨h.sm.set1 h.xv.c0 (fun _ h => by cases h) h.lt, h.xv.put0, h.lt⟩

theorem SfAt.put1 {w W : World} {s1 s2 s : Bool} {u1 v1 u2 v2 x y z b c : Value} {A1 D1 A2 D2 X Y Z R : Nat} (h : SfAt w s1 s2 u1 v1 u2 v2 A1 D1 A2 D2 x y z X Y Z R s (.slice none 0 0) b W) : SfAt w s1 s2 u1 v1 u2 v2 A1 D1 A2 D2 x y z X Y Z R s c b (W.setCell ⟨R, 1, none⟩ c) :=
  ⟨h.sm.set1 h.xv.c1 (fun _ h => by cases h) h.lt, h.xv.put1, h.lt⟩

theorem SfAt.all {w W : World} {s1 s2 s : Bool} {u1 v1 u2 v2 x y z a b : Value} {A1 D1 A2 D2 X Y Z R : Nat} (h : SfAt w s1 s2 u1 v1 u2 v2 A1 D1 A2 D2 x y z X Y Z R s a b W) :
    (W.cell? ⟨w.heap.size, 0, none⟩ = some (.bool s1) ∧ W.cell? ⟨w.heap.size + 1, 0, none⟩ = some (.bool s2)) ∧ (W.cell? ⟨w.heap.size + 2, 0, none⟩ = some (.bool false) ∧ W.cell? ⟨w.heap.size + 2, 1, none⟩ = some (.slice none 0 0) ∧ W.cell? ⟨w.heap.size + 2, 2, none⟩ = some (.slice none 0 0) ∧ (∀ o, W.frozen? ⟨w.heap.size + 2, o, none⟩ = false) ∧ w.heap.size + 2 < W.heap.size) ∧ (W.cell? ⟨R, 0, none⟩ = some (.bool s) ∧ W.cell? ⟨R, 1, none⟩ = some a ∧ W.cell? ⟨R, 2, none⟩ = some b ∧ (∀ o, W.frozen? ⟨R, o, none⟩ = false) ∧ R < W.heap.size) ∧ Hid (SfAt w s1 s2 u1 v1 u2 v2 A1 D1 A2 D2 x y z X Y Z R s a b W) :=
  ⟨⟨h.sm.pr.p0, h.sm.pr.q0⟩, ⟨h.sm.rv.r0, h.sm.rv.r1, h.sm.rv.r2, h.sm.rv.rf, h.sm.rv.size⟩, ⟨h.xv.c0, h.xv.c1, h.xv.c2, h.xv.cf, h.xv.size⟩, h⟩

set_option maxHeartbeats 4000000 in
theorem sumFrac_any {w : World} {p q : Value} {s1 s2 : Bool} {A1 D1 A2 D2 : Nat} (hp : RatAt w p s1 A1 D1) (hq : RatAt w q s2 A2 D2) (hf : Fit4 A1 D1 A2 D2) :
    Calls Oabg.prog 44 #[p, q] w fun e w' => ∃ r, e = .returned r ∧ RatAt w' r (sumG s1 s2 (A1 * D2) (A2 * D1)) (sumV s1 s2 (A1 * D2) (A2 * D1)) (D1 * D2) ∧ Below w.heap.size w w' := by
  obtain ⟨a1, n1, c1, a2, n2, c2, rfl, i1, j1⟩ := hp
  obtain ⟨a3, n3, c3, a4, n4, c4, rfl, i2, j2⟩ := hq
  have HF : Hid (Fit4 A1 D1 A2 D2) := hf
  clear hf
  have hS := PrAt.start s1 s2 i1 j1 i2 j2
  clear i1 j1 i2 j2
  have hR := pr_rvar w s1 s2 (.slice a1 n1 c1) (.slice a2 n2 c2) (.slice a3 n3 c3) (.slice a4 n4 c4)
  obtain ⟨W, hW⟩ : ∃ W, W = (((w.alloc (.cells #[.bool s1, .slice a1 n1 c1, .slice a2 n2 c2] 50)).alloc (.cells #[.bool s2, .slice a3 n3 c3, .slice a4 n4 c4] 50)).alloc (.cells #[.bool false, .slice none 0 0, .slice none 0 0] 50)) := ⟨_, rfl⟩
  rw [← hW] at hS hR
  have HR0 : Hid (RVar (w.heap.size + 2) W.drew) := hR.drew
  clear hR
  have HA : Hid (∀ W : World, ((W.cell? ⟨w.heap.size, 0, none⟩ = some (.bool s1) ∧ W.cell? ⟨w.heap.size, 1, none⟩ = some (.slice a1 n1 c1) ∧ W.cell? ⟨w.heap.size, 2, none⟩ = some (.slice a2 n2 c2) ∧ W.cell? ⟨w.heap.size + 1, 0, none⟩ = some (.bool s2) ∧ W.cell? ⟨w.heap.size + 1, 1, none⟩ = some (.slice a3 n3 c3) ∧ W.cell? ⟨w.heap.size + 1, 2, none⟩ = some (.slice a4 n4 c4)) ∧ PrAt w s1 s2 (.slice a1 n1 c1) (.slice a2 n2 c2) (.slice a3 n3 c3) (.slice a4 n4 c4) A1 D1 A2 D2 W) → Calls Oabg.prog 73 #[.slice a1 n1 c1, .slice a4 n4 c4] W fun e w' => ∃ r, e = .returned r ∧ IsN w' r (A1 * D2) ∧ Below W.heap.size W w') := fun W k => mul_any k.2.n1 k.2.d2 HF.out.a1 HF.out.d2
  have HB : Hid (∀ W : World, ((W.cell? ⟨w.heap.size, 0, none⟩ = some (.bool s1) ∧ W.cell? ⟨w.heap.size, 1, none⟩ = some (.slice a1 n1 c1) ∧ W.cell? ⟨w.heap.size, 2, none⟩ = some (.slice a2 n2 c2) ∧ W.cell? ⟨w.heap.size + 1, 0, none⟩ = some (.bool s2) ∧ W.cell? ⟨w.heap.size + 1, 1, none⟩ = some (.slice a3 n3 c3) ∧ W.cell? ⟨w.heap.size + 1, 2, none⟩ = some (.slice a4 n4 c4)) ∧ PrAt w s1 s2 (.slice a1 n1 c1) (.slice a2 n2 c2) (.slice a3 n3 c3) (.slice a4 n4 c4) A1 D1 A2 D2 W) → Calls Oabg.prog 73 #[.slice a3 n3 c3, .slice a2 n2 c2] W fun e w' => ∃ r, e = .returned r ∧ IsN w' r (A2 * D1) ∧ Below W.heap.size W w') := fun W k => mul_any k.2.n2 k.2.d1 HF.out.a2 HF.out.d1
  have HC : Hid (∀ W : World, ((W.cell? ⟨w.heap.size, 0, none⟩ = some (.bool s1) ∧ W.cell? ⟨w.heap.size, 1, none⟩ = some (.slice a1 n1 c1) ∧ W.cell? ⟨w.heap.size, 2, none⟩ = some (.slice a2 n2 c2) ∧ W.cell? ⟨w.heap.size + 1, 0, none⟩ = some (.bool s2) ∧ W.cell? ⟨w.heap.size + 1, 1, none⟩ = some (.slice a3 n3 c3) ∧ W.cell? ⟨w.heap.size + 1, 2, none⟩ = some (.slice a4 n4 c4)) ∧ PrAt w s1 s2 (.slice a1 n1 c1) (.slice a2 n2 c2) (.slice a3 n3 c3) (.slice a4 n4 c4) A1 D1 A2 D2 W) → Calls Oabg.prog 73 #[.slice a2 n2 c2, .slice a4 n4 c4] W fun e w' => ∃ r, e = .returned r ∧ IsN w' r (D1 * D2) ∧ Below W.heap.size W w') := fun W k => mul_any k.2.d1 k.2.d2 HF.out.d1 HF.out.d2
  obtain ⟨X, hX⟩ : ∃ X, X = A1 * D2 := ⟨_, rfl⟩
  obtain ⟨Y, hY⟩ : ∃ Y, Y = A2 * D1 := ⟨_, rfl⟩
  obtain ⟨Z, hZ⟩ : ∃ Z, Z = D1 * D2 := ⟨_, rfl⟩
  have HXF : Hid (FitW X) := ⟨by rw [hX]; exact HF.out.x⟩
  have HYF : Hid (FitW Y) := ⟨by rw [hY]; exact HF.out.y⟩
  rw [← hX] at HA ⊢
  rw [← hY] at HB ⊢
  rw [← hZ] at HC ⊢
  clear hX hY hZ HF
  obtain ⟨G, hG⟩ : ∃ G, G = sumG s1 s2 X Y := ⟨_, rfl⟩
  obtain ⟨V, hV⟩ : ∃ V, V = sumV s1 s2 X Y := ⟨_, rfl⟩
  rw [← hG, ← hV]
  have HG : Hid (G = if s1 = s2 then s1 else if Y ≤ X then s1 else s2) := hG
  have HV : Hid (V = if s1 = s2 then X + Y else if Y ≤ X then X - Y else Y - X) := hV
  clear hG hV
  go_enter Oabg.func44, Oabg.ntmps44
  go_upto_region 1 with (fail)
  rw [show (((w.alloc (.cells #[.bool s1, .slice a1 n1 c1, .slice a2 n2 c2] 50)).alloc (.cells #[.bool s2, .slice a3 n3 c3, .slice a4 n4 c4] 50)).alloc (.cells #[.bool false, .slice none 0 0, .slice none 0 0] 50)) = W from hW.symm]
  clear hW
  go_cut [5, 6] (fun s5 s6 wx => ∃ a5 n5 c5 a6 n6 c6, s5 = .slice a5 n5 c5 ∧ s6 = .slice a6 n6 c6 ∧ IsN wx (.slice a5 n5 c5) X ∧ IsN wx (.slice a6 n6 c6) Y ∧ PrAt w s1 s2 (.slice a1 n1 c1) (.slice a2 n2 c2) (.slice a3 n3 c3) (.slice a4 n4 c4) A1 D1 A2 D2 wx ∧ RVar (w.heap.size + 2) wx)
  case first =>
    obtain ⟨p0, p1, p2, q0, q1, q2, HK⟩ := hS.all
    clear hS
    go_region_held3 (fun W => (W.cell? ⟨w.heap.size, 0, none⟩ = some (.bool s1) ∧ W.cell? ⟨w.heap.size, 1, none⟩ = some (.slice a1 n1 c1) ∧ W.cell? ⟨w.heap.size, 2, none⟩ = some (.slice a2 n2 c2) ∧ W.cell? ⟨w.heap.size + 1, 0, none⟩ = some (.bool s2) ∧ W.cell? ⟨w.heap.size + 1, 1, none⟩ = some (.slice a3 n3 c3) ∧ W.cell? ⟨w.heap.size + 1, 2, none⟩ = some (.slice a4 n4 c4)) ∧ PrAt w s1 s2 (.slice a1 n1 c1) (.slice a2 n2 c2) (.slice a3 n3 c3) (.slice a4 n4 c4) A1 D1 A2 D2 W)
      (first
        | exact ⟨⟨p0, p1, p2, q0, q1, q2⟩, HK.out.drew⟩
        | (with_reducible refine keepPr hbA ?_; assumption)
        | (with_reducible refine keepPr hbB ?_; assumption))
      (first
        | (go_at_call_of 73 (Value.slice a1 n1 c1); refine (HA.out _ (by assumption)).mono ?_; rintro ee wA ⟨xA, rfl, hA, hbA⟩; obtain ⟨e1, e2, e3, rfl⟩ := hA.shape)
        | (go_at_call_of 73 (Value.slice a3 n3 c3); refine (HB.out _ (by assumption)).mono ?_; rintro ee wB ⟨xB, rfl, hB, hbB⟩; obtain ⟨f1, f2, f3, rfl⟩ := hB.shape))
    rename_i hH
    go_wp2
    go_meet
    exact ⟨_, _, _, _, _, _, rfl, rfl, hA.step hbB, hB, hH.2, (HR0.out.step hbA).step hbB⟩
  case rest =>
  obtain ⟨a5, n5, c5, a6, n6, c6, rfl, rfl, hx, hy, hP, hR⟩ := hcut
  clear HA HB HR0 hS
  obtain ⟨p0, p1, p2, q0, q1, q2, HP⟩ := hP.all
  have HXx : Hid (IsN _ (.slice a5 n5 c5) X) := hx
  have HYy : Hid (IsN _ (.slice a6 n6 c6) Y) := hy
  have HRv : Hid (RVar (w.heap.size + 2) _) := hR
  clear hx hy hR hP
  go_upto_region 2 with (fail)
  go_cut [7] (fun s7 wx => ∃ Xb a7 n7 c7, s7 = .pointer (some ⟨Xb, 0, none⟩) ∧ SmAt w s1 s2 (.slice a1 n1 c1) (.slice a2 n2 c2) (.slice a3 n3 c3) (.slice a4 n4 c4) A1 D1 A2 D2 (.slice a5 n5 c5) (.slice a6 n6 c6) (.slice a7 n7 c7) X Y Z wx ∧ RatV Xb s1 (.slice none 0 0) (.slice a7 n7 c7) wx ∧ w.heap.size + 2 < Xb)
  case first =>
    have hps := HP.out.size
    have HPd : Hid (PrAt w s1 s2 (.slice a1 n1 c1) (.slice a2 n2 c2) (.slice a3 n3 c3) (.slice a4 n4 c4) A1 D1 A2 D2 wc.drew) := HP.out.drew
    have HSD : Hid (((wc.alloc (.cells #[.bool false, .slice none 0 0, .slice none 0 0] 50)).drew.cell? ⟨w.heap.size, 0, none⟩ = some (.bool s1) ∧ (wc.alloc (.cells #[.bool false, .slice none 0 0, .slice none 0 0] 50)).drew.cell? ⟨w.heap.size, 1, none⟩ = some (.slice a1 n1 c1) ∧ (wc.alloc (.cells #[.bool false, .slice none 0 0, .slice none 0 0] 50)).drew.cell? ⟨w.heap.size, 2, none⟩ = some (.slice a2 n2 c2) ∧ (wc.alloc (.cells #[.bool false, .slice none 0 0, .slice none 0 0] 50)).drew.cell? ⟨w.heap.size + 1, 0, none⟩ = some (.bool s2) ∧ (wc.alloc (.cells #[.bool false, .slice none 0 0, .slice none 0 0] 50)).drew.cell? ⟨w.heap.size + 1, 1, none⟩ = some (.slice a3 n3 c3) ∧ (wc.alloc (.cells #[.bool false, .slice none 0 0, .slice none 0 0] 50)).drew.cell? ⟨w.heap.size + 1, 2, none⟩ = some (.slice a4 n4 c4)) ∧ PrAt w s1 s2 (.slice a1 n1 c1) (.slice a2 n2 c2) (.slice a3 n3 c3) (.slice a4 n4 c4) A1 D1 A2 D2 (wc.alloc (.cells #[.bool false, .slice none 0 0, .slice none 0 0] 50)).drew) := ⟨(keepPrA ⟨⟨p0, p1, p2, q0, q1, q2⟩, HP.out⟩).1, (HP.out.step (below_alloc _ _)).drew⟩
    go_region_held3 (fun W => (W.cell? ⟨w.heap.size, 0, none⟩ = some (.bool s1) ∧ W.cell? ⟨w.heap.size, 1, none⟩ = some (.slice a1 n1 c1) ∧ W.cell? ⟨w.heap.size, 2, none⟩ = some (.slice a2 n2 c2) ∧ W.cell? ⟨w.heap.size + 1, 0, none⟩ = some (.bool s2) ∧ W.cell? ⟨w.heap.size + 1, 1, none⟩ = some (.slice a3 n3 c3) ∧ W.cell? ⟨w.heap.size + 1, 2, none⟩ = some (.slice a4 n4 c4)) ∧ PrAt w s1 s2 (.slice a1 n1 c1) (.slice a2 n2 c2) (.slice a3 n3 c3) (.slice a4 n4 c4) A1 D1 A2 D2 W)
      (first
        | exact ⟨⟨p0, p1, p2, q0, q1, q2⟩, HPd.out⟩
        | exact HSD.out
        | (with_reducible refine keepPrA ?_; assumption)
        | (with_reducible refine keepPrA ?_; exact HSA.out)
        | (with_reducible refine keepPr hbA ?_; assumption)
        | (with_reducible refine keepPrX HXA.out.1 HXA.out.2 ?_; assumption)
        | (with_reducible refine keepPrX HXB.out.1 HXB.out.2 ?_; assumption))
      (first
        | (go_at_call 73; refine (HC.out _ (by assumption)).mono ?_; rintro ee wA ⟨xA, rfl, hA, hbA⟩; obtain ⟨a7, n7, c7, rfl⟩ := hA.shape; (try have HXA : Hid (RVar wc.heap.size wA ∧ w.heap.size + 2 < wc.heap.size) := ⟨(RVar.start wc).drew.step hbA, hps⟩); (try obtain ⟨r0, r1, r2, rf, rs, _⟩ := HXA.out.1.all); have HSA : Hid ((wA.cell? ⟨w.heap.size, 0, none⟩ = some (.bool s1) ∧ wA.cell? ⟨w.heap.size, 1, none⟩ = some (.slice a1 n1 c1) ∧ wA.cell? ⟨w.heap.size, 2, none⟩ = some (.slice a2 n2 c2) ∧ wA.cell? ⟨w.heap.size + 1, 0, none⟩ = some (.bool s2) ∧ wA.cell? ⟨w.heap.size + 1, 1, none⟩ = some (.slice a3 n3 c3) ∧ wA.cell? ⟨w.heap.size + 1, 2, none⟩ = some (.slice a4 n4 c4)) ∧ PrAt w s1 s2 (.slice a1 n1 c1) (.slice a2 n2 c2) (.slice a3 n3 c3) (.slice a4 n4 c4) A1 D1 A2 D2 wA) := keepPr hbA (by assumption); (try have HXB : Hid (RVar wA.heap.size (wA.alloc (.cells #[.bool false, .slice none 0 0, .slice none 0 0] 50)) ∧ w.heap.size + 2 < wA.heap.size) := ⟨RVar.start wA, Nat.lt_of_lt_of_le hps hbA.size⟩)))
    · rename_i hH
      have hB := below_alloc wA (.cells #[.bool s1, .slice none 0 0, .slice a7 n7 c7] 50)
      have HSm : Hid (SmAt w s1 s2 (.slice a1 n1 c1) (.slice a2 n2 c2) (.slice a3 n3 c3) (.slice a4 n4 c4) A1 D1 A2 D2 (.slice a5 n5 c5) (.slice a6 n6 c6) (.slice a7 n7 c7) X Y Z (wA.alloc (.cells #[.bool s1, .slice none 0 0, .slice a7 n7 c7] 50))) := ⟨hH.2, (HRv.out.drew.step hbA).step hB, (HXx.out.drew.step hbA).step hB, (HYy.out.drew.step hbA).step hB, hA.step hB⟩
      clear hB
      go_wp2
      go_meet
      exact ⟨_, _, _, _, rfl, HSm.out, RatV.start wA s1 _ _, HXB.out.2⟩
    · rename_i hH
      have hB := below_alloc wc (.cells #[.bool false, .slice none 0 0, .slice none 0 0] 50)
      have HSm : Hid (SmAt w s1 s2 (.slice a1 n1 c1) (.slice a2 n2 c2) (.slice a3 n3 c3) (.slice a4 n4 c4) A1 D1 A2 D2 (.slice a5 n5 c5) (.slice a6 n6 c6) (.slice a7 n7 c7) X Y Z (((wA.setCell ⟨wc.heap.size, 0, none⟩ (.bool s1)).setCell ⟨wc.heap.size, 1, none⟩ (.slice none 0 0)).setCell ⟨wc.heap.size, 2, none⟩ (.slice a7 n7 c7))) := ⟨hH.2, ((HRv.out.step hB).drew.step hbA).other (by omega), ((HXx.out.step hB).drew.step hbA).setR HXA.out.1, ((HYy.out.step hB).drew.step hbA).setR HXA.out.1, hA.setR HXA.out.1⟩
      clear hB
      go_wp2
      go_meet
      exact ⟨_, _, _, _, rfl, HSm.out, HXA.out.1.ratV.put, HXA.out.2⟩
  case rest =>
  obtain ⟨Xb, a7, n7, c7, rfl, hM, hXv, hlt⟩ := hcut
  clear HC p0 p1 p2 q0 q1 q2 HP HXx HYy HRv
  have hQ : SfAt w s1 s2 (.slice a1 n1 c1) (.slice a2 n2 c2) (.slice a3 n3 c3) (.slice a4 n4 c4) A1 D1 A2 D2 (.slice a5 n5 c5) (.slice a6 n6 c6) (.slice a7 n7 c7) X Y Z Xb s1 (.slice none 0 0) (.slice a7 n7 c7) _ := ⟨hM, hXv, hlt⟩
  clear hM hXv hlt
  by_cases hs : s1 = s2
  · have hG : G = s1 := by have := HG.out; rw [if_pos hs] at this; exact this
    have hV : V = X + Y := by have := HV.out; rw [if_pos hs] at this; exact this
    subst hs
    have HGs : Hid (G = s1) := hG
    have HVs : Hid (V = X + Y) := hV
    clear HG HV hG hV
    have hqb : (s1 == s1) = true := beq_self_eq_true _
    obtain ⟨⟨p0, q0⟩, ⟨r0, r1, r2, rf, rs⟩, ⟨x0, x1, x2, xf, xs⟩, HK⟩ := hQ.all
    clear hQ
    go_wp2_with fail
    go_at_call 76
    refine (add_any HK.out.sm.x HK.out.sm.y HXF.out.f HYF.out.f).mono ?_
    rintro ee w3 ⟨xA, rfl, hA, hb⟩
    obtain ⟨e1, e2, e3, rfl⟩ := hA.shape
    have hQ := HK.out.step hb
    clear p0 q0 r0 r1 r2 rf rs x0 x1 x2 xf xs HK hb
    have HX : Hid (IsN (w3.setCell ⟨Xb, 1, none⟩ (.slice e1 e2 e3)) (.slice e1 e2 e3) _) := hA.set hQ.xv.c1 (fun _ h => by cases h)
    have hQ' := hQ.put1 (c := .slice e1 e2 e3)
    clear hA
    obtain ⟨⟨p0, q0⟩, ⟨r0, r1, r2, rf, rs⟩, ⟨x0, x1, x2, xf, xs⟩, HK⟩ := hQ.all
    clear hQ
    go_upto_region 9 with (fail)
    obtain ⟨W4, hW⟩ : ∃ W4, W4 = w3.setCell ⟨Xb, 1, none⟩ (.slice e1 e2 e3) := ⟨_, rfl⟩
    rw [← hW] at hQ' HX ⊢
    clear hW p0 q0 r0 r1 r2 rf rs x0 x1 x2 xf xs HK
    have hQ := hQ'
    clear hQ'
    obtain ⟨⟨p0, q0⟩, ⟨r0, r1, r2, rf, rs⟩, ⟨x0, x1, x2, xf, xs⟩, HK⟩ := hQ.all
    clear hQ
    go_wp2
    exact bodyPost_ret (v := .agg #[.bool s1, .slice e1 e2 e3, .slice a7 n7 c7]) (by simp [results, Oabg.results44, go_sem, r0, r1, r2]) rfl ⟨_, rfl, by rw [HGs.out, HVs.out]; exact ⟨_, _, _, _, _, _, rfl, HX.out.setR HK.out.sm.rv, HK.out.sm.z.setR HK.out.sm.rv⟩, below_set3 HK.out.sm.pr.below (by omega)⟩
  have hsb : (s1 == s2) = false := by rw [beq_eq_false_iff_ne]; exact hs
  obtain ⟨zc, hzc⟩ : ∃ zc, zc = cmpZ X Y := ⟨_, rfl⟩
  have HCm : Hid (∀ W : World, IsN W (.slice a5 n5 c5) X → IsN W (.slice a6 n6 c6) Y → Calls Oabg.prog 77 #[.slice a5 n5 c5, .slice a6 n6 c6] W fun e w' => e = .returned (.int .i8 zc) ∧ Below W.heap.size W w') := fun W h1 h2 => by
    rw [hzc]
    exact cmp_any h1 h2
  by_cases hle : Y ≤ X
  · have hG : G = s1 := by have := HG.out; rw [if_neg hs, if_pos hle] at this; exact this
    have hV : V = X - Y := by have := HV.out; rw [if_neg hs, if_pos hle] at this; exact this
    have HGs : Hid (G = s1) := hG
    have HVs : Hid (V = X - Y) := hV
    have hz0 : 0 ≤ zc := by rw [hzc]; unfold cmpZ; split <;> (try split) <;> omega
    have HLe : Hid (Y ≤ X) := hle
    clear HG HV hs hG hV hzc hle
    obtain ⟨⟨p0, q0⟩, ⟨r0, r1, r2, rf, rs⟩, ⟨x0, x1, x2, xf, xs⟩, HK⟩ := hQ.all
    clear hQ
    go_wp2_with fail
    go_at_call 77
    refine (HCm.out _ HK.out.sm.x HK.out.sm.y).mono ?_
    rintro ee w2 ⟨rfl, hb⟩
    have hQ := HK.out.step hb
    clear p0 q0 r0 r1 r2 rf rs x0 x1 x2 xf xs HK hb
    obtain ⟨⟨p0, q0⟩, ⟨r0, r1, r2, rf, rs⟩, ⟨x0, x1, x2, xf, xs⟩, HK⟩ := hQ.all
    clear hQ
    go_wp2_with fail
    go_at_call 90
    refine (sub_any HK.out.sm.x HK.out.sm.y HXF.out.f HLe.out).mono ?_
    rintro ee w3 ⟨xA, rfl, hA, hb⟩
    obtain ⟨e1, e2, e3, rfl⟩ := hA.shape
    have hQ := HK.out.step hb
    clear p0 q0 r0 r1 r2 rf rs x0 x1 x2 xf xs HK hb
    have HX : Hid (IsN (w3.setCell ⟨Xb, 1, none⟩ (.slice e1 e2 e3)) (.slice e1 e2 e3) _) := hA.set hQ.xv.c1 (fun _ h => by cases h)
    have hQ' := hQ.put1 (c := .slice e1 e2 e3)
    clear hA
    obtain ⟨⟨p0, q0⟩, ⟨r0, r1, r2, rf, rs⟩, ⟨x0, x1, x2, xf, xs⟩, HK⟩ := hQ.all
    clear hQ
    go_upto_region 9 with (fail)
    obtain ⟨W4, hW⟩ : ∃ W4, W4 = w3.setCell ⟨Xb, 1, none⟩ (.slice e1 e2 e3) := ⟨_, rfl⟩
    rw [← hW] at hQ' HX ⊢
    clear hW p0 q0 r0 r1 r2 rf rs x0 x1 x2 xf xs HK
    have hQ := hQ'
    clear hQ'
    obtain ⟨⟨p0, q0⟩, ⟨r0, r1, r2, rf, rs⟩, ⟨x0, x1, x2, xf, xs⟩, HK⟩ := hQ.all
    clear hQ
    go_wp2
    exact bodyPost_ret (v := .agg #[.bool s1, .slice e1 e2 e3, .slice a7 n7 c7]) (by simp [results, Oabg.results44, go_sem, r0, r1, r2]) rfl ⟨_, rfl, by rw [HGs.out, HVs.out]; exact ⟨_, _, _, _, _, _, rfl, HX.out.setR HK.out.sm.rv, HK.out.sm.z.setR HK.out.sm.rv⟩, below_set3 HK.out.sm.pr.below (by omega)⟩
  · have hG : G = s2 := by have := HG.out; rw [if_neg hs, if_neg hle] at this; exact this
    have hV : V = Y - X := by have := HV.out; rw [if_neg hs, if_neg hle] at this; exact this
    have HGs : Hid (G = s2) := hG
    have HVs : Hid (V = Y - X) := hV
    have hz0 : zc < 0 := by rw [hzc]; unfold cmpZ; split <;> (try split) <;> omega
    have HLe : Hid (X ≤ Y) := by show X ≤ Y; omega
    clear HG HV hs hG hV hzc hle
    obtain ⟨⟨p0, q0⟩, ⟨r0, r1, r2, rf, rs⟩, ⟨x0, x1, x2, xf, xs⟩, HK⟩ := hQ.all
    clear hQ
    go_wp2_with fail
    go_at_call 77
    refine (HCm.out _ HK.out.sm.x HK.out.sm.y).mono ?_
    rintro ee w2 ⟨rfl, hb⟩
    have hQ := HK.out.step hb
    clear p0 q0 r0 r1 r2 rf rs x0 x1 x2 xf xs HK hb
    obtain ⟨⟨p0, q0⟩, ⟨r0, r1, r2, rf, rs⟩, ⟨x0, x1, x2, xf, xs⟩, HK⟩ := hQ.all
    clear hQ
    go_upto_region 4 with (fail)
    have hQ := HK.out.put0 (s' := s2)
    clear p0 q0 r0 r1 r2 rf rs x0 x1 x2 xf xs HK
    obtain ⟨W5, hW⟩ : ∃ W5, W5 = w2.setCell ⟨Xb, 0, none⟩ (.bool s2) := ⟨_, rfl⟩
    rw [← hW] at hQ ⊢
    clear hW
    obtain ⟨⟨p0, q0⟩, ⟨r0, r1, r2, rf, rs⟩, ⟨x0, x1, x2, xf, xs⟩, HK⟩ := hQ.all
    clear hQ
    go_wp2_with fail
    go_at_call 90
    refine (sub_any HK.out.sm.y HK.out.sm.x HYF.out.f HLe.out).mono ?_
    rintro ee w3 ⟨xA, rfl, hA, hb⟩
    obtain ⟨e1, e2, e3, rfl⟩ := hA.shape
    have hQ := HK.out.step hb
    clear p0 q0 r0 r1 r2 rf rs x0 x1 x2 xf xs HK hb
    have HX : Hid (IsN (w3.setCell ⟨Xb, 1, none⟩ (.slice e1 e2 e3)) (.slice e1 e2 e3) _) := hA.set hQ.xv.c1 (fun _ h => by cases h)
    have hQ' := hQ.put1 (c := .slice e1 e2 e3)
    clear hA
    obtain ⟨⟨p0, q0⟩, ⟨r0, r1, r2, rf, rs⟩, ⟨x0, x1, x2, xf, xs⟩, HK⟩ := hQ.all
    clear hQ
    go_upto_region 9 with (fail)
    obtain ⟨W4, hW⟩ : ∃ W4, W4 = w3.setCell ⟨Xb, 1, none⟩ (.slice e1 e2 e3) := ⟨_, rfl⟩
    rw [← hW] at hQ' HX ⊢
    clear hW p0 q0 r0 r1 r2 rf rs x0 x1 x2 xf xs HK
    have hQ := hQ'
    clear hQ'
    obtain ⟨⟨p0, q0⟩, ⟨r0, r1, r2, rf, rs⟩, ⟨x0, x1, x2, xf, xs⟩, HK⟩ := hQ.all
    clear hQ
    go_wp2
    exact bodyPost_ret (v := .agg #[.bool s2, .slice e1 e2 e3, .slice a7 n7 c7]) (by simp [results, Oabg.results44, go_sem, r0, r1, r2]) rfl ⟨_, rfl, by rw [HGs.out, HVs.out]; exact ⟨_, _, _, _, _, _, rfl, HX.out.setR HK.out.sm.rv, HK.out.sm.z.setR HK.out.sm.rv⟩, below_set3 HK.out.sm.pr.below (by omega)⟩
end Go.Proofs.Ygcoab
