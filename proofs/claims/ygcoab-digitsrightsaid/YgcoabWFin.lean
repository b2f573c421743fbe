import Derived.Test.YgcoabWRatSum2
import Derived.Test.YgcoabWFlags
namespace Go.Proofs.Ygcoab
open Go.RowKit

theorem IsN.setN {w : World} {v u : Value} {N R o : Nat} (h : IsN w v N) (hn : ∀ x, w.cell? ⟨R, o, none⟩ ≠ some (.int .u32 x)) : IsN (w.setCell ⟨R, o, none⟩ u) v N := by
  rcases h with h | ⟨b, off, n, cap, f, h1, h2, h3, h4, h5, h6, h7, h8, h9⟩
  · exact .inl h
  · refine .inr ⟨b, off, n, cap, f, h1, h2, h3, h4, h5, h6, fun j hj => ?_, Nat.lt_of_lt_of_le h8 (((Below.refl 0 w).setCell (p := ⟨R, o, none⟩) (Nat.zero_le _) u).size), h9⟩
    rw [cell_set_ne w R o b (off + j) u (fun ⟨e1, e2⟩ => ?_)]
    · exact h7 j hj
    · have := h7 j hj
      rw [e1, e2] at this
      exact hn _ this

theorem IsN.alc {w : World} {v : Value} {N : Nat} {o : Obj} (h : IsN w v N) : IsN (w.alloc o) v N := h.step (below_alloc _ _)

theorem IsN.drw {w : World} {v : Value} {N : Nat} (h : IsN w v N) : IsN w.drew v N := h

/-- both operands lie open: their classes, signs, values -/
structure BfAt (w : World) (E M X Y : Nat) (N1 : Bool) (c1 : Int) (s1 : Bool) (u1 v1 : Value) (A1 D1 : Nat) (N2 : Bool) (c2 : Int) (s2 : Bool) (u2 v2 : Value) (A2 D2 : Nat) (W : World) : Prop where
  fm : FAt w.heap.size E M W
  x1 : W.cell? ⟨X, 1, none⟩ = some (.bool N1)
  x2 : W.cell? ⟨X, 2, none⟩ = some (.int .i8 c1)
  x3 : W.cell? ⟨X, 3, none⟩ = some (.bool s1)
  x4 : W.cell? ⟨X, 4, none⟩ = some u1
  x5 : W.cell? ⟨X, 5, none⟩ = some v1
  xs : X < W.heap.size
  y1 : W.cell? ⟨Y, 1, none⟩ = some (.bool N2)
  y2 : W.cell? ⟨Y, 2, none⟩ = some (.int .i8 c2)
  y3 : W.cell? ⟨Y, 3, none⟩ = some (.bool s2)
  y4 : W.cell? ⟨Y, 4, none⟩ = some u2
  y5 : W.cell? ⟨Y, 5, none⟩ = some v2
  ys : Y < W.heap.size
  n1 : IsN W u1 A1
  d1 : IsN W v1 D1
  n2 : IsN W u2 A2
  d2 : IsN W v2 D2
  below : Below w.heap.size w W

theorem BfAt.step {w W W' : World} {E M X Y : Nat} {N1 s1 N2 s2 : Bool} {c1 c2 : Int} {u1 v1 u2 v2 : Value} {A1 D1 A2 D2 : Nat} (h : BfAt w E M X Y N1 c1 s1 u1 v1 A1 D1 N2 c2 s2 u2 v2 A2 D2 W) (hb : Below W.heap.size W W') : BfAt w E M X Y N1 c1 s1 u1 v1 A1 D1 N2 c2 s2 u2 v2 A2 D2 W' :=
  have k := fun o => hb.cell (p := ⟨X, o, none⟩) h.xs
  have k' := fun o => hb.cell (p := ⟨Y, o, none⟩) h.ys
  ⟨h.fm.step hb, (k 1).trans h.x1, (k 2).trans h.x2, (k 3).trans h.x3, (k 4).trans h.x4, (k 5).trans h.x5, Nat.lt_of_lt_of_le h.xs hb.size, (k' 1).trans h.y1, (k' 2).trans h.y2, (k' 3).trans h.y3, (k' 4).trans h.y4, (k' 5).trans h.y5, Nat.lt_of_lt_of_le h.ys hb.size, h.n1.step hb, h.d1.step hb, h.n2.step hb, h.d2.step hb, below_step h.below h.below.size hb⟩

theorem BfAt.drew {w W : World} {E M X Y : Nat} {N1 s1 N2 s2 : Bool} {c1 c2 : Int} {u1 v1 u2 v2 : Value} {A1 D1 A2 D2 : Nat} (h : BfAt w E M X Y N1 c1 s1 u1 v1 A1 D1 N2 c2 s2 u2 v2 A2 D2 W) : BfAt w E M X Y N1 c1 s1 u1 v1 A1 D1 N2 c2 s2 u2 v2 A2 D2 W.drew :=
  ⟨h.fm.drew, h.x1, h.x2, h.x3, h.x4, h.x5, h.xs, h.y1, h.y2, h.y3, h.y4, h.y5, h.ys, h.n1, h.d1, h.n2, h.d2, h.below.drew⟩

theorem BAt.bf {w W : World} {E M X Y y1 y2 : Nat} {N1 s1 N2 s2 : Bool} {c1 c2 : Int} {A1 D1 A2 D2 : Nat} (h : BAt w E M X Y y1 N1 c1 s1 A1 D1 y2 N2 c2 s2 A2 D2 W) :
    ∃ a1 n1 d1 a2 n2 d2 a3 n3 d3 a4 n4 d4, BfAt w E M X Y N1 c1 s1 (.slice a1 n1 d1) (.slice a2 n2 d2) A1 D1 N2 c2 s2 (.slice a3 n3 d3) (.slice a4 n4 d4) A2 D2 W := by
  obtain ⟨a1, n1, d1, e1, i1⟩ := h.ox.x4
  obtain ⟨a2, n2, d2, e2, i2⟩ := h.ox.x5
  obtain ⟨a3, n3, d3, e3, i3⟩ := h.oy.x4
  obtain ⟨a4, n4, d4, e4, i4⟩ := h.oy.x5
  exact ⟨a1, n1, d1, a2, n2, d2, a3, n3, d3, a4, n4, d4, h.fm, h.ox.x1, h.ox.x2, h.ox.x3, e1, e2, h.ox.size, h.oy.x1, h.oy.x2, h.oy.x3, e3, e4, h.oy.size, i1, i2, i3, i4, h.below⟩

theorem BfAt.all {w W : World} {E M X Y : Nat} {N1 s1 N2 s2 : Bool} {c1 c2 : Int} {u1 v1 u2 v2 : Value} {A1 D1 A2 D2 : Nat} (h : BfAt w E M X Y N1 c1 s1 u1 v1 A1 D1 N2 c2 s2 u2 v2 A2 D2 W) :
    (W.cell? ⟨w.heap.size, 0, none⟩ = some (.int .u8 E) ∧ W.cell? ⟨w.heap.size, 1, none⟩ = some (.int .u8 M)) ∧ (W.cell? ⟨X, 1, none⟩ = some (.bool N1) ∧ W.cell? ⟨X, 2, none⟩ = some (.int .i8 c1) ∧ W.cell? ⟨X, 3, none⟩ = some (.bool s1) ∧ W.cell? ⟨X, 4, none⟩ = some u1 ∧ W.cell? ⟨X, 5, none⟩ = some v1) ∧
    (W.cell? ⟨Y, 1, none⟩ = some (.bool N2) ∧ W.cell? ⟨Y, 2, none⟩ = some (.int .i8 c2) ∧ W.cell? ⟨Y, 3, none⟩ = some (.bool s2) ∧ W.cell? ⟨Y, 4, none⟩ = some u2 ∧ W.cell? ⟨Y, 5, none⟩ = some v2) ∧ Hid (BfAt w E M X Y N1 c1 s1 u1 v1 A1 D1 N2 c2 s2 u2 v2 A2 D2 W) :=
  ⟨⟨h.fm.c0, h.fm.c1⟩, ⟨h.x1, h.x2, h.x3, h.x4, h.x5⟩, ⟨h.y1, h.y2, h.y3, h.y4, h.y5⟩, h⟩

/-- what the rounding of the exact result wants -/
structure FitR (A1 D1 A2 D2 : Nat) : Prop where
  f : Fit4 A1 D1 A2 D2
  m : Small2 (A1 * A2) (D1 * D2)
  x : SmallN (A1 * D2)
  y : SmallN (A2 * D1)
  s : SmallN (A1 * D2 + A2 * D1)

theorem sumV_le (s1 s2 : Bool) (x y : Nat) : sumV s1 s2 x y ≤ x + y := by
  unfold sumV
  split
  · omega
  · split <;> omega

theorem SmallN.le {a b : Nat} (h : SmallN b) (hab : a ≤ b) : SmallN a := Nat.lt_of_le_of_lt hab h

theorem FitR.sum {A1 D1 A2 D2 : Nat} (h : FitR A1 D1 A2 D2) (s1 s2 : Bool) : Small2 (sumV s1 s2 (A1 * D2) (A2 * D1)) (D1 * D2) := ⟨h.s.le (sumV_le _ _ _ _), h.m.d, h.m.pos⟩

theorem FitR.quo {A1 D1 A2 D2 : Nat} (h : FitR A1 D1 A2 D2) (h0 : 0 < D1) (h2 : 0 < A2) : Small2 (A1 * D2) (D1 * A2) := ⟨h.x, by rw [Nat.mul_comm]; exact h.y, Nat.mul_pos h0 h2⟩

/-- with the sum's variable -/
structure BsAt (w : World) (E M X Y : Nat) (N1 : Bool) (c1 : Int) (s1 : Bool) (u1 v1 : Value) (A1 D1 : Nat) (N2 : Bool) (c2 : Int) (s2 : Bool) (u2 v2 : Value) (A2 D2 Q : Nat) (G : Bool) (x y : Value) (V Z : Nat) (W : World) : Prop where
  bf : BfAt w E M X Y N1 c1 s1 u1 v1 A1 D1 N2 c2 s2 u2 v2 A2 D2 W
  rv : RatV Q G x y W
  x : IsN W x V
  y : IsN W y Z

theorem keepBf {w W W' : World} {E M X Y : Nat} {N1 s1 N2 s2 : Bool} {c1 c2 : Int} {u1 v1 u2 v2 : Value} {A1 D1 A2 D2 : Nat} (hb : Below W.heap.size W W')
    (h : (W.cell? ⟨w.heap.size, 0, none⟩ = some (.int .u8 E) ∧ W.cell? ⟨w.heap.size, 1, none⟩ = some (.int .u8 M) ∧ W.cell? ⟨X, 4, none⟩ = some u1 ∧ W.cell? ⟨X, 5, none⟩ = some v1 ∧ W.cell? ⟨Y, 4, none⟩ = some u2 ∧ W.cell? ⟨Y, 5, none⟩ = some v2) ∧ BfAt w E M X Y N1 c1 s1 u1 v1 A1 D1 N2 c2 s2 u2 v2 A2 D2 W) :
    (W'.cell? ⟨w.heap.size, 0, none⟩ = some (.int .u8 E) ∧ W'.cell? ⟨w.heap.size, 1, none⟩ = some (.int .u8 M) ∧ W'.cell? ⟨X, 4, none⟩ = some u1 ∧ W'.cell? ⟨X, 5, none⟩ = some v1 ∧ W'.cell? ⟨Y, 4, none⟩ = some u2 ∧ W'.cell? ⟨Y, 5, none⟩ = some v2) ∧ BfAt w E M X Y N1 c1 s1 u1 v1 A1 D1 N2 c2 s2 u2 v2 A2 D2 W' :=
  have k := h.2.step hb
  ⟨⟨k.fm.c0, k.fm.c1, k.x4, k.x5, k.y4, k.y5⟩, k⟩

/-- a + b of finite operands -/
def addP (E M mode : Nat) (N1 s1 : Bool) (A1 D1 : Nat) (N2 s2 : Bool) (A2 D2 : Nat) : Nat :=
  if sumV s1 s2 (A1 * D2) (A2 * D1) = 0 then zeroP E M (if N1 = N2 then N1 else decide (mode = 4)) else roundP E M mode (sumG s1 s2 (A1 * D2) (A2 * D1)) (sumV s1 s2 (A1 * D2) (A2 * D1)) (D1 * D2)

end Go.Proofs.Ygcoab
