import Derived.Test.YgcoabWOpen
import Derived.Test.YgcoabWHeard
import Derived.Deep.DeepCutAuto
import Derived.Deep.RegionHeld3
namespace Go.Proofs.Ygcoab
open Go.RowKit

theorem FAt.drew {B E M : Nat} {w : World} (h : FAt B E M w) : FAt B E M w.drew := ⟨h.c0, h.c1, h.size⟩

/-- block X holds an operand -/
structure OCells (W : World) (X : Nat) (y : Nat) (N : Bool) (c : Int) (s : Bool) (A D : Nat) : Prop where
  x0 : W.cell? ⟨X, 0, none⟩ = some (.int .u64 y)
  x1 : W.cell? ⟨X, 1, none⟩ = some (.bool N)
  x2 : W.cell? ⟨X, 2, none⟩ = some (.int .i8 c)
  x3 : W.cell? ⟨X, 3, none⟩ = some (.bool s)
  x4 : ∃ a n d, W.cell? ⟨X, 4, none⟩ = some (.slice a n d) ∧ IsN W (.slice a n d) A
  x5 : ∃ a n d, W.cell? ⟨X, 5, none⟩ = some (.slice a n d) ∧ IsN W (.slice a n d) D
  size : X < W.heap.size

theorem OCells.step {W W' : World} {X y : Nat} {N s : Bool} {c : Int} {A D : Nat} (h : OCells W X y N c s A D) (hb : Below W.heap.size W W') : OCells W' X y N c s A D := by
  have k := fun o => hb.cell (p := ⟨X, o, none⟩) h.size
  obtain ⟨a, n, d, h4, h4'⟩ := h.x4
  obtain ⟨a', n', d', h5, h5'⟩ := h.x5
  exact ⟨(k 0).trans h.x0, (k 1).trans h.x1, (k 2).trans h.x2, (k 3).trans h.x3, ⟨a, n, d, (k 4).trans h4, h4'.step hb⟩, ⟨a', n', d', (k 5).trans h5, h5'.step hb⟩, Nat.lt_of_lt_of_le h.size hb.size⟩

theorem OCells.start {W : World} {y : Nat} {N s : Bool} {c : Int} {A D : Nat} {a a' : Option Addr} {n d n' d' : Nat} (h1 : IsN W (.slice a n d) A) (h2 : IsN W (.slice a' n' d') D) :
    OCells (W.alloc (.cells #[.int .u64 y, .bool N, .int .i8 c, .bool s, .slice a n d, .slice a' n' d'] 92)) W.heap.size y N c s A D :=
  ⟨by simp [go_sem], by simp [go_sem], by simp [go_sem], by simp [go_sem], ⟨a, n, d, by simp [go_sem], h1.step (below_alloc _ _)⟩, ⟨a', n', d', by simp [go_sem], h2.step (below_alloc _ _)⟩, by simp [go_sem]⟩

/-- both operands lie open -/
structure BAt (w : World) (E M X Y : Nat) (y1 : Nat) (N1 : Bool) (c1 : Int) (s1 : Bool) (A1 D1 : Nat) (y2 : Nat) (N2 : Bool) (c2 : Int) (s2 : Bool) (A2 D2 : Nat) (W : World) : Prop where
  fm : FAt w.heap.size E M W
  ox : OCells W X y1 N1 c1 s1 A1 D1
  oy : OCells W Y y2 N2 c2 s2 A2 D2
  below : Below w.heap.size w W

structure BLite (w : World) (E M X Y : Nat) (y1 : Nat) (N1 : Bool) (c1 : Int) (y2 : Nat) (N2 : Bool) (c2 : Int) (W : World) : Prop where
  fm : FAt w.heap.size E M W
  x0 : W.cell? ⟨X, 0, none⟩ = some (.int .u64 y1)
  x1 : W.cell? ⟨X, 1, none⟩ = some (.bool N1)
  x2 : W.cell? ⟨X, 2, none⟩ = some (.int .i8 c1)
  z0 : W.cell? ⟨Y, 0, none⟩ = some (.int .u64 y2)
  z1 : W.cell? ⟨Y, 1, none⟩ = some (.bool N2)
  z2 : W.cell? ⟨Y, 2, none⟩ = some (.int .i8 c2)
  below : Below w.heap.size w W

theorem keepA {B E M : Nat} {a w : World} {o : Obj} (h : w.cell? ⟨B, 0, none⟩ = some (.int .u8 E) ∧ w.cell? ⟨B, 1, none⟩ = some (.int .u8 M) ∧ Below B a w ∧ B < w.heap.size) :
    (w.alloc o).cell? ⟨B, 0, none⟩ = some (.int .u8 E) ∧ (w.alloc o).cell? ⟨B, 1, none⟩ = some (.int .u8 M) ∧ Below B a (w.alloc o) ∧ B < (w.alloc o).heap.size := keepF (below_alloc _ _) h

theorem cell_set_eq (w : World) (R o : Nat) (u z : Value) (h : w.cell? ⟨R, o, none⟩ = some z) : (w.setCell ⟨R, o, none⟩ u).cell? ⟨R, o, none⟩ = some u := by
  have := World.cell?_setCells_in R [u] o w (fun j hj => by
    have : j = 0 := by simp at hj; exact hj
    subst this
    simp [h]) 0 (by simp)
  exact this

theorem cell_set_some (w : World) (R o : Nat) (u : Value) (h : (w.cell? ⟨R, o, none⟩).isSome = true) : (w.setCell ⟨R, o, none⟩ u).cell? ⟨R, o, none⟩ = some u := by
  obtain ⟨z, hz⟩ := Option.isSome_iff_exists.1 h
  exact cell_set_eq w R o u z hz

theorem keepD {B E M : Nat} {a w : World} (h : w.cell? ⟨B, 0, none⟩ = some (.int .u8 E) ∧ w.cell? ⟨B, 1, none⟩ = some (.int .u8 M) ∧ Below B a w ∧ B < w.heap.size) :
    w.drew.cell? ⟨B, 0, none⟩ = some (.int .u8 E) ∧ w.drew.cell? ⟨B, 1, none⟩ = some (.int .u8 M) ∧ Below B a w.drew ∧ B < w.drew.heap.size := ⟨h.1, h.2.1, h.2.2.1.drew, h.2.2.2⟩

theorem keepS6 {B E M R : Nat} {a w : World} {u0 u1 u2 u3 u4 u5 : Value} (h : w.cell? ⟨B, 0, none⟩ = some (.int .u8 E) ∧ w.cell? ⟨B, 1, none⟩ = some (.int .u8 M) ∧ Below B a w ∧ B < w.heap.size) (hR : B < R) :
    ((((((w.setCell ⟨R, 0, none⟩ u0).setCell ⟨R, 1, none⟩ u1).setCell ⟨R, 2, none⟩ u2).setCell ⟨R, 3, none⟩ u3).setCell ⟨R, 4, none⟩ u4).setCell ⟨R, 5, none⟩ u5).cell? ⟨B, 0, none⟩ = some (.int .u8 E) ∧
    ((((((w.setCell ⟨R, 0, none⟩ u0).setCell ⟨R, 1, none⟩ u1).setCell ⟨R, 2, none⟩ u2).setCell ⟨R, 3, none⟩ u3).setCell ⟨R, 4, none⟩ u4).setCell ⟨R, 5, none⟩ u5).cell? ⟨B, 1, none⟩ = some (.int .u8 M) ∧
    Below B a ((((((w.setCell ⟨R, 0, none⟩ u0).setCell ⟨R, 1, none⟩ u1).setCell ⟨R, 2, none⟩ u2).setCell ⟨R, 3, none⟩ u3).setCell ⟨R, 4, none⟩ u4).setCell ⟨R, 5, none⟩ u5) ∧
    B < ((((((w.setCell ⟨R, 0, none⟩ u0).setCell ⟨R, 1, none⟩ u1).setCell ⟨R, 2, none⟩ u2).setCell ⟨R, 3, none⟩ u3).setCell ⟨R, 4, none⟩ u4).setCell ⟨R, 5, none⟩ u5).heap.size := by
  have hb := below_set6' (v0 := u0) (v1 := u1) (v2 := u2) (v3 := u3) (v4 := u4) (v5 := u5) (b := R) (Below.refl (B + 1) w) hR
  have k := fun o => hb.cell (p := ⟨B, o, none⟩) (Nat.lt_succ_self B)
  exact ⟨(k 0).trans h.1, (k 1).trans h.2.1, h.2.2.1.trans (hb.mono (Nat.le_succ B)), Nat.lt_of_lt_of_le h.2.2.2 hb.size⟩

theorem BLite.all {w W : World} {E M X Y y1 y2 : Nat} {N1 N2 : Bool} {c1 c2 : Int} (h : BLite w E M X Y y1 N1 c1 y2 N2 c2 W) :
    (W.cell? ⟨w.heap.size, 0, none⟩ = some (.int .u8 E) ∧ W.cell? ⟨w.heap.size, 1, none⟩ = some (.int .u8 M)) ∧ (W.cell? ⟨X, 0, none⟩ = some (.int .u64 y1) ∧ W.cell? ⟨X, 1, none⟩ = some (.bool N1) ∧ W.cell? ⟨X, 2, none⟩ = some (.int .i8 c1)) ∧
    (W.cell? ⟨Y, 0, none⟩ = some (.int .u64 y2) ∧ W.cell? ⟨Y, 1, none⟩ = some (.bool N2) ∧ W.cell? ⟨Y, 2, none⟩ = some (.int .i8 c2)) ∧ Below w.heap.size w W ∧ w.heap.size < W.heap.size :=
  ⟨⟨h.fm.c0, h.fm.c1⟩, ⟨h.x0, h.x1, h.x2⟩, ⟨h.z0, h.z1, h.z2⟩, h.below, h.fm.size⟩

/-- a + b where an operand is not finite -/
def addS (E M : Nat) (c1 : Int) (N1 : Bool) (y1 : Nat) (c2 : Int) (N2 : Bool) (y2 : Nat) : Nat :=
  if c1 = 4 ∨ c2 = 4 then nanP E M else if c1 = 3 ∧ c2 = 3 ∧ N1 ≠ N2 then nanP E M else if c1 = 3 then y1 else y2

theorem addS_cases (E M : Nat) (c1 : Int) (N1 : Bool) (y1 : Nat) (c2 : Int) (N2 : Bool) (y2 : Nat) (sp : c1 = 3 ∨ c1 = 4 ∨ c2 = 3 ∨ c2 = 4) :
    ((c1 == 4) = true ∧ addS E M c1 N1 y1 c2 N2 y2 = nanP E M) ∨ ((c1 == 4) = false ∧ (c2 == 4) = true ∧ addS E M c1 N1 y1 c2 N2 y2 = nanP E M) ∨
    ((c1 == 4) = false ∧ (c2 == 4) = false ∧ (c1 == 3) = true ∧ (c2 == 3) = true ∧ (N1 != N2) = true ∧ addS E M c1 N1 y1 c2 N2 y2 = nanP E M) ∨
    ((c1 == 4) = false ∧ (c2 == 4) = false ∧ (c1 == 3) = true ∧ (c2 == 3) = true ∧ (N1 != N2) = false ∧ addS E M c1 N1 y1 c2 N2 y2 = y1) ∨
    ((c1 == 4) = false ∧ (c2 == 4) = false ∧ (c1 == 3) = true ∧ (c2 == 3) = false ∧ addS E M c1 N1 y1 c2 N2 y2 = y1) ∨
    ((c1 == 4) = false ∧ (c2 == 4) = false ∧ (c1 == 3) = false ∧ (c2 == 3) = true ∧ addS E M c1 N1 y1 c2 N2 y2 = y2) := by
  unfold addS
  by_cases h1 : c1 = 4
  · simp [h1]
  · by_cases h2 : c2 = 4
    · simp [h1, h2]
    · by_cases h3 : c1 = 3
      · by_cases h4 : c2 = 3
        · cases N1 <;> cases N2 <;> simp [h3, h4]
        · simp [h3, h4, h2]
      · have h4 : c2 = 3 := by omega
        simp [h1, h3, h4]

/-- a * b where an operand is not finite -/
def mulS (E M : Nat) (c1 : Int) (N1 : Bool) (c2 : Int) (N2 : Bool) : Nat :=
  if c1 = 4 ∨ c2 = 4 then nanP E M else if (c1 = 3 ∧ c2 = 0) ∨ (c1 = 0 ∧ c2 = 3) then nanP E M else infP E M (N1 != N2)

/-- a / b where an operand is not finite or b is zero -/
def divS (E M : Nat) (c1 : Int) (N1 : Bool) (c2 : Int) (N2 : Bool) : Nat :=
  if c1 = 4 ∨ c2 = 4 then nanP E M else if (c1 = 3 ∧ c2 = 3) ∨ (c1 = 0 ∧ c2 = 0) then nanP E M else if c1 = 3 then infP E M (N1 != N2) else if c2 = 0 then infP E M (N1 != N2) else zeroP E M (N1 != N2)

theorem mulS_cases (E M : Nat) (c1 : Int) (N1 : Bool) (c2 : Int) (N2 : Bool) (sp : c1 = 3 ∨ c1 = 4 ∨ c2 = 3 ∨ c2 = 4) :
    ((c1 == 4) = true ∧ mulS E M c1 N1 c2 N2 = nanP E M) ∨ ((c1 == 4) = false ∧ (c2 == 4) = true ∧ mulS E M c1 N1 c2 N2 = nanP E M) ∨
    ((c1 == 4) = false ∧ (c2 == 4) = false ∧ (c1 == 3) = true ∧ (c2 == 0) = true ∧ mulS E M c1 N1 c2 N2 = nanP E M) ∨
    ((c1 == 4) = false ∧ (c2 == 4) = false ∧ (c1 == 3) = false ∧ (c1 == 0) = true ∧ (c2 == 3) = true ∧ mulS E M c1 N1 c2 N2 = nanP E M) ∨
    ((c1 == 4) = false ∧ (c2 == 4) = false ∧ (c1 == 3) = true ∧ (c2 == 0) = false ∧ (c1 == 0) = false ∧ mulS E M c1 N1 c2 N2 = infP E M (N1 != N2)) ∨
    ((c1 == 4) = false ∧ (c2 == 4) = false ∧ (c1 == 3) = false ∧ (c1 == 0) = false ∧ (c2 == 3) = true ∧ mulS E M c1 N1 c2 N2 = infP E M (N1 != N2)) := by
  unfold mulS
  by_cases h1 : c1 = 4
  · simp [h1]
  · by_cases h2 : c2 = 4
    · simp [h1, h2]
    · by_cases h3 : c1 = 3
      · by_cases h4 : c2 = 0
        · simp [h3, h4]
        · simp [h3, h4, h2]
      · have h4 : c2 = 3 := by omega
        by_cases h5 : c1 = 0
        · simp [h5, h4]
        · simp [h1, h3, h4, h5]

theorem divS_cases (E M : Nat) (c1 : Int) (N1 : Bool) (c2 : Int) (N2 : Bool) (sp : c1 = 3 ∨ c1 = 4 ∨ c2 = 3 ∨ c2 = 4 ∨ c2 = 0) :
    ((c1 == 4) = true ∧ divS E M c1 N1 c2 N2 = nanP E M) ∨ ((c1 == 4) = false ∧ (c2 == 4) = true ∧ divS E M c1 N1 c2 N2 = nanP E M) ∨
    ((c1 == 4) = false ∧ (c2 == 4) = false ∧ (c1 == 3) = true ∧ (c2 == 3) = true ∧ divS E M c1 N1 c2 N2 = nanP E M) ∨
    ((c1 == 4) = false ∧ (c2 == 4) = false ∧ (c1 == 3) = false ∧ (c1 == 0) = true ∧ (c2 == 0) = true ∧ divS E M c1 N1 c2 N2 = nanP E M) ∨
    ((c1 == 4) = false ∧ (c2 == 4) = false ∧ (c1 == 3) = true ∧ (c2 == 3) = false ∧ (c1 == 0) = false ∧ divS E M c1 N1 c2 N2 = infP E M (N1 != N2)) ∨
    ((c1 == 4) = false ∧ (c2 == 4) = false ∧ (c1 == 3) = false ∧ (c1 == 0) = false ∧ (c2 == 0) = true ∧ divS E M c1 N1 c2 N2 = infP E M (N1 != N2)) ∨
    ((c1 == 4) = false ∧ (c2 == 4) = false ∧ (c1 == 3) = false ∧ (c1 == 0) = true ∧ (c2 == 0) = false ∧ (c2 == 3) = true ∧ divS E M c1 N1 c2 N2 = zeroP E M (N1 != N2)) ∨
    ((c1 == 4) = false ∧ (c2 == 4) = false ∧ (c1 == 3) = false ∧ (c1 == 0) = false ∧ (c2 == 0) = false ∧ (c2 == 3) = true ∧ divS E M c1 N1 c2 N2 = zeroP E M (N1 != N2)) := by
  unfold divS
  by_cases h1 : c1 = 4
  · simp [h1]
  · by_cases h2 : c2 = 4
    · simp [h1, h2]
    · by_cases h3 : c1 = 3
      · by_cases h4 : c2 = 3
        · simp [h3, h4]
        · simp [h3, h4, h2]
      · by_cases h5 : c1 = 0
        · by_cases h6 : c2 = 0
          · simp [h5, h6]
          · have h4 : c2 = 3 := by omega
            simp [h5, h4]
        · by_cases h6 : c2 = 0
          · simp [h1, h3, h5, h6]
          · have h4 : c2 = 3 := by omega
            simp [h1, h3, h5, h4]

end Go.Proofs.Ygcoab
