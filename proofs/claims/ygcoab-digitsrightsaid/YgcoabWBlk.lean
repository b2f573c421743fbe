import Derived.Test.YgcoabWIeee
namespace Go.Proofs.Ygcoab
open Go.RowKit

/-- block X holds the row C under tag T -/
structure Blk (X T : Nat) (C : Array Value) (W : World) : Prop where
  row : W.heap[X]? = some (.cells C T (0, 0))

theorem Blk.cell {X T : Nat} {C : Array Value} {W : World} (h : Blk X T C W) (k : Nat) : W.cell? ⟨X, k, none⟩ = C[k]? := by
  simp [World.cell?, h.row]

theorem Blk.frozen {X T : Nat} {C : Array Value} {W : World} (h : Blk X T C W) (k : Nat) : W.frozen? ⟨X, k, none⟩ = false := by
  simp [World.frozen?, h.row]

theorem Blk.size {X T : Nat} {C : Array Value} {W : World} (h : Blk X T C W) : X < W.heap.size := (Array.getElem?_eq_some_iff.1 h.row).1

theorem Blk.step {X T B : Nat} {C : Array Value} {W W' : World} (h : Blk X T C W) (hb : Below B W W') (hX : X < B) : Blk X T C W' := ⟨(hb.block X hX).trans h.row⟩

theorem Blk.drew {X T : Nat} {C : Array Value} {W : World} (h : Blk X T C W) : Blk X T C W.drew := ⟨h.row⟩

theorem Blk.drewN {X T n : Nat} {C : Array Value} {W : World} (h : Blk X T C W) : Blk X T C (W.drewN n) := ⟨by simpa using h.row⟩

theorem Blk.start (W : World) (C : Array Value) (T : Nat) : Blk W.heap.size T C (W.alloc (.cells C T)) := ⟨by
  show (W.heap.push _)[W.heap.size]? = _
  rw [Array.getElem?_push_size]⟩

theorem Blk.put {X T : Nat} {C : Array Value} {W : World} (h : Blk X T C W) (k : Nat) (v : Value) : Blk X T (C.setIfInBounds k v) (W.setCell ⟨X, k, none⟩ v) := by
  refine ⟨?_⟩
  have hlt : X < W.heap.size := h.size
  have hr := h.row
  rw [Array.getElem?_eq_getElem hlt] at hr
  have hr' := Option.some.inj hr
  show (W.heap.modify X _)[X]? = _
  rw [Array.getElem?_modify]
  simp [h.row]

theorem Blk.other {X T Y : Nat} {C : Array Value} {W : World} (h : Blk X T C W) (k : Nat) (v : Value) (hn : X ≠ Y) : Blk X T C (W.setCell ⟨Y, k, none⟩ v) :=
  ⟨(Below.heap_setCell W _ v X hn).trans h.row⟩

theorem below_set {B X : Nat} {w W : World} (h : Below B w W) (hX : B ≤ X) (k : Nat) (v : Value) : Below B w (W.setCell ⟨X, k, none⟩ v) := by
  refine ⟨h.os, h.tape, h.output, ?_, fun j hj => ?_⟩
  · show w.heap.size ≤ (W.heap.modify X _).size
    rw [Array.size_modify]
    exact h.size
  · rw [Below.heap_setCell W _ v j (by show j ≠ X; omega)]
    exact h.block j hj

/-- wr is W but for block P -/
structure Only (P : Nat) (W wr : World) : Prop where
  rest : ∀ k, k ≠ P → wr.heap[k]? = W.heap[k]?
  size : wr.heap.size = W.heap.size
  os : wr.os = W.os
  tape : wr.tape = W.tape
  output : wr.output = W.output

theorem Only.refl (P : Nat) (W : World) : Only P W W := ⟨fun _ _ => rfl, rfl, rfl, rfl, rfl⟩

theorem Only.put {P : Nat} {W wr : World} (h : Only P W wr) (k : Nat) (v : Value) : Only P W (wr.setCell ⟨P, k, none⟩ v) := by
  refine ⟨fun j hj => ?_, ?_, h.os, h.tape, h.output⟩
  · rw [Below.heap_setCell wr _ v j hj]
    exact h.rest j hj
  · show (wr.heap.modify P _).size = _
    rw [Array.size_modify]
    exact h.size

theorem Only.drew {P : Nat} {W wr : World} (h : Only P W wr) : Only P W wr.drew := ⟨h.rest, h.size, h.os, h.tape, h.output⟩

theorem Only.drewN {P n : Nat} {W wr : World} (h : Only P W wr) : Only P W (wr.drewN n) := 
  have k := below_drewN (Below.refl wr.heap.size wr) n
  ⟨by simpa using h.rest, by simpa using h.size, k.os.trans h.os, k.tape.trans h.tape, k.output.trans h.output⟩

theorem Only.trans {P : Nat} {a b c : World} (h : Only P a b) (k : Only P b c) : Only P a c :=
  ⟨fun j hj => (k.rest j hj).trans (h.rest j hj), k.size.trans h.size, k.os.trans h.os, k.tape.trans h.tape, k.output.trans h.output⟩

theorem Only.below {P B : Nat} {W wr : World} (h : Only P W wr) (hB : B ≤ P) : Below B W wr :=
  ⟨h.os, h.tape, h.output, by rw [h.size]; exact Nat.le_refl _, fun k hk => h.rest k (by omega)⟩

theorem Blk.only {P X T : Nat} {C : Array Value} {W wr : World} (h : Blk X T C W) (k : Only P W wr) (hn : X ≠ P) : Blk X T C wr := ⟨(k.rest X hn).trans h.row⟩

end Go.Proofs.Ygcoab
