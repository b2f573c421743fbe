import Derived.Test.YgcoabWDivLimb
import Derived.Test.YgcoabWSub
namespace Go.Proofs.Ygcoab
open Go.RowKit

/-- wr is W but for block g, a row that holds C -/
structure Own (W : World) (g : Nat) (C : Array Value) (wr : World) : Prop where
  row : wr.heap[g]? = some (.cells C 145 (0, 0))
  rest : ∀ k, k ≠ g → wr.heap[k]? = W.heap[k]?
  size : wr.heap.size = W.heap.size
  os : wr.os = W.os
  tape : wr.tape = W.tape
  output : wr.output = W.output

theorem Own.put {W wr : World} {g : Nat} {C : Array Value} (h : Own W g C wr) (k : Nat) (v : Value) : Own W g (C.setIfInBounds k v) (wr.setCell ⟨g, k, none⟩ v) := by
  refine ⟨?_, fun j hj => ?_, ?_, h.os, h.tape, h.output⟩
  · have hlt : g < wr.heap.size := (Array.getElem?_eq_some_iff.1 h.row).1
    have hr := h.row
    rw [Array.getElem?_eq_getElem hlt] at hr
    have hr' := Option.some.inj hr
    show (wr.heap.modify g _)[g]? = _
    rw [Array.getElem?_modify]
    simp [h.row]
  · rw [Below.heap_setCell wr _ v j hj]
    exact h.rest j hj
  · show (wr.heap.modify g _).size = _
    rw [Array.size_modify]
    exact h.size

theorem Own.cell {W wr : World} {g : Nat} {C : Array Value} (h : Own W g C wr) (k : Nat) : wr.cell? ⟨g, k, none⟩ = C[k]? := by
  simp [World.cell?, h.row]

theorem Own.frozen {W wr : World} {g : Nat} {C : Array Value} (h : Own W g C wr) (k : Nat) : wr.frozen? ⟨g, k, none⟩ = false := by
  simp [World.frozen?, h.row]

theorem Own.other {W wr : World} {g : Nat} {C : Array Value} (h : Own W g C wr) (b k : Nat) (hb : b ≠ g) : wr.cell? ⟨b, k, none⟩ = W.cell? ⟨b, k, none⟩ :=
  World.cell?_of_block (w := W) (h.rest b hb)

theorem Own.refl {W : World} {g : Nat} {C : Array Value} (h : W.heap[g]? = some (.cells C 145 (0, 0))) : Own W g C W := ⟨h, fun _ _ => rfl, rfl, rfl, rfl, rfl⟩

theorem Own.trans {W w1 w2 : World} {g : Nat} {C C' : Array Value} (h : Own W g C w1) (k : Own w1 g C' w2) : Own W g C' w2 :=
  ⟨k.row, fun j hj => (k.rest j hj).trans (h.rest j hj), k.size.trans h.size, k.os.trans h.os, k.tape.trans h.tape, k.output.trans h.output⟩

theorem Own.below {W wr : World} {g : Nat} {C : Array Value} (h : Own W g C wr) {B : Nat} (hB : B ≤ g) : Below B W wr :=
  ⟨h.os, h.tape, h.output, by rw [h.size]; exact Nat.le_refl _, fun k hk => h.rest k (by omega)⟩

/-- the limbs from j on -/
def win (h : Nat → Nat) (j : Nat) : Nat → Nat := fun i => h (j + i)

/-- takeAway's loop -/
structure TkAt (x x' g : Nat → Nat) (q n i c o : Nat) : Prop where
  car : c < 4294967296
  bor : o ≤ 1
  end_ : n < i → c = 0
  val : nv x' i + q * nv (padL g n) i = nv x i + (c + o) * 2 ^ (32 * i)

theorem TkAt.start (x g : Nat → Nat) (q n : Nat) : TkAt x x g q n 0 0 0 := ⟨by omega, by omega, fun h => by omega, by simp [nv]⟩

theorem tk_key (a b q e c o x y p l P m f : Nat) (h1 : a + q * b = e + (c + o) * P) (h2 : x + f * 4294967296 = y + o + l) (h3 : c + q * p = l + m * 4294967296) :
    a + y * P + q * (b + p * P) = e + x * P + (m + f) * (4294967296 * P) := by
  have h4 : y * P + o * P + l * P = x * P + f * (4294967296 * P) := by
    rw [← Nat.add_mul, ← Nat.add_mul, ← h2, Nat.add_mul, Nat.mul_assoc]
  have h5 : c * P + q * p * P = l * P + m * (4294967296 * P) := by
    rw [← Nat.add_mul, h3, Nat.add_mul, Nat.mul_assoc]
  rw [Nat.mul_add, ← Nat.mul_assoc, Nat.add_mul m f]
  rw [Nat.add_mul] at h1
  omega

theorem TkAt.next {x x' g : Nat → Nat} {q n i c o : Nat} (H : TkAt x x' g q n i c o) (hq : q < 4294967296) (hx : x i < 4294967296) (hg : ∀ j, j < n → g j < 4294967296) :
    TkAt x (upd x' i (sx (x i) o ((c + q * padL g n i) % 4294967296) % 4294967296)) g q n (i + 1) ((c + q * padL g n i) / 4294967296) (sx (x i) o ((c + q * padL g n i) % 4294967296) / 9223372036854775808) ∧ c + q * padL g n i < 18446744073709551616 := by
  have hp := pad_lt hg i
  have hm := Nat.mul_le_mul (show q ≤ 4294967295 by omega) (show padL g n i ≤ 4294967295 by omega)
  have hc := H.car
  have hT : c + q * padL g n i < 18446744073709551616 := by omega
  obtain ⟨k1, k2, k3⟩ := sx_spec (c := o) hx (show (c + q * padL g n i) % 4294967296 < 4294967296 from Nat.mod_lt _ (by omega)) H.bor
  refine ⟨⟨by omega, k2, fun hn => ?_, ?_⟩, hT⟩
  · have : padL g n i = 0 := by unfold padL; rw [if_neg (by omega)]
    rw [this, Nat.mul_zero, Nat.add_zero]
    omega
  · show nv _ i + _ * 2 ^ (32 * i) + q * (nv (padL g n) i + padL g n i * 2 ^ (32 * i)) = nv x i + x i * 2 ^ (32 * i) + _
    rw [nv_upd_ge (Nat.le_refl _)]
    have e1 : ∀ y, upd x' i y i = y := fun y => by unfold upd; rw [if_pos rfl]
    rw [e1, pow_next]
    exact tk_key _ _ _ _ _ _ _ _ _ _ _ _ _ H.val k1 (by omega)

end Go.Proofs.Ygcoab
