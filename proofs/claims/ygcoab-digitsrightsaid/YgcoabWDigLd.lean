import Derived.Test.YgcoabWDigOff
namespace Go.Proofs.Ygcoab
open Go.RowKit

/-- the law's world: the format, v's variable -/
structure LdAt (w : World) (E M P : Nat) (s : Bool) (u v : Value) (A D : Nat) (W : World) : Prop where
  fm : FAt w.heap.size E M W
  p : RatV P s u v W
  n : IsN W u A
  d : IsN W v D
  below : Below w.heap.size w W

theorem LdAt.step {w W W' : World} {E M P : Nat} {s : Bool} {u v : Value} {A D : Nat} (h : LdAt w E M P s u v A D W) (hb : Below W.heap.size W W') : LdAt w E M P s u v A D W' :=
  ⟨h.fm.step hb, h.p.step hb, h.n.step hb, h.d.step hb, below_step h.below h.below.size hb⟩

theorem LdAt.drew {w W : World} {E M P : Nat} {s : Bool} {u v : Value} {A D : Nat} (h : LdAt w E M P s u v A D W) : LdAt w E M P s u v A D W.drew := ⟨h.fm.drew, h.p.drew, h.n, h.d, h.below.drew⟩

theorem keepLd {w W W' : World} {E M P : Nat} {s : Bool} {u v : Value} {A D : Nat} (hb : Below W.heap.size W W')
    (h : (W.cell? ⟨P, 0, none⟩ = some (.bool s) ∧ W.cell? ⟨P, 1, none⟩ = some u ∧ W.cell? ⟨P, 2, none⟩ = some v) ∧ LdAt w E M P s u v A D W) :
    (W'.cell? ⟨P, 0, none⟩ = some (.bool s) ∧ W'.cell? ⟨P, 1, none⟩ = some u ∧ W'.cell? ⟨P, 2, none⟩ = some v) ∧ LdAt w E M P s u v A D W' :=
  have k := h.2.step hb
  ⟨⟨k.p.c0, k.p.c1, k.p.c2⟩, k⟩

/-- what nearestWhole is asked -/
structure NwAsk (A D : Nat) (k : Int) (b : ByteArray) : Prop where
  pos : 0 < b.size
  le : b.size ≤ 5000
  dig : allDig b = true
  fit : NwFit (A * tenN k) (D * tenD k) (spTo b b.size)
  near : NearW (A * tenN k) (D * tenD k) (spTo b b.size)

theorem units_b7 {A D : Nat} (h : LogFit A D) {k : Int} (h1 : -2700 ≤ k) : unitsN A D k < 2 ^ b7 := by
  have h5 := b5_eq
  have h7 := b7_eq
  have hv := vb_eq
  have h2 : A * tenD k < 2 ^ (vb + b5) := lt_mul_pow h.a (tenD_b5 h1) (Nat.le_refl _)
  have h3 := raisedN_le 0 false (B := D * tenN k) h2
  exact Nat.lt_of_le_of_lt h3 (Nat.pow_lt_pow_right (by omega) (by omega))

theorem DigB.small {N : Nat} {b : ByteArray} (h : DigB N b) (hN : N < 2 ^ b7) : b.size ≤ 5000 := by
  have h7 := b7_eq
  rcases h.size.2 with q | q
  · omega
  · have h1 : 2 ^ (3 * (b.size - 1)) ≤ 10 ^ (b.size - 1) := by
      rw [Nat.pow_mul]
      exact Nat.pow_le_pow_left (by omega) _
    by_cases hc : b.size ≤ 5000
    · exact hc
    · have h2 := two_pow_le (n := b7) (k := 3 * (b.size - 1)) (by omega)
      omega

theorem nwAsk {A D : Nat} {k : Int} {b : ByteArray} (hf : LogFit A D) (h1 : -2700 ≤ k) (h2 : k ≤ 2700) (hp : 0 < b.size) (hl : b.size ≤ 5000) (hd : allDig b = true) (hN : spTo b b.size = unitsN A D (-k)) : NwAsk A D k b := by
  have h5 := b5_eq
  have h7 := b7_eq
  have hv := vb_eq
  refine ⟨hp, hl, hd, ?_, ?_⟩
  · refine nwFit (lt_mul_pow hf.a (tenN_b5 h2) (by omega)) (lt_mul_pow hf.d (tenD_b5 h1) (by omega)) ?_
    rw [hN]
    exact units_b7 hf (by omega)
  · have := units_near (A := A) (D := D) (k := -k) hf.pd
    rw [Int.neg_neg] at this
    rw [hN]
    exact this

theorem askMul {A D : Nat} (hf : LogFit A D) {k : Int} (h1 : -2700 ≤ k) (h2 : k ≤ 2700) : Fit4 A D (tenN k) (tenD k) := by
  have f := hf.fit h1 h2
  exact ⟨f.a2, f.d2, f.a1, f.d1, f.y, f.x⟩

end Go.Proofs.Ygcoab
