import Derived.Test.YgcoabWSqrtS
namespace Go.Proofs.Ygcoab
open Go.RowKit

/-- the law's three values -/
structure L3At (w : World) (E M P Q R : Nat) (u1 v1 : Value) (A1 D1 : Nat) (u2 v2 : Value) (A2 D2 : Nat) (u3 v3 : Value) (A3 D3 : Nat) (W : World) : Prop where
  fm : FAt w.heap.size E M W
  p : RatV P false u1 v1 W
  q : RatV Q false u2 v2 W
  r : RatV R false u3 v3 W
  n1 : IsN W u1 A1
  d1 : IsN W v1 D1
  n2 : IsN W u2 A2
  d2 : IsN W v2 D2
  n3 : IsN W u3 A3
  d3 : IsN W v3 D3
  below : Below w.heap.size w W

theorem L3At.step {w W W' : World} {E M P Q R A1 D1 A2 D2 A3 D3 : Nat} {u1 v1 u2 v2 u3 v3 : Value} (h : L3At w E M P Q R u1 v1 A1 D1 u2 v2 A2 D2 u3 v3 A3 D3 W) (hb : Below W.heap.size W W') : L3At w E M P Q R u1 v1 A1 D1 u2 v2 A2 D2 u3 v3 A3 D3 W' :=
  ⟨h.fm.step hb, h.p.step hb, h.q.step hb, h.r.step hb, h.n1.step hb, h.d1.step hb, h.n2.step hb, h.d2.step hb, h.n3.step hb, h.d3.step hb, below_step h.below h.below.size hb⟩

theorem L3At.drew {w W : World} {E M P Q R A1 D1 A2 D2 A3 D3 : Nat} {u1 v1 u2 v2 u3 v3 : Value} (h : L3At w E M P Q R u1 v1 A1 D1 u2 v2 A2 D2 u3 v3 A3 D3 W) : L3At w E M P Q R u1 v1 A1 D1 u2 v2 A2 D2 u3 v3 A3 D3 W.drew :=
  ⟨h.fm.drew, h.p.drew, h.q.drew, h.r.drew, h.n1, h.d1, h.n2, h.d2, h.n3, h.d3, h.below.drew⟩

theorem L3At.all {w W : World} {E M P Q R A1 D1 A2 D2 A3 D3 : Nat} {u1 v1 u2 v2 u3 v3 : Value} (h : L3At w E M P Q R u1 v1 A1 D1 u2 v2 A2 D2 u3 v3 A3 D3 W) :
    (W.cell? ⟨P, 0, none⟩ = some (.bool false) ∧ W.cell? ⟨P, 1, none⟩ = some u1 ∧ W.cell? ⟨P, 2, none⟩ = some v1) ∧ (W.cell? ⟨Q, 0, none⟩ = some (.bool false) ∧ W.cell? ⟨Q, 1, none⟩ = some u2 ∧ W.cell? ⟨Q, 2, none⟩ = some v2) ∧ (W.cell? ⟨R, 0, none⟩ = some (.bool false) ∧ W.cell? ⟨R, 1, none⟩ = some u3 ∧ W.cell? ⟨R, 2, none⟩ = some v3) ∧ Hid (L3At w E M P Q R u1 v1 A1 D1 u2 v2 A2 D2 u3 v3 A3 D3 W) :=
  ⟨⟨h.p.c0, h.p.c1, h.p.c2⟩, ⟨h.q.c0, h.q.c1, h.q.c2⟩, ⟨h.r.c0, h.r.c1, h.r.c2⟩, h⟩

theorem keepL3 {w W W' : World} {E M P Q R A1 D1 A2 D2 A3 D3 : Nat} {u1 v1 u2 v2 u3 v3 : Value} (hb : Below W.heap.size W W')
    (h : ((W.cell? ⟨P, 0, none⟩ = some (.bool false) ∧ W.cell? ⟨P, 1, none⟩ = some u1 ∧ W.cell? ⟨P, 2, none⟩ = some v1) ∧ (W.cell? ⟨Q, 0, none⟩ = some (.bool false) ∧ W.cell? ⟨Q, 1, none⟩ = some u2 ∧ W.cell? ⟨Q, 2, none⟩ = some v2) ∧ (W.cell? ⟨R, 0, none⟩ = some (.bool false) ∧ W.cell? ⟨R, 1, none⟩ = some u3 ∧ W.cell? ⟨R, 2, none⟩ = some v3)) ∧ L3At w E M P Q R u1 v1 A1 D1 u2 v2 A2 D2 u3 v3 A3 D3 W) :
    ((W'.cell? ⟨P, 0, none⟩ = some (.bool false) ∧ W'.cell? ⟨P, 1, none⟩ = some u1 ∧ W'.cell? ⟨P, 2, none⟩ = some v1) ∧ (W'.cell? ⟨Q, 0, none⟩ = some (.bool false) ∧ W'.cell? ⟨Q, 1, none⟩ = some u2 ∧ W'.cell? ⟨Q, 2, none⟩ = some v2) ∧ (W'.cell? ⟨R, 0, none⟩ = some (.bool false) ∧ W'.cell? ⟨R, 1, none⟩ = some u3 ∧ W'.cell? ⟨R, 2, none⟩ = some v3)) ∧ L3At w E M P Q R u1 v1 A1 D1 u2 v2 A2 D2 u3 v3 A3 D3 W' :=
  have k := h.2.step hb
  ⟨⟨⟨k.p.c0, k.p.c1, k.p.c2⟩, ⟨k.q.c0, k.q.c1, k.q.c2⟩, ⟨k.r.c0, k.r.c1, k.r.c2⟩⟩, k⟩

/-- v's and mid's variables -/
structure L2At (w : World) (P Q : Nat) (u1 v1 : Value) (A1 D1 : Nat) (u2 v2 : Value) (A2 D2 : Nat) (W : World) : Prop where
  p : RatV P false u1 v1 W
  q : RatV Q false u2 v2 W
  n1 : IsN W u1 A1
  d1 : IsN W v1 D1
  n2 : IsN W u2 A2
  d2 : IsN W v2 D2
  below : Below w.heap.size w W

theorem L2At.step {w W W' : World} {P Q A1 D1 A2 D2 : Nat} {u1 v1 u2 v2 : Value} (h : L2At w P Q u1 v1 A1 D1 u2 v2 A2 D2 W) (hb : Below W.heap.size W W') : L2At w P Q u1 v1 A1 D1 u2 v2 A2 D2 W' :=
  ⟨h.p.step hb, h.q.step hb, h.n1.step hb, h.d1.step hb, h.n2.step hb, h.d2.step hb, below_step h.below h.below.size hb⟩

theorem L2At.drew {w W : World} {P Q A1 D1 A2 D2 : Nat} {u1 v1 u2 v2 : Value} (h : L2At w P Q u1 v1 A1 D1 u2 v2 A2 D2 W) : L2At w P Q u1 v1 A1 D1 u2 v2 A2 D2 W.drew :=
  ⟨h.p.drew, h.q.drew, h.n1, h.d1, h.n2, h.d2, h.below.drew⟩

theorem keepL2 {w W W' : World} {P Q A1 D1 A2 D2 : Nat} {u1 v1 u2 v2 : Value} (hb : Below W.heap.size W W')
    (h : ((W.cell? ⟨P, 0, none⟩ = some (.bool false) ∧ W.cell? ⟨P, 1, none⟩ = some u1 ∧ W.cell? ⟨P, 2, none⟩ = some v1) ∧ (W.cell? ⟨Q, 0, none⟩ = some (.bool false) ∧ W.cell? ⟨Q, 1, none⟩ = some u2 ∧ W.cell? ⟨Q, 2, none⟩ = some v2)) ∧ L2At w P Q u1 v1 A1 D1 u2 v2 A2 D2 W) :
    ((W'.cell? ⟨P, 0, none⟩ = some (.bool false) ∧ W'.cell? ⟨P, 1, none⟩ = some u1 ∧ W'.cell? ⟨P, 2, none⟩ = some v1) ∧ (W'.cell? ⟨Q, 0, none⟩ = some (.bool false) ∧ W'.cell? ⟨Q, 1, none⟩ = some u2 ∧ W'.cell? ⟨Q, 2, none⟩ = some v2)) ∧ L2At w P Q u1 v1 A1 D1 u2 v2 A2 D2 W' :=
  have k := h.2.step hb
  ⟨⟨⟨k.p.c0, k.p.c1, k.p.c2⟩, ⟨k.q.c0, k.q.c1, k.q.c2⟩⟩, k⟩

/-- numbers of at most 11000 bits -/
def b5 : Nat := 11000
theorem b5_eq : b5 = 11000 := rfl

theorem fit4_of {A1 D1 A2 D2 : Nat} (h1 : A1 < 2 ^ b5) (h2 : D1 < 2 ^ b5) (h3 : A2 < 2 ^ b5) (h4 : D2 < 2 ^ b5) : Fit4 A1 D1 A2 D2 := by
  have hb := b5_eq
  have hp : ∀ {x y : Nat}, x < 2 ^ b5 → y < 2 ^ b5 → FitsN (x * y) := fun {x y} hx hy => by
    refine FitsN.of (a := b5 + b5) ?_ (by omega)
    have h3 : x * y ≤ x * 2 ^ b5 := Nat.mul_le_mul_left _ (Nat.le_of_lt hy)
    exact Nat.lt_of_le_of_lt h3 (pow_lt_mul hx (Nat.le_refl _))
  exact ⟨FitsN.of h1 (by omega), FitsN.of h2 (by omega), FitsN.of h3 (by omega), FitsN.of h4 (by omega), hp h1 h4, hp h3 h2⟩

theorem lt_mul_pow {x y a b c : Nat} (hx : x < 2 ^ a) (hy : y < 2 ^ b) (hc : a + b ≤ c) : x * y < 2 ^ c := by
  have h3 : x * y ≤ x * 2 ^ b := Nat.mul_le_mul_left _ (Nat.le_of_lt hy)
  exact Nat.lt_of_le_of_lt h3 (pow_lt_mul hx hc)

/-- all that the law's calls want -/
structure SqFits (Av Dv Ar Dr Aw Dw : Nat) : Prop where
  f1 : Fit4 Ar Dr Aw Dw
  f2 : Fit4 Ar Dr Ar Dr
  f3 : Fit4 (Ar * Ar) (Dr * Dr) Av Dv
  f4 : Fit4 Aw Dw Aw Dw
  f5 : Fit4 (Aw * Aw) (Dw * Dw) Av Dv
  f6 : Fit4 4 1 Av Dv
  f7 : Fit4 (Ar * Dw + Aw * Dr) (Dr * Dw) (Ar * Dw + Aw * Dr) (Dr * Dw)
  f8 : Fit4 (4 * Av) (1 * Dv) ((Ar * Dw + Aw * Dr) * (Ar * Dw + Aw * Dr)) (Dr * Dw * (Dr * Dw))

theorem sqFits {Av Dv Ar Dr Aw Dw : Nat} (h1 : Av < 2 ^ vb) (h2 : Dv < 2 ^ vb) (h3 : Ar < 2 ^ vb) (h4 : Dr < 2 ^ vb) (h5 : Aw < 2 ^ vb) (h6 : Dw < 2 ^ vb) : SqFits Av Dv Ar Dr Aw Dw := by
  have hb := b5_eq
  have hv := vb_eq
  have up : ∀ {x a : Nat}, x < 2 ^ a → a ≤ b5 → x < 2 ^ b5 := fun hx ha => Nat.lt_of_lt_of_le hx (two_pow_le ha)
  have s1 : ∀ {x : Nat}, x < 2 ^ vb → x < 2 ^ b5 := fun hx => up hx (by omega)
  have s2 : ∀ {x y : Nat}, x < 2 ^ vb → y < 2 ^ vb → x * y < 2 ^ (vb + vb) := fun hx hy => lt_mul_pow hx hy (Nat.le_refl _)
  have s3 : Ar * Dw + Aw * Dr < 2 ^ (vb + vb + 1) := add_lt_pow (s2 h3 h6) (s2 h5 h4)
  have s4 : Dr * Dw < 2 ^ (vb + vb) := s2 h4 h6
  have k4 : (4 : Nat) < 2 ^ 3 := by decide
  have k1 : (1 : Nat) < 2 ^ 1 := by decide
  exact ⟨fit4_of (s1 h3) (s1 h4) (s1 h5) (s1 h6), fit4_of (s1 h3) (s1 h4) (s1 h3) (s1 h4),
    fit4_of (up (s2 h3 h3) (by omega)) (up (s2 h4 h4) (by omega)) (s1 h1) (s1 h2), fit4_of (s1 h5) (s1 h6) (s1 h5) (s1 h6),
    fit4_of (up (s2 h5 h5) (by omega)) (up (s2 h6 h6) (by omega)) (s1 h1) (s1 h2), fit4_of (up k4 (by omega)) (up k1 (by omega)) (s1 h1) (s1 h2),
    fit4_of (up s3 (by omega)) (up s4 (by omega)) (up s3 (by omega)) (up s4 (by omega)),
    fit4_of (lt_mul_pow k4 h1 (by omega)) (lt_mul_pow k1 h2 (by omega)) (lt_mul_pow s3 s3 (by omega)) (lt_mul_pow s4 s4 (by omega))⟩

end Go.Proofs.Ygcoab
