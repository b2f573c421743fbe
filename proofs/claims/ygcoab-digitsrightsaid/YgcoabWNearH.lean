import Derived.Test.YgcoabWSpelled
namespace Go.Proofs.Ygcoab
open Go.RowKit

theorem pow2Frac_one (w : World) : Calls Oabg.prog 54 #[.int .i64 1] w fun e w' => ∃ r, e = .returned r ∧ RatAt w' r false 2 1 ∧ Below w.heap.size w w' := by
  have hu16 : IntKind.u16.wrap 1 = 1 := by decide
  go_enter Oabg.func54, Oabg.ntmps54
  have hR := RVar.start w
  have hB := (Below.refl w.heap.size w).alloc (Nat.le_refl _) (.cells #[.bool false, .slice none 0 0, .slice none 0 0] 50)
  obtain ⟨W, hW⟩ : ∃ W, W = w.alloc (.cells #[.bool false, .slice none 0 0, .slice none 0 0] 50) := ⟨_, rfl⟩
  rw [← hW] at hR hB
  go_wp2_with fail
  go_at_call 71
  rw [show w.alloc (.cells #[.bool false, .slice none 0 0, .slice none 0 0] 50) = W from hW.symm]
  clear hW
  refine (one_any _).mono ?_
  rintro e w1 ⟨v, rfl, hv, hb⟩
  obtain ⟨a1, n1, c1, rfl⟩ := hv.shape
  have hR1 := hR.step hb
  have hB1 := below_step hB (Nat.le_of_lt hR.size) hb
  have HV : Hid (IsN w1 (.slice a1 n1 c1) 1) := hv
  clear hR hB hb hv
  go_wp2_with fail
  go_at_call 93
  refine (shl_any (k := 1) HV.out (FitsN.of (a := 1) (by decide) (by omega)) (by omega)).mono ?_
  rintro e w2 ⟨v, rfl, hv, hb⟩
  obtain ⟨a2, n2, c2, rfl⟩ := hv.shape
  have hR2 := hR1.step hb
  have hB2 := below_step hB1 (Nat.le_of_lt hR1.size) hb
  have HV2 : Hid (IsN w2 (.slice a2 n2 c2) 2) := hv
  clear hR1 hB1 hb hv HV
  go_wp2_with fail
  go_at_call 71
  refine (one_any _).mono ?_
  rintro e w3 ⟨v, rfl, hv, hb⟩
  obtain ⟨a3, n3, c3, rfl⟩ := hv.shape
  obtain ⟨r0, r1, r2, rf, rs, HR⟩ := (hR2.step hb).all
  have HB : Hid (Below w.heap.size w w3) := below_step hB2 (Nat.le_of_lt hR2.size) hb
  have HV3 : Hid (IsN w3 (.slice a3 n3 c3) 1) := hv
  have HV4 : Hid (IsN w3 (.slice a2 n2 c2) 2) := HV2.out.step hb
  clear hR2 hB2 hb hv HV2
  go_wp2
  exact bodyPost_ret (v := .agg #[.bool false, .slice a2 n2 c2, .slice a3 n3 c3]) (by simp [results, Oabg.results54, go_sem, r0, r1, r2]) rfl ⟨_, rfl, ⟨_, _, _, _, _, _, rfl, HV4.out.setR HR.out, HV3.out.setR HR.out⟩, below_set3 HB.out (Nat.le_refl _)⟩

/-- n is the whole number nearest to A/D, the even one of two -/
def NearW (A D n : Nat) : Prop := sumV false true (n * D) A * 2 < D ∨ (sumV false true (n * D) A * 2 = D ∧ n % 2 = 0)

/-- numbers of at most 30000 bits -/
def b6 : Nat := 30000
theorem b6_eq : b6 = 30000 := rfl

theorem fit4_b6 {A1 D1 A2 D2 : Nat} (h1 : A1 < 2 ^ b6) (h2 : D1 < 2 ^ b6) (h3 : A2 < 2 ^ b6) (h4 : D2 < 2 ^ b6) : Fit4 A1 D1 A2 D2 := by
  have hb := b6_eq
  have hp : ∀ {x y : Nat}, x < 2 ^ b6 → y < 2 ^ b6 → FitsN (x * y) := fun {x y} hx hy => FitsN.of (a := b6 + b6) (lt_mul_pow hx hy (Nat.le_refl _)) (by omega)
  exact ⟨FitsN.of h1 (by omega), FitsN.of h2 (by omega), FitsN.of h3 (by omega), FitsN.of h4 (by omega), hp h1 h4, hp h3 h2⟩

structure NwFit (A D n : Nat) : Prop where
  f1 : Fit4 n 1 A D
  f2 : Fit4 (sumV false true (n * D) (A * 1)) (1 * D) 2 1
  f3 : Fit4 (sumV false true (n * D) (A * 1) * 2) (1 * D * 1) 1 1

def b7 : Nat := 14000
theorem b7_eq : b7 = 14000 := rfl

theorem nwFit {A D n : Nat} (hA : A < 2 ^ b7) (hD : D < 2 ^ b7) (hn : n < 2 ^ b7) : NwFit A D n := by
  have h6 := b6_eq
  have h7 := b7_eq
  have up : ∀ {x a : Nat}, x < 2 ^ a → a ≤ b6 → x < 2 ^ b6 := fun hx ha => Nat.lt_of_lt_of_le hx (two_pow_le ha)
  have k1 : (1 : Nat) < 2 ^ 1 := by decide
  have k2 : (2 : Nat) < 2 ^ 2 := by decide
  have s1 : n * D < 2 ^ (b7 + b7) := lt_mul_pow hn hD (Nat.le_refl _)
  have s2 : A * 1 < 2 ^ (b7 + b7) := lt_mul_pow hA k1 (by omega)
  have s3 : sumV false true (n * D) (A * 1) < 2 ^ (b7 + b7 + 1) := Nat.lt_of_le_of_lt (sumV_le _ _ _ _) (add_lt_pow s1 s2)
  have s4 : 1 * D < 2 ^ (b7 + 1) := by rw [Nat.one_mul]; exact Nat.lt_trans hD (Nat.pow_lt_pow_right (by omega) (by omega))
  exact ⟨fit4_b6 (up hn (by omega)) (up k1 (by omega)) (up hA (by omega)) (up hD (by omega)), fit4_b6 (up s3 (by omega)) (up s4 (by omega)) (up k2 (by omega)) (up k1 (by omega)),
    fit4_b6 (lt_mul_pow s3 k2 (by omega)) (lt_mul_pow s4 k1 (by omega)) (up k1 (by omega)) (up k1 (by omega))⟩

theorem VbAt.put0 {w W : World} {s : Bool} {u v : Value} {A D : Nat} (h : VbAt w s u v A D W) : VbAt w false u v A D (W.setCell ⟨w.heap.size, 0, none⟩ (.bool false)) :=
  ⟨h.p.put0, h.n.set h.p.c0 (fun _ h => by cases h), h.d.set h.p.c0 (fun _ h => by cases h), h.below.setCell (p := ⟨w.heap.size, 0, none⟩) (Nat.le_refl _) _⟩

theorem VbAt.putX {w W : World} {R : Nat} {s : Bool} {u v x y z : Value} {A D : Nat} (h : VbAt w s u v A D W) (hr : RVar R W) (hl : w.heap.size < R) : VbAt w s u v A D (((W.setCell ⟨R, 0, none⟩ x).setCell ⟨R, 1, none⟩ y).setCell ⟨R, 2, none⟩ z) :=
  ⟨h.p.other (by omega), h.n.setR hr, h.d.setR hr, below_set3 h.below (by omega)⟩

/-- twice's variable -/
structure TwAt (w : World) (X : Nat) (G : Bool) (u v : Value) (A D : Nat) (W : World) : Prop where
  p : RatV X G u v W
  n : IsN W u A
  d : IsN W v D
  below : Below w.heap.size w W

theorem TwAt.step {w W W' : World} {X : Nat} {G : Bool} {u v : Value} {A D : Nat} (h : TwAt w X G u v A D W) (hb : Below W.heap.size W W') : TwAt w X G u v A D W' :=
  ⟨h.p.step hb, h.n.step hb, h.d.step hb, below_step h.below h.below.size hb⟩

theorem TwAt.drew {w W : World} {X : Nat} {G : Bool} {u v : Value} {A D : Nat} (h : TwAt w X G u v A D W) : TwAt w X G u v A D W.drew := ⟨h.p.drew, h.n, h.d, h.below.drew⟩

theorem keepTw {w W W' : World} {X : Nat} {G : Bool} {u v : Value} {A D : Nat} (hb : Below W.heap.size W W')
    (h : (W.cell? ⟨X, 0, none⟩ = some (.bool G) ∧ W.cell? ⟨X, 1, none⟩ = some u ∧ W.cell? ⟨X, 2, none⟩ = some v) ∧ TwAt w X G u v A D W) :
    (W'.cell? ⟨X, 0, none⟩ = some (.bool G) ∧ W'.cell? ⟨X, 1, none⟩ = some u ∧ W'.cell? ⟨X, 2, none⟩ = some v) ∧ TwAt w X G u v A D W' :=
  have k := h.2.step hb
  ⟨⟨k.p.c0, k.p.c1, k.p.c2⟩, k⟩

end Go.Proofs.Ygcoab
