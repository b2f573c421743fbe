import Derived.Test.YgcoabWPow5
namespace Go.Proofs.Ygcoab
open Go.RowKit

/-- cmpRat's world: two fractions -/
structure CrAt (w : World) (u1 v1 u2 v2 : Value) (A1 D1 A2 D2 : Nat) (W : World) : Prop where
  p1 : W.cell? ⟨w.heap.size, 1, none⟩ = some u1
  p2 : W.cell? ⟨w.heap.size, 2, none⟩ = some v1
  q1 : W.cell? ⟨w.heap.size + 1, 1, none⟩ = some u2
  q2 : W.cell? ⟨w.heap.size + 1, 2, none⟩ = some v2
  size : w.heap.size + 1 < W.heap.size
  n1 : IsN W u1 A1
  d1 : IsN W v1 D1
  n2 : IsN W u2 A2
  d2 : IsN W v2 D2
  below : Below w.heap.size w W

theorem CrAt.step {w W W' : World} {u1 v1 u2 v2 : Value} {A1 D1 A2 D2 : Nat} (h : CrAt w u1 v1 u2 v2 A1 D1 A2 D2 W) (hb : Below W.heap.size W W') : CrAt w u1 v1 u2 v2 A1 D1 A2 D2 W' :=
  have hs := h.size
  have k := fun o => hb.cell (p := ⟨w.heap.size, o, none⟩) (show w.heap.size < W.heap.size by omega)
  have k' := fun o => hb.cell (p := ⟨w.heap.size + 1, o, none⟩) (show w.heap.size + 1 < W.heap.size by omega)
  ⟨(k 1).trans h.p1, (k 2).trans h.p2, (k' 1).trans h.q1, (k' 2).trans h.q2, Nat.lt_of_lt_of_le h.size hb.size, h.n1.step hb, h.d1.step hb, h.n2.step hb, h.d2.step hb, below_step h.below h.below.size hb⟩

theorem CrAt.drew {w W : World} {u1 v1 u2 v2 : Value} {A1 D1 A2 D2 : Nat} (h : CrAt w u1 v1 u2 v2 A1 D1 A2 D2 W) : CrAt w u1 v1 u2 v2 A1 D1 A2 D2 W.drew :=
  ⟨h.p1, h.p2, h.q1, h.q2, h.size, h.n1, h.d1, h.n2, h.d2, h.below.drew⟩

theorem CrAt.start {w : World} (s1 s2 : Bool) {u1 v1 u2 v2 : Value} {A1 D1 A2 D2 : Nat} (n1 : IsN w u1 A1) (d1 : IsN w v1 D1) (n2 : IsN w u2 A2) (d2 : IsN w v2 D2) :
    CrAt w u1 v1 u2 v2 A1 D1 A2 D2 ((w.alloc (.cells #[.bool s1, u1, v1] 50)).alloc (.cells #[.bool s2, u2, v2] 50)) := by
  have b1 := below_alloc w (.cells #[.bool s1, u1, v1] 50)
  have b2 := below_alloc (w.alloc (.cells #[.bool s1, u1, v1] 50)) (.cells #[.bool s2, u2, v2] 50)
  exact ⟨by simp [go_sem], by simp [go_sem], by simp [go_sem], by simp [go_sem], by simp [go_sem], (n1.step b1).step b2, (d1.step b1).step b2, (n2.step b1).step b2, (d2.step b1).step b2, below_step b1 b1.size b2⟩

theorem CrAt.all {w W : World} {u1 v1 u2 v2 : Value} {A1 D1 A2 D2 : Nat} (h : CrAt w u1 v1 u2 v2 A1 D1 A2 D2 W) : (W.cell? ⟨w.heap.size, 1, none⟩ = some u1 ∧ W.cell? ⟨w.heap.size, 2, none⟩ = some v1 ∧ W.cell? ⟨w.heap.size + 1, 1, none⟩ = some u2 ∧ W.cell? ⟨w.heap.size + 1, 2, none⟩ = some v2) ∧ CrAt w u1 v1 u2 v2 A1 D1 A2 D2 W := ⟨⟨h.p1, h.p2, h.q1, h.q2⟩, h⟩

theorem keepCr {w W W' : World} {u1 v1 u2 v2 : Value} {A1 D1 A2 D2 : Nat} (hb : Below W.heap.size W W') (h : (W.cell? ⟨w.heap.size, 1, none⟩ = some u1 ∧ W.cell? ⟨w.heap.size, 2, none⟩ = some v1 ∧ W.cell? ⟨w.heap.size + 1, 1, none⟩ = some u2 ∧ W.cell? ⟨w.heap.size + 1, 2, none⟩ = some v2) ∧ CrAt w u1 v1 u2 v2 A1 D1 A2 D2 W) : (W'.cell? ⟨w.heap.size, 1, none⟩ = some u1 ∧ W'.cell? ⟨w.heap.size, 2, none⟩ = some v1 ∧ W'.cell? ⟨w.heap.size + 1, 1, none⟩ = some u2 ∧ W'.cell? ⟨w.heap.size + 1, 2, none⟩ = some v2) ∧ CrAt w u1 v1 u2 v2 A1 D1 A2 D2 W' := (h.2.step hb).all

set_option maxHeartbeats 2000000 in
theorem cmpRat_any {w : World} {p q : Value} {s1 s2 : Bool} {A1 D1 A2 D2 : Nat} (hp : RatAt w p s1 A1 D1) (hq : RatAt w q s2 A2 D2) (hf : Fit4 A1 D1 A2 D2) :
    Calls Oabg.prog 99 #[p, q] w fun e w' => e = .returned (.int .i8 (cmpZ (A1 * D2) (A2 * D1))) ∧ Below w.heap.size w w' := by
  obtain ⟨a1, n1, c1, a2, n2, c2, rfl, i1, j1⟩ := hp
  obtain ⟨a3, n3, c3, a4, n4, c4, rfl, i2, j2⟩ := hq
  have HF : Hid (Fit4 A1 D1 A2 D2) := hf
  clear hf
  have hS := CrAt.start s1 s2 i1 j1 i2 j2
  clear i1 j1 i2 j2
  obtain ⟨W0, hW⟩ : ∃ W, W = ((w.alloc (.cells #[.bool s1, .slice a1 n1 c1, .slice a2 n2 c2] 50)).alloc (.cells #[.bool s2, .slice a3 n3 c3, .slice a4 n4 c4] 50)) := ⟨_, rfl⟩
  rw [← hW] at hS
  have HA : Hid (∀ W : World, ((W.cell? ⟨w.heap.size, 1, none⟩ = some (.slice a1 n1 c1) ∧ W.cell? ⟨w.heap.size, 2, none⟩ = some (.slice a2 n2 c2) ∧ W.cell? ⟨w.heap.size + 1, 1, none⟩ = some (.slice a3 n3 c3) ∧ W.cell? ⟨w.heap.size + 1, 2, none⟩ = some (.slice a4 n4 c4)) ∧ CrAt w (.slice a1 n1 c1) (.slice a2 n2 c2) (.slice a3 n3 c3) (.slice a4 n4 c4) A1 D1 A2 D2 W) → Calls Oabg.prog 73 #[.slice a1 n1 c1, .slice a4 n4 c4] W fun e w' => ∃ r, e = .returned r ∧ IsN w' r (A1 * D2) ∧ Below W.heap.size W w') := fun W k => mul_any k.2.n1 k.2.d2 HF.out.a1 HF.out.d2
  have HB : Hid (∀ W : World, ((W.cell? ⟨w.heap.size, 1, none⟩ = some (.slice a1 n1 c1) ∧ W.cell? ⟨w.heap.size, 2, none⟩ = some (.slice a2 n2 c2) ∧ W.cell? ⟨w.heap.size + 1, 1, none⟩ = some (.slice a3 n3 c3) ∧ W.cell? ⟨w.heap.size + 1, 2, none⟩ = some (.slice a4 n4 c4)) ∧ CrAt w (.slice a1 n1 c1) (.slice a2 n2 c2) (.slice a3 n3 c3) (.slice a4 n4 c4) A1 D1 A2 D2 W) → Calls Oabg.prog 73 #[.slice a3 n3 c3, .slice a2 n2 c2] W fun e w' => ∃ r, e = .returned r ∧ IsN w' r (A2 * D1) ∧ Below W.heap.size W w') := fun W k => mul_any k.2.n2 k.2.d1 HF.out.a2 HF.out.d1
  obtain ⟨z, hz⟩ : ∃ z, z = cmpZ (A1 * D2) (A2 * D1) := ⟨_, rfl⟩
  have HC : Hid (∀ (W : World) (x y : Value), IsN W x (A1 * D2) → IsN W y (A2 * D1) → Calls Oabg.prog 77 #[x, y] W fun e w' => e = .returned (.int .i8 z) ∧ Below W.heap.size W w') := fun W x y h1 h2 => by
    rw [hz]
    exact cmp_any h1 h2
  rw [← hz]
  clear hz HF
  go_enter Oabg.func99, Oabg.ntmps99
  go_upto_region 1 with (fail)
  rw [show ((w.alloc (.cells #[.bool s1, .slice a1 n1 c1, .slice a2 n2 c2] 50)).alloc (.cells #[.bool s2, .slice a3 n3 c3, .slice a4 n4 c4] 50)) = W0 from hW.symm]
  clear hW
  have p1 := hS.p1
  have p2 := hS.p2
  have q1 := hS.q1
  have q2 := hS.q2
  have HK : Hid (CrAt w (.slice a1 n1 c1) (.slice a2 n2 c2) (.slice a3 n3 c3) (.slice a4 n4 c4) A1 D1 A2 D2 W0) := hS
  clear hS
  go_region_held3 (fun W => (W.cell? ⟨w.heap.size, 1, none⟩ = some (.slice a1 n1 c1) ∧ W.cell? ⟨w.heap.size, 2, none⟩ = some (.slice a2 n2 c2) ∧ W.cell? ⟨w.heap.size + 1, 1, none⟩ = some (.slice a3 n3 c3) ∧ W.cell? ⟨w.heap.size + 1, 2, none⟩ = some (.slice a4 n4 c4)) ∧ CrAt w (.slice a1 n1 c1) (.slice a2 n2 c2) (.slice a3 n3 c3) (.slice a4 n4 c4) A1 D1 A2 D2 W)
    (first
      | exact ⟨⟨p1, p2, q1, q2⟩, HK.out.drew⟩
      | (with_reducible refine keepCr hbA ?_; assumption)
      | (with_reducible refine keepCr hbB ?_; assumption)
      | (with_reducible refine keepCr hbC ?_; assumption))
    (first
      | (go_at_call_of 73 (Value.slice a1 n1 c1); refine (HA.out _ (by assumption)).mono ?_; rintro ee wA ⟨xA, rfl, hA, hbA⟩; obtain ⟨e1, e2, e3, rfl⟩ := hA.shape)
      | (go_at_call_of 73 (Value.slice a3 n3 c3); refine (HB.out _ (by assumption)).mono ?_; rintro ee wB ⟨xB, rfl, hB, hbB⟩; obtain ⟨f1, f2, f3, rfl⟩ := hB.shape)
      | (go_at_call 77; refine (HC.out _ _ _ (hA.step hbB) hB).mono ?_; rintro ee wC ⟨rfl, hbC⟩))
  rename_i hH
  have HBl : Hid (Below w.heap.size w _) := hH.2.below
  clear hH hA hB
  go_wp2
  go_ret
  exact ⟨rfl, HBl.out⟩

set_option maxHeartbeats 2000000 in
theorem cmpSize_any {w : World} {p q : Value} {s1 s2 : Bool} {A1 D1 A2 D2 : Nat} (hp : RatAt w p s1 A1 D1) (hq : RatAt w q s2 A2 D2) (hf : Fit4 A1 D1 A2 D2) :
    Calls Oabg.prog 33 #[p, q] w fun e w' => e = .returned (.int .i8 (cmpZ (A1 * D2) (A2 * D1))) ∧ Below w.heap.size w w' := by
  obtain ⟨a1, n1, c1, a2, n2, c2, rfl, i1, j1⟩ := hp
  obtain ⟨a3, n3, c3, a4, n4, c4, rfl, i2, j2⟩ := hq
  have HF : Hid (Fit4 A1 D1 A2 D2) := hf
  clear hf
  have hS := CrAt.start s1 s2 i1 j1 i2 j2
  clear i1 j1 i2 j2
  obtain ⟨W0, hW⟩ : ∃ W, W = ((w.alloc (.cells #[.bool s1, .slice a1 n1 c1, .slice a2 n2 c2] 50)).alloc (.cells #[.bool s2, .slice a3 n3 c3, .slice a4 n4 c4] 50)) := ⟨_, rfl⟩
  rw [← hW] at hS
  have HA : Hid (∀ W : World, ((W.cell? ⟨w.heap.size, 1, none⟩ = some (.slice a1 n1 c1) ∧ W.cell? ⟨w.heap.size, 2, none⟩ = some (.slice a2 n2 c2) ∧ W.cell? ⟨w.heap.size + 1, 1, none⟩ = some (.slice a3 n3 c3) ∧ W.cell? ⟨w.heap.size + 1, 2, none⟩ = some (.slice a4 n4 c4)) ∧ CrAt w (.slice a1 n1 c1) (.slice a2 n2 c2) (.slice a3 n3 c3) (.slice a4 n4 c4) A1 D1 A2 D2 W) → Calls Oabg.prog 73 #[.slice a1 n1 c1, .slice a4 n4 c4] W fun e w' => ∃ r, e = .returned r ∧ IsN w' r (A1 * D2) ∧ Below W.heap.size W w') := fun W k => mul_any k.2.n1 k.2.d2 HF.out.a1 HF.out.d2
  have HB : Hid (∀ W : World, ((W.cell? ⟨w.heap.size, 1, none⟩ = some (.slice a1 n1 c1) ∧ W.cell? ⟨w.heap.size, 2, none⟩ = some (.slice a2 n2 c2) ∧ W.cell? ⟨w.heap.size + 1, 1, none⟩ = some (.slice a3 n3 c3) ∧ W.cell? ⟨w.heap.size + 1, 2, none⟩ = some (.slice a4 n4 c4)) ∧ CrAt w (.slice a1 n1 c1) (.slice a2 n2 c2) (.slice a3 n3 c3) (.slice a4 n4 c4) A1 D1 A2 D2 W) → Calls Oabg.prog 73 #[.slice a3 n3 c3, .slice a2 n2 c2] W fun e w' => ∃ r, e = .returned r ∧ IsN w' r (A2 * D1) ∧ Below W.heap.size W w') := fun W k => mul_any k.2.n2 k.2.d1 HF.out.a2 HF.out.d1
  obtain ⟨z, hz⟩ : ∃ z, z = cmpZ (A1 * D2) (A2 * D1) := ⟨_, rfl⟩
  have HC : Hid (∀ (W : World) (x y : Value), IsN W x (A1 * D2) → IsN W y (A2 * D1) → Calls Oabg.prog 77 #[x, y] W fun e w' => e = .returned (.int .i8 z) ∧ Below W.heap.size W w') := fun W x y h1 h2 => by
    rw [hz]
    exact cmp_any h1 h2
  rw [← hz]
  clear hz HF
  go_enter Oabg.func33, Oabg.ntmps33
  go_upto_region 1 with (fail)
  rw [show ((w.alloc (.cells #[.bool s1, .slice a1 n1 c1, .slice a2 n2 c2] 50)).alloc (.cells #[.bool s2, .slice a3 n3 c3, .slice a4 n4 c4] 50)) = W0 from hW.symm]
  clear hW
  have p1 := hS.p1
  have p2 := hS.p2
  have q1 := hS.q1
  have q2 := hS.q2
  have HK : Hid (CrAt w (.slice a1 n1 c1) (.slice a2 n2 c2) (.slice a3 n3 c3) (.slice a4 n4 c4) A1 D1 A2 D2 W0) := hS
  clear hS
  go_region_held3 (fun W => (W.cell? ⟨w.heap.size, 1, none⟩ = some (.slice a1 n1 c1) ∧ W.cell? ⟨w.heap.size, 2, none⟩ = some (.slice a2 n2 c2) ∧ W.cell? ⟨w.heap.size + 1, 1, none⟩ = some (.slice a3 n3 c3) ∧ W.cell? ⟨w.heap.size + 1, 2, none⟩ = some (.slice a4 n4 c4)) ∧ CrAt w (.slice a1 n1 c1) (.slice a2 n2 c2) (.slice a3 n3 c3) (.slice a4 n4 c4) A1 D1 A2 D2 W)
    (first
      | exact ⟨⟨p1, p2, q1, q2⟩, HK.out.drew⟩
      | (with_reducible refine keepCr hbA ?_; assumption)
      | (with_reducible refine keepCr hbB ?_; assumption)
      | (with_reducible refine keepCr hbC ?_; assumption))
    (first
      | (go_at_call_of 73 (Value.slice a1 n1 c1); refine (HA.out _ (by assumption)).mono ?_; rintro ee wA ⟨xA, rfl, hA, hbA⟩; obtain ⟨e1, e2, e3, rfl⟩ := hA.shape)
      | (go_at_call_of 73 (Value.slice a3 n3 c3); refine (HB.out _ (by assumption)).mono ?_; rintro ee wB ⟨xB, rfl, hB, hbB⟩; obtain ⟨f1, f2, f3, rfl⟩ := hB.shape)
      | (go_at_call 77; refine (HC.out _ _ _ (hA.step hbB) hB).mono ?_; rintro ee wC ⟨rfl, hbC⟩))
  rename_i hH
  have HBl : Hid (Below w.heap.size w _) := hH.2.below
  clear hH hA hB
  go_wp2
  go_ret
  exact ⟨rfl, HBl.out⟩

end Go.Proofs.Ygcoab
