import Derived.Test.YgcoabWLog
namespace Go.Proofs.Ygcoab
open Go.RowKit

/-- unitsOf's world: v's box, t's variable -/
structure UnAt (w : World) (T : Nat) (u1 v1 u2 v2 : Value) (A1 D1 A2 D2 : Nat) (W : World) : Prop where
  p1 : W.cell? ⟨w.heap.size, 1, none⟩ = some u1
  p2 : W.cell? ⟨w.heap.size, 2, none⟩ = some v1
  q1 : W.cell? ⟨T, 1, none⟩ = some u2
  q2 : W.cell? ⟨T, 2, none⟩ = some v2
  lt : w.heap.size < T
  size : T < W.heap.size
  n1 : IsN W u1 A1
  d1 : IsN W v1 D1
  n2 : IsN W u2 A2
  d2 : IsN W v2 D2
  below : Below w.heap.size w W

theorem UnAt.step {w W W' : World} {T : Nat} {u1 v1 u2 v2 : Value} {A1 D1 A2 D2 : Nat} (h : UnAt w T u1 v1 u2 v2 A1 D1 A2 D2 W) (hb : Below W.heap.size W W') : UnAt w T u1 v1 u2 v2 A1 D1 A2 D2 W' :=
  have hs := h.size
  have hl := h.lt
  have k := fun o => hb.cell (p := ⟨w.heap.size, o, none⟩) (show w.heap.size < W.heap.size by omega)
  have k' := fun o => hb.cell (p := ⟨T, o, none⟩) hs
  ⟨(k 1).trans h.p1, (k 2).trans h.p2, (k' 1).trans h.q1, (k' 2).trans h.q2, h.lt, Nat.lt_of_lt_of_le h.size hb.size, h.n1.step hb, h.d1.step hb, h.n2.step hb, h.d2.step hb, below_step h.below h.below.size hb⟩

theorem UnAt.drew {w W : World} {T : Nat} {u1 v1 u2 v2 : Value} {A1 D1 A2 D2 : Nat} (h : UnAt w T u1 v1 u2 v2 A1 D1 A2 D2 W) : UnAt w T u1 v1 u2 v2 A1 D1 A2 D2 W.drew :=
  ⟨h.p1, h.p2, h.q1, h.q2, h.lt, h.size, h.n1, h.d1, h.n2, h.d2, h.below.drew⟩

theorem cell_set2 (w : World) (R b i : Nat) (u0 u1 : Value) (h : b ≠ R) : ((w.setCell ⟨R, 0, none⟩ u0).setCell ⟨R, 1, none⟩ u1).cell? ⟨b, i, none⟩ = w.cell? ⟨b, i, none⟩ := by
  rw [cell_set_ne _ _ _ _ _ _ (by omega), cell_set_ne _ _ _ _ _ _ (by omega)]

theorem set2_size (w : World) (R : Nat) (x y : Value) : ((w.setCell ⟨R, 0, none⟩ x).setCell ⟨R, 1, none⟩ y).heap.size = w.heap.size := by simp [go_sem]

theorem UnAt.putX {w W : World} {T R : Nat} {half : Int} {sm : Bool} {u1 v1 u2 v2 x y : Value} {A1 D1 A2 D2 : Nat} (h : UnAt w T u1 v1 u2 v2 A1 D1 A2 D2 W) (hr : HVar R half sm W) (hl : T < R) :
    UnAt w T u1 v1 u2 v2 A1 D1 A2 D2 ((W.setCell ⟨R, 0, none⟩ x).setCell ⟨R, 1, none⟩ y) := by
  have k := h.lt
  refine ⟨?_, ?_, ?_, ?_, h.lt, ?_, h.n1.setH hr, h.d1.setH hr, h.n2.setH hr, h.d2.setH hr, below_set2 h.below (by omega)⟩
  · rw [cell_set2 _ _ _ _ _ _ (by omega)]; exact h.p1
  · rw [cell_set2 _ _ _ _ _ _ (by omega)]; exact h.p2
  · rw [cell_set2 _ _ _ _ _ _ (by omega)]; exact h.q1
  · rw [cell_set2 _ _ _ _ _ _ (by omega)]; exact h.q2
  · rw [set2_size]; exact h.size

theorem UnAt.all {w W : World} {T : Nat} {u1 v1 u2 v2 : Value} {A1 D1 A2 D2 : Nat} (h : UnAt w T u1 v1 u2 v2 A1 D1 A2 D2 W) : (W.cell? ⟨w.heap.size, 1, none⟩ = some u1 ∧ W.cell? ⟨w.heap.size, 2, none⟩ = some v1 ∧ W.cell? ⟨T, 1, none⟩ = some u2 ∧ W.cell? ⟨T, 2, none⟩ = some v2) ∧ UnAt w T u1 v1 u2 v2 A1 D1 A2 D2 W := ⟨⟨h.p1, h.p2, h.q1, h.q2⟩, h⟩

theorem keepUn {w W W' : World} {T : Nat} {u1 v1 u2 v2 : Value} {A1 D1 A2 D2 : Nat} (hb : Below W.heap.size W W') (h : (W.cell? ⟨w.heap.size, 1, none⟩ = some u1 ∧ W.cell? ⟨w.heap.size, 2, none⟩ = some v1 ∧ W.cell? ⟨T, 1, none⟩ = some u2 ∧ W.cell? ⟨T, 2, none⟩ = some v2) ∧ UnAt w T u1 v1 u2 v2 A1 D1 A2 D2 W) : (W'.cell? ⟨w.heap.size, 1, none⟩ = some u1 ∧ W'.cell? ⟨w.heap.size, 2, none⟩ = some v1 ∧ W'.cell? ⟨T, 1, none⟩ = some u2 ∧ W'.cell? ⟨T, 2, none⟩ = some v2) ∧ UnAt w T u1 v1 u2 v2 A1 D1 A2 D2 W' := (h.2.step hb).all

theorem keepUnA {w W : World} {o : Obj} {T : Nat} {u1 v1 u2 v2 : Value} {A1 D1 A2 D2 : Nat} (h : (W.cell? ⟨w.heap.size, 1, none⟩ = some u1 ∧ W.cell? ⟨w.heap.size, 2, none⟩ = some v1 ∧ W.cell? ⟨T, 1, none⟩ = some u2 ∧ W.cell? ⟨T, 2, none⟩ = some v2) ∧ UnAt w T u1 v1 u2 v2 A1 D1 A2 D2 W) : ((W.alloc o).cell? ⟨w.heap.size, 1, none⟩ = some u1 ∧ (W.alloc o).cell? ⟨w.heap.size, 2, none⟩ = some v1 ∧ (W.alloc o).cell? ⟨T, 1, none⟩ = some u2 ∧ (W.alloc o).cell? ⟨T, 2, none⟩ = some v2) ∧ UnAt w T u1 v1 u2 v2 A1 D1 A2 D2 (W.alloc o) := (h.2.step (below_alloc W o)).all

theorem keepUnX {w W : World} {T R : Nat} {half : Int} {sm : Bool} {u1 v1 u2 v2 x y : Value} {A1 D1 A2 D2 : Nat} (hr : HVar R half sm W) (hl : T < R) (h : (W.cell? ⟨w.heap.size, 1, none⟩ = some u1 ∧ W.cell? ⟨w.heap.size, 2, none⟩ = some v1 ∧ W.cell? ⟨T, 1, none⟩ = some u2 ∧ W.cell? ⟨T, 2, none⟩ = some v2) ∧ UnAt w T u1 v1 u2 v2 A1 D1 A2 D2 W) : (((W.setCell ⟨R, 0, none⟩ x).setCell ⟨R, 1, none⟩ y).cell? ⟨w.heap.size, 1, none⟩ = some u1 ∧ ((W.setCell ⟨R, 0, none⟩ x).setCell ⟨R, 1, none⟩ y).cell? ⟨w.heap.size, 2, none⟩ = some v1 ∧ ((W.setCell ⟨R, 0, none⟩ x).setCell ⟨R, 1, none⟩ y).cell? ⟨T, 1, none⟩ = some u2 ∧ ((W.setCell ⟨R, 0, none⟩ x).setCell ⟨R, 1, none⟩ y).cell? ⟨T, 2, none⟩ = some v2) ∧ UnAt w T u1 v1 u2 v2 A1 D1 A2 D2 ((W.setCell ⟨R, 0, none⟩ x).setCell ⟨R, 1, none⟩ y) := (h.2.putX hr hl).all

set_option maxRecDepth 100000 in
set_option maxHeartbeats 4000000 in
theorem unitsOf_any {w : World} {p : Value} {s : Bool} {A D : Nat} (hp : RatAt w p s A D) (hf : LogFit A D) (k : Int) (h1 : -2700 ≤ k) (h2 : k ≤ 2700) :
    Calls Oabg.prog 63 #[p, .int .i64 k] w fun e w' => ∃ v, e = .returned v ∧ IsN w' v (raisedN 0 false (A * tenD k) (D * tenN k)) ∧ Below w.heap.size w w' := by
  obtain ⟨a1, n1, c1, a2, n2, c2, rfl, i1, j1⟩ := hp
  have HFt : Hid (Fit4 (tenN k) (tenD k) A D) := hf.fit h1 h2
  have HFy : Hid (FitW (D * tenN k)) := ⟨by rw [Nat.mul_comm]; exact HFt.out.x⟩
  have HFx : Hid (FitW (A * tenD k)) := ⟨HFt.out.y⟩
  have HPy : Hid (0 < D * tenN k) := Nat.mul_pos hf.pd (tenN_pos k)
  have HT : Hid (∀ w : World, Calls Oabg.prog 100 #[.int .i64 k] w fun e w' => ∃ r, e = .returned r ∧ RatAt w' r false (tenN k) (tenD k) ∧ Below w.heap.size w w') := fun w => tenTo_any k (by omega) (by omega) w
  obtain ⟨A2, hA2⟩ : ∃ A2, A2 = tenN k := ⟨_, rfl⟩
  obtain ⟨D2, hD2⟩ : ∃ D2, D2 = tenD k := ⟨_, rfl⟩
  rw [← hA2, ← hD2] at HT HFt
  rw [← hA2] at HFy HPy
  rw [← hD2] at HFx
  rw [← hA2, ← hD2]
  obtain ⟨R, hR⟩ : ∃ R, R = raisedN 0 false (A * D2) (D * A2) := ⟨_, rfl⟩
  rw [← hR]
  have HR : Hid (R = raisedN 0 false (A * D2) (D * A2)) := hR
  clear hA2 hD2 hf h1 h2 hR
  have hB := below_alloc w (.cells #[.bool s, .slice a1 n1 c1, .slice a2 n2 c2] 50)
  have hRv := RatV.start w s (.slice a1 n1 c1) (.slice a2 n2 c2)
  have hi := i1.step hB
  have hj := j1.step hB
  obtain ⟨W0, hW⟩ : ∃ W, W = w.alloc (.cells #[.bool s, .slice a1 n1 c1, .slice a2 n2 c2] 50) := ⟨_, rfl⟩
  rw [← hW] at hB hRv hi hj
  clear i1 j1
  go_enter Oabg.func63, Oabg.ntmps63
  go_wp2_with fail
  go_at_call 100
  rw [show w.alloc (.cells #[.bool s, .slice a1 n1 c1, .slice a2 n2 c2] 50) = W0 from hW.symm]
  clear hW
  refine (HT.out _).mono ?_
  rintro e w1 ⟨r, rfl, hr, hb⟩
  obtain ⟨a3, n3, c3, a4, n4, c4, rfl, i2, j2⟩ := hr
  have hA := below_alloc w1 (.cells #[.bool false, .slice a3 n3 c3, .slice a4 n4 c4] 50)
  have hRv1 := (hRv.step hb).step hA
  have hRt := RatV.start w1 false (.slice a3 n3 c3) (.slice a4 n4 c4)
  have hS : UnAt w w1.heap.size (.slice a1 n1 c1) (.slice a2 n2 c2) (.slice a3 n3 c3) (.slice a4 n4 c4) A D A2 D2 (w1.alloc (.cells #[.bool false, .slice a3 n3 c3, .slice a4 n4 c4] 50)) := ⟨hRv1.c1, hRv1.c2, hRt.c1, hRt.c2, (hRv.step hb).size, hRt.size, (hi.step hb).step hA, (hj.step hb).step hA, i2.step hA, j2.step hA, below_step (below_step hB hB.size hb) (Nat.le_trans hB.size hb.size) hA⟩
  clear hB hRv hi hj hb hA hRv1 hRt i2 j2 HT
  go_upto_region 2 with (fail)
  obtain ⟨W1, hW⟩ : ∃ W, W = w1.alloc (.cells #[.bool false, .slice a3 n3 c3, .slice a4 n4 c4] 50) := ⟨_, rfl⟩
  obtain ⟨T, hTe⟩ : ∃ T, T = w1.heap.size := ⟨_, rfl⟩
  rw [← hW, ← hTe] at hS
  rw [← hW, ← hTe]
  clear hW hTe
  have HA : Hid (∀ W : World, ((W.cell? ⟨w.heap.size, 1, none⟩ = some (.slice a1 n1 c1) ∧ W.cell? ⟨w.heap.size, 2, none⟩ = some (.slice a2 n2 c2) ∧ W.cell? ⟨T, 1, none⟩ = some (.slice a3 n3 c3) ∧ W.cell? ⟨T, 2, none⟩ = some (.slice a4 n4 c4)) ∧ UnAt w T (.slice a1 n1 c1) (.slice a2 n2 c2) (.slice a3 n3 c3) (.slice a4 n4 c4) A D A2 D2 W) → Calls Oabg.prog 73 #[.slice a1 n1 c1, .slice a4 n4 c4] W fun e w' => ∃ r, e = .returned r ∧ IsN w' r (A * D2) ∧ Below W.heap.size W w') := fun W k => mul_any k.2.n1 k.2.d2 HFt.out.a2 HFt.out.d1
  have HB : Hid (∀ W : World, ((W.cell? ⟨w.heap.size, 1, none⟩ = some (.slice a1 n1 c1) ∧ W.cell? ⟨w.heap.size, 2, none⟩ = some (.slice a2 n2 c2) ∧ W.cell? ⟨T, 1, none⟩ = some (.slice a3 n3 c3) ∧ W.cell? ⟨T, 2, none⟩ = some (.slice a4 n4 c4)) ∧ UnAt w T (.slice a1 n1 c1) (.slice a2 n2 c2) (.slice a3 n3 c3) (.slice a4 n4 c4) A D A2 D2 W) → Calls Oabg.prog 73 #[.slice a2 n2 c2, .slice a3 n3 c3] W fun e w' => ∃ r, e = .returned r ∧ IsN w' r (D * A2) ∧ Below W.heap.size W w') := fun W k => mul_any k.2.d1 k.2.n2 HFt.out.d2 HFt.out.a1
  have HC : Hid (∀ (W : World) (x y : Value), IsN W x (A * D2) → IsN W y (D * A2) → Calls Oabg.prog 101 #[.int .u8 0, .bool false, x, y] W (FlPost W R (halfZ (A * D2) (D * A2)) (someB (A * D2) (D * A2)))) := fun W x y k1 k2 => by
    rw [HR.out]
    exact raised_any 0 false k1 k2 HFx.out.f HFy.out.f HPy.out
  generalize halfZ (A * D2) (D * A2) = hf at *
  generalize someB (A * D2) (D * A2) = sm at *
  clear HR HFx HFy HPy HFt
  go_cut [6, 7] (fun s6 s7 wx => ∃ e1 e2 e3, s6 = .slice e1 e2 e3 ∧ IsN wx (.slice e1 e2 e3) R ∧ Below w.heap.size w wx)
  case first =>
    have HS0 : Hid ((W1.drew.cell? ⟨w.heap.size, 1, none⟩ = some (.slice a1 n1 c1) ∧ W1.drew.cell? ⟨w.heap.size, 2, none⟩ = some (.slice a2 n2 c2) ∧ W1.drew.cell? ⟨T, 1, none⟩ = some (.slice a3 n3 c3) ∧ W1.drew.cell? ⟨T, 2, none⟩ = some (.slice a4 n4 c4)) ∧ UnAt w T (.slice a1 n1 c1) (.slice a2 n2 c2) (.slice a3 n3 c3) (.slice a4 n4 c4) A D A2 D2 W1.drew) := hS.drew.all
    have HSD : Hid (((W1.alloc (.cells #[.int .i8 0, .bool false] 136)).drew.cell? ⟨w.heap.size, 1, none⟩ = some (.slice a1 n1 c1) ∧ (W1.alloc (.cells #[.int .i8 0, .bool false] 136)).drew.cell? ⟨w.heap.size, 2, none⟩ = some (.slice a2 n2 c2) ∧ (W1.alloc (.cells #[.int .i8 0, .bool false] 136)).drew.cell? ⟨T, 1, none⟩ = some (.slice a3 n3 c3) ∧ (W1.alloc (.cells #[.int .i8 0, .bool false] 136)).drew.cell? ⟨T, 2, none⟩ = some (.slice a4 n4 c4)) ∧ UnAt w T (.slice a1 n1 c1) (.slice a2 n2 c2) (.slice a3 n3 c3) (.slice a4 n4 c4) A D A2 D2 (W1.alloc (.cells #[.int .i8 0, .bool false] 136)).drew) := (hS.step (below_alloc W1 (.cells #[.int .i8 0, .bool false] 136))).drew.all
    have hps := hS.size
    have p1 := hS.p1
    have p2 := hS.p2
    have q1 := hS.q1
    have q2 := hS.q2
    clear hS
    go_region_held3 (fun W => (W.cell? ⟨w.heap.size, 1, none⟩ = some (.slice a1 n1 c1) ∧ W.cell? ⟨w.heap.size, 2, none⟩ = some (.slice a2 n2 c2) ∧ W.cell? ⟨T, 1, none⟩ = some (.slice a3 n3 c3) ∧ W.cell? ⟨T, 2, none⟩ = some (.slice a4 n4 c4)) ∧ UnAt w T (.slice a1 n1 c1) (.slice a2 n2 c2) (.slice a3 n3 c3) (.slice a4 n4 c4) A D A2 D2 W)
      (first
        | exact HS0.out
        | exact HSD.out
        | (with_reducible refine keepUnA ?_; assumption)
        | (with_reducible refine keepUnA ?_; exact HSA.out)
        | (with_reducible refine keepUnA ?_; exact HSB.out)
        | (with_reducible refine keepUnA ?_; exact HSC.out)
        | (with_reducible refine keepUn hbA ?_; assumption)
        | (with_reducible refine keepUn hbB ?_; assumption)
        | (with_reducible refine keepUn hbC ?_; assumption)
        | (with_reducible refine keepUnX H1.out.1 H1.out.2 ?_; assumption)
        | (with_reducible refine keepUnX H2.out.1 H2.out.2 ?_; assumption)
        | (with_reducible refine keepUnX H3.out.1 H3.out.2 ?_; assumption))
      (first
        | (go_at_call_of 73 (Value.slice a1 n1 c1); refine (HA.out _ (by assumption)).mono ?_; rintro ee wA ⟨xA, rfl, hA, hbA⟩; obtain ⟨e1, e2, e3, rfl⟩ := hA.shape; have HSA : Hid ((wA.cell? ⟨w.heap.size, 1, none⟩ = some (.slice a1 n1 c1) ∧ wA.cell? ⟨w.heap.size, 2, none⟩ = some (.slice a2 n2 c2) ∧ wA.cell? ⟨T, 1, none⟩ = some (.slice a3 n3 c3) ∧ wA.cell? ⟨T, 2, none⟩ = some (.slice a4 n4 c4)) ∧ UnAt w T (.slice a1 n1 c1) (.slice a2 n2 c2) (.slice a3 n3 c3) (.slice a4 n4 c4) A D A2 D2 wA) := keepUn hbA (by assumption); (try have H1A : Hid (HVar W1.heap.size 0 false wA) := (HVar.start W1 0 false).drew.step hbA))
        | (go_at_call_of 73 (Value.slice a2 n2 c2); refine (HB.out _ (by assumption)).mono ?_; rintro ee wB ⟨xB, rfl, hB, hbB⟩; obtain ⟨f1, f2, f3, rfl⟩ := hB.shape; have HSB : Hid ((wB.cell? ⟨w.heap.size, 1, none⟩ = some (.slice a1 n1 c1) ∧ wB.cell? ⟨w.heap.size, 2, none⟩ = some (.slice a2 n2 c2) ∧ wB.cell? ⟨T, 1, none⟩ = some (.slice a3 n3 c3) ∧ wB.cell? ⟨T, 2, none⟩ = some (.slice a4 n4 c4)) ∧ UnAt w T (.slice a1 n1 c1) (.slice a2 n2 c2) (.slice a3 n3 c3) (.slice a4 n4 c4) A D A2 D2 wB) := keepUn hbB (by assumption); have HXB : Hid (IsN wB (.slice e1 e2 e3) (A * D2)) := IsN.step (by first | with_reducible exact hA | with_reducible exact hA.alc) hbB; (try have H1B : Hid (HVar W1.heap.size 0 false wB) := H1A.out.step hbB); (try have H2B : Hid (HVar wA.heap.size 0 false wB) := (HVar.start wA 0 false).step hbB))
        | (go_at_call 101; refine (HC.out _ _ _ (by first | with_reducible exact HXB.out | with_reducible exact HXB.out.alc) (by first | with_reducible exact hB | with_reducible exact hB.alc)).mono ?_; rintro ee wC ⟨g1, g2, g3, rfl, hC, hbC⟩; have HSC : Hid ((wC.cell? ⟨w.heap.size, 1, none⟩ = some (.slice a1 n1 c1) ∧ wC.cell? ⟨w.heap.size, 2, none⟩ = some (.slice a2 n2 c2) ∧ wC.cell? ⟨T, 1, none⟩ = some (.slice a3 n3 c3) ∧ wC.cell? ⟨T, 2, none⟩ = some (.slice a4 n4 c4)) ∧ UnAt w T (.slice a1 n1 c1) (.slice a2 n2 c2) (.slice a3 n3 c3) (.slice a4 n4 c4) A D A2 D2 wC) := keepUn hbC (by assumption); (try have H1 : Hid (HVar W1.heap.size 0 false wC ∧ T < W1.heap.size) := ⟨H1B.out.step hbC, hps⟩); (try have H2 : Hid (HVar wA.heap.size 0 false wC ∧ T < wA.heap.size) := ⟨H2B.out.step hbC, HSA.out.2.size⟩); (try have H3 : Hid (HVar wB.heap.size 0 false wC ∧ T < wB.heap.size) := ⟨(HVar.start wB 0 false).step hbC, HSB.out.2.size⟩); (try obtain ⟨r0, r1, rf, rs, _⟩ := H1.out.1.all); (try obtain ⟨r0, r1, rf, rs, _⟩ := H2.out.1.all); (try obtain ⟨r0, r1, rf, rs, _⟩ := H3.out.1.all)))
    all_goals (rename_i hH; have HBl : Hid (Below w.heap.size w _) := hH.2.below; clear hH; have HI : Hid (IsN wC (.slice g1 g2 g3) R) := hC; clear hA hB hC)
    all_goals go_wp2
    all_goals go_meet
    all_goals first
      | exact ⟨_, _, _, rfl, HI.out.alc, HBl.out⟩
      | exact ⟨_, _, _, rfl, HI.out.setH H1.out.1, HBl.out⟩
      | exact ⟨_, _, _, rfl, HI.out.setH H2.out.1, HBl.out⟩
      | exact ⟨_, _, _, rfl, HI.out.setH H3.out.1, HBl.out⟩
  case rest =>
  obtain ⟨e1, e2, e3, rfl, hI, hB⟩ := hcut
  clear hS HA HB HC
  have HI : Hid (IsN _ (.slice e1 e2 e3) R) := hI
  have HB : Hid (Below w.heap.size w _) := hB
  clear hI hB
  go_wp2
  go_ret
  exact ⟨_, rfl, HI.out, HB.out⟩

end Go.Proofs.Ygcoab
