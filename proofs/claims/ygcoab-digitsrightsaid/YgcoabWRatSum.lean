import Derived.Test.YgcoabWRatOps
import Derived.Test.YgcoabWSub
namespace Go.Proofs.Ygcoab
open Go.RowKit

def sumG (s1 s2 : Bool) (x y : Nat) : Bool := if s1 = s2 then s1 else if y ≤ x then s1 else s2
def sumV (s1 s2 : Bool) (x y : Nat) : Nat := if s1 = s2 then x + y else if y ≤ x then x - y else y - x

/-- the sums' world: two fractions, the result's variable, x, y, z -/
structure SmAt (w : World) (s1 s2 : Bool) (u1 v1 u2 v2 : Value) (A1 D1 A2 D2 : Nat) (x y z : Value) (X Y Z : Nat) (W : World) : Prop where
  pr : PrAt w s1 s2 u1 v1 u2 v2 A1 D1 A2 D2 W
  rv : RVar (w.heap.size + 2) W
  x : IsN W x X
  y : IsN W y Y
  z : IsN W z Z

theorem SmAt.step {w W W' : World} {s1 s2 : Bool} {u1 v1 u2 v2 x y z : Value} {A1 D1 A2 D2 X Y Z : Nat} (h : SmAt w s1 s2 u1 v1 u2 v2 A1 D1 A2 D2 x y z X Y Z W) (hb : Below W.heap.size W W') : SmAt w s1 s2 u1 v1 u2 v2 A1 D1 A2 D2 x y z X Y Z W' :=
  ⟨h.pr.step hb, h.rv.step hb, h.x.step hb, h.y.step hb, h.z.step hb⟩

theorem SmAt.drew {w W : World} {s1 s2 : Bool} {u1 v1 u2 v2 x y z : Value} {A1 D1 A2 D2 X Y Z : Nat} (h : SmAt w s1 s2 u1 v1 u2 v2 A1 D1 A2 D2 x y z X Y Z W) : SmAt w s1 s2 u1 v1 u2 v2 A1 D1 A2 D2 x y z X Y Z W.drew :=
  ⟨h.pr.drew, h.rv.drew, h.x.drew, h.y.drew, h.z.drew⟩

theorem SmAt.all {w W : World} {s1 s2 : Bool} {u1 v1 u2 v2 x y z : Value} {A1 D1 A2 D2 X Y Z : Nat} (h : SmAt w s1 s2 u1 v1 u2 v2 A1 D1 A2 D2 x y z X Y Z W) :
    (W.cell? ⟨w.heap.size, 0, none⟩ = some (.bool s1) ∧ W.cell? ⟨w.heap.size, 1, none⟩ = some u1 ∧ W.cell? ⟨w.heap.size, 2, none⟩ = some v1 ∧ W.cell? ⟨w.heap.size + 1, 0, none⟩ = some (.bool s2) ∧ W.cell? ⟨w.heap.size + 1, 1, none⟩ = some u2 ∧ W.cell? ⟨w.heap.size + 1, 2, none⟩ = some v2) ∧ (W.cell? ⟨w.heap.size + 2, 0, none⟩ = some (.bool false) ∧ W.cell? ⟨w.heap.size + 2, 1, none⟩ = some (.slice none 0 0) ∧ W.cell? ⟨w.heap.size + 2, 2, none⟩ = some (.slice none 0 0) ∧ (∀ o, W.frozen? ⟨w.heap.size + 2, o, none⟩ = false) ∧ w.heap.size + 2 < W.heap.size) ∧ Hid (SmAt w s1 s2 u1 v1 u2 v2 A1 D1 A2 D2 x y z X Y Z W) :=
  ⟨⟨h.pr.p0, h.pr.p1, h.pr.p2, h.pr.q0, h.pr.q1, h.pr.q2⟩, ⟨h.rv.r0, h.rv.r1, h.rv.r2, h.rv.rf, h.rv.size⟩, h⟩

set_option maxHeartbeats 4000000 in
theorem addRat_any {w : World} {p q : Value} {s1 s2 : Bool} {A1 D1 A2 D2 : Nat} (hp : RatAt w p s1 A1 D1) (hq : RatAt w q s2 A2 D2) (hf : Fit4 A1 D1 A2 D2) :
    Calls Oabg.prog 162 #[p, q] w fun e w' => ∃ r, e = .returned r ∧ RatAt w' r (sumG s1 s2 (A1 * D2) (A2 * D1)) (sumV s1 s2 (A1 * D2) (A2 * D1)) (D1 * D2) ∧ Below w.heap.size w w' := by
  obtain ⟨a1, n1, c1, a2, n2, c2, rfl, i1, j1⟩ := hp
  obtain ⟨a3, n3, c3, a4, n4, c4, rfl, i2, j2⟩ := hq
  have HF : Hid (Fit4 A1 D1 A2 D2) := hf
  clear hf
  have hS := PrAt.start s1 s2 i1 j1 i2 j2
  clear i1 j1 i2 j2
  have hR := pr_rvar w s1 s2 (.slice a1 n1 c1) (.slice a2 n2 c2) (.slice a3 n3 c3) (.slice a4 n4 c4)
  obtain ⟨W, hW⟩ : ∃ W, W = (((w.alloc (.cells #[.bool s1, .slice a1 n1 c1, .slice a2 n2 c2] 50)).alloc (.cells #[.bool s2, .slice a3 n3 c3, .slice a4 n4 c4] 50)).alloc (.cells #[.bool false, .slice none 0 0, .slice none 0 0] 50)) := ⟨_, rfl⟩
  rw [← hW] at hS hR
  have HR0 : Hid (RVar (w.heap.size + 2) W.drew) := hR.drew
  clear hR
  have HA : Hid (∀ W : World, ((W.cell? ⟨w.heap.size, 0, none⟩ = some (.bool s1) ∧ W.cell? ⟨w.heap.size, 1, none⟩ = some (.slice a1 n1 c1) ∧ W.cell? ⟨w.heap.size, 2, none⟩ = some (.slice a2 n2 c2) ∧ W.cell? ⟨w.heap.size + 1, 0, none⟩ = some (.bool s2) ∧ W.cell? ⟨w.heap.size + 1, 1, none⟩ = some (.slice a3 n3 c3) ∧ W.cell? ⟨w.heap.size + 1, 2, none⟩ = some (.slice a4 n4 c4)) ∧ PrAt w s1 s2 (.slice a1 n1 c1) (.slice a2 n2 c2) (.slice a3 n3 c3) (.slice a4 n4 c4) A1 D1 A2 D2 W) → Calls Oabg.prog 73 #[.slice a1 n1 c1, .slice a4 n4 c4] W fun e w' => ∃ r, e = .returned r ∧ IsN w' r (A1 * D2) ∧ Below W.heap.size W w') := fun W k => mul_any k.2.n1 k.2.d2 HF.out.a1 HF.out.d2
  have HB : Hid (∀ W : World, ((W.cell? ⟨w.heap.size, 0, none⟩ = some (.bool s1) ∧ W.cell? ⟨w.heap.size, 1, none⟩ = some (.slice a1 n1 c1) ∧ W.cell? ⟨w.heap.size, 2, none⟩ = some (.slice a2 n2 c2) ∧ W.cell? ⟨w.heap.size + 1, 0, none⟩ = some (.bool s2) ∧ W.cell? ⟨w.heap.size + 1, 1, none⟩ = some (.slice a3 n3 c3) ∧ W.cell? ⟨w.heap.size + 1, 2, none⟩ = some (.slice a4 n4 c4)) ∧ PrAt w s1 s2 (.slice a1 n1 c1) (.slice a2 n2 c2) (.slice a3 n3 c3) (.slice a4 n4 c4) A1 D1 A2 D2 W) → Calls Oabg.prog 73 #[.slice a3 n3 c3, .slice a2 n2 c2] W fun e w' => ∃ r, e = .returned r ∧ IsN w' r (A2 * D1) ∧ Below W.heap.size W w') := fun W k => mul_any k.2.n2 k.2.d1 HF.out.a2 HF.out.d1
  have HC : Hid (∀ W : World, ((W.cell? ⟨w.heap.size, 0, none⟩ = some (.bool s1) ∧ W.cell? ⟨w.heap.size, 1, none⟩ = some (.slice a1 n1 c1) ∧ W.cell? ⟨w.heap.size, 2, none⟩ = some (.slice a2 n2 c2) ∧ W.cell? ⟨w.heap.size + 1, 0, none⟩ = some (.bool s2) ∧ W.cell? ⟨w.heap.size + 1, 1, none⟩ = some (.slice a3 n3 c3) ∧ W.cell? ⟨w.heap.size + 1, 2, none⟩ = some (.slice a4 n4 c4)) ∧ PrAt w s1 s2 (.slice a1 n1 c1) (.slice a2 n2 c2) (.slice a3 n3 c3) (.slice a4 n4 c4) A1 D1 A2 D2 W) → Calls Oabg.prog 73 #[.slice a2 n2 c2, .slice a4 n4 c4] W fun e w' => ∃ r, e = .returned r ∧ IsN w' r (D1 * D2) ∧ Below W.heap.size W w') := fun W k => mul_any k.2.d1 k.2.d2 HF.out.d1 HF.out.d2
  obtain ⟨X, hX⟩ : ∃ X, X = A1 * D2 := ⟨_, rfl⟩
  obtain ⟨Y, hY⟩ : ∃ Y, Y = A2 * D1 := ⟨_, rfl⟩
  obtain ⟨Z, hZ⟩ : ∃ Z, Z = D1 * D2 := ⟨_, rfl⟩
  have HXF : Hid (FitW X) := ⟨by rw [hX]; exact HF.out.x⟩
  have HYF : Hid (FitW Y) := ⟨by rw [hY]; exact HF.out.y⟩
  rw [← hX] at HA ⊢
  rw [← hY] at HB ⊢
  rw [← hZ] at HC ⊢
  clear hX hY hZ HF
  obtain ⟨G, hG⟩ : ∃ G, G = sumG s1 s2 X Y := ⟨_, rfl⟩
  obtain ⟨V, hV⟩ : ∃ V, V = sumV s1 s2 X Y := ⟨_, rfl⟩
  rw [← hG, ← hV]
  have HG : Hid (G = if s1 = s2 then s1 else if Y ≤ X then s1 else s2) := hG
  have HV : Hid (V = if s1 = s2 then X + Y else if Y ≤ X then X - Y else Y - X) := hV
  clear hG hV
  go_enter Oabg.func162, Oabg.ntmps162
  go_upto_region 1 with (fail)
  rw [show (((w.alloc (.cells #[.bool s1, .slice a1 n1 c1, .slice a2 n2 c2] 50)).alloc (.cells #[.bool s2, .slice a3 n3 c3, .slice a4 n4 c4] 50)).alloc (.cells #[.bool false, .slice none 0 0, .slice none 0 0] 50)) = W from hW.symm]
  clear hW
  go_cut [5, 6] (fun s5 s6 wx => ∃ a5 n5 c5 a6 n6 c6, s5 = .slice a5 n5 c5 ∧ s6 = .slice a6 n6 c6 ∧ IsN wx (.slice a5 n5 c5) X ∧ IsN wx (.slice a6 n6 c6) Y ∧ PrAt w s1 s2 (.slice a1 n1 c1) (.slice a2 n2 c2) (.slice a3 n3 c3) (.slice a4 n4 c4) A1 D1 A2 D2 wx ∧ RVar (w.heap.size + 2) wx)
  case first =>
    obtain ⟨p0, p1, p2, q0, q1, q2, HK⟩ := hS.all
    clear hS
    go_region_held3 (fun W => (W.cell? ⟨w.heap.size, 0, none⟩ = some (.bool s1) ∧ W.cell? ⟨w.heap.size, 1, none⟩ = some (.slice a1 n1 c1) ∧ W.cell? ⟨w.heap.size, 2, none⟩ = some (.slice a2 n2 c2) ∧ W.cell? ⟨w.heap.size + 1, 0, none⟩ = some (.bool s2) ∧ W.cell? ⟨w.heap.size + 1, 1, none⟩ = some (.slice a3 n3 c3) ∧ W.cell? ⟨w.heap.size + 1, 2, none⟩ = some (.slice a4 n4 c4)) ∧ PrAt w s1 s2 (.slice a1 n1 c1) (.slice a2 n2 c2) (.slice a3 n3 c3) (.slice a4 n4 c4) A1 D1 A2 D2 W)
      (first
        | exact ⟨⟨p0, p1, p2, q0, q1, q2⟩, HK.out.drew⟩
        | (with_reducible refine keepPr hbA ?_; assumption)
        | (with_reducible refine keepPr hbB ?_; assumption))
      (first
        | (go_at_call_of 73 (Value.slice a1 n1 c1); refine (HA.out _ (by assumption)).mono ?_; rintro ee wA ⟨xA, rfl, hA, hbA⟩; obtain ⟨e1, e2, e3, rfl⟩ := hA.shape)
        | (go_at_call_of 73 (Value.slice a3 n3 c3); refine (HB.out _ (by assumption)).mono ?_; rintro ee wB ⟨xB, rfl, hB, hbB⟩; obtain ⟨f1, f2, f3, rfl⟩ := hB.shape))
    rename_i hH
    go_wp2
    go_meet
    exact ⟨_, _, _, _, _, _, rfl, rfl, hA.step hbB, hB, hH.2, (HR0.out.step hbA).step hbB⟩
  case rest =>
  obtain ⟨a5, n5, c5, a6, n6, c6, rfl, rfl, hx, hy, hP, hR⟩ := hcut
  clear HA HB HR0 hS
  obtain ⟨p0, p1, p2, q0, q1, q2, HP⟩ := hP.all
  have HXx : Hid (IsN _ (.slice a5 n5 c5) X) := hx
  have HYy : Hid (IsN _ (.slice a6 n6 c6) Y) := hy
  have HRv : Hid (RVar (w.heap.size + 2) _) := hR
  clear hx hy hR hP
  go_wp2_with fail
  go_at_call 73
  refine (HC.out _ ⟨⟨p0, p1, p2, q0, q1, q2⟩, HP.out⟩).mono ?_
  rintro ee w2 ⟨z, rfl, hz, hb⟩
  obtain ⟨a7, n7, c7, rfl⟩ := hz.shape
  have hM : SmAt w s1 s2 (.slice a1 n1 c1) (.slice a2 n2 c2) (.slice a3 n3 c3) (.slice a4 n4 c4) A1 D1 A2 D2 (.slice a5 n5 c5) (.slice a6 n6 c6) (.slice a7 n7 c7) X Y Z w2 := ⟨HP.out.step hb, HRv.out.step hb, HXx.out.step hb, HYy.out.step hb, hz⟩
  clear p0 p1 p2 q0 q1 q2 HP HXx HYy HRv hz hb HC
  by_cases hs : s1 = s2
  · have hG : G = s1 := by have := HG.out; rw [if_pos hs] at this; exact this
    have hV : V = X + Y := by have := HV.out; rw [if_pos hs] at this; exact this
    subst hs
    have HGs : Hid (G = s1) := hG
    have HVs : Hid (V = X + Y) := hV
    clear HG HV hG hV
    have HAd : Hid (Calls Oabg.prog 76 #[.slice a5 n5 c5, .slice a6 n6 c6] w2.drew fun e w' => ∃ r, e = .returned r ∧ IsN w' r (X + Y) ∧ Below w2.drew.heap.size w2.drew w') := add_any hM.drew.x hM.drew.y HXF.out.f HYF.out.f
    have hqb : (s1 == s1) = true := beq_self_eq_true _
    obtain ⟨⟨p0, p1, p2, q0, q1, q2⟩, ⟨r0, r1, r2, rf, rs⟩, HK⟩ := hM.all
    clear hM
    go_upto_region 4 with (fail)
    clear r0 r1 r2 rf rs
    have HKd : Hid (SmAt w s1 s1 (.slice a1 n1 c1) (.slice a2 n2 c2) (.slice a3 n3 c3) (.slice a4 n4 c4) A1 D1 A2 D2 (.slice a5 n5 c5) (.slice a6 n6 c6) (.slice a7 n7 c7) X Y Z w2.drew) := HK.out.drew
    clear HK
    go_region_held3 (fun W => (W.cell? ⟨w.heap.size, 0, none⟩ = some (.bool s1) ∧ W.cell? ⟨w.heap.size, 1, none⟩ = some (.slice a1 n1 c1) ∧ W.cell? ⟨w.heap.size, 2, none⟩ = some (.slice a2 n2 c2) ∧ W.cell? ⟨w.heap.size + 1, 0, none⟩ = some (.bool s1) ∧ W.cell? ⟨w.heap.size + 1, 1, none⟩ = some (.slice a3 n3 c3) ∧ W.cell? ⟨w.heap.size + 1, 2, none⟩ = some (.slice a4 n4 c4)) ∧ PrAt w s1 s1 (.slice a1 n1 c1) (.slice a2 n2 c2) (.slice a3 n3 c3) (.slice a4 n4 c4) A1 D1 A2 D2 W)
      (first
        | exact ⟨⟨p0, p1, p2, q0, q1, q2⟩, HKd.out.pr⟩
        | (with_reducible refine keepPr hbA ?_; assumption)
        | (with_reducible refine keepPrS HRA.out ?_; assumption))
      (first
        | (go_at_call 76; refine HAd.out.mono ?_; rintro ee wA ⟨xA, rfl, hA, hbA⟩; obtain ⟨e1, e2, e3, rfl⟩ := hA.shape; have HRA : Hid (RVar (w.heap.size + 2) wA) := HKd.out.rv.step hbA; obtain ⟨r0, r1, r2, rf, rs, _⟩ := HRA.out.all))
    rename_i hH
    clear hH
    have HK : Hid (SmAt w s1 s1 (.slice a1 n1 c1) (.slice a2 n2 c2) (.slice a3 n3 c3) (.slice a4 n4 c4) A1 D1 A2 D2 (.slice a5 n5 c5) (.slice a6 n6 c6) (.slice a7 n7 c7) X Y Z wA) := HKd.out.step hbA
    have HX : Hid (IsN wA (.slice e1 e2 e3) (X + Y)) := hA
    clear hA hbA HKd
    go_wp2
    exact bodyPost_ret (v := .agg #[.bool s1, .slice e1 e2 e3, .slice a7 n7 c7]) (by simp [results, Oabg.results162, go_sem, r0, r1, r2]) rfl ⟨_, rfl, by rw [HGs.out, HVs.out]; exact ⟨_, _, _, _, _, _, rfl, HX.out.setR HK.out.rv, HK.out.z.setR HK.out.rv⟩, below_set3 HK.out.pr.below (by omega)⟩
  have hsb : (s1 == s2) = false := by rw [beq_eq_false_iff_ne]; exact hs
  by_cases hle : Y ≤ X
  · have hG : G = s1 := by have := HG.out; rw [if_neg hs, if_pos hle] at this; exact this
    have hV : V = X - Y := by have := HV.out; rw [if_neg hs, if_pos hle] at this; exact this
    have HGs : Hid (G = s1) := hG
    have HVs : Hid (V = X - Y) := hV
    clear HG HV hs hG hV
    obtain ⟨⟨p0, p1, p2, q0, q1, q2⟩, ⟨r0, r1, r2, rf, rs⟩, HK⟩ := hM.all
    clear hM
    go_wp2_with fail
    go_at_call 90
    refine (sub_any HK.out.x HK.out.y HXF.out.f hle).mono ?_
    rintro ee w3 ⟨xA, rfl, hA, hb⟩
    obtain ⟨e1, e2, e3, rfl⟩ := hA.shape
    have HX : Hid (IsN w3 (.slice e1 e2 e3) (X - Y)) := hA
    have hM := HK.out.step hb
    clear p0 p1 p2 q0 q1 q2 r0 r1 r2 rf rs HK hA hb hle
    obtain ⟨⟨p0, p1, p2, q0, q1, q2⟩, ⟨r0, r1, r2, rf, rs⟩, HK⟩ := hM.all
    clear hM
    go_wp2
    exact bodyPost_ret (v := .agg #[.bool s1, .slice e1 e2 e3, .slice a7 n7 c7]) (by simp [results, Oabg.results162, go_sem, r0, r1, r2]) rfl ⟨_, rfl, by rw [HGs.out, HVs.out]; exact ⟨_, _, _, _, _, _, rfl, HX.out.setR HK.out.rv, HK.out.z.setR HK.out.rv⟩, below_set3 HK.out.pr.below (by omega)⟩
  · have hG : G = s2 := by have := HG.out; rw [if_neg hs, if_neg hle] at this; exact this
    have hV : V = Y - X := by have := HV.out; rw [if_neg hs, if_neg hle] at this; exact this
    have HGs : Hid (G = s2) := hG
    have HVs : Hid (V = Y - X) := hV
    clear HG HV hs hG hV
    obtain ⟨⟨p0, p1, p2, q0, q1, q2⟩, ⟨r0, r1, r2, rf, rs⟩, HK⟩ := hM.all
    clear hM
    go_wp2_with fail
    go_at_call 90
    refine (sub_less HK.out.x HK.out.y (by omega)).mono ?_
    rintro ee w3 ⟨rfl, hb⟩
    have hM := HK.out.step hb
    clear p0 p1 p2 q0 q1 q2 r0 r1 r2 rf rs HK hb
    obtain ⟨⟨p0, p1, p2, q0, q1, q2⟩, ⟨r0, r1, r2, rf, rs⟩, HK⟩ := hM.all
    clear hM
    go_wp2_with fail
    go_at_call 90
    refine (sub_any HK.out.y HK.out.x HYF.out.f (by omega)).mono ?_
    rintro ee w4 ⟨xA, rfl, hA, hb⟩
    obtain ⟨e1, e2, e3, rfl⟩ := hA.shape
    have HX : Hid (IsN w4 (.slice e1 e2 e3) (Y - X)) := hA
    have hM := HK.out.step hb
    clear p0 p1 p2 q0 q1 q2 r0 r1 r2 rf rs HK hA hb hle
    obtain ⟨⟨p0, p1, p2, q0, q1, q2⟩, ⟨r0, r1, r2, rf, rs⟩, HK⟩ := hM.all
    clear hM
    go_wp2
    exact bodyPost_ret (v := .agg #[.bool s2, .slice e1 e2 e3, .slice a7 n7 c7]) (by simp [results, Oabg.results162, go_sem, r0, r1, r2]) rfl ⟨_, rfl, by rw [HGs.out, HVs.out]; exact ⟨_, _, _, _, _, _, rfl, HX.out.setR HK.out.rv, HK.out.z.setR HK.out.rv⟩, below_set3 HK.out.pr.below (by omega)⟩

end Go.Proofs.Ygcoab
