import Derived.Test.YgcoabWValue
import Derived.Deep.RegionHeld3
namespace Go.Proofs.Ygcoab
open Go.RowKit

theorem keepV {B P m : Nat} {N : Bool} {c e : Int} {a W W' : World} (hb : Below W.heap.size W W')
    (h : W.cell? ⟨P, 0, none⟩ = some (.bool N) ∧ W.cell? ⟨P, 1, none⟩ = some (.int .i8 c) ∧ W.cell? ⟨P, 2, none⟩ = some (.int .i16 e) ∧ W.cell? ⟨P, 3, none⟩ = some (.int .u64 m) ∧ Below B a W ∧ (B < W.heap.size ∧ P < W.heap.size)) :
    W'.cell? ⟨P, 0, none⟩ = some (.bool N) ∧ W'.cell? ⟨P, 1, none⟩ = some (.int .i8 c) ∧ W'.cell? ⟨P, 2, none⟩ = some (.int .i16 e) ∧ W'.cell? ⟨P, 3, none⟩ = some (.int .u64 m) ∧ Below B a W' ∧ (B < W'.heap.size ∧ P < W'.heap.size) :=
  have k := fun o => hb.cell (p := ⟨P, o, none⟩) h.2.2.2.2.2.2
  ⟨(k 0).trans h.1, (k 1).trans h.2.1, (k 2).trans h.2.2.1, (k 3).trans h.2.2.2.1, below_step h.2.2.2.2.1 (Nat.le_of_lt h.2.2.2.2.2.1) hb, Nat.lt_of_lt_of_le h.2.2.2.2.2.1 hb.size, Nat.lt_of_lt_of_le h.2.2.2.2.2.2 hb.size⟩

theorem keepV3 {B P R m : Nat} {N : Bool} {c e : Int} {a W : World} {u0 u1 u2 : Value} (hR : ¬ (P = R)) (hB : B ≤ R)
    (h : W.cell? ⟨P, 0, none⟩ = some (.bool N) ∧ W.cell? ⟨P, 1, none⟩ = some (.int .i8 c) ∧ W.cell? ⟨P, 2, none⟩ = some (.int .i16 e) ∧ W.cell? ⟨P, 3, none⟩ = some (.int .u64 m) ∧ Below B a W ∧ (B < W.heap.size ∧ P < W.heap.size)) :
    (((W.setCell ⟨R, 0, none⟩ u0).setCell ⟨R, 1, none⟩ u1).setCell ⟨R, 2, none⟩ u2).cell? ⟨P, 0, none⟩ = some (.bool N) ∧ (((W.setCell ⟨R, 0, none⟩ u0).setCell ⟨R, 1, none⟩ u1).setCell ⟨R, 2, none⟩ u2).cell? ⟨P, 1, none⟩ = some (.int .i8 c) ∧
    (((W.setCell ⟨R, 0, none⟩ u0).setCell ⟨R, 1, none⟩ u1).setCell ⟨R, 2, none⟩ u2).cell? ⟨P, 2, none⟩ = some (.int .i16 e) ∧ (((W.setCell ⟨R, 0, none⟩ u0).setCell ⟨R, 1, none⟩ u1).setCell ⟨R, 2, none⟩ u2).cell? ⟨P, 3, none⟩ = some (.int .u64 m) ∧
    Below B a (((W.setCell ⟨R, 0, none⟩ u0).setCell ⟨R, 1, none⟩ u1).setCell ⟨R, 2, none⟩ u2) ∧ (B < (((W.setCell ⟨R, 0, none⟩ u0).setCell ⟨R, 1, none⟩ u1).setCell ⟨R, 2, none⟩ u2).heap.size ∧ P < (((W.setCell ⟨R, 0, none⟩ u0).setCell ⟨R, 1, none⟩ u1).setCell ⟨R, 2, none⟩ u2).heap.size) := by
  have k : ∀ o, (((W.setCell ⟨R, 0, none⟩ u0).setCell ⟨R, 1, none⟩ u1).setCell ⟨R, 2, none⟩ u2).cell? ⟨P, o, none⟩ = W.cell? ⟨P, o, none⟩ := fun o => by
    rw [cell_set_ne _ _ _ _ _ _ (fun h => hR h.1), cell_set_ne _ _ _ _ _ _ (fun h => hR h.1), cell_set_ne _ _ _ _ _ _ (fun h => hR h.1)]
  have z := (below_set3 (v0 := u0) (v1 := u1) (v2 := u2) (b := R) (Below.refl 0 W) (Nat.zero_le _)).size
  exact ⟨(k 0).trans h.1, (k 1).trans h.2.1, (k 2).trans h.2.2.1, (k 3).trans h.2.2.2.1, below_set3 h.2.2.2.2.1 hB, Nat.lt_of_lt_of_le h.2.2.2.2.2.1 z, Nat.lt_of_lt_of_le h.2.2.2.2.2.2 z⟩

set_option maxHeartbeats 8000000 in
theorem value_finite {E M : Nat} (h : FOk E M) (x : Nat) (hx : x < 18446744073709551616) (q : expF E M x ≠ topE E) (w : World) :
    Calls Oabg.prog 27 #[fmtV E M, .int .u64 x] w fun e w' => ∃ r, e = .returned (.tuple #[r, .int .i8 (clsF E M x)]) ∧ RatAt w' r (negF E M x) (vNum E M x) (vDen E M x) ∧ Below w.heap.size w w' := by
  have h' := h
  have hU := fun w => unpack_yes h x hx w
  have hc := cls_finite q
  have hbd := pExp_bounds h x
  have hml := pMan_lt E M x
  have hng : pNeg E M x = negF E M x := by unfold pNeg; rw [if_neg (fun h => q h.1)]
  unfold vNum vDen
  obtain ⟨c, hcc⟩ : ∃ c, c = clsF E M x := ⟨_, rfl⟩
  rw [← hcc] at hc ⊢
  simp only [← hcc] at hU
  obtain ⟨N, hN⟩ : ∃ b, b = pNeg E M x := ⟨_, rfl⟩
  obtain ⟨e, hE⟩ : ∃ b, b = pExp E M x := ⟨_, rfl⟩
  obtain ⟨m, hM⟩ : ∃ b, b = pMan E M x := ⟨_, rfl⟩
  rw [← hng]
  simp only [← hN, ← hE, ← hM] at hU hbd hml ⊢
  have HFi : Hid (FitsN m) := FitsN.of hml (by have := h.m2; omega)
  have hm64 : m < 18446744073709551616 := Nat.lt_trans hml (pow_lt64 (by have := h.m2; omega))
  have he64 : IntKind.i64.wrap e = e := by rw [IntKind.wrap_i64]; omega
  have hbd1 : -65535 ≤ e := by omega
  have hbd2 : e ≤ 65535 := by omega
  have HUn : Hid (∀ w : World, Calls Oabg.prog 66 #[.agg #[.int .u8 E, .int .u8 M], .int .u64 x] w fun r w' => r = .returned (.agg #[.bool N, .int .i8 c, .int .i16 e, .int .u64 m]) ∧ Below w.heap.size w w') := hU
  clear hU hN hE hM hcc q hbd hml hng
  obtain ⟨h1, h2, h3, h4⟩ := h
  unfold fmtV
  go_enter Oabg.func27, Oabg.ntmps27
  go_wp2_with fail
  go_at_call 23
  have hF := (FAt.start w E M).step (below_alloc _ (.cells #[.bool false, .slice none 0 0, .slice none 0 0] 50))
  have hR := rvar_start2 w (.cells #[.int .u8 E, .int .u8 M] 39)
  have hB := ((Below.refl w.heap.size w).alloc (Nat.le_refl _) (.cells #[.int .u8 E, .int .u8 M] 39)).alloc (by simp) (.cells #[.bool false, .slice none 0 0, .slice none 0 0] 50)
  obtain ⟨W, hW⟩ : ∃ W, W = (w.alloc (.cells #[.int .u8 E, .int .u8 M] 39)).alloc (.cells #[.bool false, .slice none 0 0, .slice none 0 0] 50) := ⟨_, rfl⟩
  rw [← hW] at hF hR hB ⊢
  clear hW
  refine (ok_yes h' _).mono ?_
  rintro r w1 ⟨rfl, hb⟩
  have hF1 := hF.step hb
  have hR1 := hR.step hb
  have hB1 := below_step hB (Nat.le_of_lt hF.size) hb
  obtain ⟨c0, c1⟩ := hF1.all
  clear hF hR hB hb
  go_wp2_with fail
  go_at_call 66
  refine (HUn.out _).mono ?_
  rintro r w2 ⟨rfl, hb⟩
  have hV := VAt.start (N := N) (c := c) (e := e) (m := m) (hR1.step hb) (below_step hB1 (Nat.le_of_lt hF1.size) hb)
  clear hF1 hR1 hB1 hb
  have hk : (c == 4) = false := by rw [beq_eq_false_iff_ne]; omega
  have hk2 : (c == 3) = false := by rw [beq_eq_false_iff_ne]; omega
  clear hc
  go_wp2_with fail
  obtain ⟨W3, hW3⟩ : ∃ W3, W3 = w2.alloc (.cells #[.bool N, .int .i8 c, .int .i16 e, .int .u64 m] 99) := ⟨_, rfl⟩
  rw [← hW3] at hV ⊢
  clear hW3
  generalize w2.heap.size = P at hV ⊢
  obtain ⟨p0, p1, p2, p3, r0, r1, r2, rf, rs, ne1, ne2, HV⟩ := hV.all
  clear hV hk hk2 HUn hx c0 c1
  have hV := HV.out
  go_region_held3 (fun w' => w'.cell? ⟨P, 0, none⟩ = some (.bool N) ∧ w'.cell? ⟨P, 1, none⟩ = some (.int .i8 c) ∧ w'.cell? ⟨P, 2, none⟩ = some (.int .i16 e) ∧ w'.cell? ⟨P, 3, none⟩ = some (.int .u64 m) ∧ Below w.heap.size w w' ∧ (w.heap.size < w'.heap.size ∧ P < w'.heap.size))
    (first
      | exact ⟨p0, p1, p2, p3, hV.below.drew, Nat.lt_of_succ_lt hV.rv.size, hV.size⟩
      | (with_reducible refine keepV hb3 ?_; assumption)
      | (with_reducible refine keepV3 ne1 (Nat.le_succ _) ?_; assumption))
    (first
      | (go_at_call 69; refine (fromU64_any m hm64 _).mono ?_; rintro r w3 ⟨u, rfl, hu, hb3⟩; obtain ⟨b0, m0, d0, rfl⟩ := hu.shape; have HU : Hid (IsN w3 (.slice b0 m0 d0) m) := hu; have HV3 : Hid (VAt w P N c e m w3) := hV.drew.step hb3; clear hu)
      | (go_at_call 68; refine (scaled_any N e hbd1 hbd2 HU.out HFi.out).mono ?_; rintro r w4 ⟨v, rfl, hr, hb3⟩; obtain ⟨b1, m1, d1, b2, m2, d2, rfl, hv1, hv2⟩ := hr; have HV1 : Hid (IsN w4 (.slice b1 m1 d1) (sNum m e)) := hv1; have HV2 : Hid (IsN w4 (.slice b2 m2 d2) (sDen e)) := hv2; have hV4 := HV3.out.step hb3; have HV4 : Hid (VAt w P N c e m w4) := hV4; have r0 := hV4.rv.r0; have r1 := hV4.rv.r1; have r2 := hV4.rv.r2; have rf := hV4.rv.rf; clear hv1 hv2 hV4))
  rename_i hH
  go_wp2
  exact bodyPost_ret (v := .tuple #[.agg #[.bool N, .slice b1 m1 d1, .slice b2 m2 d2], .int .i8 c]) (by simp [results, Oabg.results27, go_sem, r0, r1, r2]) rfl ⟨_, rfl, ⟨b1, m1, d1, b2, m2, d2, rfl, HV1.out.setR HV4.out.rv, HV2.out.setR HV4.out.rv⟩, below_set3 HV4.out.below (by omega)⟩

theorem value_yes {E M : Nat} (h : FOk E M) (x : Nat) (hx : x < 18446744073709551616) (w : World) :
    Calls Oabg.prog 27 #[fmtV E M, .int .u64 x] w fun e w' => ∃ r, e = .returned (.tuple #[r, .int .i8 (clsF E M x)]) ∧ RatAt w' r (vNeg E M x) (vNum E M x) (vDen E M x) ∧ Below w.heap.size w w' := by
  by_cases q : expF E M x = topE E
  · have e1 : vNeg E M x = false := by unfold vNeg; rw [if_pos q]
    have e2 : pExp E M x = 0 := by unfold pExp; rw [if_pos q]
    have e3 : pMan E M x = 0 := by unfold pMan; rw [if_pos q]
    have e4 : vNum E M x = 0 := by unfold vNum; rw [e2, e3]; rfl
    have e5 : vDen E M x = 1 := by unfold vDen; rw [e2]; rfl
    rw [e1, e4, e5]
    exact value_special h x hx q w
  · have e1 : vNeg E M x = negF E M x := by unfold vNeg; rw [if_neg q]
    rw [e1]
    exact value_finite h x hx q w

end Go.Proofs.Ygcoab
