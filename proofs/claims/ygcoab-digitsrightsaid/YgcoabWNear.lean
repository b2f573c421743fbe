import Derived.Test.YgcoabWNearH
namespace Go.Proofs.Ygcoab
open Go.RowKit

theorem nv_all {w W : World} {u v x : Value} {A D n : Nat} (h : VbAt w false u v A D W) (hx : IsN W x n) : (W.cell? ⟨w.heap.size, 0, none⟩ = some (.bool false) ∧ W.cell? ⟨w.heap.size, 1, none⟩ = some u ∧ W.cell? ⟨w.heap.size, 2, none⟩ = some v) ∧ VbAt w false u v A D W ∧ IsN W x n := ⟨⟨h.p.c0, h.p.c1, h.p.c2⟩, h, hx⟩

theorem keepNv {w W W' : World} {u v x : Value} {A D n : Nat} (hb : Below W.heap.size W W') (h : (W.cell? ⟨w.heap.size, 0, none⟩ = some (.bool false) ∧ W.cell? ⟨w.heap.size, 1, none⟩ = some u ∧ W.cell? ⟨w.heap.size, 2, none⟩ = some v) ∧ VbAt w false u v A D W ∧ IsN W x n) : (W'.cell? ⟨w.heap.size, 0, none⟩ = some (.bool false) ∧ W'.cell? ⟨w.heap.size, 1, none⟩ = some u ∧ W'.cell? ⟨w.heap.size, 2, none⟩ = some v) ∧ VbAt w false u v A D W' ∧ IsN W' x n := nv_all (h.2.1.step hb) (h.2.2.step hb)

theorem keepTn {w W W' : World} {X n : Nat} {G : Bool} {u v x : Value} {A D : Nat} (hb : Below W.heap.size W W')
    (h : (W.cell? ⟨X, 0, none⟩ = some (.bool G) ∧ W.cell? ⟨X, 1, none⟩ = some u ∧ W.cell? ⟨X, 2, none⟩ = some v) ∧ TwAt w X G u v A D W ∧ IsN W x n) :
    (W'.cell? ⟨X, 0, none⟩ = some (.bool G) ∧ W'.cell? ⟨X, 1, none⟩ = some u ∧ W'.cell? ⟨X, 2, none⟩ = some v) ∧ TwAt w X G u v A D W' ∧ IsN W' x n :=
  have k := h.2.1.step hb
  ⟨⟨k.p.c0, k.p.c1, k.p.c2⟩, k, h.2.2.step hb⟩

theorem keepNvA {w W : World} {o : Obj} {u v x : Value} {A D n : Nat} (h : (W.cell? ⟨w.heap.size, 0, none⟩ = some (.bool false) ∧ W.cell? ⟨w.heap.size, 1, none⟩ = some u ∧ W.cell? ⟨w.heap.size, 2, none⟩ = some v) ∧ VbAt w false u v A D W ∧ IsN W x n) : ((W.alloc o).cell? ⟨w.heap.size, 0, none⟩ = some (.bool false) ∧ (W.alloc o).cell? ⟨w.heap.size, 1, none⟩ = some u ∧ (W.alloc o).cell? ⟨w.heap.size, 2, none⟩ = some v) ∧ VbAt w false u v A D (W.alloc o) ∧ IsN (W.alloc o) x n := nv_all (h.2.1.step (below_alloc _ _)) (h.2.2.step (below_alloc _ _))

theorem keepNvX {w W : World} {R : Nat} {u v x y0 y1 y2 : Value} {A D n : Nat} (hr : RVar R W) (hl : w.heap.size < R) (h : (W.cell? ⟨w.heap.size, 0, none⟩ = some (.bool false) ∧ W.cell? ⟨w.heap.size, 1, none⟩ = some u ∧ W.cell? ⟨w.heap.size, 2, none⟩ = some v) ∧ VbAt w false u v A D W ∧ IsN W x n) : ((((W.setCell ⟨R, 0, none⟩ y0).setCell ⟨R, 1, none⟩ y1).setCell ⟨R, 2, none⟩ y2).cell? ⟨w.heap.size, 0, none⟩ = some (.bool false) ∧ (((W.setCell ⟨R, 0, none⟩ y0).setCell ⟨R, 1, none⟩ y1).setCell ⟨R, 2, none⟩ y2).cell? ⟨w.heap.size, 1, none⟩ = some u ∧ (((W.setCell ⟨R, 0, none⟩ y0).setCell ⟨R, 1, none⟩ y1).setCell ⟨R, 2, none⟩ y2).cell? ⟨w.heap.size, 2, none⟩ = some v) ∧ VbAt w false u v A D (((W.setCell ⟨R, 0, none⟩ y0).setCell ⟨R, 1, none⟩ y1).setCell ⟨R, 2, none⟩ y2) ∧ IsN (((W.setCell ⟨R, 0, none⟩ y0).setCell ⟨R, 1, none⟩ y1).setCell ⟨R, 2, none⟩ y2) x n := nv_all (h.2.1.putX hr hl) (h.2.2.setR hr)

set_option maxRecDepth 100000 in
set_option maxHeartbeats 4000000 in
theorem nearestWhole_yes {w : World} {p : Value} {s0 : Bool} {A D : Nat} (b : ByteArray) (hb0 : 0 < b.size) (hbs : b.size ≤ 5000) (hd : allDig b = true) (hp : RatAt w p s0 A D) (hf : NwFit A D (spTo b b.size)) (hN : NearW A D (spTo b b.size)) :
    Calls Oabg.prog 28 #[.string b, p] w fun e w' => e = .returned (.bool true) ∧ Below w.heap.size w w' := by
  obtain ⟨a1, n1, c1, a2, n2, c2, rfl, i1, j1⟩ := hp
  have hS := VbAt.start s0 i1 j1
  clear i1 j1
  obtain ⟨W0, hW⟩ : ∃ W, W = w.alloc (.cells #[.bool s0, .slice a1 n1 c1, .slice a2 n2 c2] 50) := ⟨_, rfl⟩
  rw [← hW] at hS
  have HI : Hid (∀ w : World, Calls Oabg.prog 16 #[.string b] w fun e w' => e = .returned (.bool true) ∧ w' = w) := fun w => by rw [← hd]; exact isDigits_any b w (by omega)
  have HSp : Hid (∀ w : World, Calls Oabg.prog 32 #[.string b] w fun e w' => ∃ v, e = .returned v ∧ IsN w' v (spTo b b.size) ∧ Below w.heap.size w w') := fun w => spelled_any b hbs hd w
  have hbe := isEmpty_false hb0
  obtain ⟨n, hn⟩ : ∃ n, n = spTo b b.size := ⟨_, rfl⟩
  rw [← hn] at HSp hf hN
  have HF : Hid (NwFit A D n) := hf
  have HN : Hid (NearW A D n) := hN
  clear hn hf hN hb0 hd
  obtain ⟨V, hV⟩ : ∃ V, V = sumV false true (n * D) (A * 1) := ⟨_, rfl⟩
  obtain ⟨G, hG⟩ : ∃ G, G = sumG false true (n * D) (A * 1) := ⟨_, rfl⟩
  have HV : Hid (V = sumV false true (n * D) (A * 1)) := hV
  have HG : Hid (G = sumG false true (n * D) (A * 1)) := hG
  clear hV hG
  go_enter Oabg.func28, Oabg.ntmps28
  go_wp2_with fail
  go_at_call 16
  rw [show w.alloc (.cells #[.bool s0, .slice a1 n1 c1, .slice a2 n2 c2] 50) = W0 from hW.symm]
  clear hW
  refine (HI.out _).mono ?_
  rintro e w1 ⟨rfl, hq⟩
  obtain rfl := hq.symm
  clear HI hq
  go_wp2_with fail
  go_at_call 32
  refine (HSp.out _).mono ?_
  rintro e w2 ⟨v, rfl, hv, hb⟩
  obtain ⟨a3, n3, c3, rfl⟩ := hv.shape
  have hV2 := hS.step hb
  have hV3 := hV2.put0
  have hN3 := hv.set hV2.p.c0 (u := .bool false) (fun _ h => by cases h)
  have p0 := hV2.p.c0
  have pf := hV2.p.cf
  have ps := hV2.p.size
  clear hS hb hv hV2 HSp hbe
  go_upto_region 5 with (fail)
  clear p0 pf ps
  obtain ⟨W1, hW⟩ : ∃ W, W = w2.setCell ⟨w.heap.size, 0, none⟩ (.bool false) := ⟨_, rfl⟩
  rw [← hW] at hV3 hN3 ⊢
  clear hW
  have HWh : Hid (∀ W : World, ((W.cell? ⟨w.heap.size, 0, none⟩ = some (.bool false) ∧ W.cell? ⟨w.heap.size, 1, none⟩ = some (.slice a1 n1 c1) ∧ W.cell? ⟨w.heap.size, 2, none⟩ = some (.slice a2 n2 c2)) ∧ VbAt w false (.slice a1 n1 c1) (.slice a2 n2 c2) A D W ∧ IsN W (.slice a3 n3 c3) n) → Calls Oabg.prog 70 #[.bool false, .slice a3 n3 c3] W fun e w' => ∃ r, e = .returned r ∧ RatAt w' r false n 1 ∧ Below W.heap.size W w') := fun W k => wholeFrac_any false k.2.2
  have HNe : Hid (∀ W : World, ((W.cell? ⟨w.heap.size, 0, none⟩ = some (.bool false) ∧ W.cell? ⟨w.heap.size, 1, none⟩ = some (.slice a1 n1 c1) ∧ W.cell? ⟨w.heap.size, 2, none⟩ = some (.slice a2 n2 c2)) ∧ VbAt w false (.slice a1 n1 c1) (.slice a2 n2 c2) A D W ∧ IsN W (.slice a3 n3 c3) n) → Calls Oabg.prog 43 #[.agg #[.bool false, .slice a1 n1 c1, .slice a2 n2 c2]] W fun e w' => ∃ r, e = .returned r ∧ RatAt w' r true A D ∧ Below W.heap.size W w') := fun W k => negFrac_any (s := false) ⟨_, _, _, _, _, _, rfl, k.2.1.n, k.2.1.d⟩
  have HSu : Hid (∀ (W : World) (x y : Value), RatAt W x false n 1 → RatAt W y true A D → Calls Oabg.prog 44 #[x, y] W fun e w' => ∃ r, e = .returned r ∧ RatAt w' r G V (1 * D) ∧ Below W.heap.size W w') := fun W x y k1 k2 => by
    rw [HG.out, HV.out]
    exact sumFrac_any k1 k2 HF.out.f1
  go_cut [6] (fun s6 wx => ∃ X e1 e2 e3 f1 f2 f3, s6 = .pointer (some ⟨X, 0, none⟩) ∧ TwAt w X G (.slice e1 e2 e3) (.slice f1 f2 f3) V (1 * D) wx ∧ IsN wx (.slice a3 n3 c3) n)
  case first =>
    have HS0 : Hid ((W1.drew.cell? ⟨w.heap.size, 0, none⟩ = some (.bool false) ∧ W1.drew.cell? ⟨w.heap.size, 1, none⟩ = some (.slice a1 n1 c1) ∧ W1.drew.cell? ⟨w.heap.size, 2, none⟩ = some (.slice a2 n2 c2)) ∧ VbAt w false (.slice a1 n1 c1) (.slice a2 n2 c2) A D W1.drew ∧ IsN W1.drew (.slice a3 n3 c3) n) := nv_all hV3.drew hN3.drew
    have HSD : Hid (((W1.alloc (.cells #[.bool false, .slice none 0 0, .slice none 0 0] 50)).drew.cell? ⟨w.heap.size, 0, none⟩ = some (.bool false) ∧ (W1.alloc (.cells #[.bool false, .slice none 0 0, .slice none 0 0] 50)).drew.cell? ⟨w.heap.size, 1, none⟩ = some (.slice a1 n1 c1) ∧ (W1.alloc (.cells #[.bool false, .slice none 0 0, .slice none 0 0] 50)).drew.cell? ⟨w.heap.size, 2, none⟩ = some (.slice a2 n2 c2)) ∧ VbAt w false (.slice a1 n1 c1) (.slice a2 n2 c2) A D (W1.alloc (.cells #[.bool false, .slice none 0 0, .slice none 0 0] 50)).drew ∧ IsN (W1.alloc (.cells #[.bool false, .slice none 0 0, .slice none 0 0] 50)).drew (.slice a3 n3 c3) n) := nv_all (hV3.step (below_alloc W1 (.cells #[.bool false, .slice none 0 0, .slice none 0 0] 50))).drew (hN3.step (below_alloc W1 (.cells #[.bool false, .slice none 0 0, .slice none 0 0] 50))).drew
    have hps := hV3.p.size
    have p0 := hV3.p.c0
    have p1 := hV3.p.c1
    have p2 := hV3.p.c2
    clear hV3 hN3
    go_region_held3 (fun W => (W.cell? ⟨w.heap.size, 0, none⟩ = some (.bool false) ∧ W.cell? ⟨w.heap.size, 1, none⟩ = some (.slice a1 n1 c1) ∧ W.cell? ⟨w.heap.size, 2, none⟩ = some (.slice a2 n2 c2)) ∧ VbAt w false (.slice a1 n1 c1) (.slice a2 n2 c2) A D W ∧ IsN W (.slice a3 n3 c3) n)
      (first
        | exact HS0.out
        | exact HSD.out
        | (with_reducible refine keepNvA ?_; assumption)
        | (with_reducible refine keepNvA ?_; exact HSA.out)
        | (with_reducible refine keepNvA ?_; exact HSB.out)
        | (with_reducible refine keepNvA ?_; exact HSC.out)
        | (with_reducible refine keepNv hbA ?_; assumption)
        | (with_reducible refine keepNv hbB ?_; assumption)
        | (with_reducible refine keepNv hbC ?_; assumption)
        | (with_reducible refine keepNvX H1.out.1 H1.out.2 ?_; assumption)
        | (with_reducible refine keepNvX H2.out.1 H2.out.2 ?_; assumption)
        | (with_reducible refine keepNvX H3.out.1 H3.out.2 ?_; assumption))
      (first
        | (go_at_call 70; refine (HWh.out _ (by assumption)).mono ?_; rintro ee wA ⟨xA, rfl, hA, hbA⟩; obtain ⟨d1, d2, d3, d4, d5, d6, rfl, iA, jA⟩ := hA; have HSA : Hid ((wA.cell? ⟨w.heap.size, 0, none⟩ = some (.bool false) ∧ wA.cell? ⟨w.heap.size, 1, none⟩ = some (.slice a1 n1 c1) ∧ wA.cell? ⟨w.heap.size, 2, none⟩ = some (.slice a2 n2 c2)) ∧ VbAt w false (.slice a1 n1 c1) (.slice a2 n2 c2) A D wA ∧ IsN wA (.slice a3 n3 c3) n) := keepNv hbA (by assumption); (try have H1A : Hid (RVar W1.heap.size wA) := (RVar.start W1).drew.step hbA))
        | (go_at_call 43; refine (HNe.out _ (by assumption)).mono ?_; rintro ee wB ⟨xB, rfl, hB, hbB⟩; obtain ⟨g1, g2, g3, g4, g5, g6, rfl, iB, jB⟩ := hB; have HSB : Hid ((wB.cell? ⟨w.heap.size, 0, none⟩ = some (.bool false) ∧ wB.cell? ⟨w.heap.size, 1, none⟩ = some (.slice a1 n1 c1) ∧ wB.cell? ⟨w.heap.size, 2, none⟩ = some (.slice a2 n2 c2)) ∧ VbAt w false (.slice a1 n1 c1) (.slice a2 n2 c2) A D wB ∧ IsN wB (.slice a3 n3 c3) n) := keepNv hbB (by assumption); have HXB : Hid (IsN wB (.slice d1 d2 d3) n) := IsN.step (by first | with_reducible exact iA | with_reducible exact iA.alc) hbB; have HYB : Hid (IsN wB (.slice d4 d5 d6) 1) := IsN.step (by first | with_reducible exact jA | with_reducible exact jA.alc) hbB; (try have H1B : Hid (RVar W1.heap.size wB) := H1A.out.step hbB); (try have H2B : Hid (RVar wA.heap.size wB) := (RVar.start wA).step hbB))
        | (go_at_call 44; refine (HSu.out _ _ _ ⟨_, _, _, _, _, _, rfl, (by first | with_reducible exact HXB.out | with_reducible exact HXB.out.alc), (by first | with_reducible exact HYB.out | with_reducible exact HYB.out.alc)⟩ ⟨_, _, _, _, _, _, rfl, (by first | with_reducible exact iB | with_reducible exact iB.alc), (by first | with_reducible exact jB | with_reducible exact jB.alc)⟩).mono ?_; rintro ee wC ⟨xC, rfl, hC, hbC⟩; obtain ⟨e1, e2, e3, f1, f2, f3, rfl, iC, jC⟩ := hC; have HSC : Hid ((wC.cell? ⟨w.heap.size, 0, none⟩ = some (.bool false) ∧ wC.cell? ⟨w.heap.size, 1, none⟩ = some (.slice a1 n1 c1) ∧ wC.cell? ⟨w.heap.size, 2, none⟩ = some (.slice a2 n2 c2)) ∧ VbAt w false (.slice a1 n1 c1) (.slice a2 n2 c2) A D wC ∧ IsN wC (.slice a3 n3 c3) n) := keepNv hbC (by assumption); (try have H1 : Hid (RVar W1.heap.size wC ∧ w.heap.size < W1.heap.size) := ⟨H1B.out.step hbC, hps⟩); (try have H2 : Hid (RVar wA.heap.size wC ∧ w.heap.size < wA.heap.size) := ⟨H2B.out.step hbC, HSA.out.2.1.p.size⟩); (try have H3 : Hid (RVar wB.heap.size wC ∧ w.heap.size < wB.heap.size) := ⟨(RVar.start wB).step hbC, HSB.out.2.1.p.size⟩); (try obtain ⟨r0, r1, r2, rf, rs, _⟩ := H1.out.1.all); (try obtain ⟨r0, r1, r2, rf, rs, _⟩ := H2.out.1.all); (try obtain ⟨r0, r1, r2, rf, rs, _⟩ := H3.out.1.all)))
    all_goals (rename_i hH; have HBl : Hid (Below w.heap.size w _ ∧ IsN _ (.slice a3 n3 c3) n) := ⟨hH.2.1.below, hH.2.2⟩; clear hH; have HIC : Hid (IsN wC (.slice e1 e2 e3) V) := iC; have HJC : Hid (IsN wC (.slice f1 f2 f3) (1 * D)) := jC; clear iA jA iB jB iC jC)
    all_goals go_wp2
    all_goals go_meet
    all_goals first
      | exact ⟨_, _, _, _, _, _, _, rfl, ⟨RatV.start wC G _ _, HIC.out.alc, HJC.out.alc, HBl.out.1⟩, HBl.out.2⟩
      | exact ⟨_, _, _, _, _, _, _, rfl, ⟨H1.out.1.ratV.put, HIC.out.setR H1.out.1, HJC.out.setR H1.out.1, HBl.out.1⟩, HBl.out.2⟩
      | exact ⟨_, _, _, _, _, _, _, rfl, ⟨H2.out.1.ratV.put, HIC.out.setR H2.out.1, HJC.out.setR H2.out.1, HBl.out.1⟩, HBl.out.2⟩
      | exact ⟨_, _, _, _, _, _, _, rfl, ⟨H3.out.1.ratV.put, HIC.out.setR H3.out.1, HJC.out.setR H3.out.1, HBl.out.1⟩, HBl.out.2⟩
  case rest =>
  obtain ⟨X, e1, e2, e3, f1, f2, f3, rfl, hT, hNn⟩ := hcut
  clear hV3 hN3 HWh HNe HSu
  have HM : Hid (∀ (W : World) (y : Value), ((W.cell? ⟨X, 0, none⟩ = some (.bool G) ∧ W.cell? ⟨X, 1, none⟩ = some (.slice e1 e2 e3) ∧ W.cell? ⟨X, 2, none⟩ = some (.slice f1 f2 f3)) ∧ TwAt w X G (.slice e1 e2 e3) (.slice f1 f2 f3) V (1 * D) W ∧ IsN W (.slice a3 n3 c3) n) → RatAt W y false 2 1 → Calls Oabg.prog 29 #[.agg #[.bool G, .slice e1 e2 e3, .slice f1 f2 f3], y] W fun e w' => ∃ r, e = .returned r ∧ RatAt w' r (!(G == false)) (V * 2) (1 * D * 1) ∧ Below W.heap.size W w') := fun W y k k1 => mulFrac_any ⟨_, _, _, _, _, _, rfl, k.2.1.n, k.2.1.d⟩ k1 (by rw [HV.out]; exact HF.out.f2)
  obtain ⟨z, hz⟩ : ∃ z, z = cmpZ (V * 2 * 1) (1 * (1 * D * 1)) := ⟨_, rfl⟩
  have HC : Hid (∀ (W : World) (x y : Value), RatAt W x (!(G == false)) (V * 2) (1 * D * 1) → RatAt W y false 1 1 → Calls Oabg.prog 33 #[x, y] W fun e w' => e = .returned (.int .i8 z) ∧ Below W.heap.size W w') := fun W x y k1 k2 => by
    rw [hz]
    exact cmpSize_any k1 k2 (by rw [HV.out]; exact HF.out.f3)
  have HZ : Hid (z < 0 ∨ (z = 0 ∧ n % 2 = 0)) := by
    have h1 := HN.out
    unfold NearW at h1
    have h2 : V = sumV false true (n * D) A := by rw [HV.out, Nat.mul_one]
    rw [← h2] at h1
    show z < 0 ∨ _
    rw [hz, cz_lt, cz_eq, Nat.mul_one, Nat.one_mul, Nat.mul_one, Nat.one_mul]
    exact h1
  clear hz HN HV HF HG
  obtain ⟨sg, hsg⟩ : ∃ sg, sg = (!(G == false)) := ⟨_, rfl⟩
  rw [← hsg] at HM HC
  clear hsg
  go_upto_region 6 with (fail)
  go_cut [7] (fun s7 wx => s7 = .int .i8 z ∧ IsN wx (.slice a3 n3 c3) n ∧ Below w.heap.size w wx)
  case first =>
    have p0 := hT.p.c0
    have p1 := hT.p.c1
    have p2 := hT.p.c2
    have HK : Hid (TwAt w X G (.slice e1 e2 e3) (.slice f1 f2 f3) V (1 * D) _ ∧ IsN _ (.slice a3 n3 c3) n) := ⟨hT, hNn⟩
    clear hT hNn
    go_region_held3 (fun W => (W.cell? ⟨X, 0, none⟩ = some (.bool G) ∧ W.cell? ⟨X, 1, none⟩ = some (.slice e1 e2 e3) ∧ W.cell? ⟨X, 2, none⟩ = some (.slice f1 f2 f3)) ∧ TwAt w X G (.slice e1 e2 e3) (.slice f1 f2 f3) V (1 * D) W ∧ IsN W (.slice a3 n3 c3) n)
      (first
        | exact ⟨⟨p0, p1, p2⟩, HK.out.1.drew, HK.out.2.drew⟩
        | (with_reducible refine keepTn hbA ?_; assumption)
        | (with_reducible refine keepTn hbB ?_; assumption)
        | (with_reducible refine keepTn hbC ?_; assumption)
        | (with_reducible refine keepTn hbD ?_; assumption)
        | (with_reducible refine keepTn hbE ?_; assumption))
      (first
        | (go_at_call 54; refine (pow2Frac_one _).mono ?_; rintro ee wA ⟨xA, rfl, hA, hbA⟩; obtain ⟨d1, d2, d3, d4, d5, d6, rfl, iA, jA⟩ := hA)
        | (go_at_call 29; refine (HM.out _ _ (by assumption) ⟨_, _, _, _, _, _, rfl, iA, jA⟩).mono ?_; rintro ee wB ⟨xB, rfl, hB, hbB⟩; obtain ⟨g1, g2, g3, g4, g5, g6, rfl, iB, jB⟩ := hB)
        | (go_at_call 71; refine (one_any _).mono ?_; rintro ee wC ⟨xC, rfl, iC, hbC⟩; obtain ⟨h1, h2, h3, rfl⟩ := iC.shape)
        | (go_at_call 70; refine (wholeFrac_any false iC).mono ?_; rintro ee wD ⟨xD, rfl, hD, hbD⟩; obtain ⟨k1, k2, k3, k4, k5, k6, rfl, iD, jD⟩ := hD)
        | (go_at_call 33; refine (HC.out _ _ _ ⟨_, _, _, _, _, _, rfl, (iB.step hbC).step hbD, (jB.step hbC).step hbD⟩ ⟨_, _, _, _, _, _, rfl, iD, jD⟩).mono ?_; rintro ee wE ⟨rfl, hbE⟩))
    rename_i hH
    have HBl : Hid (Below w.heap.size w _ ∧ IsN _ (.slice a3 n3 c3) n) := ⟨hH.2.1.below, hH.2.2⟩
    clear hH iA jA iB jB iC iD jD
    go_wp2
    go_meet
    exact ⟨rfl, HBl.out.2, HBl.out.1⟩
  case rest =>
  obtain ⟨rfl, hI, hB⟩ := hcut
  clear hT hNn HM HC
  have HB : Hid (Below w.heap.size w _) := hB
  rcases HZ.out with q | ⟨q, q'⟩
  · clear hI hB
    go_wp2
    go_ret
    exact ⟨rfl, HB.out⟩
  · have HBi : Hid (Calls Oabg.prog 72 #[.slice a3 n3 c3, .int .i64 0] wc fun e w' => e = .returned (.bool false) ∧ w' = wc) := by
      have := bit0_any hI
      rw [q'] at this
      exact this
    subst q
    clear hI hB
    go_wp2_with fail
    go_at_call 72
    refine HBi.out.mono ?_
    rintro e w9 ⟨rfl, hq⟩
    obtain rfl := hq.symm
    clear hq
    go_wp2
    go_ret
    exact ⟨rfl, HB.out⟩

end Go.Proofs.Ygcoab
