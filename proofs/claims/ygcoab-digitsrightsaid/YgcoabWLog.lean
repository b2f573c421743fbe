import Derived.Test.YgcoabPlainLog
namespace Go.Proofs.Ygcoab
open Go.RowKit

/-- a fraction in its box -/
structure VbAt (w : World) (s : Bool) (u v : Value) (A D : Nat) (W : World) : Prop where
  p : RatV w.heap.size s u v W
  n : IsN W u A
  d : IsN W v D
  below : Below w.heap.size w W

theorem VbAt.step {w W W' : World} {s : Bool} {u v : Value} {A D : Nat} (h : VbAt w s u v A D W) (hb : Below W.heap.size W W') : VbAt w s u v A D W' :=
  ⟨h.p.step hb, h.n.step hb, h.d.step hb, below_step h.below h.below.size hb⟩

theorem VbAt.drew {w W : World} {s : Bool} {u v : Value} {A D : Nat} (h : VbAt w s u v A D W) : VbAt w s u v A D W.drew := ⟨h.p.drew, h.n, h.d, h.below.drew⟩

theorem VbAt.start {w : World} (s : Bool) {u v : Value} {A D : Nat} (hn : IsN w u A) (hd : IsN w v D) : VbAt w s u v A D (w.alloc (.cells #[.bool s, u, v] 50)) :=
  ⟨RatV.start w s u v, hn.step (below_alloc _ _), hd.step (below_alloc _ _), below_alloc _ _⟩

theorem keepVb {w W W' : World} {s : Bool} {u v : Value} {A D : Nat} (hb : Below W.heap.size W W')
    (h : (W.cell? ⟨w.heap.size, 0, none⟩ = some (.bool s) ∧ W.cell? ⟨w.heap.size, 1, none⟩ = some u ∧ W.cell? ⟨w.heap.size, 2, none⟩ = some v) ∧ VbAt w s u v A D W) :
    (W'.cell? ⟨w.heap.size, 0, none⟩ = some (.bool s) ∧ W'.cell? ⟨w.heap.size, 1, none⟩ = some u ∧ W'.cell? ⟨w.heap.size, 2, none⟩ = some v) ∧ VbAt w s u v A D W' :=
  have k := h.2.step hb
  ⟨⟨k.p.c0, k.p.c1, k.p.c2⟩, k⟩

/-- k is log10 of A/D -/
structure LogTen (A D : Nat) (k : Int) : Prop where
  le : TenLe A D k
  lt : ¬ TenLe A D (k + 1)
  lo : -700 ≤ k
  hi : k ≤ 1100

/-- numbers that log10 takes -/
structure LogFit (A D : Nat) : Prop where
  a : A < 2 ^ vb
  d : D < 2 ^ vb
  pd : 0 < D

theorem LogFit.fit {A D : Nat} (h : LogFit A D) {k : Int} (h1 : -2700 ≤ k) (h2 : k ≤ 2700) : Fit4 (tenN k) (tenD k) A D := by
  have hb := b5_eq
  have hv := vb_eq
  exact fit4_of (tenN_b5 h2) (tenD_b5 h1) (Nat.lt_of_lt_of_le h.a (two_pow_le (by omega))) (Nat.lt_of_lt_of_le h.d (two_pow_le (by omega)))

set_option maxRecDepth 100000 in
set_option maxHeartbeats 2000000 in
theorem log10_any {w : World} {p : Value} {s : Bool} {A D : Nat} (hp : RatAt w p s A D) (hf : LogFit A D) (hpa : 0 < A) :
    Calls Oabg.prog 62 #[p] w fun e w' => ∃ k, e = .returned (.int .i64 k) ∧ LogTen A D k ∧ Below w.heap.size w w' := by
  obtain ⟨a1, n1, c1, a2, n2, c2, rfl, i1, j1⟩ := hp
  have hS := VbAt.start s i1 j1
  clear i1 j1
  obtain ⟨W0, hW⟩ : ∃ W, W = w.alloc (.cells #[.bool s, .slice a1 n1 c1, .slice a2 n2 c2] 50) := ⟨_, rfl⟩
  rw [← hW] at hS
  have hbA := blen_le hf.a
  have hbD := blen_le hf.d
  have hv := vb_eq
  obtain ⟨d, hd⟩ : ∃ d : Int, d = (blen A : Int) - (blen D : Int) := ⟨_, rfl⟩
  obtain ⟨dm, hdm⟩ : ∃ dm : Int, dm = d * 1233 := ⟨_, rfl⟩
  obtain ⟨k1, hk1⟩ : ∃ k : Int, k = dm / 4096 := ⟨_, rfl⟩
  obtain ⟨k0, hk0⟩ : ∃ k : Int, k = k1 - 1 := ⟨_, rfl⟩
  have HG : Hid (TenLe A D k0) := ten_guess hpa hd (by omega) (by omega) (by rw [hk0, hk1, hdm])
  have HKb : Hid (-700 ≤ k0 ∧ k0 ≤ 2000) := ⟨by omega, by omega⟩
  have ew1 : IntKind.i64.wrap ((blen A : Int) - (blen D : Int)) = d := by rw [IntKind.wrap_i64]; omega
  have ew2 : IntKind.i64.wrap (d * 1233) = dm := by rw [IntKind.wrap_i64]; omega
  have ew3 : IntKind.i64.wrap (k1 - 1) = k0 := by rw [IntKind.wrap_i64]; omega
  have esh : dm / 4096 = k1 := hk1.symm
  have HF : Hid (LogFit A D) := hf
  have HB1 : Hid (∀ W : World, ((W.cell? ⟨w.heap.size, 0, none⟩ = some (.bool s) ∧ W.cell? ⟨w.heap.size, 1, none⟩ = some (.slice a1 n1 c1) ∧ W.cell? ⟨w.heap.size, 2, none⟩ = some (.slice a2 n2 c2)) ∧ VbAt w s (.slice a1 n1 c1) (.slice a2 n2 c2) A D W) → Calls Oabg.prog 98 #[.slice a1 n1 c1] W fun e w' => e = .returned (.int .i64 (blen A)) ∧ w' = W) := fun W k => bitLen_any k.2.n (fits_of HF.out.a (by omega))
  have HB2 : Hid (∀ W : World, ((W.cell? ⟨w.heap.size, 0, none⟩ = some (.bool s) ∧ W.cell? ⟨w.heap.size, 1, none⟩ = some (.slice a1 n1 c1) ∧ W.cell? ⟨w.heap.size, 2, none⟩ = some (.slice a2 n2 c2)) ∧ VbAt w s (.slice a1 n1 c1) (.slice a2 n2 c2) A D W) → Calls Oabg.prog 98 #[.slice a2 n2 c2] W fun e w' => e = .returned (.int .i64 (blen D)) ∧ w' = W) := fun W k => bitLen_any k.2.d (fits_of HF.out.d (by omega))
  generalize blen A = bA at *
  generalize blen D = bD at *
  clear hf hpa hbA hbD hv hd hdm hk1 hk0
  go_enter Oabg.func62, Oabg.ntmps62
  go_upto_region 1 with (fail)
  rw [show w.alloc (.cells #[.bool s, .slice a1 n1 c1, .slice a2 n2 c2] 50) = W0 from hW.symm]
  clear hW
  go_cut [3] (fun s3 wx => s3 = .int .i64 k1 ∧ VbAt w s (.slice a1 n1 c1) (.slice a2 n2 c2) A D wx)
  case first =>
    have p0 := hS.p.c0
    have p1 := hS.p.c1
    have p2 := hS.p.c2
    have HK : Hid (VbAt w s (.slice a1 n1 c1) (.slice a2 n2 c2) A D W0) := hS
    clear hS ew3
    go_region_held3 (fun W => (W.cell? ⟨w.heap.size, 0, none⟩ = some (.bool s) ∧ W.cell? ⟨w.heap.size, 1, none⟩ = some (.slice a1 n1 c1) ∧ W.cell? ⟨w.heap.size, 2, none⟩ = some (.slice a2 n2 c2)) ∧ VbAt w s (.slice a1 n1 c1) (.slice a2 n2 c2) A D W)
      (first
        | exact ⟨⟨p0, p1, p2⟩, HK.out.drew⟩
        | assumption)
      (first
        | (go_at_call_of 98 (Value.slice a1 n1 c1); refine (HB1.out _ (by assumption)).mono ?_; rintro ee w' ⟨rfl, hq⟩; obtain rfl := hq.symm)
        | (go_at_call_of 98 (Value.slice a2 n2 c2); refine (HB2.out _ (by assumption)).mono ?_; rintro ee w' ⟨rfl, hq⟩; obtain rfl := hq.symm))
    rename_i hH
    go_wp2
    go_meet
    exact ⟨rfl, hH.2⟩
  case rest =>
  obtain ⟨rfl, hK⟩ := hcut
  clear hS HB1 HB2 ew1 ew2 esh
  go_wp2_with fail
  go_loopg [3] 6000 (fun n s3 wr => ∃ k : Int, s3 = .int .i64 k ∧ VbAt w s (.slice a1 n1 c1) (.slice a2 n2 c2) A D wr ∧ TenLe A D k ∧ (-700 ≤ k ∧ k ≤ 2000) ∧ (2000 - k).toNat ≤ n)
  case atStart => exact ⟨k0, rfl, hK, HG.out, HKb.out, by have := HKb.out; omega⟩
  case round =>
    obtain ⟨k, rfl, hV, hT, hkb, hn⟩ := hrel
    clear hK HG HKb ew3
    obtain ⟨kn, hkn⟩ : ∃ kn, kn = k + 1 := ⟨_, rfl⟩
    have ew4 : IntKind.i64.wrap (k + 1) = kn := by rw [IntKind.wrap_i64]; omega
    have HT : Hid (∀ w : World, Calls Oabg.prog 100 #[.int .i64 kn] w fun e w' => ∃ r, e = .returned r ∧ RatAt w' r false (tenN kn) (tenD kn) ∧ Below w.heap.size w w') := fun w => tenTo_any kn (by omega) (by omega) w
    obtain ⟨z, hz⟩ : ∃ z, z = cmpZ (tenN kn * D) (A * tenD kn) := ⟨_, rfl⟩
    have HC : Hid (∀ (W : World) (e1 : Option Addr) (e2 e3 : Nat) (f1 : Option Addr) (f2 f3 : Nat), ((W.cell? ⟨w.heap.size, 0, none⟩ = some (.bool s) ∧ W.cell? ⟨w.heap.size, 1, none⟩ = some (.slice a1 n1 c1) ∧ W.cell? ⟨w.heap.size, 2, none⟩ = some (.slice a2 n2 c2)) ∧ VbAt w s (.slice a1 n1 c1) (.slice a2 n2 c2) A D W) → IsN W (.slice e1 e2 e3) (tenN kn) → IsN W (.slice f1 f2 f3) (tenD kn) → Calls Oabg.prog 99 #[.agg #[.bool false, .slice e1 e2 e3, .slice f1 f2 f3], .agg #[.bool s, .slice a1 n1 c1, .slice a2 n2 c2]] W fun e w' => e = .returned (.int .i8 z) ∧ Below W.heap.size W w') := fun W e1 e2 e3 f1 f2 f3 k k1 k2 => by
      rw [hz]
      exact cmpRat_any ⟨_, _, _, _, _, _, rfl, k1, k2⟩ ⟨_, _, _, _, _, _, rfl, k.2.n, k.2.d⟩ (HF.out.fit (by omega) (by omega))
    have HZ : Hid (z ≤ 0 ↔ TenLe A D kn) := by
      show z ≤ 0 ↔ _
      rw [hz, cz_le]
      exact Iff.rfl
    have HKn : Hid (kn = k + 1) := hkn
    have HKb : Hid (-700 ≤ k ∧ k ≤ 2000) := hkb
    have HN : Hid ((2000 - k).toNat ≤ gk) := hn
    have HTk : Hid (TenLe A D k) := hT
    clear hz hkn hkb hn hT
    go_upto_region 3 with (fail)
    go_cut [20] (fun s20 wx => s20 = .bool (decide (z ≤ 0)) ∧ VbAt w s (.slice a1 n1 c1) (.slice a2 n2 c2) A D wx)
    case first =>
      have p0 := hV.p.c0
      have p1 := hV.p.c1
      have p2 := hV.p.c2
      have HK : Hid (VbAt w s (.slice a1 n1 c1) (.slice a2 n2 c2) A D wr) := hV
      clear hV
      go_region_held3 (fun W => (W.cell? ⟨w.heap.size, 0, none⟩ = some (.bool s) ∧ W.cell? ⟨w.heap.size, 1, none⟩ = some (.slice a1 n1 c1) ∧ W.cell? ⟨w.heap.size, 2, none⟩ = some (.slice a2 n2 c2)) ∧ VbAt w s (.slice a1 n1 c1) (.slice a2 n2 c2) A D W)
        (first
          | exact ⟨⟨p0, p1, p2⟩, HK.out.drew⟩
          | (with_reducible refine keepVb hbA ?_; assumption)
          | (with_reducible refine keepVb hbB ?_; assumption))
        (first
          | (go_at_call 100; refine (HT.out _).mono ?_; rintro ee wA ⟨xA, rfl, hA, hbA⟩; obtain ⟨e1, e2, e3, f1, f2, f3, rfl, iA, jA⟩ := hA)
          | (go_at_call 99; refine (HC.out _ _ _ _ _ _ _ (by assumption) iA jA).mono ?_; rintro ee wB ⟨rfl, hbB⟩))
      rename_i hH
      have HVf : Hid (VbAt w s (.slice a1 n1 c1) (.slice a2 n2 c2) A D _) := hH.2
      clear hH iA jA
      go_wp2
      go_meet
      exact ⟨rfl, HVf.out⟩
    case rest =>
    obtain ⟨rfl, hV2⟩ := hcut
    clear hV HC HT
    by_cases hz0 : z ≤ 0
    · have hd0 : decide (z ≤ 0) = true := decide_eq_true hz0
      have HTn : Hid (TenLe A D kn) := HZ.out.1 hz0
      have HV2 : Hid (VbAt w s (.slice a1 n1 c1) (.slice a2 n2 c2) A D _) := hV2
      clear hV2 HZ hz0
      rw [hd0]
      go_wp2_with fail
      have hkn := HKn.out
      have hkb := HKb.out
      have hn := HN.out
      have hsm := TenLe.small HTn.out HF.out.pd HF.out.a
      go_roundg (2000 - kn).toNat
      case measure => omega
      case rel => exact ⟨kn, rfl, HV2.out, HTn.out, by omega, Nat.le_refl _⟩
    · have hd0 : decide (z ≤ 0) = false := decide_eq_false hz0
      have HLt : Hid (LogTen A D k) := by
        have hsm := TenLe.small HTk.out HF.out.pd HF.out.a
        refine ⟨HTk.out, ?_, HKb.out.1, hsm⟩
        rw [← HKn.out]
        exact fun hq => hz0 (HZ.out.2 hq)
      have HB : Hid (Below w.heap.size w _) := hV2.below
      clear hV2 HZ hz0
      rw [hd0]
      go_wp2
      go_ret
      exact ⟨_, rfl, HLt.out, HB.out⟩

end Go.Proofs.Ygcoab
