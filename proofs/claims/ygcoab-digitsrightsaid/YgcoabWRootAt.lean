/- exact.rootAt -/
import Derived.Test.YgcoabWRoot
namespace Go.Proofs.Ygcoab
open Go.RowKit

/-- these values are these naturals -/
def AllN (W : World) (L : List (Value × Nat)) : Prop := ∀ p, p ∈ L → IsN W p.1 p.2

theorem AllN.step {W W' : World} {L : List (Value × Nat)} (h : AllN W L) (hb : Below W.heap.size W W') : AllN W' L := fun p hp => (h p hp).step hb
theorem AllN.cons {W : World} {L : List (Value × Nat)} {v : Value} {N : Nat} (h : AllN W L) (hv : IsN W v N) : AllN W ((v, N) :: L) := fun p hp => by
  cases hp with
  | head => exact hv
  | tail _ hp => exact h p hp
theorem AllN.nil (W : World) : AllN W [] := fun p hp => by cases hp
theorem AllN.h0 {W : World} {p : Value × Nat} {L : List (Value × Nat)} (h : AllN W (p :: L)) : IsN W p.1 p.2 := h p (.head _)
theorem AllN.tl {W : World} {p : Value × Nat} {L : List (Value × Nat)} (h : AllN W (p :: L)) : AllN W L := fun q hq => h q (.tail _ hq)

/-- the root's floor n, raised by mode's rule -/
def rootUp (mode n X Y : Nat) : Nat := if raisesB mode false (n % 2 == 1) (cmpZ (X * 4) ((n * 2 + 1) * (n * 2 + 1) * Y)) (cmpZ (n * n * Y) X != 0) = true then n + 1 else n

structure RtFit (X Y : Nat) : Prop where
  n : SmallN X
  d : SmallN Y
  p : 0 < Y
  q : X / Y < 2 ^ rb

structure RnFit (n : Nat) : Prop where
  a : FitsN n
  b : FitsN (n * 2)
  c : FitsN (n * 2 + 1)
  d : FitsN ((n * 2 + 1) * (n * 2 + 1))
  e : FitsN (n * n)

theorem RtFit.rn {X Y n : Nat} (h : RtFit X Y) (hr : RootOf (X / Y) n) : RnFit n := by
  have hq := h.q
  have h1 := hr.le
  have h2 : n ≤ n * n := Nat.le_mul_self n
  have h3 : n < 2 ^ rb := Nat.lt_of_le_of_lt (Nat.le_trans h2 h1) hq
  have hb := rb_eq
  have h4 : n * 2 + 1 < 2 ^ (rb + 1) := by rw [Nat.pow_succ]; omega
  refine ⟨FitsN.of h3 (by omega), FitsN.of (a := rb + 1) (by omega) (by omega), FitsN.of h4 (by omega), ?_, ?_⟩
  · refine FitsN.of (a := rb + 1 + (rb + 1) + 1) (lt_pow_succ ?_) (by omega)
    rw [Nat.pow_add]
    exact Nat.mul_le_mul (Nat.le_of_lt h4) (Nat.le_of_lt h4)
  · exact FitsN.of (a := rb) (Nat.lt_of_le_of_lt h1 hq) (by omega)

def RtPost (w : World) (mode X Y : Nat) (e : Ending) (w' : World) : Prop :=
  ∃ a l c n half some, e = .returned (.tuple #[.slice a l c, .agg #[.int .i8 half, .bool some]]) ∧ IsN w' (.slice a l c) (rootUp mode n X Y) ∧ RootOf (X / Y) n ∧ Below w.heap.size w w'

/-- rootAt's world: the result's variable -/
structure RaAt (w : World) (L : List (Value × Nat)) (W : World) : Prop where
  rv : HVar (w.heap.size + 2) 0 false W
  all : AllN W L
  below : Below w.heap.size w W

theorem RaAt.step {w W W' : World} {L : List (Value × Nat)} (h : RaAt w L W) (hb : Below W.heap.size W W') : RaAt w L W' :=
  ⟨h.rv.step hb, h.all.step hb, below_step h.below h.below.size hb⟩

theorem RaAt.drew {w W : World} {L : List (Value × Nat)} (h : RaAt w L W) : RaAt w L W.drew :=
  ⟨h.rv.drew, h.all, h.below.drew⟩

theorem RaAt.cons {w W : World} {L : List (Value × Nat)} {v : Value} {N : Nat} (h : RaAt w L W) (hv : IsN W v N) : RaAt w ((v, N) :: L) W := ⟨h.rv, h.all.cons hv, h.below⟩

/-- and the rest's variable -/
structure RqAt (w : World) (Q : Nat) (half : Int) (some : Bool) (v : Value) (n : Nat) (W : World) : Prop where
  res : HVar (w.heap.size + 2) 0 false W
  var : HVar Q half some W
  num : IsN W v n
  below : Below w.heap.size w W

theorem RqAt.step {w W W' : World} {Q n : Nat} {half : Int} {some : Bool} {v : Value} (h : RqAt w Q half some v n W) (hb : Below W.heap.size W W') : RqAt w Q half some v n W' :=
  ⟨h.res.step hb, h.var.step hb, h.num.step hb, below_step h.below h.below.size hb⟩

theorem RqAt.drew {w W : World} {Q n : Nat} {half : Int} {some : Bool} {v : Value} (h : RqAt w Q half some v n W) : RqAt w Q half some v n W.drew :=
  ⟨h.res.drew, h.var.drew, h.num.drew, h.below.drew⟩

theorem RqAt.start {w W : World} {n : Nat} (half : Int) (some : Bool) {v : Value} (res : HVar (w.heap.size + 2) 0 false W) (num : IsN W v n) (below : Below w.heap.size w W) :
    RqAt w W.heap.size half some v n (W.alloc (.cells #[.int .i8 half, .bool some] 136)) := by
  have hA := below_alloc W (.cells #[.int .i8 half, .bool some] 136)
  exact ⟨res.step hA, HVar.start W half some, num.step hA, below_step below below.size hA⟩

theorem RqAt.all {w W : World} {Q n : Nat} {half : Int} {some : Bool} {v : Value} (h : RqAt w Q half some v n W) :
    W.cell? ⟨Q, 0, none⟩ = .some (.int .i8 half) ∧ W.cell? ⟨Q, 1, none⟩ = .some (.bool some) ∧ W.cell? ⟨w.heap.size + 2, 0, none⟩ = .some (.int .i8 0) ∧ W.cell? ⟨w.heap.size + 2, 1, none⟩ = .some (.bool false) ∧ (∀ o, W.frozen? ⟨w.heap.size + 2, o, none⟩ = false) ∧ w.heap.size + 2 < W.heap.size ∧ Hid (RqAt w Q half some v n W) :=
  ⟨h.var.r0, h.var.r1, h.res.r0, h.res.r1, h.res.rf, h.res.size, h⟩

theorem keepRq {w W W' : World} {Q n : Nat} {half : Int} {some : Bool} {v : Value} (hb : Below W.heap.size W W')
    (h : (W.cell? ⟨Q, 0, none⟩ = .some (.int .i8 half) ∧ W.cell? ⟨Q, 1, none⟩ = .some (.bool some)) ∧ RqAt w Q half some v n W) :
    (W'.cell? ⟨Q, 0, none⟩ = .some (.int .i8 half) ∧ W'.cell? ⟨Q, 1, none⟩ = .some (.bool some)) ∧ RqAt w Q half some v n W' :=
  have k := h.2.step hb
  ⟨⟨k.var.r0, k.var.r1⟩, k⟩

set_option maxRecDepth 100000 in
set_option maxHeartbeats 4000000 in
theorem rootAt_any {E M : Nat} (h : FOk E M) (mode : Nat) {w : World} {r : Value} {neg : Bool} {A D : Nat} (hr : RatAt w r neg A D) (ex k : Int) (hk : k = 2 * ((M : Int) - ex)) (he : -3000 ≤ ex ∧ ex ≤ 3000) (fA : SmallN A) (fD : SmallN D) (hf : RtFit (sNum A k) (shD D k)) :
    Calls Oabg.prog 137 #[fmtV E M, .int .u8 mode, r, .int .i64 ex] w (RtPost w mode (sNum A k) (shD D k)) := by
  obtain ⟨a1, n1, c1, a2, n2, c2, rfl, hu, hv⟩ := hr
  obtain ⟨h1, h2, h3, h4⟩ := h
  have HF : Hid (RtFit (sNum A k) (shD D k)) := hf
  have HSh : Hid (∀ W : World, Below w.heap.size w W → Calls Oabg.prog 133 #[.slice a1 n1 c1, .slice a2 n2 c2, .int .i64 k] W fun e w' => ∃ x y, e = .returned (.tuple #[x, y]) ∧ IsN w' x (sNum A k) ∧ IsN w' y (shD D k) ∧ Below W.heap.size W w') := fun W hb => shift_any k (by omega) (by omega) (hu.step hb) (hv.step hb) fA.fits fD.fits
  have ew0 : IntKind.i64.wrap (M : Int) = (M : Int) := by rw [IntKind.wrap_i64]; omega
  obtain ⟨k0, hk0⟩ : ∃ k0, k0 = (M : Int) - ex := ⟨_, rfl⟩
  have ew1 : IntKind.i64.wrap ((M : Int) - ex) = k0 := by rw [IntKind.wrap_i64]; omega
  have ew2 : IntKind.i64.wrap (2 * k0) = k := by rw [IntKind.wrap_i64]; omega
  generalize sNum A k = X at *
  generalize shD D k = Y at *
  have hB : Below w.heap.size w (((w.alloc (.cells #[.int .u8 E, .int .u8 M] 39)).alloc (.cells #[.bool neg, .slice a1 n1 c1, .slice a2 n2 c2] 50)).alloc (.cells #[.int .i8 0, .bool false] 136)) := by
    have b1 := below_alloc w (.cells #[.int .u8 E, .int .u8 M] 39)
    have b2 := below_alloc (w.alloc (.cells #[.int .u8 E, .int .u8 M] 39)) (.cells #[.bool neg, .slice a1 n1 c1, .slice a2 n2 c2] 50)
    have b3 := below_alloc ((w.alloc (.cells #[.int .u8 E, .int .u8 M] 39)).alloc (.cells #[.bool neg, .slice a1 n1 c1, .slice a2 n2 c2] 50)) (.cells #[.int .i8 0, .bool false] 136)
    exact below_step (below_step b1 b1.size b2) (Nat.le_trans b1.size b2.size) b3
  have hV : HVar (w.heap.size + 2) 0 false (((w.alloc (.cells #[.int .u8 E, .int .u8 M] 39)).alloc (.cells #[.bool neg, .slice a1 n1 c1, .slice a2 n2 c2] 50)).alloc (.cells #[.int .i8 0, .bool false] 136)) := by
    have := HVar.start ((w.alloc (.cells #[.int .u8 E, .int .u8 M] 39)).alloc (.cells #[.bool neg, .slice a1 n1 c1, .slice a2 n2 c2] 50)) 0 false
    have hsz : ((w.alloc (.cells #[.int .u8 E, .int .u8 M] 39)).alloc (.cells #[.bool neg, .slice a1 n1 c1, .slice a2 n2 c2] 50)).heap.size = w.heap.size + 2 := by simp [go_sem]
    rw [hsz] at this
    exact this
  clear hf hk hk0 hu hv fA fD he
  unfold fmtV
  go_enter Oabg.func137, Oabg.ntmps137
  go_wp2_with fail
  go_at_call 133
  refine (HSh.out _ hB).mono ?_
  rintro ee w1 ⟨x, y, rfl, hx, hy, hb⟩
  obtain ⟨a3, n3, c3, rfl⟩ := hx.shape
  obtain ⟨a4, n4, c4, rfl⟩ := hy.shape
  have HR : Hid (RaAt w [(.slice a3 n3 c3, X), (.slice a4 n4 c4, Y)] w1) := ⟨hV.step hb, ((AllN.nil _).cons hy).cons hx, below_step hB hB.size hb⟩
  clear hB hV hx hy hb HSh ew0 ew1 ew2
  go_wp2_with fail
  go_at_call 102
  refine (divMod_any HR.out.all.h0 HR.out.all.tl.h0 HF.out.n.fits HF.out.d.fits HF.out.p).mono ?_
  rintro ee w2 ⟨q, r, rfl, hq, hr, hb⟩
  obtain ⟨a5, n5, c5, rfl⟩ := hq.shape
  obtain ⟨a6, n6, c6, rfl⟩ := hr.shape
  have HR2 : Hid (RaAt w [(.slice a5 n5 c5, X / Y), (.slice a3 n3 c3, X), (.slice a4 n4 c4, Y)] w2) := (HR.out.step hb).cons hq
  clear HR hq hr hb
  go_wp2_with fail
  go_at_call 165
  refine (sqrt_any HR2.out.all.h0 HF.out.q).mono ?_
  rintro ee w3 ⟨a7, n7, c7, n, t, rfl, hn, hro, hb⟩
  have HRo : Hid (RootOf (X / Y) n) := hro
  have HN : Hid (RnFit n) := HF.out.rn hro
  have HR3 : Hid (RaAt w [(.slice a7 n7 c7, n), (.slice a3 n3 c3, X), (.slice a4 n4 c4, Y)] w3) := by
    have := HR2.out.step hb
    exact ⟨this.rv, this.all.tl.cons hn, this.below⟩
  clear HR2 hn hro hb
  go_wp2_with fail
  go_at_call 93
  refine (shl_any (k := 1) HR3.out.all.h0 HN.out.a (by omega)).mono ?_
  rintro ee w4 ⟨x, rfl, hx, hb⟩
  obtain ⟨a8, n8, c8, rfl⟩ := hx.shape
  rw [Nat.pow_one] at hx
  have HR4 : Hid (RaAt w [(.slice a8 n8 c8, n * 2), (.slice a7 n7 c7, n), (.slice a3 n3 c3, X), (.slice a4 n4 c4, Y)] w4) := (HR3.out.step hb).cons hx
  clear HR3 hx hb
  go_wp2_with fail
  go_at_call 143
  refine (succ_any HR4.out.all.h0 HN.out.b).mono ?_
  rintro ee w5 ⟨x, rfl, hx, hb⟩
  obtain ⟨a9, n9, c9, rfl⟩ := hx.shape
  have HR5 : Hid (RaAt w [(.slice a9 n9 c9, n * 2 + 1), (.slice a7 n7 c7, n), (.slice a3 n3 c3, X), (.slice a4 n4 c4, Y)] w5) := by
    have := HR4.out.step hb
    exact ⟨this.rv, this.all.tl.cons hx, this.below⟩
  clear HR4 hx hb
  go_wp2_with fail
  go_at_call 93
  refine (shl_any (k := 2) HR5.out.all.tl.tl.h0 HF.out.n.fits (by omega)).mono ?_
  rintro ee w6 ⟨x, rfl, hx, hb⟩
  obtain ⟨b1, m1, e1, rfl⟩ := hx.shape
  have HR6 : Hid (RaAt w [(.slice b1 m1 e1, X * 4), (.slice a9 n9 c9, n * 2 + 1), (.slice a7 n7 c7, n), (.slice a3 n3 c3, X), (.slice a4 n4 c4, Y)] w6) := (HR5.out.step hb).cons hx
  clear HR5 hx hb
  go_wp2_with fail
  go_at_call 73
  refine (mul_any HR6.out.all.tl.h0 HR6.out.all.tl.h0 HN.out.c HN.out.c).mono ?_
  rintro ee w7 ⟨x, rfl, hx, hb⟩
  obtain ⟨b2, m2, e2, rfl⟩ := hx.shape
  have HR7 : Hid (RaAt w [(.slice b2 m2 e2, (n * 2 + 1) * (n * 2 + 1)), (.slice b1 m1 e1, X * 4), (.slice a9 n9 c9, n * 2 + 1), (.slice a7 n7 c7, n), (.slice a3 n3 c3, X), (.slice a4 n4 c4, Y)] w7) := (HR6.out.step hb).cons hx
  clear HR6 hx hb
  go_wp2_with fail
  go_at_call 73
  refine (mul_any HR7.out.all.h0 HR7.out.all.tl.tl.tl.tl.tl.h0 HN.out.d HF.out.d.fits).mono ?_
  rintro ee w8 ⟨x, rfl, hx, hb⟩
  obtain ⟨b3, m3, e3, rfl⟩ := hx.shape
  have HR8 : Hid (RaAt w [(.slice b3 m3 e3, (n * 2 + 1) * (n * 2 + 1) * Y), (.slice b2 m2 e2, (n * 2 + 1) * (n * 2 + 1)), (.slice b1 m1 e1, X * 4), (.slice a9 n9 c9, n * 2 + 1), (.slice a7 n7 c7, n), (.slice a3 n3 c3, X), (.slice a4 n4 c4, Y)] w8) := (HR7.out.step hb).cons hx
  clear HR7 hx hb
  obtain ⟨hf, hhf⟩ : ∃ hf, hf = cmpZ (X * 4) ((n * 2 + 1) * (n * 2 + 1) * Y) := ⟨_, rfl⟩
  have HC1 : Hid (Calls Oabg.prog 77 #[.slice b1 m1 e1, .slice b3 m3 e3] w8 fun e w' => e = .returned (.int .i8 hf) ∧ Below w8.heap.size w8 w') := by
    show Calls _ _ _ _ _
    rw [hhf]
    exact cmp_any HR8.out.all.tl.tl.h0 HR8.out.all.h0
  have HHf : Hid (hf = cmpZ (X * 4) ((n * 2 + 1) * (n * 2 + 1) * Y)) := hhf
  clear hhf
  go_wp2_with fail
  go_at_call 77
  refine HC1.out.mono ?_
  rintro ee w9 ⟨rfl, hb⟩
  have HR9 : Hid (RaAt w [(.slice a7 n7 c7, n), (.slice a3 n3 c3, X), (.slice a4 n4 c4, Y)] w9) := by
    have := HR8.out.step hb
    exact ⟨this.rv, this.all.tl.tl.tl.tl, this.below⟩
  clear HR8 hb HC1
  go_wp2_with fail
  go_at_call 73
  refine (mul_any HR9.out.all.h0 HR9.out.all.h0 HN.out.a HN.out.a).mono ?_
  rintro ee w10 ⟨x, rfl, hx, hb⟩
  obtain ⟨b4, m4, e4, rfl⟩ := hx.shape
  have HR10 : Hid (RaAt w [(.slice b4 m4 e4, n * n), (.slice a7 n7 c7, n), (.slice a3 n3 c3, X), (.slice a4 n4 c4, Y)] w10) := (HR9.out.step hb).cons hx
  clear HR9 hx hb
  go_wp2_with fail
  go_at_call 73
  refine (mul_any HR10.out.all.h0 HR10.out.all.tl.tl.tl.h0 HN.out.e HF.out.d.fits).mono ?_
  rintro ee w11 ⟨x, rfl, hx, hb⟩
  obtain ⟨b5, m5, e5, rfl⟩ := hx.shape
  have HR11 : Hid (RaAt w [(.slice b5 m5 e5, n * n * Y), (.slice b4 m4 e4, n * n), (.slice a7 n7 c7, n), (.slice a3 n3 c3, X), (.slice a4 n4 c4, Y)] w11) := (HR10.out.step hb).cons hx
  clear HR10 hx hb
  obtain ⟨z, hz⟩ : ∃ z, z = cmpZ (n * n * Y) X := ⟨_, rfl⟩
  have HC2 : Hid (Calls Oabg.prog 77 #[.slice b5 m5 e5, .slice a3 n3 c3] w11 fun e w' => e = .returned (.int .i8 z) ∧ Below w11.heap.size w11 w') := by
    show Calls _ _ _ _ _
    rw [hz]
    exact cmp_any HR11.out.all.h0 HR11.out.all.tl.tl.tl.h0
  obtain ⟨sm, hsm⟩ : ∃ sm, sm = (z != 0) := ⟨_, rfl⟩
  have hsm' : (z != 0) = sm := hsm.symm
  have HSm : Hid (sm = (cmpZ (n * n * Y) X != 0)) := by
    show _ = _
    rw [hsm, hz]
  clear hz hsm
  go_wp2_with fail
  go_at_call 77
  refine HC2.out.mono ?_
  rintro ee w12 ⟨rfl, hb⟩
  have hR12 := HR11.out.step hb
  have hS := RqAt.start hf sm hR12.rv hR12.all.tl.tl.h0 hR12.below
  clear HR11 hb HC2 hR12
  go_upto_region 6 with (fail)
  obtain ⟨W2, hW⟩ : ∃ W, W = w12.alloc (.cells #[.int .i8 hf, .bool sm] 136) := ⟨_, rfl⟩
  obtain ⟨Q, hQ⟩ : ∃ Q, Q = w12.heap.size := ⟨_, rfl⟩
  rw [← hW, ← hQ] at hS
  rw [← hW, ← hQ]
  clear hW hQ
  have HU : Hid (rootUp mode n X Y = if raisesB mode false (n % 2 == 1) hf sm = true then n + 1 else n) := by
    show _ = _
    rw [HHf.out, HSm.out]
    rfl
  obtain ⟨od, hod⟩ : ∃ od, od = (n % 2 == 1) := ⟨_, rfl⟩
  obtain ⟨b, hb⟩ : ∃ b, b = raisesB mode false od hf sm := ⟨_, rfl⟩
  rw [← hod, ← hb] at HU
  have HRa : Hid (∀ w : World, Calls Oabg.prog 142 #[.int .u8 mode, .bool false, .bool od, .agg #[.int .i8 hf, .bool sm]] w fun e w' => e = .returned (.bool b) ∧ Below w.heap.size w w') := fun w => by
    rw [hb]
    exact raises_any mode false _ hf sm w
  have HB2 : Hid (∀ W : World, ((W.cell? ⟨Q, 0, none⟩ = .some (.int .i8 hf) ∧ W.cell? ⟨Q, 1, none⟩ = .some (.bool sm)) ∧ RqAt w Q hf sm (.slice a7 n7 c7) n W) → Calls Oabg.prog 72 #[.slice a7 n7 c7, .int .i64 0] W fun e w' => e = .returned (.bool od) ∧ w' = W) := fun W h => by
    rw [hod]
    exact bit0_any h.2.num
  clear hod hb HHf HSm hsm'
  go_cut [69] (fun s69 wx => s69 = .bool b ∧ RqAt w Q hf sm (.slice a7 n7 c7) n wx)
  case first =>
    obtain ⟨c0, c1, _, _, _, _, HK⟩ := hS.all
    clear hS
    go_region_held3 (fun W => (W.cell? ⟨Q, 0, none⟩ = .some (.int .i8 hf) ∧ W.cell? ⟨Q, 1, none⟩ = .some (.bool sm)) ∧ RqAt w Q hf sm (.slice a7 n7 c7) n W)
      (first
        | exact ⟨⟨c0, c1⟩, HK.out.drew⟩
        | assumption
        | (with_reducible refine keepRq hb ?_; assumption))
      (first
        | (go_at_call 72; refine (HB2.out _ (by assumption)).mono ?_; rintro ee w' ⟨rfl, hq⟩; obtain rfl := hq.symm)
        | (go_at_call 142; refine (HRa.out _).mono ?_; rintro ee w' ⟨rfl, hb⟩))
    rename_i hH
    go_wp2
    go_meet
    exact ⟨rfl, hH.2⟩
  case rest =>
  obtain ⟨rfl, hK⟩ := hcut
  clear hS HB2 HRa
  cases b
  · have hU : rootUp mode n X Y = n := by have := HU.out; simpa using this
    clear HU
    have HU : Hid (rootUp mode n X Y = n) := hU
    clear hU
    obtain ⟨c0, c1, r0, r1, rf, rs, HK⟩ := hK.all
    clear hK
    go_wp2_with fail
    go_region
    all_goals go_wp2
    all_goals exact bodyPost_ret (v := .tuple #[.slice a7 n7 c7, .agg #[.int .i8 hf, .bool sm]]) (by simp [results, Oabg.results137, go_sem, r0, r1]) rfl ⟨_, _, _, n, _, _, rfl, by rw [HU.out]; exact HK.out.drew.num.setH HK.out.drew.res, HRo.out, below_set2 HK.out.drew.below (by omega)⟩
  · have hU : rootUp mode n X Y = n + 1 := by have := HU.out; simpa using this
    clear HU
    have HU : Hid (rootUp mode n X Y = n + 1) := hU
    clear hU
    go_wp2_with fail
    go_at_call 143
    refine (succ_any hK.num HN.out.a).mono ?_
    rintro ee w13 ⟨x, rfl, hx, hb⟩
    obtain ⟨b6, m6, e6, rfl⟩ := hx.shape
    have hK2 : RqAt w Q hf sm (.slice b6 m6 e6) (n + 1) w13 := ⟨hK.res.step hb, hK.var.step hb, hx, below_step hK.below hK.below.size hb⟩
    obtain ⟨c0, c1, r0, r1, rf, rs, HK⟩ := hK2.all
    clear hK hK2 hx hb
    go_wp2_with fail
    go_region
    all_goals go_wp2
    all_goals exact bodyPost_ret (v := .tuple #[.slice b6 m6 e6, .agg #[.int .i8 hf, .bool sm]]) (by simp [results, Oabg.results137, go_sem, r0, r1]) rfl ⟨_, _, _, n, _, _, rfl, by rw [HU.out]; exact HK.out.drew.num.setH HK.out.drew.res, HRo.out, below_set2 HK.out.drew.below (by omega)⟩

end Go.Proofs.Ygcoab
