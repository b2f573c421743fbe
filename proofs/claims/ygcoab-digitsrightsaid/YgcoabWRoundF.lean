import Derived.Test.YgcoabWRoundE
namespace Go.Proofs.Ygcoab
open Go.RowKit

/-- RoundFlags' world: the format, the fraction's variable -/
structure RfAt (w : World) (E M : Nat) (neg : Bool) (u v : Value) (N D : Nat) (W : World) : Prop where
  fm : FAt w.heap.size E M W
  q0 : W.cell? ⟨w.heap.size + 1, 0, none⟩ = some (.bool neg)
  q1 : W.cell? ⟨w.heap.size + 1, 1, none⟩ = some u
  q2 : W.cell? ⟨w.heap.size + 1, 2, none⟩ = some v
  qf : ∀ o, W.frozen? ⟨w.heap.size + 1, o, none⟩ = false
  qs : w.heap.size + 1 < W.heap.size
  n : IsN W u N
  d : IsN W v D
  below : Below w.heap.size w W

theorem RfAt.step {w W W' : World} {E M N D : Nat} {neg : Bool} {u v : Value} (h : RfAt w E M neg u v N D W) (hb : Below W.heap.size W W') : RfAt w E M neg u v N D W' :=
  have k := fun o => hb.cell (p := ⟨w.heap.size + 1, o, none⟩) h.qs
  ⟨h.fm.step hb, (k 0).trans h.q0, (k 1).trans h.q1, (k 2).trans h.q2, fun o => (hb.frozen (p := ⟨w.heap.size + 1, o, none⟩) h.qs).trans (h.qf o), Nat.lt_of_lt_of_le h.qs hb.size, h.n.step hb, h.d.step hb, below_step h.below h.below.size hb⟩

theorem RfAt.drew {w W : World} {E M N D : Nat} {neg : Bool} {u v : Value} (h : RfAt w E M neg u v N D W) : RfAt w E M neg u v N D W.drew :=
  ⟨h.fm.drew, h.q0, h.q1, h.q2, h.qf, h.qs, h.n.drew, h.d.drew, h.below.drew⟩

theorem RfAt.start {w : World} (E M : Nat) {N D : Nat} (neg : Bool) {u v : Value} (hn : IsN w u N) (hd : IsN w v D) :
    RfAt w E M neg u v N D ((w.alloc (.cells #[.int .u8 E, .int .u8 M] 39)).alloc (.cells #[.bool neg, u, v] 50)) := by
  have b1 := below_alloc w (.cells #[.int .u8 E, .int .u8 M] 39)
  have b2 := below_alloc (w.alloc (.cells #[.int .u8 E, .int .u8 M] 39)) (.cells #[.bool neg, u, v] 50)
  exact ⟨(FAt.start w E M).step b2, by simp [go_sem], by simp [go_sem], by simp [go_sem], fun o => by simp [go_sem], by simp [go_sem], (hn.step b1).step b2, (hd.step b1).step b2, below_step b1 b1.size b2⟩

theorem cell_set3 (w : World) (R b i : Nat) (u0 u1 u2 : Value) (h : b ≠ R) : (((w.setCell ⟨R, 0, none⟩ u0).setCell ⟨R, 1, none⟩ u1).setCell ⟨R, 2, none⟩ u2).cell? ⟨b, i, none⟩ = w.cell? ⟨b, i, none⟩ := by
  rw [cell_set_ne _ _ _ _ _ _ (by omega), cell_set_ne _ _ _ _ _ _ (by omega), cell_set_ne _ _ _ _ _ _ (by omega)]

theorem RfAt.put {w W : World} {E M N D N' D' : Nat} {neg neg' : Bool} {a a' : Option Addr} {n n' c c' : Nat} {x y : Value} (h : RfAt w E M neg (.slice a n c) (.slice a' n' c') N D W) (hx : IsN W x N') (hy : IsN W y D') :
    RfAt w E M neg' x y N' D' (((W.setCell ⟨w.heap.size + 1, 0, none⟩ (.bool neg')).setCell ⟨w.heap.size + 1, 1, none⟩ x).setCell ⟨w.heap.size + 1, 2, none⟩ y) := by
  have hB := below_set3 (v0 := .bool neg') (v1 := x) (v2 := y) h.below (Nat.le_succ w.heap.size)
  have hs : ∀ (w : World) (p : Addr) (u : Value), (w.setCell p u).heap.size = w.heap.size := fun w p u => by simp [go_sem]
  have s3 : (((W.setCell ⟨w.heap.size + 1, 0, none⟩ (.bool neg')).setCell ⟨w.heap.size + 1, 1, none⟩ x).setCell ⟨w.heap.size + 1, 2, none⟩ y).heap.size = W.heap.size := by rw [hs, hs, hs]
  refine ⟨⟨?_, ?_, ?_⟩, ?_, ?_, ?_, ?_, ?_, ?_, ?_, hB⟩
  · rw [cell_set3 _ _ _ _ _ _ _ (by omega)]; exact h.fm.c0
  · rw [cell_set3 _ _ _ _ _ _ _ (by omega)]; exact h.fm.c1
  · rw [s3]; exact h.fm.size
  · rw [cell_set_ne _ _ _ _ _ _ (by omega), cell_set_ne _ _ _ _ _ _ (by omega)]
    exact cell_set_eq _ _ _ _ _ h.q0
  · rw [cell_set_ne _ _ _ _ _ _ (by omega)]
    refine cell_set_eq _ _ _ _ (.slice a n c) ?_
    rw [cell_set_ne _ _ _ _ _ _ (by omega)]
    exact h.q1
  · refine cell_set_eq _ _ _ _ (.slice a' n' c') ?_
    rw [cell_set_ne _ _ _ _ _ _ (by omega), cell_set_ne _ _ _ _ _ _ (by omega)]
    exact h.q2
  · intro o
    have := h.qf o
    simpa [go_sem] using this
  · rw [s3]; exact h.qs
  · exact hx.set3 h.q0 h.q1 h.q2 (fun _ h => by cases h) (fun _ h => by cases h) (fun _ h => by cases h)
  · exact hy.set3 h.q0 h.q1 h.q2 (fun _ h => by cases h) (fun _ h => by cases h) (fun _ h => by cases h)

theorem RfAt.all {w W : World} {E M N D : Nat} {neg : Bool} {u v : Value} (h : RfAt w E M neg u v N D W) :
    W.cell? ⟨w.heap.size, 0, none⟩ = some (.int .u8 E) ∧ W.cell? ⟨w.heap.size, 1, none⟩ = some (.int .u8 M) ∧ W.cell? ⟨w.heap.size + 1, 0, none⟩ = some (.bool neg) ∧ W.cell? ⟨w.heap.size + 1, 1, none⟩ = some u ∧ W.cell? ⟨w.heap.size + 1, 2, none⟩ = some v ∧ (∀ o, W.frozen? ⟨w.heap.size + 1, o, none⟩ = false) ∧ w.heap.size + 1 < W.heap.size ∧ Hid (RfAt w E M neg u v N D W) :=
  ⟨h.fm.c0, h.fm.c1, h.q0, h.q1, h.q2, h.qf, h.qs, h⟩

theorem keepRf {w W W' : World} {E M N D : Nat} {neg : Bool} {u v : Value} (hb : Below W.heap.size W W')
    (h : (W.cell? ⟨w.heap.size, 0, none⟩ = some (.int .u8 E) ∧ W.cell? ⟨w.heap.size, 1, none⟩ = some (.int .u8 M) ∧ W.cell? ⟨w.heap.size + 1, 1, none⟩ = some u ∧ W.cell? ⟨w.heap.size + 1, 2, none⟩ = some v) ∧ RfAt w E M neg u v N D W) :
    (W'.cell? ⟨w.heap.size, 0, none⟩ = some (.int .u8 E) ∧ W'.cell? ⟨w.heap.size, 1, none⟩ = some (.int .u8 M) ∧ W'.cell? ⟨w.heap.size + 1, 1, none⟩ = some u ∧ W'.cell? ⟨w.heap.size + 1, 2, none⟩ = some v) ∧ RfAt w E M neg u v N D W' :=
  have k := h.2.step hb
  ⟨⟨k.fm.c0, k.fm.c1, k.q1, k.q2⟩, k⟩

/-- with the rest's variable -/
structure RgAt (w : World) (E M : Nat) (neg : Bool) (u v : Value) (N D Q : Nat) (half : Int) (some : Bool) (x : Value) (n : Nat) (W : World) : Prop where
  rf : RfAt w E M neg u v N D W
  rv : HVar Q half some W
  xn : IsN W x n

theorem RgAt.step {w W W' : World} {E M N D Q n : Nat} {neg some : Bool} {half : Int} {u v x : Value} (h : RgAt w E M neg u v N D Q half some x n W) (hb : Below W.heap.size W W') : RgAt w E M neg u v N D Q half some x n W' :=
  ⟨h.rf.step hb, h.rv.step hb, h.xn.step hb⟩

theorem RgAt.drew {w W : World} {E M N D Q n : Nat} {neg some : Bool} {half : Int} {u v x : Value} (h : RgAt w E M neg u v N D Q half some x n W) : RgAt w E M neg u v N D Q half some x n W.drew :=
  ⟨h.rf.drew, h.rv.drew, h.xn.drew⟩

theorem RgAt.start {w W : World} {E M N D n : Nat} {neg : Bool} {u v x : Value} (half : Int) (some : Bool) (h : RfAt w E M neg u v N D W) (hx : IsN W x n) :
    RgAt w E M neg u v N D W.heap.size half some x n (W.alloc (.cells #[.int .i8 half, .bool some] 136)) :=
  ⟨h.step (below_alloc _ _), HVar.start W half some, hx.step (below_alloc _ _)⟩

theorem RgAt.all {w W : World} {E M N D Q n : Nat} {neg some : Bool} {half : Int} {u v x : Value} (h : RgAt w E M neg u v N D Q half some x n W) :
    W.cell? ⟨w.heap.size, 0, none⟩ = .some (.int .u8 E) ∧ W.cell? ⟨w.heap.size, 1, none⟩ = .some (.int .u8 M) ∧ W.cell? ⟨w.heap.size + 1, 0, none⟩ = .some (.bool neg) ∧ W.cell? ⟨w.heap.size + 1, 1, none⟩ = .some u ∧ W.cell? ⟨w.heap.size + 1, 2, none⟩ = .some v ∧ W.cell? ⟨Q, 0, none⟩ = .some (.int .i8 half) ∧ W.cell? ⟨Q, 1, none⟩ = .some (.bool some) ∧ Hid (RgAt w E M neg u v N D Q half some x n W) :=
  ⟨h.rf.fm.c0, h.rf.fm.c1, h.rf.q0, h.rf.q1, h.rf.q2, h.rv.r0, h.rv.r1, h⟩

theorem keepRg {w W W' : World} {E M N D Q n : Nat} {neg some : Bool} {half : Int} {u v x : Value} (hb : Below W.heap.size W W')
    (h : (W.cell? ⟨w.heap.size, 0, none⟩ = .some (.int .u8 E) ∧ W.cell? ⟨w.heap.size, 1, none⟩ = .some (.int .u8 M) ∧ W.cell? ⟨w.heap.size + 1, 0, none⟩ = .some (.bool neg) ∧ W.cell? ⟨Q, 0, none⟩ = .some (.int .i8 half) ∧ W.cell? ⟨Q, 1, none⟩ = .some (.bool some)) ∧ RgAt w E M neg u v N D Q half some x n W) :
    (W'.cell? ⟨w.heap.size, 0, none⟩ = .some (.int .u8 E) ∧ W'.cell? ⟨w.heap.size, 1, none⟩ = .some (.int .u8 M) ∧ W'.cell? ⟨w.heap.size + 1, 0, none⟩ = .some (.bool neg) ∧ W'.cell? ⟨Q, 0, none⟩ = .some (.int .i8 half) ∧ W'.cell? ⟨Q, 1, none⟩ = .some (.bool some)) ∧ RgAt w E M neg u v N D Q half some x n W' :=
  have k := h.2.step hb
  ⟨⟨k.rf.fm.c0, k.rf.fm.c1, k.rf.q0, k.rv.r0, k.rv.r1⟩, k⟩

structure Small2 (N D : Nat) : Prop where
  n : SmallN N
  d : SmallN D
  pos : 0 < D

/-- all that the calls want of the shifted fraction -/
structure FitS (N D : Nat) (k : Int) : Prop where
  lo : -65535 ≤ k
  hi : k ≤ 65535
  n0 : FitsN N
  d0 : FitsN D
  n : FitsN (sNum N k)
  d : FitsN (shD D k)
  p : 0 < shD D k
  r : ∀ mode neg, FitsN (raisedN mode neg (sNum N k) (shD D k))

theorem sNum_lt {N : Nat} {k : Int} (h : SmallN N) (hk : k ≤ 65535) : sNum N k < 2 ^ (bitMax + 65535) := by
  unfold sNum
  split
  · exact Nat.lt_of_lt_of_le h (Nat.pow_le_pow_right (by omega) (by omega))
  · rename_i hk0
    refine Nat.lt_of_lt_of_le (Nat.mul_lt_mul_of_pos_right h (two_pow_pos' _)) ?_
    rw [← Nat.pow_add]
    exact Nat.pow_le_pow_right (by omega) (by omega)

/-- FitsN, shut -/
structure FitW (n : Nat) : Prop where
  f : FitsN n

theorem lt_pow_succ {x a : Nat} (h : x ≤ 2 ^ a) : x < 2 ^ (a + 1) := by
  have := two_pow_pos' a
  rw [Nat.pow_succ]
  omega

theorem raisedN_le (mode : Nat) (neg : Bool) {A B P : Nat} (h : A < P) : raisedN mode neg A B ≤ P := by
  have h2 := Nat.div_le_self A B
  unfold raisedN
  generalize A / B = q at *
  split <;> omega

theorem raised_fits {N D : Nat} {k : Int} (h : SmallN N) (hk : k ≤ 65535) (mode : Nat) (neg : Bool) : FitsN (raisedN mode neg (sNum N k) (shD D k)) :=
  FitsN.of (a := bitMax + 65535 + 1) (lt_pow_succ (raisedN_le mode neg (sNum_lt h hk))) (by have := bitMax_eq; omega)

theorem Small2.fit {N D : Nat} (h : Small2 N D) {k : Int} (h1 : -65535 ≤ k) (h2 : k ≤ 65535) : FitS N D k := ⟨h1, h2, h.n.fits, h.d.fits, h.n.num h2, h.d.den h1, shD_pos h.pos, fun mode neg => raised_fits h.n h2 mode neg⟩

theorem IsN.zero {w : World} {a : Option Addr} {n c : Nat} (h : IsN w (.slice a n c) 0) : a.isNone = true := by
  have := h.some_iff
  simpa using this

theorem IsN.nonzero {w : World} {a : Option Addr} {n c N : Nat} (h : IsN w (.slice a n c) N) (h0 : 0 < N) : a.isNone = false := by
  have := h.some_iff
  have h1 : ¬ N = 0 := by omega
  simpa [h1] using this

set_option maxRecDepth 100000 in
set_option maxHeartbeats 2000000 in
theorem roundFlags_any {E M : Nat} (h : FOk E M) (mode : Nat) {w : World} {r : Value} {neg : Bool} {N D : Nat} (hr : RatAt w r neg N D) (h2 : Small2 N D) :
    Calls Oabg.prog 91 #[fmtV E M, .int .u8 mode, r] w (RfPost w (roundP E M mode neg N D)) := by
  have h' := h
  obtain ⟨a, n, c, a', n', c', rfl, hu, hv⟩ := hr
  have HS2 : Hid (Small2 N D) := h2
  clear h2
  have HM : Hid (∀ (W : World), RfAt w E M neg (.slice a n c) (.slice a' n' c') N D W → Calls Oabg.prog 127 #[.bool neg, .slice a n c, .slice a' n' c'] W fun e w' => ∃ r, e = .returned r ∧ RatAt w' r neg N D ∧ Below W.heap.size W w') := fun W k => makeRat_any neg k.n k.d HS2.out.n.fits HS2.out.d.fits HS2.out.pos
  have hS := RfAt.start E M neg hu hv
  clear hu hv
  obtain ⟨W, hW⟩ : ∃ W, W = (w.alloc (.cells #[.int .u8 E, .int .u8 M] 39)).alloc (.cells #[.bool neg, .slice a n c, .slice a' n' c'] 50) := ⟨_, rfl⟩
  rw [← hW] at hS
  obtain ⟨Z, hZ⟩ : ∃ Z, Z = roundP E M mode neg N D := ⟨_, rfl⟩
  rw [← hZ]
  have HZ : Hid (Z = roundP E M mode neg N D) := hZ
  clear hZ
  obtain ⟨h1, h2, h3, h4⟩ := h
  unfold fmtV
  go_enter Oabg.func91, Oabg.ntmps91
  go_wp2_with fail
  go_at_call 23
  rw [show (w.alloc (.cells #[.int .u8 E, .int .u8 M] 39)).alloc (.cells #[.bool neg, .slice a n c, .slice a' n' c'] 50) = W from hW.symm]
  clear hW
  refine (ok_yes h' _).mono ?_
  rintro ee w1 ⟨rfl, hb⟩
  have hS1 := hS.step hb
  clear hS hb
  obtain ⟨c0, c1, q0, q1, q2, qf, qs, HK⟩ := hS1.all
  clear hS1
  go_wp2_with fail
  go_at_call 127
  refine (HM.out _ HK.out).mono ?_
  rintro ee w2 ⟨r, rfl, hr, hb⟩
  obtain ⟨b1, n1, d1, b2, n2, d2, rfl, k1, k2⟩ := hr
  have hS2 := HK.out.step hb
  clear c0 c1 q0 q1 q2 qf qs HK hb HM
  have hP := hS2.put (neg' := neg) k1 k2
  obtain ⟨c0, c1, q0, q1, q2, qf, qs, HK⟩ := hS2.all
  clear hS2 k1 k2
  go_upto_region 4 with (fail)
  obtain ⟨W3, hW⟩ : ∃ W3, W3 = (((w2.setCell ⟨w.heap.size + 1, 0, none⟩ (.bool neg)).setCell ⟨w.heap.size + 1, 1, none⟩ (.slice b1 n1 d1)).setCell ⟨w.heap.size + 1, 2, none⟩ (.slice b2 n2 d2)) := ⟨_, rfl⟩
  rw [← hW] at hP ⊢
  clear hW c0 c1 q0 q1 q2 qf qs HK
  have hnil := fun w' => nil48 w' b1 n1 d1
  rcases Nat.eq_zero_or_pos N with h0 | h0
  · have hZ : Z = zeroP E M neg := by have := HZ.out; rw [this, h0]; rfl
    subst hZ
    rw [(by have := hP.n; rw [h0] at this; exact this.zero : b1.isNone = true)] at hnil
    obtain ⟨c0, c1, q0, q1, q2, qf, qs, HK⟩ := hP.all
    clear hP h0
    go_wp2_with fail
    go_at_call 128
    refine (zero_yes h' neg _).mono ?_
    rintro ee w4 ⟨rfl, hb⟩
    have HB := (HK.out.step hb).below
    go_wp2
    go_ret2
    exact ⟨_, rfl, HB⟩
  rw [hP.n.nonzero h0] at hnil
  have hne : ¬ N = 0 := by omega
  have hbl := bias_lt h'
  obtain ⟨em, hem⟩ : ∃ em, em = eminZ E := ⟨_, rfl⟩
  obtain ⟨ex, hex⟩ : ∃ ex, ex = emaxZ E := ⟨_, rfl⟩
  have hb1 : em = 1 - (biasN E : Int) := hem
  have hb2 : ex = (biasN E : Int) := hex
  obtain ⟨lo, hlo⟩ : ∃ lo, lo = em - 1 := ⟨_, rfl⟩
  obtain ⟨re, hre⟩ : ∃ re, re = realZ E N D := ⟨_, rfl⟩
  have hre' : re = log2Z N D lo ex := by rw [hre, hlo, hem, hex]; rfl
  have hrb : lo - 1 ≤ re ∧ re ≤ ex + 1 := by rw [hre']; exact log2Z_bounds (by omega)
  obtain ⟨ez, hez⟩ : ∃ ez, ez = expZ E N D := ⟨_, rfl⟩
  have hez' : ez = max re em := by rw [hez, hre, hem]; rfl
  have H130 : Hid (∀ w : World, Calls Oabg.prog 130 #[fmtV E M] w fun e w' => e = .returned (.int .i64 em) ∧ Below w.heap.size w w') := fun w => by rw [hem]; exact emin_yes h' w
  have H131 : Hid (∀ w : World, Calls Oabg.prog 131 #[fmtV E M] w fun e w' => e = .returned (.int .i64 ex) ∧ Below w.heap.size w w') := fun w => by rw [hex]; exact emax_yes h' w
  have HL2 : Hid (∀ W : World, ((W.cell? ⟨w.heap.size, 0, none⟩ = some (.int .u8 E) ∧ W.cell? ⟨w.heap.size, 1, none⟩ = some (.int .u8 M) ∧ W.cell? ⟨w.heap.size + 1, 1, none⟩ = some (.slice b1 n1 d1) ∧ W.cell? ⟨w.heap.size + 1, 2, none⟩ = some (.slice b2 n2 d2)) ∧ RfAt w E M neg (.slice b1 n1 d1) (.slice b2 n2 d2) N D W) → Calls Oabg.prog 129 #[.slice b1 n1 d1, .slice b2 n2 d2, .int .i64 lo, .int .i64 ex] W fun e w' => e = .returned (.int .i64 re) ∧ Below W.heap.size W w') := fun W k => by rw [hre']; exact log2_any lo ex (by omega) (by omega) (by omega) k.2.n k.2.d HS2.out.n HS2.out.d
  have w1 : IntKind.i64.wrap (em - 1) = lo := by rw [IntKind.wrap_i64]; omega
  -- the shifts
  obtain ⟨k1, hk1⟩ : ∃ k : Int, k = (M : Int) - ez := ⟨_, rfl⟩
  obtain ⟨k2, hk2⟩ : ∃ k : Int, k = (M : Int) - re := ⟨_, rfl⟩
  have wM : IntKind.i64.wrap (M : Int) = (M : Int) := by rw [IntKind.wrap_i64]; omega
  have wk1 : IntKind.i64.wrap ((M : Int) - ez) = k1 := by rw [IntKind.wrap_i64]; omega
  have wk2 : IntKind.i64.wrap ((M : Int) - re) = k2 := by rw [IntKind.wrap_i64]; omega
  have HF1 : Hid (FitS N D k1) := HS2.out.fit (by omega) (by omega)
  have HF2 : Hid (FitS N D k2) := HS2.out.fit (by omega) (by omega)
  have hezb : em ≤ ez := by omega
  have HZ1 : Hid (Z = if ex < ez then overP E M mode neg else packP E M mode neg ez (raisedN mode neg (sNum N k1) (shD D k1) % 18446744073709551616)) := by
    show Z = _
    rw [HZ.out]
    unfold roundP
    rw [if_neg hne, ← hex, ← hez, ← hk1]
  have HEB : Hid (eminZ E ≤ ez) := by show eminZ E ≤ ez; omega
  have HEX : Hid (ex = emaxZ E) := hex
  have HEZ : Hid (ez = max re em) := hez'
  have HLO : Hid (lo = em - 1) := hlo
  clear hne hbl hem hex hb1 hb2 hlo hre hre' hrb hez hez' hk1 hk2 hezb HZ HS2 h0
  obtain ⟨c0, c1, q0, q1, q2, qf, qs, HK⟩ := hP.all
  clear hP
  go_upto_region 6 with (fail)
  clear hnil
  go_cut [8] (fun s8 wx => s8 = .int .i64 re ∧ RfAt w E M neg (.slice b1 n1 d1) (.slice b2 n2 d2) N D wx)
  case first =>
    clear wM wk1 wk2
    go_region_held3 (fun w' => (w'.cell? ⟨w.heap.size, 0, none⟩ = some (.int .u8 E) ∧ w'.cell? ⟨w.heap.size, 1, none⟩ = some (.int .u8 M) ∧ w'.cell? ⟨w.heap.size + 1, 1, none⟩ = some (.slice b1 n1 d1) ∧ w'.cell? ⟨w.heap.size + 1, 2, none⟩ = some (.slice b2 n2 d2)) ∧ RfAt w E M neg (.slice b1 n1 d1) (.slice b2 n2 d2) N D w')
      (first
        | exact ⟨⟨c0, c1, q1, q2⟩, HK.out.drew⟩
        | (with_reducible refine keepRf hb ?_; assumption))
      (first
        | (go_at_call 130; refine (H130.out _).mono ?_; rintro ee w' ⟨rfl, hb⟩)
        | (go_at_call 131; refine (H131.out _).mono ?_; rintro ee w' ⟨rfl, hb⟩)
        | (go_at_call 129; refine (HL2.out _ (by assumption)).mono ?_; rintro ee w' ⟨rfl, hb⟩))
    rename_i hH
    go_wp2
    go_meet
    exact ⟨rfl, hH.2⟩
  case rest =>
  obtain ⟨rfl, hK⟩ := hcut
  clear c0 c1 q0 q1 q2 qf qs HK HL2
  obtain ⟨c0, c1, q0, q1, q2, qf, qs, HK⟩ := hK.all
  clear hK
  go_upto_region 7 with (fail)
  go_cut [9] (fun s9 wx => s9 = .int .i64 ez ∧ RfAt w E M neg (.slice b1 n1 d1) (.slice b2 n2 d2) N D wx)
  case first =>
    clear wM wk1 wk2 w1
    go_wp2_with fail
    go_at_call 130
    refine (H130.out _).mono ?_
    rintro ee w4 ⟨rfl, hb⟩
    have HK4 : Hid (RfAt w E M neg (.slice b1 n1 d1) (.slice b2 n2 d2) N D w4) := HK.out.step hb
    clear hb
    go_wp2
    all_goals go_meet
    all_goals exact ⟨congrArg (Value.int IntKind.i64) (by have := HEZ.out; omega), HK4.out⟩
  case rest =>
  obtain ⟨rfl, hK⟩ := hcut
  clear c0 c1 q0 q1 q2 qf qs HK
  obtain ⟨c0, c1, q0, q1, q2, qf, qs, HK⟩ := hK.all
  clear hK
  go_wp2_with fail
  go_at_call 131
  refine (H131.out _).mono ?_
  rintro ee w5 ⟨rfl, hb⟩
  have hK := HK.out.step hb
  clear c0 c1 q0 q1 q2 qf qs HK hb
  obtain ⟨c0, c1, q0, q1, q2, qf, qs, HK⟩ := hK.all
  clear hK
  by_cases hc : ex < ez
  · have HZ2 : Hid (Z = overP E M mode neg) := by have := HZ1.out; rw [if_pos hc] at this; exact this
    clear HZ1 wM wk1 wk2 w1
    go_wp2_with fail
    go_at_call 132
    refine (overflow_yes h' mode neg _).mono ?_
    rintro ee w6 ⟨fl, rfl, hb⟩
    rw [← HZ2.out]
    have HB := (HK.out.step hb).below
    go_wp2
    go_ret2
    exact ⟨_, rfl, HB⟩
  have HE2 : Hid (ez ≤ emaxZ E) := by show ez ≤ emaxZ E; have := HEX.out; omega
  have HZ2 : Hid (Z = packP E M mode neg ez (raisedN mode neg (sNum N k1) (shD D k1) % 18446744073709551616)) := by have := HZ1.out; rw [if_neg hc] at this; exact this
  clear HZ1
  have HSh : Hid (∀ (k : Int), FitS N D k → ∀ W : World, RfAt w E M neg (.slice b1 n1 d1) (.slice b2 n2 d2) N D W → Calls Oabg.prog 133 #[.slice b1 n1 d1, .slice b2 n2 d2, .int .i64 k] W fun e w' => ∃ x y, e = .returned (.tuple #[x, y]) ∧ IsN w' x (sNum N k) ∧ IsN w' y (shD D k) ∧ Below W.heap.size W w') := fun k hf W hk => shift_any k hf.lo hf.hi hk.n hk.d hf.n0 hf.d0
  have HRd : Hid (∀ (W : World) (x y : Value), IsN W x (sNum N k1) → IsN W y (shD D k1) → Calls Oabg.prog 101 #[.int .u8 mode, .bool neg, x, y] W (FlPost W (raisedN mode neg (sNum N k1) (shD D k1)) (halfZ (sNum N k1) (shD D k1)) (someB (sNum N k1) (shD D k1)))) := fun W x y hx hy => raised_any mode neg hx hy HF1.out.n HF1.out.d HF1.out.p
  have HRd2 : Hid (∀ (W : World) (x y : Value), IsN W x (sNum N k2) → IsN W y (shD D k2) → Calls Oabg.prog 101 #[.int .u8 mode, .bool neg, x, y] W (FlPost W (raisedN mode neg (sNum N k2) (shD D k2)) (halfZ (sNum N k2) (shD D k2)) (someB (sNum N k2) (shD D k2)))) := fun W x y hx hy => raised_any mode neg hx hy HF2.out.n HF2.out.d HF2.out.p
  have HFr : Hid (FitW (raisedN mode neg (sNum N k2) (shD D k2))) := ⟨HF2.out.r mode neg⟩
  generalize raisedN mode neg (sNum N k1) (shD D k1) = rn at *
  generalize halfZ (sNum N k1) (shD D k1) = hf at *
  generalize someB (sNum N k1) (shD D k1) = sm at *
  generalize raisedN mode neg (sNum N k2) (shD D k2) = rn2 at *
  generalize halfZ (sNum N k2) (shD D k2) = hf2 at *
  generalize someB (sNum N k2) (shD D k2) = sm2 at *
  obtain ⟨rm, hrm⟩ : ∃ rm : Nat, rm = rn % 18446744073709551616 := ⟨_, rfl⟩
  rw [← hrm] at HZ2
  have HPk : Hid (∀ (W : World) (t : Bool), Calls Oabg.prog 134 #[fmtV E M, .int .u8 mode, .bool neg, .int .i64 ez, .int .u64 rm, .agg #[.int .i8 hf, .bool sm], .bool t] W (RfPost W Z)) := fun W t => by
    rw [HZ2.out]
    exact pack_any h' mode neg ez rm hf sm t HEB.out HE2.out W
  have HT : Hid (∀ (W : World) (x : Value), IsN W x rn → Calls Oabg.prog 103 #[x] W fun e w' => e = .returned (.int .u64 rm) ∧ w' = W) := fun W x hx => by
    rw [hrm]
    exact toU64_any hx
  clear hrm HZ2
  go_wp2_with fail
  go_at_call 133
  refine (HSh.out k1 HF1.out _ HK.out).mono ?_
  rintro ee w6 ⟨x, y, rfl, hx, hy, hb⟩
  obtain ⟨a7, n7, d7, rfl⟩ := hx.shape
  obtain ⟨a4, n4, d4, rfl⟩ := hy.shape
  have hK := HK.out.step hb
  have HX : Hid (IsN w6 (.slice a7 n7 d7) (sNum N k1)) := hx
  have HY : Hid (IsN w6 (.slice a4 n4 d4) (shD D k1)) := hy
  clear c0 c1 q0 q1 q2 qf qs HK hb hx hy wk1 HF1
  obtain ⟨c0, c1, q0, q1, q2, qf, qs, HK⟩ := hK.all
  clear hK
  go_wp2_with fail
  go_at_call 101
  refine (HRd.out _ _ _ HX.out HY.out).mono ?_
  clear HX HY
  rintro ee w7 ⟨a3, n3, d3, rfl, hx, hb⟩
  have hG := RgAt.start hf sm (HK.out.step hb) hx
  clear c0 c1 q0 q1 q2 qf qs HK hb hx HRd
  go_upto_region 12 with (fail)
  obtain ⟨W8, hW⟩ : ∃ W8, W8 = w7.alloc (.cells #[.int .i8 hf, .bool sm] 136) := ⟨_, rfl⟩
  obtain ⟨Q, hQ⟩ : ∃ Q, Q = w7.heap.size := ⟨_, rfl⟩
  rw [← hW, ← hQ] at hG
  rw [← hW, ← hQ]
  clear hW hQ
  have HT2 : Hid (∀ W : World, ((W.cell? ⟨w.heap.size, 0, none⟩ = some (.int .u8 E) ∧ W.cell? ⟨w.heap.size, 1, none⟩ = some (.int .u8 M) ∧ W.cell? ⟨w.heap.size + 1, 0, none⟩ = some (.bool neg) ∧ W.cell? ⟨Q, 0, none⟩ = some (.int .i8 hf) ∧ W.cell? ⟨Q, 1, none⟩ = some (.bool sm)) ∧ RgAt w E M neg (.slice b1 n1 d1) (.slice b2 n2 d2) N D Q hf sm (.slice a3 n3 d3) rn W) → Calls Oabg.prog 103 #[.slice a3 n3 d3] W fun e w' => e = .returned (.int .u64 rm) ∧ w' = W) := fun W k => HT.out _ _ k.2.xn
  clear HT
  obtain ⟨c0, c1, q0, q1, q2, r0, r1, HK⟩ := hG.all
  clear hG
  go_wp2_with fail
  go_at_call 130
  refine (H130.out _).mono ?_
  rintro ee w9 ⟨rfl, hb⟩
  have hK := HK.out.step hb
  clear c0 c1 q0 q1 q2 r0 r1 HK hb
  obtain ⟨c0, c1, q0, q1, q2, r0, r1, HK⟩ := hK.all
  clear hK
  go_wp2_with fail
  go_at_call 130
  refine (H130.out _).mono ?_
  rintro ee w10 ⟨rfl, hb⟩
  have hK := HK.out.step hb
  clear c0 c1 q0 q1 q2 r0 r1 HK hb
  by_cases hq : re = lo
  · have hqb : (re == lo) = true := by rw [hq]; exact beq_self_eq_true _
    clear hq
    obtain ⟨c0, c1, q0, q1, q2, r0, r1, HK⟩ := hK.all
    clear hK
    go_wp2_with fail
    go_at_call 133
    refine (HSh.out k2 HF2.out _ HK.out.rf).mono ?_
    rintro ee w11 ⟨x, y, rfl, hx, hy, hb⟩
    obtain ⟨a8, n8, d8, rfl⟩ := hx.shape
    obtain ⟨a6, n6, d6, rfl⟩ := hy.shape
    have hK := HK.out.step hb
    have HX : Hid (IsN w11 (.slice a8 n8 d8) (sNum N k2)) := hx
    have HY : Hid (IsN w11 (.slice a6 n6 d6) (shD D k2)) := hy
    clear c0 c1 q0 q1 q2 r0 r1 HK hb hx hy
    obtain ⟨c0, c1, q0, q1, q2, r0, r1, HK⟩ := hK.all
    clear hK
    go_wp2_with fail
    go_at_call 101
    refine (HRd2.out _ _ _ HX.out HY.out).mono ?_
    clear HX HY
    rintro ee w12 ⟨a5, n5, d5, rfl, hx, hb⟩
    have hA := below_alloc w12 (.cells #[.int .i8 hf2, .bool sm2] 136)
    have hK := (HK.out.step hb).step hA
    have hX := hx.step hA
    clear c0 c1 q0 q1 q2 r0 r1 HK hb hx hA
    go_upto_region 16 with (fail)
    obtain ⟨W13, hW⟩ : ∃ W13, W13 = w12.alloc (.cells #[.int .i8 hf2, .bool sm2] 136) := ⟨_, rfl⟩
    rw [← hW] at hK hX ⊢
    clear hW
    obtain ⟨bl, hbl⟩ : ∃ bl, bl = blen rn2 := ⟨_, rfl⟩
    have HB98 : Hid (∀ W : World, (W.cell? ⟨w.heap.size, 1, none⟩ = some (.int .u8 M)) ∧ (RgAt w E M neg (.slice b1 n1 d1) (.slice b2 n2 d2) N D Q hf sm (.slice a3 n3 d3) rn W ∧ IsN W (.slice a5 n5 d5) rn2) → Calls Oabg.prog 98 #[.slice a5 n5 d5] W fun e w' => e = .returned (.int .i64 bl) ∧ w' = W) := fun W k => by
      rw [hbl]
      exact bitLen_any k.2.2 HFr.out.f
    clear hbl
    obtain ⟨m1, hm1⟩ : ∃ m1 : Int, m1 = (M : Int) + 1 := ⟨_, rfl⟩
    have wm1 : IntKind.i64.wrap ((M : Int) + 1) = m1 := by rw [IntKind.wrap_i64]; omega
    clear hm1
    go_cut [14] (fun s14 wx => (∃ t, s14 = .bool t) ∧ RgAt w E M neg (.slice b1 n1 d1) (.slice b2 n2 d2) N D Q hf sm (.slice a3 n3 d3) rn wx)
    case first =>
      obtain ⟨c0, c1, q0, q1, q2, r0, r1, HK⟩ := hK.all
      clear hK c0 q0 q1 q2 r0 r1
      have HXX : Hid (IsN W13 (.slice a5 n5 d5) rn2) := hX
      clear hX
      go_region_held3 (fun W => (W.cell? ⟨w.heap.size, 1, none⟩ = some (.int .u8 M)) ∧ (RgAt w E M neg (.slice b1 n1 d1) (.slice b2 n2 d2) N D Q hf sm (.slice a3 n3 d3) rn W ∧ IsN W (.slice a5 n5 d5) rn2))
        (first
          | exact ⟨c1, HK.out.drew, HXX.out.drew⟩
          | assumption)
        (first
          | (go_at_call 98; refine (HB98.out _ (by assumption)).mono ?_; rintro ee w' ⟨rfl, hq⟩; obtain rfl := hq.symm))
      rename_i hH
      go_wp2
      go_meet
      exact ⟨⟨_, rfl⟩, hH.2.1⟩
    case rest =>
    obtain ⟨⟨t, rfl⟩, hK⟩ := hcut
    clear hX HB98 wm1 wM wk2 w1 hqb HRd2 HSh
    go_upto_region 17 with (fail)
    obtain ⟨c0, c1, q0, q1, q2, r0, r1, HK⟩ := hK.all
    clear hK
    go_region_held3 (fun W => (W.cell? ⟨w.heap.size, 0, none⟩ = some (.int .u8 E) ∧ W.cell? ⟨w.heap.size, 1, none⟩ = some (.int .u8 M) ∧ W.cell? ⟨w.heap.size + 1, 0, none⟩ = some (.bool neg) ∧ W.cell? ⟨Q, 0, none⟩ = some (.int .i8 hf) ∧ W.cell? ⟨Q, 1, none⟩ = some (.bool sm)) ∧ RgAt w E M neg (.slice b1 n1 d1) (.slice b2 n2 d2) N D Q hf sm (.slice a3 n3 d3) rn W)
      (first
        | exact ⟨⟨c0, c1, q0, r0, r1⟩, HK.out.drew⟩
        | assumption
        | (with_reducible refine keepRg hb ?_; assumption))
      (first
        | (go_at_call 103; refine (HT2.out _ (by assumption)).mono ?_; rintro ee w' ⟨rfl, hq⟩; obtain rfl := hq.symm)
        | (go_at_call 134; refine (HPk.out _ _).mono ?_; rintro ee w' ⟨fl, rfl, hb⟩))
    rename_i hH
    go_wp2
    go_ret2
    exact ⟨_, rfl, hH.2.rf.below⟩
  · have hqb : (re == lo) = false := by rw [beq_eq_false_iff_ne]; exact hq
    clear hq
    go_upto_region 17 with (fail)
    clear wM wk2 w1 hqb HRd2 HSh
    obtain ⟨c0, c1, q0, q1, q2, r0, r1, HK⟩ := hK.all
    clear hK
    go_region_held3 (fun W => (W.cell? ⟨w.heap.size, 0, none⟩ = some (.int .u8 E) ∧ W.cell? ⟨w.heap.size, 1, none⟩ = some (.int .u8 M) ∧ W.cell? ⟨w.heap.size + 1, 0, none⟩ = some (.bool neg) ∧ W.cell? ⟨Q, 0, none⟩ = some (.int .i8 hf) ∧ W.cell? ⟨Q, 1, none⟩ = some (.bool sm)) ∧ RgAt w E M neg (.slice b1 n1 d1) (.slice b2 n2 d2) N D Q hf sm (.slice a3 n3 d3) rn W)
      (first
        | exact ⟨⟨c0, c1, q0, r0, r1⟩, HK.out.drew⟩
        | assumption
        | (with_reducible refine keepRg hb ?_; assumption))
      (first
        | (go_at_call 103; refine (HT2.out _ (by assumption)).mono ?_; rintro ee w' ⟨rfl, hq⟩; obtain rfl := hq.symm)
        | (go_at_call 134; refine (HPk.out _ _).mono ?_; rintro ee w' ⟨fl, rfl, hb⟩))
    rename_i hH
    go_wp2
    go_ret2
    exact ⟨_, rfl, hH.2.rf.below⟩

end Go.Proofs.Ygcoab
