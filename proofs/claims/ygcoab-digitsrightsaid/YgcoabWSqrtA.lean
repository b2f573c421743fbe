import Derived.Test.YgcoabPlainSqrt2
import Derived.Test.YgcoabWHeard
namespace Go.Proofs.Ygcoab
open Go.RowKit

theorem open_all {E M : Nat} (h : FOk E M) (x : Nat) (hx : x < 18446744073709551616) (w : World) :
    Calls Oabg.prog 60 #[fmtV E M, .int .u64 x] w fun e w' => ∃ r, e = .returned r ∧ OpIs w' r (x % 2 ^ (E + M + 1)) (negF E M x) (clsF E M x) (vNeg E M x) (vNum E M x) (vDen E M x) ∧ Below w.heap.size w w' := by
  have := open_yes h x hx w
  rw [mod_negF, mod_clsF, mod_vNeg, mod_vNum, mod_vDen] at this
  exact this

/-- SqrtFlags' world: the format, the operand -/
structure OpAt (w : World) (E M X y : Nat) (N : Bool) (c : Int) (s : Bool) (u v : Value) (A D : Nat) (W : World) : Prop where
  fm : FAt w.heap.size E M W
  x0 : W.cell? ⟨X, 0, none⟩ = some (.int .u64 y)
  x1 : W.cell? ⟨X, 1, none⟩ = some (.bool N)
  x2 : W.cell? ⟨X, 2, none⟩ = some (.int .i8 c)
  x3 : W.cell? ⟨X, 3, none⟩ = some (.bool s)
  x4 : W.cell? ⟨X, 4, none⟩ = some u
  x5 : W.cell? ⟨X, 5, none⟩ = some v
  xs : X < W.heap.size
  n : IsN W u A
  d : IsN W v D
  below : Below w.heap.size w W

theorem OpAt.step {w W W' : World} {E M X y A D : Nat} {N s : Bool} {c : Int} {u v : Value} (h : OpAt w E M X y N c s u v A D W) (hb : Below W.heap.size W W') : OpAt w E M X y N c s u v A D W' :=
  have k := fun o => hb.cell (p := ⟨X, o, none⟩) h.xs
  ⟨h.fm.step hb, (k 0).trans h.x0, (k 1).trans h.x1, (k 2).trans h.x2, (k 3).trans h.x3, (k 4).trans h.x4, (k 5).trans h.x5, Nat.lt_of_lt_of_le h.xs hb.size, h.n.step hb, h.d.step hb, below_step h.below h.below.size hb⟩

theorem OpAt.drew {w W : World} {E M X y A D : Nat} {N s : Bool} {c : Int} {u v : Value} (h : OpAt w E M X y N c s u v A D W) : OpAt w E M X y N c s u v A D W.drew :=
  ⟨h.fm.drew, h.x0, h.x1, h.x2, h.x3, h.x4, h.x5, h.xs, h.n, h.d, h.below.drew⟩

theorem OpAt.start {w W : World} {E M y A D : Nat} {N s : Bool} {c : Int} {a a' : Option Addr} {n e n' e' : Nat} (fm : FAt w.heap.size E M W) (hB : Below w.heap.size w W) (hn : IsN W (.slice a n e) A) (hd : IsN W (.slice a' n' e') D) :
    OpAt w E M W.heap.size y N c s (.slice a n e) (.slice a' n' e') A D (W.alloc (.cells #[.int .u64 y, .bool N, .int .i8 c, .bool s, .slice a n e, .slice a' n' e'] 92)) := by
  have hA := below_alloc W (.cells #[.int .u64 y, .bool N, .int .i8 c, .bool s, .slice a n e, .slice a' n' e'] 92)
  exact ⟨fm.step hA, by simp [go_sem], by simp [go_sem], by simp [go_sem], by simp [go_sem], by simp [go_sem], by simp [go_sem], by simp [go_sem], hn.step hA, hd.step hA, below_step hB hB.size hA⟩

theorem OpAt.all {w W : World} {E M X y A D : Nat} {N s : Bool} {c : Int} {u v : Value} (h : OpAt w E M X y N c s u v A D W) :
    (W.cell? ⟨w.heap.size, 0, none⟩ = some (.int .u8 E) ∧ W.cell? ⟨w.heap.size, 1, none⟩ = some (.int .u8 M)) ∧ (W.cell? ⟨X, 0, none⟩ = some (.int .u64 y) ∧ W.cell? ⟨X, 1, none⟩ = some (.bool N) ∧ W.cell? ⟨X, 2, none⟩ = some (.int .i8 c) ∧ W.cell? ⟨X, 3, none⟩ = some (.bool s) ∧ W.cell? ⟨X, 4, none⟩ = some u ∧ W.cell? ⟨X, 5, none⟩ = some v) ∧ Hid (OpAt w E M X y N c s u v A D W) :=
  ⟨⟨h.fm.c0, h.fm.c1⟩, ⟨h.x0, h.x1, h.x2, h.x3, h.x4, h.x5⟩, h⟩

theorem keepOp {w W W' : World} {E M X y A D : Nat} {N s : Bool} {c : Int} {u v : Value} (hb : Below W.heap.size W W')
    (h : (W.cell? ⟨w.heap.size, 0, none⟩ = some (.int .u8 E) ∧ W.cell? ⟨w.heap.size, 1, none⟩ = some (.int .u8 M) ∧ W.cell? ⟨X, 4, none⟩ = some u ∧ W.cell? ⟨X, 5, none⟩ = some v) ∧ OpAt w E M X y N c s u v A D W) :
    (W'.cell? ⟨w.heap.size, 0, none⟩ = some (.int .u8 E) ∧ W'.cell? ⟨w.heap.size, 1, none⟩ = some (.int .u8 M) ∧ W'.cell? ⟨X, 4, none⟩ = some u ∧ W'.cell? ⟨X, 5, none⟩ = some v) ∧ OpAt w E M X y N c s u v A D W' :=
  have k := h.2.step hb
  ⟨⟨k.fm.c0, k.fm.c1, k.x4, k.x5⟩, k⟩

/-- with the rest's variable -/
structure OgAt (w : World) (E M X y : Nat) (N : Bool) (c : Int) (s : Bool) (u v : Value) (A D Q : Nat) (half : Int) (some : Bool) (x : Value) (n : Nat) (W : World) : Prop where
  op : OpAt w E M X y N c s u v A D W
  rv : HVar Q half some W
  xn : IsN W x n

theorem OgAt.step {w W W' : World} {E M X y A D Q n : Nat} {N s some : Bool} {c half : Int} {u v x : Value} (h : OgAt w E M X y N c s u v A D Q half some x n W) (hb : Below W.heap.size W W') : OgAt w E M X y N c s u v A D Q half some x n W' :=
  ⟨h.op.step hb, h.rv.step hb, h.xn.step hb⟩

theorem OgAt.drew {w W : World} {E M X y A D Q n : Nat} {N s some : Bool} {c half : Int} {u v x : Value} (h : OgAt w E M X y N c s u v A D Q half some x n W) : OgAt w E M X y N c s u v A D Q half some x n W.drew :=
  ⟨h.op.drew, h.rv.drew, h.xn.drew⟩

theorem OgAt.start {w W : World} {E M X y A D n : Nat} {N s : Bool} {c : Int} {u v x : Value} (half : Int) (some : Bool) (h : OpAt w E M X y N c s u v A D W) (hx : IsN W x n) :
    OgAt w E M X y N c s u v A D W.heap.size half some x n (W.alloc (.cells #[.int .i8 half, .bool some] 136)) :=
  ⟨h.step (below_alloc _ _), HVar.start W half some, hx.step (below_alloc _ _)⟩

theorem OgAt.all {w W : World} {E M X y A D Q n : Nat} {N s some : Bool} {c half : Int} {u v x : Value} (h : OgAt w E M X y N c s u v A D Q half some x n W) :
    (W.cell? ⟨w.heap.size, 0, none⟩ = .some (.int .u8 E) ∧ W.cell? ⟨w.heap.size, 1, none⟩ = .some (.int .u8 M)) ∧ (W.cell? ⟨X, 3, none⟩ = .some (.bool s) ∧ W.cell? ⟨X, 4, none⟩ = .some u ∧ W.cell? ⟨X, 5, none⟩ = .some v) ∧ (W.cell? ⟨Q, 0, none⟩ = .some (.int .i8 half) ∧ W.cell? ⟨Q, 1, none⟩ = .some (.bool some)) ∧ Hid (OgAt w E M X y N c s u v A D Q half some x n W) :=
  ⟨⟨h.op.fm.c0, h.op.fm.c1⟩, ⟨h.op.x3, h.op.x4, h.op.x5⟩, ⟨h.rv.r0, h.rv.r1⟩, h⟩

theorem keepOg {w W W' : World} {E M X y A D Q n : Nat} {N s some : Bool} {c half : Int} {u v x : Value} (hb : Below W.heap.size W W')
    (h : (W.cell? ⟨w.heap.size, 0, none⟩ = .some (.int .u8 E) ∧ W.cell? ⟨w.heap.size, 1, none⟩ = .some (.int .u8 M) ∧ W.cell? ⟨Q, 0, none⟩ = .some (.int .i8 half) ∧ W.cell? ⟨Q, 1, none⟩ = .some (.bool some)) ∧ OgAt w E M X y N c s u v A D Q half some x n W) :
    (W'.cell? ⟨w.heap.size, 0, none⟩ = .some (.int .u8 E) ∧ W'.cell? ⟨w.heap.size, 1, none⟩ = .some (.int .u8 M) ∧ W'.cell? ⟨Q, 0, none⟩ = .some (.int .i8 half) ∧ W'.cell? ⟨Q, 1, none⟩ = .some (.bool some)) ∧ OgAt w E M X y N c s u v A D Q half some x n W' :=
  have k := h.2.step hb
  ⟨⟨k.op.fm.c0, k.op.fm.c1, k.rv.r0, k.rv.r1⟩, k⟩

/-- the root's pattern and some flags -/
def SfPost (w : World) (E M mode T : Nat) (e : Ending) (w' : World) : Prop := ∃ g, SqRes E M mode T g ∧ RfPost w g e w'

set_option maxRecDepth 100000 in
set_option maxHeartbeats 4000000 in
theorem sqrtFlags_nan {E M : Nat} (h : FOk E M) (mode : Nat) (a : Nat) (ha : a < 18446744073709551616) (hc : clsF E M a = 4) (w : World) :
    Calls Oabg.prog 92 #[fmtV E M, .int .u8 mode, .int .u64 a] w (RfPost w (nanP E M)) := by
  have h' := h
  have HO : Hid (∀ w : World, Calls Oabg.prog 60 #[.agg #[.int .u8 E, .int .u8 M], .int .u64 a] w fun e w' => ∃ r, e = .returned r ∧ OpIs w' r (a % 2 ^ (E + M + 1)) (negF E M a) (clsF E M a) (vNeg E M a) (vNum E M a) (vDen E M a) ∧ Below w.heap.size w w') := fun w => open_all h a ha w
  have HHe : Hid (∀ w : World, Calls Oabg.prog 136 #[.agg #[.int .u8 E, .int .u8 M], .int .u64 a, .int .u64 a] w fun e w' => ∃ z, e = .returned (.int .u8 z) ∧ Below w.heap.size w w') := fun w => heard_any h a a ha ha w
  rw [hc] at HO
  generalize a % 2 ^ (E + M + 1) = y at *
  generalize negF E M a = N at *
  generalize vNeg E M a = s at *
  generalize vNum E M a = A at *
  generalize vDen E M a = D at *
  unfold fmtV
  go_enter Oabg.func92, Oabg.ntmps92
  go_wp2_with fail
  go_at_call 23
  refine (ok_yes h' _).mono ?_
  rintro ee w1 ⟨rfl, hb1⟩
  obtain ⟨hF1, hB1⟩ := (fmt_start w E M).1.below (fmt_start w E M).2 hb1
  obtain ⟨c0, c1⟩ := hF1.all
  clear hb1
  go_wp2_with fail
  go_at_call 60
  refine (HO.out _).mono ?_
  rintro ee w2 ⟨r, rfl, hr, hb1⟩
  obtain ⟨a1, n1, d1, a2, n2, d2, rfl, i1, j1⟩ := hr
  obtain ⟨hF2, hB2⟩ := hF1.below hB1 hb1
  have hP := OpAt.start (y := y) (N := N) (c := 4) (s := s) hF2 hB2 i1 j1
  clear c0 c1 hb1 hF1 hB1 hF2 hB2 i1 j1
  go_upto_region 4 with (fail)
  obtain ⟨W, hW⟩ : ∃ W, W = w2.alloc (.cells #[.int .u64 y, .bool N, .int .i8 4, .bool s, .slice a1 n1 d1, .slice a2 n2 d2] 92) := ⟨_, rfl⟩
  obtain ⟨X, hX⟩ : ∃ X, X = w2.heap.size := ⟨_, rfl⟩
  rw [← hW, ← hX] at hP
  rw [← hW, ← hX]
  clear hW hX
  obtain ⟨⟨c0, c1⟩, ⟨x0, x1, x2, x3, x4, x5⟩, HK⟩ := hP.all
  clear hP
  go_wp2_with fail
  have hsz := HK.out.fm.size
  have hB := HK.out.below
  go_region_held3 (fun w' => w'.cell? ⟨w.heap.size, 0, none⟩ = some (.int .u8 E) ∧ w'.cell? ⟨w.heap.size, 1, none⟩ = some (.int .u8 M) ∧ Below w.heap.size w w' ∧ w.heap.size < w'.heap.size)
    (first
      | exact ⟨c0, c1, hB.drew, hsz⟩
      | (refine keepF hb ?_; assumption))
    (first
      | (go_at_call 135; refine (theNaN_yes h' _).mono ?_; rintro e wa ⟨rfl, hb⟩)
      | (go_at_call 136; refine (HHe.out _).mono ?_; rintro e wa ⟨z, rfl, hb⟩))
  rename_i hH
  go_wp2
  go_ret2
  exact ⟨z, rfl, hH.2.2.1⟩

set_option maxRecDepth 100000 in
set_option maxHeartbeats 4000000 in
theorem sqrtFlags_zero {E M : Nat} (h : FOk E M) (mode : Nat) (a : Nat) (ha : a < 18446744073709551616) (hc : clsF E M a = 0) (w : World) :
    Calls Oabg.prog 92 #[fmtV E M, .int .u8 mode, .int .u64 a] w (RfPost w (a % 2 ^ (E + M + 1))) := by
  have h' := h
  have HO : Hid (∀ w : World, Calls Oabg.prog 60 #[.agg #[.int .u8 E, .int .u8 M], .int .u64 a] w fun e w' => ∃ r, e = .returned r ∧ OpIs w' r (a % 2 ^ (E + M + 1)) (negF E M a) (clsF E M a) (vNeg E M a) (vNum E M a) (vDen E M a) ∧ Below w.heap.size w w') := fun w => open_all h a ha w
  rw [hc] at HO
  generalize a % 2 ^ (E + M + 1) = y at *
  generalize negF E M a = N at *
  generalize vNeg E M a = s at *
  generalize vNum E M a = A at *
  generalize vDen E M a = D at *
  unfold fmtV
  go_enter Oabg.func92, Oabg.ntmps92
  go_wp2_with fail
  go_at_call 23
  refine (ok_yes h' _).mono ?_
  rintro ee w1 ⟨rfl, hb1⟩
  obtain ⟨hF1, hB1⟩ := (fmt_start w E M).1.below (fmt_start w E M).2 hb1
  obtain ⟨c0, c1⟩ := hF1.all
  clear hb1
  go_wp2_with fail
  go_at_call 60
  refine (HO.out _).mono ?_
  rintro ee w2 ⟨r, rfl, hr, hb1⟩
  obtain ⟨a1, n1, d1, a2, n2, d2, rfl, i1, j1⟩ := hr
  obtain ⟨hF2, hB2⟩ := hF1.below hB1 hb1
  have hP := OpAt.start (y := y) (N := N) (c := 0) (s := s) hF2 hB2 i1 j1
  clear c0 c1 hb1 hF1 hB1 hF2 hB2 i1 j1
  go_upto_region 4 with (fail)
  obtain ⟨W, hW⟩ : ∃ W, W = w2.alloc (.cells #[.int .u64 y, .bool N, .int .i8 0, .bool s, .slice a1 n1 d1, .slice a2 n2 d2] 92) := ⟨_, rfl⟩
  obtain ⟨X, hX⟩ : ∃ X, X = w2.heap.size := ⟨_, rfl⟩
  rw [← hW, ← hX] at hP
  rw [← hW, ← hX]
  clear hW hX
  obtain ⟨⟨c0, c1⟩, ⟨x0, x1, x2, x3, x4, x5⟩, HK⟩ := hP.all
  clear hP
  have hB := HK.out.below
  go_wp2
  go_ret2
  exact ⟨_, rfl, hB⟩

set_option maxRecDepth 100000 in
set_option maxHeartbeats 4000000 in
theorem sqrtFlags_neg {E M : Nat} (h : FOk E M) (mode : Nat) (a : Nat) (ha : a < 18446744073709551616) (hc : clsF E M a ≠ 0) (hc4 : clsF E M a ≠ 4) (hn : negF E M a = true) (w : World) :
    Calls Oabg.prog 92 #[fmtV E M, .int .u8 mode, .int .u64 a] w (RfPost w (nanP E M)) := by
  have h' := h
  have HO : Hid (∀ w : World, Calls Oabg.prog 60 #[.agg #[.int .u8 E, .int .u8 M], .int .u64 a] w fun e w' => ∃ r, e = .returned r ∧ OpIs w' r (a % 2 ^ (E + M + 1)) (negF E M a) (clsF E M a) (vNeg E M a) (vNum E M a) (vDen E M a) ∧ Below w.heap.size w w') := fun w => open_all h a ha w
  rw [hn] at HO
  have e4 : (clsF E M a == 4) = false := by rw [beq_eq_false_iff_ne]; exact hc4
  have e0 : (clsF E M a == 0) = false := by rw [beq_eq_false_iff_ne]; exact hc
  clear hc hc4 hn
  generalize a % 2 ^ (E + M + 1) = y at *
  generalize clsF E M a = c at *
  generalize vNeg E M a = s at *
  generalize vNum E M a = A at *
  generalize vDen E M a = D at *
  unfold fmtV
  go_enter Oabg.func92, Oabg.ntmps92
  go_wp2_with fail
  go_at_call 23
  refine (ok_yes h' _).mono ?_
  rintro ee w1 ⟨rfl, hb1⟩
  obtain ⟨hF1, hB1⟩ := (fmt_start w E M).1.below (fmt_start w E M).2 hb1
  obtain ⟨c0, c1⟩ := hF1.all
  clear hb1
  go_wp2_with fail
  go_at_call 60
  refine (HO.out _).mono ?_
  rintro ee w2 ⟨r, rfl, hr, hb1⟩
  obtain ⟨a1, n1, d1, a2, n2, d2, rfl, i1, j1⟩ := hr
  obtain ⟨hF2, hB2⟩ := hF1.below hB1 hb1
  have hP := OpAt.start (y := y) (N := true) (c := c) (s := s) hF2 hB2 i1 j1
  clear c0 c1 hb1 hF1 hB1 hF2 hB2 i1 j1
  go_upto_region 4 with (fail)
  obtain ⟨W, hW⟩ : ∃ W, W = w2.alloc (.cells #[.int .u64 y, .bool true, .int .i8 c, .bool s, .slice a1 n1 d1, .slice a2 n2 d2] 92) := ⟨_, rfl⟩
  obtain ⟨X, hX⟩ : ∃ X, X = w2.heap.size := ⟨_, rfl⟩
  rw [← hW, ← hX] at hP
  rw [← hW, ← hX]
  clear hW hX
  obtain ⟨⟨c0, c1⟩, ⟨x0, x1, x2, x3, x4, x5⟩, HK⟩ := hP.all
  clear hP
  go_wp2_with fail
  go_at_call 135
  refine (theNaN_yes h' _).mono ?_
  rintro e wa ⟨rfl, hb⟩
  have hB := (HK.out.step hb).below
  go_wp2
  go_ret2
  exact ⟨_, rfl, hB⟩

set_option maxRecDepth 100000 in
set_option maxHeartbeats 4000000 in
theorem sqrtFlags_inf {E M : Nat} (h : FOk E M) (mode : Nat) (a : Nat) (ha : a < 18446744073709551616) (hc : clsF E M a = 3) (hn : negF E M a = false) (w : World) :
    Calls Oabg.prog 92 #[fmtV E M, .int .u8 mode, .int .u64 a] w (RfPost w (a % 2 ^ (E + M + 1))) := by
  have h' := h
  have HO : Hid (∀ w : World, Calls Oabg.prog 60 #[.agg #[.int .u8 E, .int .u8 M], .int .u64 a] w fun e w' => ∃ r, e = .returned r ∧ OpIs w' r (a % 2 ^ (E + M + 1)) (negF E M a) (clsF E M a) (vNeg E M a) (vNum E M a) (vDen E M a) ∧ Below w.heap.size w w') := fun w => open_all h a ha w
  rw [hc, hn] at HO
  clear hc hn
  generalize a % 2 ^ (E + M + 1) = y at *
  generalize vNeg E M a = s at *
  generalize vNum E M a = A at *
  generalize vDen E M a = D at *
  unfold fmtV
  go_enter Oabg.func92, Oabg.ntmps92
  go_wp2_with fail
  go_at_call 23
  refine (ok_yes h' _).mono ?_
  rintro ee w1 ⟨rfl, hb1⟩
  obtain ⟨hF1, hB1⟩ := (fmt_start w E M).1.below (fmt_start w E M).2 hb1
  obtain ⟨c0, c1⟩ := hF1.all
  clear hb1
  go_wp2_with fail
  go_at_call 60
  refine (HO.out _).mono ?_
  rintro ee w2 ⟨r, rfl, hr, hb1⟩
  obtain ⟨a1, n1, d1, a2, n2, d2, rfl, i1, j1⟩ := hr
  obtain ⟨hF2, hB2⟩ := hF1.below hB1 hb1
  have hP := OpAt.start (y := y) (N := false) (c := 3) (s := s) hF2 hB2 i1 j1
  clear c0 c1 hb1 hF1 hB1 hF2 hB2 i1 j1
  go_upto_region 4 with (fail)
  obtain ⟨W, hW⟩ : ∃ W, W = w2.alloc (.cells #[.int .u64 y, .bool false, .int .i8 3, .bool s, .slice a1 n1 d1, .slice a2 n2 d2] 92) := ⟨_, rfl⟩
  obtain ⟨X, hX⟩ : ∃ X, X = w2.heap.size := ⟨_, rfl⟩
  rw [← hW, ← hX] at hP
  rw [← hW, ← hX]
  clear hW hX
  obtain ⟨⟨c0, c1⟩, ⟨x0, x1, x2, x3, x4, x5⟩, HK⟩ := hP.all
  clear hP
  have hB := HK.out.below
  go_wp2
  go_ret2
  exact ⟨_, rfl, hB⟩

end Go.Proofs.Ygcoab
