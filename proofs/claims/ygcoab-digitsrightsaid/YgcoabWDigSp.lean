import Derived.Test.YgcoabPlainDigB
namespace Go.Proofs.Ygcoab
open Go.RowKit

set_option maxRecDepth 100000 in
theorem digitsE_big {E M : Nat} (h : FOk E M) (x prec : Nat) (hp : 2000 < prec) (w : World) :
    Calls Oabg.prog 24 #[fmtV E M, .int .u64 x, .int .u16 prec] w fun e w' => e = .returned (.tuple #[.string { data := #[] }, .int .i16 0]) ∧ Below w.heap.size w w' := by
  have h' := h
  unfold fmtV
  go_enter Oabg.func24, Oabg.ntmps24
  go_wp2_with fail
  go_at_call 23
  refine (ok_yes h' _).mono ?_
  rintro ee w1 ⟨rfl, hb1⟩
  have HB := ((fmt_start w E M).1.below (fmt_start w E M).2 hb1).2
  clear hb1
  go_wp2
  go_ret2
  exact ⟨rfl, HB⟩

set_option maxRecDepth 100000 in
theorem digitsF_big {E M : Nat} (h : FOk E M) (x prec : Nat) (hp : 2000 < prec) (w : World) :
    Calls Oabg.prog 25 #[fmtV E M, .int .u64 x, .int .u16 prec] w fun e w' => e = .returned (.string { data := #[] }) ∧ Below w.heap.size w w' := by
  have h' := h
  unfold fmtV
  go_enter Oabg.func25, Oabg.ntmps25
  go_wp2_with fail
  go_at_call 23
  refine (ok_yes h' _).mono ?_
  rintro ee w1 ⟨rfl, hb1⟩
  have HB := ((fmt_start w E M).1.below (fmt_start w E M).2 hb1).2
  clear hb1
  go_wp2
  go_ret
  exact ⟨rfl, HB⟩

set_option maxRecDepth 100000 in
theorem digitsE_inf {E M : Nat} (h : FOk E M) (x : Nat) (hx : x < 18446744073709551616) (hc : clsF E M x = 3) (prec : Nat) (hp : prec ≤ 2000) (w : World) :
    Calls Oabg.prog 24 #[fmtV E M, .int .u64 x, .int .u16 prec] w fun e w' => e = .returned (.tuple #[.string { data := #[] }, .int .i16 0]) ∧ Below w.heap.size w w' := by
  have h' := h
  have HO : Hid (∀ w : World, Calls Oabg.prog 60 #[.agg #[.int .u8 E, .int .u8 M], .int .u64 x] w fun e w' => ∃ r, e = .returned r ∧ OpIs w' r (x % 2 ^ (E + M + 1)) (negF E M x) (clsF E M x) (vNeg E M x) (vNum E M x) (vDen E M x) ∧ Below w.heap.size w w') := fun w => open_all h x hx w
  rw [hc] at HO
  clear hc
  have hgt : decide (2000 < (prec : Int)) = false := decide_eq_false (by omega)
  generalize x % 2 ^ (E + M + 1) = y at *
  generalize negF E M x = N at *
  generalize vNeg E M x = s at *
  generalize vNum E M x = A at *
  generalize vDen E M x = D at *
  unfold fmtV
  go_enter Oabg.func24, Oabg.ntmps24
  go_wp2_with fail
  go_at_call 23
  refine (ok_yes h' _).mono ?_
  rintro ee w1 ⟨rfl, hb1⟩
  obtain ⟨hF1, hB1⟩ := (fmt_start w E M).1.below (fmt_start w E M).2 hb1
  obtain ⟨c0, c1⟩ := hF1.all
  clear hb1
  go_wp2_with fail
  go_at_call 60
  refine (HO.out _).mono ?_
  rintro ee w2 ⟨r, rfl, hr, hb1⟩
  obtain ⟨a1, n1, d1, a2, n2, d2, rfl, i1, j1⟩ := hr
  obtain ⟨hF2, hB2⟩ := hF1.below hB1 hb1
  have hP := OpAt.start (y := y) (N := N) (c := 3) (s := s) hF2 hB2 i1 j1
  clear c0 c1 hb1 hF1 hB1 hF2 hB2 i1 j1
  go_upto_region 4 with (fail)
  obtain ⟨W, hW⟩ : ∃ W, W = w2.alloc (.cells #[.int .u64 y, .bool N, .int .i8 3, .bool s, .slice a1 n1 d1, .slice a2 n2 d2] 92) := ⟨_, rfl⟩
  obtain ⟨X, hX⟩ : ∃ X, X = w2.heap.size := ⟨_, rfl⟩
  rw [← hW, ← hX] at hP
  rw [← hW, ← hX]
  clear hW hX
  obtain ⟨⟨c0, c1⟩, ⟨x0, x1, x2, x3, x4, x5⟩, HK⟩ := hP.all
  clear hP
  have HB := HK.out.below
  go_wp2
  go_ret2
  exact ⟨rfl, HB⟩

set_option maxRecDepth 100000 in
theorem digitsE_nan {E M : Nat} (h : FOk E M) (x : Nat) (hx : x < 18446744073709551616) (hc : clsF E M x = 4) (prec : Nat) (hp : prec ≤ 2000) (w : World) :
    Calls Oabg.prog 24 #[fmtV E M, .int .u64 x, .int .u16 prec] w fun e w' => e = .returned (.tuple #[.string { data := #[] }, .int .i16 0]) ∧ Below w.heap.size w w' := by
  have h' := h
  have HO : Hid (∀ w : World, Calls Oabg.prog 60 #[.agg #[.int .u8 E, .int .u8 M], .int .u64 x] w fun e w' => ∃ r, e = .returned r ∧ OpIs w' r (x % 2 ^ (E + M + 1)) (negF E M x) (clsF E M x) (vNeg E M x) (vNum E M x) (vDen E M x) ∧ Below w.heap.size w w') := fun w => open_all h x hx w
  rw [hc] at HO
  clear hc
  have hgt : decide (2000 < (prec : Int)) = false := decide_eq_false (by omega)
  generalize x % 2 ^ (E + M + 1) = y at *
  generalize negF E M x = N at *
  generalize vNeg E M x = s at *
  generalize vNum E M x = A at *
  generalize vDen E M x = D at *
  unfold fmtV
  go_enter Oabg.func24, Oabg.ntmps24
  go_wp2_with fail
  go_at_call 23
  refine (ok_yes h' _).mono ?_
  rintro ee w1 ⟨rfl, hb1⟩
  obtain ⟨hF1, hB1⟩ := (fmt_start w E M).1.below (fmt_start w E M).2 hb1
  obtain ⟨c0, c1⟩ := hF1.all
  clear hb1
  go_wp2_with fail
  go_at_call 60
  refine (HO.out _).mono ?_
  rintro ee w2 ⟨r, rfl, hr, hb1⟩
  obtain ⟨a1, n1, d1, a2, n2, d2, rfl, i1, j1⟩ := hr
  obtain ⟨hF2, hB2⟩ := hF1.below hB1 hb1
  have hP := OpAt.start (y := y) (N := N) (c := 4) (s := s) hF2 hB2 i1 j1
  clear c0 c1 hb1 hF1 hB1 hF2 hB2 i1 j1
  go_upto_region 4 with (fail)
  obtain ⟨W, hW⟩ : ∃ W, W = w2.alloc (.cells #[.int .u64 y, .bool N, .int .i8 4, .bool s, .slice a1 n1 d1, .slice a2 n2 d2] 92) := ⟨_, rfl⟩
  obtain ⟨X, hX⟩ : ∃ X, X = w2.heap.size := ⟨_, rfl⟩
  rw [← hW, ← hX] at hP
  rw [← hW, ← hX]
  clear hW hX
  obtain ⟨⟨c0, c1⟩, ⟨x0, x1, x2, x3, x4, x5⟩, HK⟩ := hP.all
  clear hP
  have HB := HK.out.below
  go_wp2
  go_ret2
  exact ⟨rfl, HB⟩

set_option maxRecDepth 100000 in
theorem digitsF_inf {E M : Nat} (h : FOk E M) (x : Nat) (hx : x < 18446744073709551616) (hc : clsF E M x = 3) (prec : Nat) (hp : prec ≤ 2000) (w : World) :
    Calls Oabg.prog 25 #[fmtV E M, .int .u64 x, .int .u16 prec] w fun e w' => e = .returned (.string { data := #[] }) ∧ Below w.heap.size w w' := by
  have h' := h
  have HO : Hid (∀ w : World, Calls Oabg.prog 60 #[.agg #[.int .u8 E, .int .u8 M], .int .u64 x] w fun e w' => ∃ r, e = .returned r ∧ OpIs w' r (x % 2 ^ (E + M + 1)) (negF E M x) (clsF E M x) (vNeg E M x) (vNum E M x) (vDen E M x) ∧ Below w.heap.size w w') := fun w => open_all h x hx w
  rw [hc] at HO
  clear hc
  have hgt : decide (2000 < (prec : Int)) = false := decide_eq_false (by omega)
  generalize x % 2 ^ (E + M + 1) = y at *
  generalize negF E M x = N at *
  generalize vNeg E M x = s at *
  generalize vNum E M x = A at *
  generalize vDen E M x = D at *
  unfold fmtV
  go_enter Oabg.func25, Oabg.ntmps25
  go_wp2_with fail
  go_at_call 23
  refine (ok_yes h' _).mono ?_
  rintro ee w1 ⟨rfl, hb1⟩
  obtain ⟨hF1, hB1⟩ := (fmt_start w E M).1.below (fmt_start w E M).2 hb1
  obtain ⟨c0, c1⟩ := hF1.all
  clear hb1
  go_wp2_with fail
  go_at_call 60
  refine (HO.out _).mono ?_
  rintro ee w2 ⟨r, rfl, hr, hb1⟩
  obtain ⟨a1, n1, d1, a2, n2, d2, rfl, i1, j1⟩ := hr
  obtain ⟨hF2, hB2⟩ := hF1.below hB1 hb1
  have hP := OpAt.start (y := y) (N := N) (c := 3) (s := s) hF2 hB2 i1 j1
  clear c0 c1 hb1 hF1 hB1 hF2 hB2 i1 j1
  go_upto_region 4 with (fail)
  obtain ⟨W, hW⟩ : ∃ W, W = w2.alloc (.cells #[.int .u64 y, .bool N, .int .i8 3, .bool s, .slice a1 n1 d1, .slice a2 n2 d2] 92) := ⟨_, rfl⟩
  obtain ⟨X, hX⟩ : ∃ X, X = w2.heap.size := ⟨_, rfl⟩
  rw [← hW, ← hX] at hP
  rw [← hW, ← hX]
  clear hW hX
  obtain ⟨⟨c0, c1⟩, ⟨x0, x1, x2, x3, x4, x5⟩, HK⟩ := hP.all
  clear hP
  have HB := HK.out.below
  go_wp2
  go_ret
  exact ⟨rfl, HB⟩

set_option maxRecDepth 100000 in
theorem digitsF_nan {E M : Nat} (h : FOk E M) (x : Nat) (hx : x < 18446744073709551616) (hc : clsF E M x = 4) (prec : Nat) (hp : prec ≤ 2000) (w : World) :
    Calls Oabg.prog 25 #[fmtV E M, .int .u64 x, .int .u16 prec] w fun e w' => e = .returned (.string { data := #[] }) ∧ Below w.heap.size w w' := by
  have h' := h
  have HO : Hid (∀ w : World, Calls Oabg.prog 60 #[.agg #[.int .u8 E, .int .u8 M], .int .u64 x] w fun e w' => ∃ r, e = .returned r ∧ OpIs w' r (x % 2 ^ (E + M + 1)) (negF E M x) (clsF E M x) (vNeg E M x) (vNum E M x) (vDen E M x) ∧ Below w.heap.size w w') := fun w => open_all h x hx w
  rw [hc] at HO
  clear hc
  have hgt : decide (2000 < (prec : Int)) = false := decide_eq_false (by omega)
  generalize x % 2 ^ (E + M + 1) = y at *
  generalize negF E M x = N at *
  generalize vNeg E M x = s at *
  generalize vNum E M x = A at *
  generalize vDen E M x = D at *
  unfold fmtV
  go_enter Oabg.func25, Oabg.ntmps25
  go_wp2_with fail
  go_at_call 23
  refine (ok_yes h' _).mono ?_
  rintro ee w1 ⟨rfl, hb1⟩
  obtain ⟨hF1, hB1⟩ := (fmt_start w E M).1.below (fmt_start w E M).2 hb1
  obtain ⟨c0, c1⟩ := hF1.all
  clear hb1
  go_wp2_with fail
  go_at_call 60
  refine (HO.out _).mono ?_
  rintro ee w2 ⟨r, rfl, hr, hb1⟩
  obtain ⟨a1, n1, d1, a2, n2, d2, rfl, i1, j1⟩ := hr
  obtain ⟨hF2, hB2⟩ := hF1.below hB1 hb1
  have hP := OpAt.start (y := y) (N := N) (c := 4) (s := s) hF2 hB2 i1 j1
  clear c0 c1 hb1 hF1 hB1 hF2 hB2 i1 j1
  go_upto_region 4 with (fail)
  obtain ⟨W, hW⟩ : ∃ W, W = w2.alloc (.cells #[.int .u64 y, .bool N, .int .i8 4, .bool s, .slice a1 n1 d1, .slice a2 n2 d2] 92) := ⟨_, rfl⟩
  obtain ⟨X, hX⟩ : ∃ X, X = w2.heap.size := ⟨_, rfl⟩
  rw [← hW, ← hX] at hP
  rw [← hW, ← hX]
  clear hW hX
  obtain ⟨⟨c0, c1⟩, ⟨x0, x1, x2, x3, x4, x5⟩, HK⟩ := hP.all
  clear hP
  have HB := HK.out.below
  go_wp2
  go_ret
  exact ⟨rfl, HB⟩

set_option maxRecDepth 100000 in
theorem digitsE_zero {E M : Nat} (h : FOk E M) (x : Nat) (hx : x < 18446744073709551616) (hc : clsF E M x = 0) (prec : Nat) (hp : prec ≤ 2000) (w : World) :
    Calls Oabg.prog 24 #[fmtV E M, .int .u64 x, .int .u16 prec] w fun e w' => e = .returned (.tuple #[.string (zerosB (prec + 1)), .int .i16 0]) ∧ Below w.heap.size w w' := by
  have h' := h
  have HO : Hid (∀ w : World, Calls Oabg.prog 60 #[.agg #[.int .u8 E, .int .u8 M], .int .u64 x] w fun e w' => ∃ r, e = .returned r ∧ OpIs w' r (x % 2 ^ (E + M + 1)) (negF E M x) (clsF E M x) (vNeg E M x) (vNum E M x) (vDen E M x) ∧ Below w.heap.size w w') := fun w => open_all h x hx w
  rw [hc] at HO
  clear hc
  have hgt : decide (2000 < (prec : Int)) = false := decide_eq_false (by omega)
  have HZ : Hid (∀ w : World, Calls Oabg.prog 61 #[.int .i64 ((prec : Int) + 1)] w fun e w' => e = .returned (.string (zerosB (prec + 1))) ∧ Below w.heap.size w w') := fun w => by
    have := zeros_any (prec + 1) (by omega) w
    rw [show ((prec + 1 : Nat) : Int) = (prec : Int) + 1 by omega] at this
    exact this
  generalize x % 2 ^ (E + M + 1) = y at *
  generalize negF E M x = N at *
  generalize vNeg E M x = s at *
  generalize vNum E M x = A at *
  generalize vDen E M x = D at *
  unfold fmtV
  go_enter Oabg.func24, Oabg.ntmps24
  go_wp2_with fail
  go_at_call 23
  refine (ok_yes h' _).mono ?_
  rintro ee w1 ⟨rfl, hb1⟩
  obtain ⟨hF1, hB1⟩ := (fmt_start w E M).1.below (fmt_start w E M).2 hb1
  obtain ⟨c0, c1⟩ := hF1.all
  clear hb1
  go_wp2_with fail
  go_at_call 60
  refine (HO.out _).mono ?_
  rintro ee w2 ⟨r, rfl, hr, hb1⟩
  obtain ⟨a1, n1, d1, a2, n2, d2, rfl, i1, j1⟩ := hr
  obtain ⟨hF2, hB2⟩ := hF1.below hB1 hb1
  have hP := OpAt.start (y := y) (N := N) (c := 0) (s := s) hF2 hB2 i1 j1
  clear c0 c1 hb1 hF1 hB1 hF2 hB2 i1 j1
  go_upto_region 4 with (fail)
  obtain ⟨W, hW⟩ : ∃ W, W = w2.alloc (.cells #[.int .u64 y, .bool N, .int .i8 0, .bool s, .slice a1 n1 d1, .slice a2 n2 d2] 92) := ⟨_, rfl⟩
  obtain ⟨X, hX⟩ : ∃ X, X = w2.heap.size := ⟨_, rfl⟩
  rw [← hW, ← hX] at hP
  rw [← hW, ← hX]
  clear hW hX
  obtain ⟨⟨c0, c1⟩, ⟨x0, x1, x2, x3, x4, x5⟩, HK⟩ := hP.all
  clear hP
  go_wp2_with fail
  go_at_call 61
  refine (HZ.out _).mono ?_
  rintro ee w3 ⟨rfl, hb⟩
  have HB := (HK.out.step hb).below
  clear hb
  go_wp2
  go_ret2
  exact ⟨rfl, HB⟩

end Go.Proofs.Ygcoab
