import Derived.Test.YgcoabWRoundB
import Derived.Test.YgcoabWSucc
import Derived.Test.YgcoabWFlags
namespace Go.Proofs.Ygcoab
open Go.RowKit

theorem raises_any (mode : Nat) (neg odd : Bool) (half : Int) (some : Bool) (w : World) :
    Calls Oabg.prog 142 #[.int .u8 mode, .bool neg, .bool odd, .agg #[.int .i8 half, .bool some]] w fun e w' => e = .returned (.bool (raisesB mode neg odd half some)) ∧ Below w.heap.size w w' := by
  unfold raisesB
  by_cases h1 : mode = 1
  · subst h1
    rw [if_pos rfl]
    go_enter Oabg.func142, Oabg.ntmps142
    go_wp2
    go_ret
    exact ⟨rfl, below_alloc _ _⟩
  · rw [if_neg h1]
    have d1 : ((mode : Int) == 1) = false := by rw [beq_eq_false_iff_ne]; omega
    by_cases h2 : mode = 2
    · subst h2
      rw [if_pos rfl]
      clear d1
      go_enter Oabg.func142, Oabg.ntmps142
      go_wp2
      go_ret
      exact ⟨rfl, below_alloc _ _⟩
    · rw [if_neg h2]
      have d2 : ((mode : Int) == 2) = false := by rw [beq_eq_false_iff_ne]; omega
      by_cases h3 : mode = 3
      · subst h3
        rw [if_pos rfl]
        clear d1 d2
        cases some <;> cases neg <;> (
          go_enter Oabg.func142, Oabg.ntmps142
          go_wp2
          go_ret
          exact ⟨rfl, below_alloc _ _⟩)
      · rw [if_neg h3]
        have d3 : ((mode : Int) == 3) = false := by rw [beq_eq_false_iff_ne]; omega
        by_cases h4 : mode = 4
        · subst h4
          rw [if_pos rfl]
          clear d1 d2 d3
          cases some <;> cases neg <;> (
            go_enter Oabg.func142, Oabg.ntmps142
            go_wp2
            go_ret
            exact ⟨rfl, below_alloc _ _⟩)
        · rw [if_neg h4]
          have d4 : ((mode : Int) == 4) = false := by rw [beq_eq_false_iff_ne]; omega
          have HB := below_alloc w (.cells #[.int .i8 half, .bool some] 136)
          by_cases hp : 0 < half
          · have e1 : decide (0 < half) = true := decide_eq_true hp
            have e1' : decide (half > 0) = true := decide_eq_true hp
            rw [e1, Bool.true_or]
            clear h1 h2 h3 h4
            go_enter Oabg.func142, Oabg.ntmps142
            go_wp2
            go_ret
            exact ⟨rfl, HB⟩
          · have e1 : decide (0 < half) = false := decide_eq_false hp
            have e1' : decide (half > 0) = false := decide_eq_false hp
            rw [e1, Bool.false_or]
            clear h1 h2 h3 h4
            obtain ⟨z, hz⟩ : ∃ z, z = (half == 0) := ⟨_, rfl⟩
            rw [← hz]
            have hz' : (half == 0) = z := hz.symm
            clear hz
            cases z <;> cases odd <;> (
              go_enter Oabg.func142, Oabg.ntmps142
              go_wp2
              go_ret
              exact ⟨rfl, HB⟩)

/-- pack's world: the format, the rest -/
structure PkAt (w : World) (E M : Nat) (half : Int) (some : Bool) (W : World) : Prop where
  fm : FAt w.heap.size E M W
  r0 : W.cell? ⟨w.heap.size + 1, 0, none⟩ = .some (.int .i8 half)
  r1 : W.cell? ⟨w.heap.size + 1, 1, none⟩ = .some (.bool some)
  size : w.heap.size + 1 < W.heap.size
  below : Below w.heap.size w W

theorem PkAt.step {w W W' : World} {E M : Nat} {half : Int} {some : Bool} (h : PkAt w E M half some W) (hb : Below W.heap.size W W') : PkAt w E M half some W' :=
  have k := fun o => hb.cell (p := ⟨w.heap.size + 1, o, none⟩) h.size
  ⟨h.fm.step hb, (k 0).trans h.r0, (k 1).trans h.r1, Nat.lt_of_lt_of_le h.size hb.size, below_step h.below h.below.size hb⟩

theorem PkAt.start (w : World) (E M : Nat) (half : Int) (some : Bool) : PkAt w E M half some ((w.alloc (.cells #[.int .u8 E, .int .u8 M] 39)).alloc (.cells #[.int .i8 half, .bool some] 136)) :=
  ⟨(FAt.start w E M).step (below_alloc _ _), by simp [go_sem], by simp [go_sem], by simp [go_sem], below_step (below_alloc _ _) (below_alloc _ _).size (below_alloc _ _)⟩

theorem PkAt.all {w W : World} {E M : Nat} {half : Int} {some : Bool} (h : PkAt w E M half some W) : W.cell? ⟨w.heap.size, 0, none⟩ = .some (.int .u8 E) ∧ W.cell? ⟨w.heap.size, 1, none⟩ = .some (.int .u8 M) ∧ W.cell? ⟨w.heap.size + 1, 1, none⟩ = .some (.bool some) ∧ Hid (PkAt w E M half some W) :=
  ⟨h.fm.c0, h.fm.c1, h.r1, h⟩

theorem PkAt.drew {w W : World} {E M : Nat} {half : Int} {some : Bool} (h : PkAt w E M half some W) : PkAt w E M half some W.drew := ⟨h.fm.drew, h.r0, h.r1, h.size, h.below.drew⟩

theorem keepPk {w W W' : World} {E M : Nat} {half : Int} {some : Bool} (hb : Below W.heap.size W W')
    (h : (W.cell? ⟨w.heap.size, 0, none⟩ = .some (.int .u8 E) ∧ W.cell? ⟨w.heap.size, 1, none⟩ = .some (.int .u8 M)) ∧ PkAt w E M half some W) :
    (W'.cell? ⟨w.heap.size, 0, none⟩ = .some (.int .u8 E) ∧ W'.cell? ⟨w.heap.size, 1, none⟩ = .some (.int .u8 M)) ∧ PkAt w E M half some W' :=
  have k := h.2.step hb
  ⟨⟨k.fm.c0, k.fm.c1⟩, k⟩

set_option maxHeartbeats 1000000 in
theorem pack_any {E M : Nat} (h : FOk E M) (mode : Nat) (neg : Bool) (e : Int) (n : Nat) (half : Int) (some tiny : Bool) (he1 : eminZ E ≤ e) (he2 : e ≤ emaxZ E) (w : World) :
    Calls Oabg.prog 134 #[fmtV E M, .int .u8 mode, .bool neg, .int .i64 e, .int .u64 n, .agg #[.int .i8 half, .bool some], .bool tiny] w (RfPost w (packP E M mode neg e n)) := by
  have h' := h
  have hbl := bias_lt h'
  obtain ⟨h1, h2, h3, h4⟩ := h
  obtain ⟨d, hd⟩ : ∃ d : Nat, d = (e - eminZ E).toNat := ⟨_, rfl⟩
  have hdz : e - eminZ E = (d : Int) := by omega
  have hdl : d ≤ 2046 := by have : emaxZ E = (biasN E : Int) := rfl; have : eminZ E = 1 - (biasN E : Int) := rfl; omega
  have w1 : IntKind.i64.wrap (e - eminZ E) = (d : Nat) := by rw [IntKind.wrap_i64]; omega
  have w2 : IntKind.u64.wrap (d : Int) = (d : Nat) := w64_nat (by omega)
  obtain ⟨s, hs⟩ : ∃ s, s = d * 2 ^ M := ⟨_, rfl⟩
  have hsl : s < 18446744073709551616 := by
    have := two_pow_le h4
    have := Nat.mul_le_mul hdl this
    rw [hs]
    omega
  have w3 : IntKind.u64.wrap ((d : Int) * 2 ^ M) = (s : Nat) := by rw [icast, ← Int.natCast_mul, ← hs]; exact w64_nat hsl
  obtain ⟨X, hX⟩ : ∃ X, X = (s + n) % 18446744073709551616 := ⟨_, rfl⟩
  have w4 : IntKind.u64.wrap ((s : Int) + (n : Int)) = (X : Nat) := by rw [wrap64]; omega
  have hXp : packX E M e n = X := by unfold packX; rw [hX, hs, hd]
  have hXl : X < 18446744073709551616 := by omega
  have hzl : zeroP E M neg < 18446744073709551616 := Nat.lt_of_le_of_lt (zeroP_le E M neg) (sgnB_lt h')
  have ho : bits .or .u64 (X : Int) (zeroP E M neg : Int) = ((X ||| zeroP E M neg : Nat) : Int) := u64_or_nat _ _ hXl hzl
  have hP : packP E M mode neg e n = if topS E M ≤ X then overP E M mode neg else X ||| zeroP E M neg := by unfold packP; rw [hXp]
  obtain ⟨Z, hZ⟩ : ∃ Z, Z = packP E M mode neg e n := ⟨_, rfl⟩
  rw [← hZ]
  rw [← hZ] at hP
  have HZ : Hid (Z = if topS E M ≤ X then overP E M mode neg else X ||| zeroP E M neg) := hP
  clear hZ
  have HI : Hid (∀ w, Calls Oabg.prog 152 #[fmtV E M, .bool false] w fun e w' => e = .returned (.int .u64 (topS E M : Nat)) ∧ Below w.heap.size w w') := fun w => by
    rw [← infP_false]
    exact inf_yes h' false w
  have HS := PkAt.start w E M half some
  obtain ⟨W, hW⟩ : ∃ W, W = (w.alloc (.cells #[.int .u8 E, .int .u8 M] 39)).alloc (.cells #[.int .i8 half, .bool some] 136) := ⟨_, rfl⟩
  rw [← hW] at HS
  clear hP hXp hX hs hd hdz hdl he1 he2 hsl hbl hzl
  unfold fmtV
  go_enter Oabg.func134, Oabg.ntmps134
  go_wp2_with fail
  rw [show ((w.alloc (.cells #[.int .u8 E, .int .u8 M] 39)).alloc (.cells #[.int .i8 half, .bool some] 136)) = W from hW.symm]
  clear hW
  go_cut [16] (fun s16 wx => s16 = .int .u64 X ∧ PkAt w E M half some wx)
  case first =>
    obtain ⟨c0, c1, c2, HK⟩ := HS.all
    clear HS ho hXl
    go_region_held3 (fun w' => (w'.cell? ⟨w.heap.size, 0, none⟩ = .some (.int .u8 E) ∧ w'.cell? ⟨w.heap.size, 1, none⟩ = .some (.int .u8 M)) ∧ PkAt w E M half some w')
      (first
        | exact ⟨⟨c0, c1⟩, HK.out.drew⟩
        | (with_reducible refine keepPk hb ?_; assumption))
      (first | (go_at_call 130; refine (emin_yes h' _).mono ?_; rintro ee w' ⟨rfl, hb⟩))
    rename_i hH
    go_wp2
    go_meet
    exact ⟨rfl, hH.2⟩
  case rest =>
  obtain ⟨rfl, hK⟩ := hcut
  clear HS w1 w2 w3 w4
  obtain ⟨c0, c1, c2, HK⟩ := hK.all
  clear hK
  go_wp2_with fail
  go_at_call 152
  refine (HI.out _).mono ?_
  rintro ee w1 ⟨rfl, hb⟩
  have hK := HK.out.step hb
  clear hb HK c0 c1 c2
  obtain ⟨c0, c1, c2, HK⟩ := hK.all
  clear hK
  by_cases ht : topS E M ≤ X
  · have HZ1 : Hid (Z = overP E M mode neg) := by have := HZ.out; rw [if_pos ht] at this; exact this
    clear HZ
    go_wp2_with fail
    go_at_call 132
    refine (overflow_yes h' mode neg _).mono ?_
    rintro ee w2 ⟨fl, rfl, hb⟩
    rw [← HZ1.out]
    have HB := (HK.out.step hb).below
    go_wp2
    go_ret2
    exact ⟨_, rfl, HB⟩
  · have hZ1 : Z = X ||| zeroP E M neg := by have := HZ.out; rw [if_neg ht] at this; exact this
    rw [← hZ1] at ho
    clear HZ hZ1
    cases some <;> cases tiny <;> (
      go_wp2_with fail
      go_at_call 128
      refine (zero_yes h' neg _).mono ?_
      rintro ee w2 ⟨rfl, hb⟩
      have HB := (HK.out.step hb).below
      go_wp2
      go_ret2
      exact ⟨_, rfl, HB⟩)

end Go.Proofs.Ygcoab
