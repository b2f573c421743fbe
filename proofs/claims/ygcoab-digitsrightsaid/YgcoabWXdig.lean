import Derived.Test.YgcoabWDigA
namespace Go.Proofs.Ygcoab
open Go.RowKit

theorem exp_digits {A D : Nat} {g : Nat → Nat} {n : Nat} {top sig pr : Int} (hA : 0 < A) (h : ExpOk A D g n top sig pr) : 0 < n ∧ (∀ j, j < n → 48 ≤ g j ∧ g j ≤ 57) ∧ g 0 ≠ 48 := by
  obtain ⟨p, N, h⟩ := h
  rcases h with ⟨a, b, c⟩ | ⟨m, a, b, c, d, e, f, s⟩
  · have hn : 0 < n := by
      cases n with
      | zero =>
        have h1 := a.none
        rw [h1, Nat.zero_mul] at b
        have := Nat.mul_pos hA (Nat.pow_pos (n := p) (show 0 < 10 by omega))
        omega
      | succ n => omega
    exact ⟨hn, a.dig, a.lead hn⟩
  · subst a
    refine ⟨by omega, fun j hj => ?_, ?_⟩
    · by_cases hjm : j = m
      · subst hjm; omega
      · exact c.dig j (by omega)
    · by_cases hm : m = 0
      · subst hm; omega
      · exact c.lead (by omega)

set_option maxRecDepth 100000 in
set_option maxHeartbeats 2000000 in
theorem xdigE_off {E M : Nat} (x prec c : Int) (hc : c = 3 ∨ c = 4) (hC : ∀ w : World, Calls Oabg.prog 78 #[fmtV E M, .int .u64 x, .int .u16 prec] w fun e w' => e = .returned (.int .i8 c) ∧ Below w.heap.size w w') (w : World) :
    Calls Oabg.prog 34 #[fmtV E M, .int .u64 x, .int .u16 prec] w fun e w' => e = .returned (.tuple #[.string { data := #[] }, .int .i16 0]) ∧ Below w.heap.size w w' := by
  have HC : Hid (∀ w : World, Calls Oabg.prog 78 #[.agg #[.int .u8 E, .int .u8 M], .int .u64 x, .int .u16 prec] w fun e w' => e = .returned (.int .i8 c) ∧ Below w.heap.size w w') := hC
  clear hC
  unfold fmtV
  go_enter Oabg.func34, Oabg.ntmps34
  have hB0 := fmt_start w E M
  go_wp2_with fail
  go_at_call 78
  refine (HC.out _).mono ?_
  rintro e w1 ⟨rfl, hb⟩
  have hFB := fb_step hB0 hb
  have HB : Hid (Below w.heap.size w w1) := hFB.2
  clear hb hB0 hFB
  rcases hc with rfl | rfl
  · go_wp2
    exact bodyPost_ret (v := .tuple #[.string { data := #[] }, .int .i16 0]) (by simp [results, Oabg.results34]) rfl ⟨rfl, HB.out⟩
  · go_wp2
    exact bodyPost_ret (v := .tuple #[.string { data := #[] }, .int .i16 0]) (by simp [results, Oabg.results34]) rfl ⟨rfl, HB.out⟩

set_option maxRecDepth 100000 in
set_option maxHeartbeats 2000000 in
theorem xdigF_off {E M : Nat} (x prec c : Int) (hc : c = 3 ∨ c = 4) (hC : ∀ w : World, Calls Oabg.prog 78 #[fmtV E M, .int .u64 x, .int .u16 prec] w fun e w' => e = .returned (.int .i8 c) ∧ Below w.heap.size w w') (w : World) :
    Calls Oabg.prog 35 #[fmtV E M, .int .u64 x, .int .u16 prec] w fun e w' => e = .returned (.string { data := #[] }) ∧ Below w.heap.size w w' := by
  have HC : Hid (∀ w : World, Calls Oabg.prog 78 #[.agg #[.int .u8 E, .int .u8 M], .int .u64 x, .int .u16 prec] w fun e w' => e = .returned (.int .i8 c) ∧ Below w.heap.size w w') := hC
  clear hC
  unfold fmtV
  go_enter Oabg.func35, Oabg.ntmps35
  have hB0 := fmt_start w E M
  go_wp2_with fail
  go_at_call 78
  refine (HC.out _).mono ?_
  rintro e w1 ⟨rfl, hb⟩
  have hFB := fb_step hB0 hb
  have HB : Hid (Below w.heap.size w w1) := hFB.2
  clear hb hB0 hFB
  rcases hc with rfl | rfl
  · go_wp2
    go_ret
    exact ⟨rfl, HB.out⟩
  · go_wp2
    go_ret
    exact ⟨rfl, HB.out⟩

set_option maxRecDepth 100000 in
set_option maxHeartbeats 2000000 in
theorem xdigE_zero {E M : Nat} (x : Int) (prec : Nat) (hp : prec ≤ 2000) (hC : ∀ w : World, Calls Oabg.prog 78 #[fmtV E M, .int .u64 x, .int .u16 prec] w fun e w' => e = .returned (.int .i8 0) ∧ Below w.heap.size w w') (w : World) :
    Calls Oabg.prog 34 #[fmtV E M, .int .u64 x, .int .u16 prec] w fun e w' => e = .returned (.tuple #[.string (zerosB (prec + 1)), .int .i16 0]) ∧ Below w.heap.size w w' := by
  have HC : Hid (∀ w : World, Calls Oabg.prog 78 #[.agg #[.int .u8 E, .int .u8 M], .int .u64 x, .int .u16 prec] w fun e w' => e = .returned (.int .i8 0) ∧ Below w.heap.size w w') := hC
  obtain ⟨p1, hp1⟩ : ∃ p1, p1 = prec + 1 := ⟨_, rfl⟩
  have HZ : Hid (∀ w : World, Calls Oabg.prog 79 #[.int .i64 (p1 : Nat)] w fun e w' => e = .returned (.string (zerosB (prec + 1))) ∧ Below w.heap.size w w') := fun w => by
    have := ezeros_some (prec + 1) (by omega) (by omega) w
    rw [hp1]
    exact this
  have e1 : IntKind.i64.wrap ((prec : Int) + 1) = (p1 : Nat) := by rw [IntKind.wrap_i64]; omega
  have e1' : (prec : Int) + 1 = (p1 : Nat) := by omega
  clear hC hp1
  unfold fmtV
  go_enter Oabg.func34, Oabg.ntmps34
  have hB0 := fmt_start w E M
  go_wp2_with fail
  go_at_call 78
  refine (HC.out _).mono ?_
  rintro e w1 ⟨rfl, hb⟩
  have hFB := fb_step hB0 hb
  have HB : Hid (Below w.heap.size w w1) := hFB.2
  clear hb hB0 hFB
  go_wp2_with fail
  go_at_call 79
  refine (HZ.out _).mono ?_
  rintro e w2 ⟨rfl, hb⟩
  have HB2 : Hid (Below w.heap.size w w2) := below_step HB.out HB.out.size hb
  clear hb HB
  go_wp2
  exact bodyPost_ret (v := .tuple #[.string (zerosB (prec + 1)), .int .i16 0]) (by simp [results, Oabg.results34]) rfl ⟨rfl, HB2.out⟩

set_option maxRecDepth 100000 in
set_option maxHeartbeats 2000000 in
theorem xdigF_zero {E M : Nat} (x prec : Int) (hC : ∀ w : World, Calls Oabg.prog 78 #[fmtV E M, .int .u64 x, .int .u16 prec] w fun e w' => e = .returned (.int .i8 0) ∧ Below w.heap.size w w') (w : World) :
    Calls Oabg.prog 35 #[fmtV E M, .int .u64 x, .int .u16 prec] w fun e w' => e = .returned (.string { data := #[48] }) ∧ Below w.heap.size w w' := by
  have HC : Hid (∀ w : World, Calls Oabg.prog 78 #[.agg #[.int .u8 E, .int .u8 M], .int .u64 x, .int .u16 prec] w fun e w' => e = .returned (.int .i8 0) ∧ Below w.heap.size w w') := hC
  clear hC
  unfold fmtV
  go_enter Oabg.func35, Oabg.ntmps35
  have hB0 := fmt_start w E M
  go_wp2_with fail
  go_at_call 78
  refine (HC.out _).mono ?_
  rintro e w1 ⟨rfl, hb⟩
  have hFB := fb_step hB0 hb
  have HB : Hid (Below w.heap.size w w1) := hFB.2
  clear hb hB0 hFB
  go_wp2
  go_ret
  exact ⟨rfl, HB.out⟩

end Go.Proofs.Ygcoab
