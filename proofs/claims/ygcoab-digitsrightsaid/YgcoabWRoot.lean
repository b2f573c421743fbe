/- nat.Sqrt: the floor of the root, by Newton's iteration from above. -/
import Derived.Test.YgcoabWRoundF
import Derived.Deep.LoopGhost
namespace Go.Proofs.Ygcoab
open Go.RowKit

theorem shr_any {w : World} {v : Value} {N k : Nat} (h : IsN w v N) (h0 : 0 < N) (fN : FitsN N) (hk : k < 32) :
    Calls Oabg.prog 118 #[v, .int .u16 k] w fun e w' => ∃ u t, e = .returned (.tuple #[u, .bool t]) ∧ IsN w' u (N / 2 ^ k) ∧ Below w.heap.size w w' := by
  have hT := trim_same h
  obtain ⟨b, off, n, c, f, rfl, h2, h3, h4, h5, h6, h7, h8, h9⟩ := h.pos h0
  have hl : n ≤ 200000 := by
    have := FitsN.len (f := f) (n := n) (by rw [h9]; exact fN) h2 h5
    have := limbMax_eq
    omega
  rw [← h9]
  exact (shr_some _ b off n c k f w h2 hl hk hT h7 h6 h8).mono fun e w' ⟨v, he, hv, hb⟩ => ⟨v, _, he, hv, hb⟩

/-- r is the floor of A's root -/
structure RootOf (A r : Nat) : Prop where
  le : r * r ≤ A
  lt : A < (r + 1) * (r + 1)

theorem root_mono {a b : Nat} (h : a * a < b * b) : a < b := by
  by_cases hc : a < b
  · exact hc
  · exfalso
    have := Nat.mul_le_mul (Nat.le_of_not_lt hc) (Nat.le_of_not_lt hc)
    omega

theorem newton_ge {A S r : Nat} (hS : 0 < S) (hr : r * r ≤ A) : r ≤ (S + A / S) / 2 := by
  have key : 2 * r ≤ S + A / S := by
    by_cases hc : 2 * r ≤ S
    · exact Nat.le_trans hc (Nat.le_add_right _ _)
    · have h1 : (2 * r - S) * S ≤ A := by
        refine Nat.le_trans ?_ hr
        obtain ⟨d, hd⟩ : ∃ d, 2 * r = S + d := ⟨2 * r - S, by omega⟩
        rw [show 2 * r - S = d by omega]
        have e1 : (S + d) * (S + d) = 4 * (r * r) := by rw [← hd, Nat.mul_mul_mul_comm]
        have e2 : 4 * (d * S) ≤ (S + d) * (S + d) := by
          rcases Nat.le_total S d with hle | hle
          · obtain ⟨t, rfl⟩ := Nat.exists_eq_add_of_le hle
            have : (S + (S + t)) * (S + (S + t)) = 4 * ((S + t) * S) + t * t := by
              simp only [Nat.mul_add, Nat.add_mul, Nat.mul_comm t S]
              omega
            omega
          · obtain ⟨t, rfl⟩ := Nat.exists_eq_add_of_le hle
            have : (d + t + d) * (d + t + d) = 4 * (d * (d + t)) + t * t := by
              simp only [Nat.mul_add, Nat.add_mul, Nat.mul_comm t d]
              omega
            omega
        omega
      have h2 : 2 * r - S ≤ A / S := (Nat.le_div_iff_mul_le hS).2 h1
      generalize A / S = q at *
      omega
  generalize A / S = q at *
  omega

theorem newton_stop {A S : Nat} (hS : 0 < S) (h : S ≤ (S + A / S) / 2) : S * S ≤ A := by
  have h1 : S ≤ A / S := by
    generalize A / S = q at *
    omega
  exact (Nat.le_div_iff_mul_le hS).1 h1

theorem root_start (A : Nat) : A < 2 ^ ((blen A + 1) / 2) * 2 ^ ((blen A + 1) / 2) := by
  have h1 := lt_blen A
  have h2 := two_pow_le (show blen A ≤ (blen A + 1) / 2 + (blen A + 1) / 2 by omega)
  rw [← Nat.pow_add]
  omega

/-- the numbers under 2^200 that Sqrt takes -/
def rb : Nat := 200
theorem rb_eq : rb = 200 := rfl

structure SqFit (A S0 : Nat) : Prop where
  a : FitsN A
  s : ∀ S, S ≤ S0 → FitsN S
  q : ∀ S, FitsN (A / S)
  t : ∀ S, S ≤ S0 → FitsN (S + A / S)
  m : ∀ S, S ≤ S0 → FitsN (S * S)

theorem sqFit {A : Nat} (h : A < 2 ^ rb) : SqFit A (2 ^ ((blen A + 1) / 2)) := by
  have hb := blen_le h
  have hr := rb_eq
  have h0 : ∀ S, S ≤ 2 ^ ((blen A + 1) / 2) → S ≤ 2 ^ rb := fun S hS => Nat.le_trans hS (two_pow_le (by omega))
  have hd : ∀ S, A / S ≤ 2 ^ rb := fun S => Nat.le_trans (Nat.div_le_self _ _) (Nat.le_of_lt h)
  have hF : ∀ x, x ≤ 2 ^ rb → FitsN x := fun x hx => FitsN.of (a := rb + 1) (lt_pow_succ hx) (by omega)
  refine ⟨FitsN.of h (by omega), fun S hS => hF S (h0 S hS), fun S => hF _ (hd S), fun S hS => ?_, fun S hS => ?_⟩
  · refine FitsN.of (a := rb + 1 + 1) (lt_pow_succ ?_) (by omega)
    have h1 := h0 S hS
    have h2 := hd S
    rw [Nat.pow_succ]
    omega
  · refine FitsN.of (a := rb + rb + 1) (lt_pow_succ ?_) (by omega)
    rw [Nat.pow_add]
    exact Nat.mul_le_mul (h0 S hS) (h0 S hS)

def SqPost (w : World) (A : Nat) (e : Ending) (w' : World) : Prop := ∃ a n c r t, e = .returned (.tuple #[.slice a n c, .bool t]) ∧ IsN w' (.slice a n c) r ∧ RootOf A r ∧ Below w.heap.size w w'

/-- the loop's state -/
structure SqAt (w : World) (u : Value) (A S0 : Nat) (s : Value) (S : Nat) (W : World) : Prop where
  u : IsN W u A
  s : IsN W s S
  le : S ≤ S0
  pos : 0 < S
  ge : ∀ r, r * r ≤ A → r ≤ S
  below : Below w.heap.size w W

theorem SqAt.step {w W W' : World} {u s : Value} {A S0 S : Nat} (h : SqAt w u A S0 s S W) (hb : Below W.heap.size W W') : SqAt w u A S0 s S W' :=
  ⟨h.u.step hb, h.s.step hb, h.le, h.pos, h.ge, below_step h.below h.below.size hb⟩

theorem isN_one (w : World) : IsN (w.alloc (.cells #[.int .u32 1] 145)) (.slice (some ⟨w.heap.size, 0, none⟩) 1 1) 1 :=
  .inr ⟨w.heap.size, 0, 1, 1, fun _ => 1, rfl, by omega, by omega, by omega, by decide, fun _ _ => by show 1 < 4294967296; omega, fun j hj => by
    obtain rfl : j = 0 := by omega
    simp [go_sem], by simp [go_sem], by simp [nv]⟩

theorem sqrt_zero {w : World} {u : Value} (hA : IsN w u 0) : Calls Oabg.prog 165 #[u] w (SqPost w 0) := by
  have HT : Hid (∀ w', w' = w → Calls Oabg.prog 106 #[u] w' fun e w'' => e = .returned u ∧ w'' = w') := fun w' hw => by subst hw; exact trim_same hA
  obtain ⟨a, n, c, rfl⟩ := hA.shape
  have hn := hA.zero
  have hnil := fun w' => nil48 w' a n c
  rw [hn] at hnil
  clear hA hn
  go_enter Oabg.func165, Oabg.ntmps165
  go_wp2_with fail
  go_at_call 106
  refine (HT.out _ rfl).mono ?_
  rintro e w1 ⟨rfl, hq⟩
  obtain rfl := hq.symm
  go_wp2
  go_ret2
  exact ⟨none, 0, 0, 0, _, rfl, isN_nil _, ⟨by omega, by omega⟩, Below.refl _ _⟩

set_option maxRecDepth 100000 in
set_option maxHeartbeats 2000000 in
theorem sqrt_some {w : World} {u : Value} {A : Nat} (hA : IsN w u A) (h0 : 0 < A) (h200 : A < 2 ^ rb) : Calls Oabg.prog 165 #[u] w (SqPost w A) := by
  have HT : Hid (∀ w', w' = w → Calls Oabg.prog 106 #[u] w' fun e w'' => e = .returned u ∧ w'' = w') := fun w' hw => by subst hw; exact trim_same hA
  have hbl := blen_le h200
  have hrb := rb_eq
  have HF : Hid (SqFit A (2 ^ ((blen A + 1) / 2))) := sqFit h200
  have HS0 : Hid (A < 2 ^ ((blen A + 1) / 2) * 2 ^ ((blen A + 1) / 2)) := root_start A
  have HBi : Hid (∀ W : World, IsN W u A → Calls Oabg.prog 98 #[u] W fun e w' => e = .returned (.int .i64 (blen A)) ∧ w' = W) := fun W h => bitLen_any h HF.out.a
  obtain ⟨bl, hblv⟩ : ∃ bl, bl = blen A := ⟨_, rfl⟩
  rw [← hblv] at HF HS0 HBi hbl
  obtain ⟨k, hk⟩ : ∃ k, k = (bl + 1) / 2 := ⟨_, rfl⟩
  rw [← hk] at HF HS0
  obtain ⟨b1, hb1⟩ : ∃ b1 : Nat, b1 = bl + 1 := ⟨_, rfl⟩
  have ew1 : IntKind.i64.wrap ((bl : Int) + 1) = (b1 : Nat) := by rw [IntKind.wrap_i64]; omega
  have ew2 : Int.tdiv (b1 : Int) 2 = (k : Nat) := by rw [Int.tdiv_eq_ediv_of_nonneg (by omega)]; omega
  have ew3 : IntKind.i64.wrap (k : Int) = (k : Nat) := by rw [IntKind.wrap_i64]; omega
  have HL : Hid (∀ (W : World) (v : Value), IsN W v 1 → Calls Oabg.prog 138 #[v, .int .i64 k] W fun e w' => ∃ u, e = .returned u ∧ IsN w' u (1 * 2 ^ k) ∧ Below W.heap.size W w') := fun W v h => lift_any h (FitsN.of (a := 1) (by decide) (by omega)) (by omega)
  obtain ⟨S0, hS0⟩ : ∃ S0, S0 = 2 ^ k := ⟨_, rfl⟩
  have hS0p : 0 < S0 := by rw [hS0]; exact two_pow_pos' k
  rw [← hS0] at HF HS0
  rw [Nat.one_mul, ← hS0] at HL
  clear h200 hbl hrb hblv hk hb1 hS0
  obtain ⟨a, n, c, rfl⟩ := hA.shape
  have hn := hA.nonzero h0
  have hnil := fun w' => nil48 w' a n c
  rw [hn] at hnil
  have HA : Hid (∀ W, Below w.heap.size w W → IsN W (.slice a n c) A) := fun W hb => hA.step hb
  have HS1 : Hid (0 < S0) := hS0p
  have HAp : Hid (1 * 1 ≤ A) := h0
  clear hA hn h0 hS0p
  go_enter Oabg.func165, Oabg.ntmps165
  go_wp2_with fail
  go_at_call 106
  refine (HT.out _ rfl).mono ?_
  rintro e w1 ⟨rfl, hq⟩
  obtain rfl := hq.symm
  clear HT
  go_wp2_with fail
  go_at_call 98
  have hB1 := (Below.refl w.heap.size w).alloc (Nat.le_refl _) (.cells #[.int .u32 1] 145)
  refine (HBi.out _ (HA.out _ hB1)).mono ?_
  rintro e w1 ⟨rfl, hq⟩
  obtain rfl := hq.symm
  clear HBi hq
  go_wp2_with fail
  go_at_call 138
  refine (HL.out _ _ (isN_one w)).mono ?_
  rintro e w2 ⟨s, rfl, hs, hb⟩
  obtain ⟨a1, n1, c1, rfl⟩ := hs.shape
  have hB2 := below_step hB1 hB1.size hb
  have hI : SqAt w (.slice a n c) A S0 (.slice a1 n1 c1) S0 w2 := ⟨HA.out _ hB2, hs, Nat.le_refl _, HS1.out, fun r hr => by
    have := HS0.out
    exact Nat.le_of_lt (root_mono (by omega)), hB2⟩
  clear HL hB1 hB2 hb hs ew1 ew2 ew3 HS0 HS1 hnil HA
  go_wp2_with fail
  go_loopg [2] S0 (fun k s wr => ∃ a1 n1 c1 S, s = .slice a1 n1 c1 ∧ SqAt w (.slice a n c) A S0 (.slice a1 n1 c1) S wr ∧ S ≤ k)
  case atStart => exact ⟨a1, n1, c1, S0, rfl, hI, Nat.le_refl _⟩
  case round =>
    obtain ⟨a2, n2, c2, S, rfl, hJ, hk⟩ := hrel
    have HJ : Hid (SqAt w (.slice a n c) A S0 (.slice a2 n2 c2) S wr) := hJ
    have HK : Hid (S ≤ gk) := hk
    clear hJ hk hI
    go_wp2_with fail
    go_at_call 102
    refine (divMod_any HJ.out.u HJ.out.s HF.out.a (HF.out.s S HJ.out.le) HJ.out.pos).mono ?_
    rintro e w3 ⟨q, r, rfl, hq, hr, hb⟩
    obtain ⟨a3, n3, c3, rfl⟩ := hq.shape
    obtain ⟨a4, n4, c4, rfl⟩ := hr.shape
    have HJ3 : Hid (SqAt w (.slice a n c) A S0 (.slice a2 n2 c2) S w3) := HJ.out.step hb
    have HQ : Hid (IsN w3 (.slice a3 n3 c3) (A / S)) := hq
    clear HJ hb hq hr
    go_wp2_with fail
    go_at_call 76
    refine (add_any HJ3.out.s HQ.out (HF.out.s S HJ3.out.le) (HF.out.q S)).mono ?_
    rintro e w4 ⟨x, rfl, hx, hb⟩
    obtain ⟨a5, n5, c5, rfl⟩ := hx.shape
    have HJ4 : Hid (SqAt w (.slice a n c) A S0 (.slice a2 n2 c2) S w4) := HJ3.out.step hb
    have HX : Hid (IsN w4 (.slice a5 n5 c5) (S + A / S)) := hx
    have HXp : Hid (0 < S + A / S) := Nat.lt_of_lt_of_le HJ3.out.pos (Nat.le_add_right _ _)
    clear HJ3 HQ hb hx
    go_wp2_with fail
    go_at_call 118
    refine (shr_any (k := 1) HX.out HXp.out (HF.out.t S HJ4.out.le) (by omega)).mono ?_
    rintro e w5 ⟨y, t, rfl, hy, hb⟩
    obtain ⟨a6, n6, c6, rfl⟩ := hy.shape
    rw [Nat.pow_one] at hy
    have HJ5 : Hid (SqAt w (.slice a n c) A S0 (.slice a2 n2 c2) S w5) := HJ4.out.step hb
    have HY : Hid (IsN w5 (.slice a6 n6 c6) ((S + A / S) / 2)) := hy
    clear HJ4 HX HXp hb hy
    obtain ⟨z, hz⟩ : ∃ z, z = cmpZ ((S + A / S) / 2) S := ⟨_, rfl⟩
    have HC : Hid (Calls Oabg.prog 77 #[.slice a6 n6 c6, .slice a2 n2 c2] w5 fun e w' => e = .returned (.int .i8 z) ∧ Below w5.heap.size w5 w') := by
      show Calls _ _ _ _ _
      rw [hz]
      exact cmp_any HY.out HJ5.out.s
    have HZ : Hid (z = cmpZ ((S + A / S) / 2) S) := hz
    clear hz
    go_wp2_with fail
    go_at_call 77
    refine HC.out.mono ?_
    rintro e w6 ⟨rfl, hb⟩
    have HJ6 : Hid (SqAt w (.slice a n c) A S0 (.slice a2 n2 c2) S w6) := HJ5.out.step hb
    have HY6 : Hid (IsN w6 (.slice a6 n6 c6) ((S + A / S) / 2)) := HY.out.step hb
    clear HJ5 HY hb HC
    by_cases hz0 : 0 ≤ z
    · have HRo : Hid (RootOf A S) := by
        have hge : S ≤ (S + A / S) / 2 := by
          have h1 := HZ.out
          generalize (S + A / S) / 2 = m at *
          unfold cmpZ at h1
          split at h1
          · omega
          · omega
        refine ⟨newton_stop HJ6.out.pos hge, ?_⟩
        by_cases hc : A < (S + 1) * (S + 1)
        · exact hc
        · have := HJ6.out.ge (S + 1) (Nat.le_of_not_lt hc)
          omega
      clear HY6 HZ HK
      go_wp2_with fail
      go_at_call 73
      refine (mul_any HJ6.out.s HJ6.out.s (HF.out.s S HJ6.out.le) (HF.out.s S HJ6.out.le)).mono ?_
      rintro e w7 ⟨x, rfl, hx, hb⟩
      obtain ⟨a7, n7, c7, rfl⟩ := hx.shape
      have HJ7 : Hid (SqAt w (.slice a n c) A S0 (.slice a2 n2 c2) S w7) := HJ6.out.step hb
      have HX : Hid (IsN w7 (.slice a7 n7 c7) (S * S)) := hx
      clear HJ6 hb hx
      go_wp2_with fail
      go_at_call 77
      refine (cmp_any HX.out HJ7.out.u).mono ?_
      rintro e w8 ⟨rfl, hb⟩
      have HJ8 : Hid (SqAt w (.slice a n c) A S0 (.slice a2 n2 c2) S w8) := HJ7.out.step hb
      clear HJ7 HX hb
      go_wp2
      go_ret2
      exact ⟨_, _, _, S, _, rfl, HJ8.out.s, HRo.out, HJ8.out.below⟩
    · have hlt : (S + A / S) / 2 < S := by
        have h1 := HZ.out
        generalize (S + A / S) / 2 = m at *
        unfold cmpZ at h1
        split at h1
        · assumption
        · split at h1 <;> omega
      have HLt : Hid ((S + A / S) / 2 < S) := hlt
      have hz1 : z < 0 := by omega
      clear hlt HZ hz0
      go_wp2_with fail
      go_roundg ((S + A / S) / 2)
      case measure => exact Nat.lt_of_lt_of_le HLt.out HK.out
      case rel =>
        refine ⟨_, _, _, (S + A / S) / 2, rfl, ⟨HJ6.out.u, HY6.out, Nat.le_trans (Nat.le_of_lt HLt.out) HJ6.out.le, ?_, fun r hr => newton_ge HJ6.out.pos hr, HJ6.out.below⟩, Nat.le_refl _⟩
        have h1 := newton_ge (A := A) (S := S) (r := 1) HJ6.out.pos HAp.out
        exact h1

theorem sqrt_any {w : World} {u : Value} {A : Nat} (hA : IsN w u A) (h200 : A < 2 ^ rb) : Calls Oabg.prog 165 #[u] w (SqPost w A) := by
  rcases Nat.eq_zero_or_pos A with rfl | h0
  · exact sqrt_zero hA
  · exact sqrt_some hA h0 h200

end Go.Proofs.Ygcoab
