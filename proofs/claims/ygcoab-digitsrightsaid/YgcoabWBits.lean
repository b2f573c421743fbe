import Derived.Test.YgcoabWTake
namespace Go.Proofs.Ygcoab
open Go.RowKit

theorem blen_half {x : Nat} (h : 0 < x) : blen x = blen (x / 2) + 1 := by
  have h1 := lt_blen (x / 2)
  by_cases h2 : x / 2 = 0
  · have : x = 1 := by omega
    subst this
    rfl
  · refine blen_eq (by omega) ?_ ?_
    · have h3 := blen_ge (x := x / 2) (by omega)
      have h4 := blen_pos (x := x / 2) (by omega)
      have e : (2 : Nat) ^ (blen (x / 2) + 1 - 1) = 2 * 2 ^ (blen (x / 2) - 1) := by
        rw [show blen (x / 2) + 1 - 1 = (blen (x / 2) - 1) + 1 by omega, Nat.pow_succ]; omega
      rw [e]
      omega
    · rw [Nat.pow_succ]
      omega

theorem width32_any (x : Nat) (hx : x < 4294967296) (w : World) :
    Calls Oabg.prog 139 #[.int .u32 x] w fun e w' => e = .returned (.int .i64 (blen x)) ∧ w' = w := by
  have hb : blen x ≤ 32 := blen_le (n := 32) hx
  have HB : Hid (blen x ≤ 32) := hb
  clear hb
  go_enter Oabg.func139, Oabg.ntmps139
  go_wp2
  go_loop [0, 3] (fun a k => ∃ y n : Nat, a = .int .u32 y ∧ k = .int .i64 n ∧ y < 4294967296 ∧ n + blen y = blen x) (fun a _ => (intOf a).toNat)
  case atStart => exact ⟨x, 0, rfl, rfl, hx, by omega⟩
  case round =>
    obtain ⟨y, n, rfl, rfl, hy, hn⟩ := hrel
    have hn32 : n ≤ 32 := by have := HB.out; omega
    have HN : Hid (n + blen y = blen x) := hn
    clear hn
    by_cases h0 : y = 0
    · have hd : ((y : Int) != 0) = false := by simp; omega
      have he : n = blen x := by have := HN.out; rw [h0, blen_zero] at this; omega
      clear h0
      go_wp2
      go_ret
      exact ⟨by first | rfl | (rw [he]; rfl), rfl⟩
    · have hd : ((y : Int) != 0) = true := by simp; omega
      have hne := HN.out
      rw [blen_half (by omega)] at hne
      have HN2 : Hid (n + 1 + blen (y / 2) = blen x) := show _ = _ by omega
      clear hne
      go_wp2
      go_round
      case rel => exact ⟨y / 2, n + 1, by simp, by go_num, by omega, HN2.out⟩
      case measure => simp [intOf]; omega

theorem blen_nv {f : Nat → Nat} {n : Nat} (hn : 0 < n) (h : f (n - 1) ≠ 0) (hf : ∀ j, j < n → f j < 4294967296) : blen (nv f n) = 32 * (n - 1) + blen (f (n - 1)) := by
  obtain ⟨m, rfl⟩ : ∃ m, n = m + 1 := ⟨n - 1, by omega⟩
  have h' : f m ≠ 0 := h
  have h1 := nv_lt (f := f) (n := m) (fun j hj => hf j (by omega))
  have h2 := blen_ge (x := f m) (by omega)
  have h3 := lt_blen (f m)
  have h4 := blen_pos (x := f m) (by omega)
  show blen (nv f m + f m * 2 ^ (32 * m)) = 32 * m + blen (f m)
  refine blen_eq (by omega) ?_ ?_
  · rw [show 32 * m + blen (f m) - 1 = (blen (f m) - 1) + 32 * m by omega, Nat.pow_add]
    have := Nat.mul_le_mul_right (2 ^ (32 * m)) h2
    omega
  · rw [Nat.add_comm (32 * m), Nat.pow_add]
    have := Nat.mul_le_mul_right (2 ^ (32 * m)) (show f m + 1 ≤ 2 ^ blen (f m) from h3)
    rw [Nat.add_mul, Nat.one_mul] at this
    omega

set_option maxHeartbeats 400000 in
set_option maxRecDepth 100000 in
theorem bitLen_any {w : World} {u : Value} {A : Nat} (hA : IsN w u A) (fA : FitsN A) :
    Calls Oabg.prog 98 #[u] w fun e w' => e = .returned (.int .i64 (blen A)) ∧ w' = w := by
  have hA' := hA
  rcases hA with ⟨rfl, rfl⟩ | ⟨b, off, n, c, f, rfl, h2, h3, h4, h5, h6, h7, h8, rfl⟩
  · have hnil := fun w => nil48 w none 0 0
    simp only [Option.isNone_none] at hnil
    go_enter Oabg.func98, Oabg.ntmps98
    go_wp2_with (go_at_call 106; refine (trim_nil _).mono ?_; rintro e w' ⟨rfl, hq⟩; obtain rfl := hq.symm)
    go_ret
    exact ⟨rfl, rfl⟩
  · have H1 : Hid (∀ w', w' = w → Calls Oabg.prog 106 #[.slice (some ⟨b, off, none⟩) n c] w' fun e w'' => e = .returned (.slice (some ⟨b, off, none⟩) n c) ∧ w'' = w') := fun w' hw => by subst hw; exact trim_same hA'
    have hnil := fun w => nil48 w (some ⟨b, off, none⟩) n c
    simp only [Option.isNone_some] at hnil
    have hl := fA.len h2 h5
    rw [limbMax_eq] at hl
    obtain ⟨m, rfl⟩ : ∃ m, n = m + 1 := ⟨n - 1, by omega⟩
    have hcell := h7 m (by omega)
    have hx := h6 m (by omega)
    have hB := blen_nv h2 h5 h6
    have hb32 : blen (f m) ≤ 32 := blen_le (n := 32) hx
    have hB' : blen (nv f (m + 1)) = 32 * m + blen (f m) := hB
    rw [hB']
    have HW : Hid (∀ w : World, Calls Oabg.prog 139 #[.int .u32 (f m : Nat)] w fun e w' => e = .returned (.int .i64 (blen (f m))) ∧ w' = w) := fun w => width32_any _ hx w
    generalize blen (f m) = q at *
    have hi : (((m + 1 : Nat) : Int) - 1) = (m : Int) := by omega
    clear hA' hB hB' h7 h6 h5 fA
    go_enter Oabg.func98, Oabg.ntmps98
    go_wp2_with (first
      | (go_at_call 106; refine (H1.out _ rfl).mono ?_; rintro e w' ⟨rfl, hq⟩; obtain rfl := hq.symm)
      | (go_at_call 139; refine (HW.out _).mono ?_; rintro e w' ⟨rfl, hq⟩; obtain rfl := hq.symm))
    go_ret
    exact ⟨by simp, rfl⟩

theorem nv_mod2 (f : Nat → Nat) (n : Nat) : nv f (n + 1) % 2 = f 0 % 2 := by
  induction n with
  | zero => simp [nv]
  | succ n ih =>
    show (nv f (n + 1) + f (n + 1) * 2 ^ (32 * (n + 1))) % 2 = _
    rw [pow_next, Nat.add_mod, ih]
    have : f (n + 1) * (4294967296 * 2 ^ (32 * n)) % 2 = 0 := by
      rw [show f (n + 1) * (4294967296 * 2 ^ (32 * n)) = 2 * (2147483648 * (f (n + 1) * 2 ^ (32 * n))) by
        rw [← Nat.mul_assoc, Nat.mul_comm (f (n + 1)), Nat.mul_assoc, ← Nat.mul_assoc 2]]
      omega
    omega

theorem nv_mod64 (f : Nat → Nat) (n : Nat) : nv f (n + 2) % 18446744073709551616 = (f 0 + f 1 * 4294967296) % 18446744073709551616 := by
  induction n with
  | zero => simp [nv]
  | succ n ih =>
    show (nv f (n + 2) + f (n + 2) * 2 ^ (32 * (n + 2))) % 18446744073709551616 = _
    have e : f (n + 2) * 2 ^ (32 * (n + 2)) = 18446744073709551616 * (f (n + 2) * 2 ^ (32 * n)) := by
      rw [show 32 * (n + 2) = 64 + 32 * n by omega, Nat.pow_add]
      generalize 2 ^ (32 * n) = P
      rw [← Nat.mul_assoc, Nat.mul_comm (f (n + 2)), Nat.mul_assoc]
    rw [e, Nat.add_mul_mod_self_left]
    exact ih

set_option maxRecDepth 100000 in
theorem bit0_any {w : World} {u : Value} {A : Nat} (hA : IsN w u A) :
    Calls Oabg.prog 72 #[u, .int .i64 0] w fun e w' => e = .returned (.bool (A % 2 == 1)) ∧ w' = w := by
  rcases hA with ⟨rfl, rfl⟩ | ⟨b, off, n, c, f, rfl, h2, h3, h4, h5, h6, h7, h8, rfl⟩
  · go_enter Oabg.func72, Oabg.ntmps72
    go_wp2
    go_ret
    exact ⟨rfl, rfl⟩
  · obtain ⟨m, rfl⟩ : ∃ m, n = m + 1 := ⟨n - 1, by omega⟩
    have hcell := h7 0 (by omega)
    rw [Nat.add_zero] at hcell
    have hx := h6 0 (by omega)
    rw [nv_mod2]
    have hbit : (bits .and .u32 (f 0 : Int) 1 == 1) = (f 0 % 2 == 1) := by
      have := u32_and_nat (f 0) 1 hx (by omega)
      rw [nat_mask1] at this
      have e : ((1 : Nat) : Int) = 1 := rfl
      rw [e] at this
      rw [this]
      rcases Nat.mod_two_eq_zero_or_one (f 0) with h | h <;> simp [h]
    generalize (f 0 % 2 == 1) = q at *
    have hge : decide ((((m + 1 : Nat) : Int)) ≤ 0) = false := decide_eq_false (by omega)
    clear h7 h6 h5
    go_enter Oabg.func72, Oabg.ntmps72
    go_wp2
    go_ret
    exact ⟨rfl, rfl⟩

set_option maxRecDepth 100000 in
theorem toU64_any {w : World} {u : Value} {A : Nat} (hA : IsN w u A) :
    Calls Oabg.prog 103 #[u] w fun e w' => e = .returned (.int .u64 (A % 18446744073709551616 : Nat)) ∧ w' = w := by
  rcases hA with ⟨rfl, rfl⟩ | ⟨b, off, n, c, f, rfl, h2, h3, h4, h5, h6, h7, h8, rfl⟩
  · go_enter Oabg.func103, Oabg.ntmps103
    go_wp2
    go_ret
    exact ⟨rfl, rfl⟩
  · obtain ⟨m, rfl⟩ : ∃ m, n = m + 1 := ⟨n - 1, by omega⟩
    have hcell := h7 0 (by omega)
    rw [Nat.add_zero] at hcell
    have hx := h6 0 (by omega)
    by_cases hm : m = 0
    · subst hm
      have hv : nv f (0 + 1) % 18446744073709551616 = f 0 := by simp [nv]; omega
      rw [hv]
      have ho : bits .or .u64 0 (f 0 : Int) = (f 0 : Nat) := by
        have := u64_or_nat 0 (f 0) (by omega) (by omega)
        simpa using this
      have hw : IntKind.u64.wrap (f 0 : Int) = (f 0 : Nat) := w64_nat (by omega)
      clear h7 h6 h5 hv
      go_enter Oabg.func103, Oabg.ntmps103
      go_wp2
      go_ret
      exact ⟨rfl, rfl⟩
    · obtain ⟨k, rfl⟩ : ∃ k, m = k + 1 := ⟨m - 1, by omega⟩
      have hcell1 := h7 1 (by omega)
      have hx1 := h6 1 (by omega)
      have hv := nv_mod64 f k
      have hsum : f 0 + f 1 * 4294967296 < 18446744073709551616 := by omega
      rw [Nat.mod_eq_of_lt hsum] at hv
      rw [hv]
      have hs : IntKind.u64.wrap ((f 1 : Int) * 4294967296) = ((f 1 * 4294967296 : Nat) : Int) := by
        rw [wrap64]; omega
      obtain ⟨q, hq⟩ : ∃ q, q = f 1 * 4294967296 := ⟨_, rfl⟩
      rw [← hq] at hs ⊢ hsum
      have ho : bits .or .u64 (q : Int) (f 0 : Int) = ((f 0 + q : Nat) : Int) := by
        rw [u64_or_nat _ _ (by omega) (by omega), nat_join 32 _ _ (by rw [hq]; simp) hx, Nat.add_comm]
      obtain ⟨r, hr⟩ : ∃ r, r = f 0 + q := ⟨_, rfl⟩
      rw [← hr] at ho ⊢
      clear h7 h6 h5 hv hq hr
      go_enter Oabg.func103, Oabg.ntmps103
      go_wp2
      go_ret
      exact ⟨rfl, rfl⟩

end Go.Proofs.Ygcoab
