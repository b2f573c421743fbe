import Derived.Test.YgcoabWBits
import Derived.Test.YgcoabPlainGuess
namespace Go.Proofs.Ygcoab
open Go.RowKit

set_option maxHeartbeats 1000000 in
set_option maxRecDepth 100000 in
theorem guess_any (u2 u1 u0 d1 d0 : Nat) (h2 : u2 < 4294967296) (h1 : u1 < 4294967296) (h0 : u0 < 4294967296) (k1 : d1 < 4294967296) (k0 : d0 < 4294967296) (hd : 0 < d1) (hu : u2 ≤ d1) (w : World) :
    Calls Oabg.prog 166 #[.int .u32 u2, .int .u32 u1, .int .u32 u0, .int .u32 d1, .int .u32 d0] w fun e w' => e = .returned (.int .u32 (gue u2 u1 u0 d1 d0 : Nat)) ∧ Below w.heap.size w w' := by
  have hS := GuAt.start (u2 := u2) (u1 := u1) (u0 := u0) (d1 := d1) (d0 := d0) hd h0
  obtain ⟨H, hH⟩ : ∃ H, H = u2 * 4294967296 + u1 := ⟨_, rfl⟩
  obtain ⟨P, hP⟩ : ∃ P, P = u2 * 4294967296 := ⟨_, rfl⟩
  have e1 : IntKind.u64.wrap ((u2 : Int) * 4294967296) = (P : Nat) := by rw [wrap64]; omega
  have e1' : (u2 : Int) * 4294967296 = (P : Nat) := by omega
  have e2 : bits .or .u64 (P : Int) (u1 : Int) = (H : Nat) := by
    rw [u64_or_nat _ _ (by omega) (by omega), nat_join 32 _ _ (by rw [hP]; simp) h1]
    omega
  rw [← hH] at hS
  have hHl : H < 18446744073709551616 := by omega
  have hdw : IntKind.u64.wrap (d1 : Int) = (d1 : Nat) := w64_nat (by omega)
  have hdz : ((d1 : Int) == 0) = false := by rw [beq_eq_false_iff_ne]; omega
  have hdz' : ¬ ((d1 : Int) = 0) := by omega
  have hrl : H % d1 < 4294967296 := Nat.lt_trans (Nat.mod_lt _ hd) k1
  have hql : H / d1 < 18446744073709551616 := Nat.lt_of_le_of_lt (Nat.div_le_self _ _) hHl
  have HS : Hid (GuAt u2 u1 u0 d1 d0 (H / d1) (H % d1)) := hS
  obtain ⟨E0, hE0⟩ : ∃ E0, E0 = H / d1 := ⟨_, rfl⟩
  obtain ⟨R0, hR0⟩ : ∃ R0, R0 = H % d1 := ⟨_, rfl⟩
  rw [← hE0] at HS hql
  rw [← hR0] at HS hrl
  have hq0 : IntKind.u64.wrap ((H : Int) / (d1 : Int)) = (E0 : Nat) := by
    rw [← Int.natCast_ediv, ← hE0, w64_nat hql]
  have hr0 : (H : Int) % (d1 : Int) = (R0 : Nat) := by rw [← Int.natCast_emod, ← hR0]
  clear hS hH hP hE0 hR0
  go_enter Oabg.func166, Oabg.ntmps166
  go_wp2
  go_quiet (fail)
  go_wp2
  go_loopw [12, 13] (fun x y wr => ∃ e r : Nat, x = .int .u64 e ∧ y = .int .u64 r ∧ wr = w.drewN nq ∧ e < 18446744073709551616 ∧ r < 4294967296 ∧ GuAt u2 u1 u0 d1 d0 e r) (fun x _ _ => (intOf x).toNat)
  case atStart => exact ⟨E0, R0, rfl, by rw [hr0], rfl, hql, hrl, HS.out⟩
  case round =>
    obtain ⟨e, r, rfl, rfl, rfl, hel0, hrl0, hG⟩ := hrel
    have HG : Hid (GuAt u2 u1 u0 d1 d0 e r) := hG
    clear hG HS hql hrl hq0 hr0 e1 e1' e2 hHl
    by_cases hge : 4294967296 ≤ e
    · have hdg : decide ((4294967296 : Int) ≤ (e : Int)) = true := decide_eq_true (by omega)
      obtain ⟨hep, hnx⟩ := HG.out.next (.inl hge)
      obtain ⟨e', he'⟩ : ∃ e', e' = e - 1 := ⟨_, rfl⟩
      obtain ⟨r', hr'⟩ : ∃ r', r' = r + d1 := ⟨_, rfl⟩
      rw [← he', ← hr'] at hnx
      have HN : Hid (GuAt u2 u1 u0 d1 d0 e' r') := hnx
      have hsub : IntKind.u64.wrap ((e : Int) - 1) = (e' : Nat) := by rw [wrap64]; omega
      have hsub' : (e : Int) - 1 = (e' : Nat) := by omega
      have hadd : IntKind.u64.wrap ((r : Int) + (d1 : Int)) = (r' : Nat) := by rw [wrap64]; omega
      have hadd' : (r : Int) + (d1 : Int) = (r' : Nat) := by omega
      have hel : e' < 18446744073709551616 := by omega
      have hmeas : e' < e := by omega
      clear hnx
      by_cases hb : 4294967296 ≤ r'
      · have hdb : decide ((4294967296 : Int) ≤ (r' : Int)) = true := decide_eq_true (by omega)
        have hE : e' = gue u2 u1 u0 d1 d0 := HN.out.brk hd k0 h1 hu hb
        have hgl := gue_le u2 u1 u0 d1 d0
        have hcv : IntKind.u32.wrap (e' : Int) = (e' : Nat) := u32_cast (by omega)
        have HE : Hid (e' = gue u2 u1 u0 d1 d0) := hE
        clear hE hgl he' hr' hep
        go_wp2
        go_ret
        exact ⟨by rw [← HE.out]; rfl, below_drewN (Below.refl _ _) _⟩
      · have hdb : decide ((4294967296 : Int) ≤ (r' : Int)) = false := decide_eq_false (by omega)
        have hr32 : r' < 4294967296 := by omega
        clear he' hr' hep hb
        go_wp2
        go_roundw
        case rel => exact ⟨e', r', rfl, rfl, by first | rfl | trivial, hel, hr32, HN.out⟩
        case measure => simp [intOf]; omega
    · have hdg : decide ((4294967296 : Int) ≤ (e : Int)) = false := decide_eq_false (by omega)
      have hmb := Nat.mul_le_mul (show e ≤ 4294967295 by omega) (show d0 ≤ 4294967295 by omega)
      obtain ⟨m, hm⟩ : ∃ m, m = e * d0 := ⟨_, rfl⟩
      obtain ⟨S, hS⟩ : ∃ S, S = r * 4294967296 := ⟨_, rfl⟩
      obtain ⟨Z, hZ⟩ : ∃ Z, Z = S + u0 := ⟨_, rfl⟩
      rw [← hm] at hmb
      have f1 : IntKind.u64.wrap ((e : Int) * (d0 : Int)) = (m : Nat) := by
        have : ((e : Int) * (d0 : Int)) = (m : Nat) := by rw [hm]; simp
        rw [this, w64_nat (by omega)]
      have f2 : IntKind.u64.wrap ((r : Int) * 4294967296) = (S : Nat) := by rw [wrap64]; omega
      have f2' : (r : Int) * 4294967296 = (S : Nat) := by omega
      have f3 : bits .or .u64 (S : Int) (u0 : Int) = (Z : Nat) := by
        rw [u64_or_nat _ _ (by omega) (by omega), nat_join 32 _ _ (by rw [hS]; simp) h0, hZ]
      have f4 : IntKind.u64.wrap (d0 : Int) = (d0 : Nat) := w64_nat (by omega)
      by_cases hgt : Z < m
      · have hdm : decide ((Z : Int) < (m : Int)) = true := decide_eq_true (by omega)
        have hwhy : r * 4294967296 + u0 < e * d0 := by omega
        clear hm hS hZ hmb
        obtain ⟨hep, hnx⟩ := HG.out.next (.inr hwhy)
        obtain ⟨e', he'⟩ : ∃ e', e' = e - 1 := ⟨_, rfl⟩
        obtain ⟨r', hr'⟩ : ∃ r', r' = r + d1 := ⟨_, rfl⟩
        rw [← he', ← hr'] at hnx
        have HN : Hid (GuAt u2 u1 u0 d1 d0 e' r') := hnx
        have hsub : IntKind.u64.wrap ((e : Int) - 1) = (e' : Nat) := by rw [wrap64]; omega
        have hsub' : (e : Int) - 1 = (e' : Nat) := by omega
        have hadd : IntKind.u64.wrap ((r : Int) + (d1 : Int)) = (r' : Nat) := by rw [wrap64]; omega
        have hadd' : (r : Int) + (d1 : Int) = (r' : Nat) := by omega
        have hel : e' < 18446744073709551616 := by omega
        have hmeas : e' < e := by omega
        clear hnx
        by_cases hb : 4294967296 ≤ r'
        · have hdb : decide ((4294967296 : Int) ≤ (r' : Int)) = true := decide_eq_true (by omega)
          have hE : e' = gue u2 u1 u0 d1 d0 := HN.out.brk hd k0 h1 hu hb
          have hgl := gue_le u2 u1 u0 d1 d0
          have hcv : IntKind.u32.wrap (e' : Int) = (e' : Nat) := u32_cast (by omega)
          have HE : Hid (e' = gue u2 u1 u0 d1 d0) := hE
          clear hE hgl he' hr' hep
          go_wp2
          go_ret
          exact ⟨by rw [← HE.out]; rfl, below_drewN (Below.refl _ _) _⟩
        · have hdb : decide ((4294967296 : Int) ≤ (r' : Int)) = false := decide_eq_false (by omega)
          have hr32 : r' < 4294967296 := by omega
          clear he' hr' hep hb
          go_wp2
          go_roundw
          case rel => exact ⟨e', r', rfl, rfl, by first | rfl | trivial, hel, hr32, HN.out⟩
          case measure => simp [intOf]; omega
      · have hdm : decide ((Z : Int) < (m : Int)) = false := decide_eq_false (by omega)
        have hE : e = gue u2 u1 u0 d1 d0 := HG.out.stop hd (by omega) (by omega)
        have HE : Hid (e = gue u2 u1 u0 d1 d0) := hE
        have hcv : IntKind.u32.wrap (e : Int) = (e : Nat) := u32_cast (by omega)
        clear hE hm hS hZ hmb
        go_wp2
        go_ret
        exact ⟨by rw [← HE.out]; rfl, below_drewN (Below.refl _ _) _⟩

end Go.Proofs.Ygcoab
