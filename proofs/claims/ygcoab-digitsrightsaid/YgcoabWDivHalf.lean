import Derived.Test.YgcoabWWide
namespace Go.Proofs.Ygcoab
open Go.RowKit

/-- divHalf's loop at 16 * 10^18 -/
structure DhAt (hi q r : Nat) : Prop where
  eq : q * 3725290298 + r = hi
  q32 : q ≤ 4294967296

theorem DhAt.next {hi q r : Nat} (h : DhAt hi q r) (hq : 0 < q) : DhAt hi (q - 1) (r + 3725290298) := by
  have h1 := h.eq
  have h2 := h.q32
  obtain ⟨p, rfl⟩ : ∃ p, q = p + 1 := ⟨q - 1, by omega⟩
  refine ⟨?_, by omega⟩
  rw [Nat.add_mul, Nat.one_mul] at h1
  rw [Nat.add_sub_cancel, Nat.add_comm r, ← Nat.add_assoc]
  exact h1

set_option maxHeartbeats 1000000 in
set_option maxRecDepth 100000 in
theorem divHalf_ten (hi nx : Nat) (h1 : hi < 16000000000000000000) (h2 : nx < 4294967296) (w : World) :
    Calls Oabg.prog 169 #[.int .u64 hi, .int .u64 nx, .int .u64 16000000000000000000] w fun e w' => e = .returned (.tuple #[.int .u64 (((hi * 4294967296 + nx) / 16000000000000000000 : Nat) : Int), .int .u64 (((hi * 4294967296 + nx) % 16000000000000000000 : Nat) : Int)]) ∧ Below w.heap.size w w' := by
  have e3 : bits .and .u64 16000000000000000000 4294967295 = 1983905792 := by
    have := low32 16000000000000000000 (by omega)
    simpa using this
  obtain ⟨Q, hQ⟩ : ∃ Q, Q = (hi * 4294967296 + nx) / 16000000000000000000 := ⟨_, rfl⟩
  obtain ⟨R, hR⟩ : ∃ R, R = (hi * 4294967296 + nx) % 16000000000000000000 := ⟨_, rfl⟩
  have HQ : Hid (Q = (hi * 4294967296 + nx) / 16000000000000000000) := hQ
  have HR : Hid (R = (hi * 4294967296 + nx) % 16000000000000000000) := hR
  rw [← hQ, ← hR]
  obtain ⟨E0, hE0⟩ : ∃ E0, E0 = hi / 3725290298 := ⟨_, rfl⟩
  obtain ⟨R0, hR0⟩ : ∃ R0, R0 = hi % 3725290298 := ⟨_, rfl⟩
  have q0 : (hi : Int) / 3725290298 = (E0 : Nat) := by omega
  have r0 : (hi : Int) % 3725290298 = (R0 : Nat) := by omega
  have HS : Hid (DhAt hi E0 R0 ∧ Q ≤ E0 ∧ R0 < 4294967296) := ⟨⟨by omega, by omega⟩, by omega, by omega⟩
  obtain ⟨T, hT⟩ : ∃ T, T = hi * 4294967296 % 18446744073709551616 := ⟨_, rfl⟩
  obtain ⟨U, hU⟩ : ∃ U, U = (T + nx) % 18446744073709551616 := ⟨_, rfl⟩
  obtain ⟨V, hV⟩ : ∃ V, V = Q * 16000000000000000000 % 18446744073709551616 := ⟨_, rfl⟩
  have g1 : IntKind.u64.wrap ((hi : Int) * 4294967296) = (T : Nat) := by rw [wrap64]; omega
  have g2 : IntKind.u64.wrap ((T : Int) + (nx : Int)) = (U : Nat) := by rw [wrap64]; omega
  have g3 : IntKind.u64.wrap ((Q : Int) * 16000000000000000000) = (V : Nat) := by rw [wrap64]; omega
  have g4 : IntKind.u64.wrap ((U : Int) - (V : Int)) = (R : Nat) := by rw [wrap64]; omega
  clear hQ hR hE0 hR0 hT hU hV
  go_enter Oabg.func169, Oabg.ntmps169
  go_wp2
  go_quiet (fail)
  go_wp2
  go_loopw [6, 10] (fun x y wr => ∃ q r : Nat, x = .int .u64 q ∧ y = .int .u64 r ∧ wr = w.drewN nq ∧ DhAt hi q r ∧ Q ≤ q ∧ r < 4294967296) (fun x _ _ => (intOf x).toNat)
  case atStart => exact ⟨E0, R0, rfl, by rw [r0], rfl, HS.out⟩
  case round =>
    obtain ⟨q, r, rfl, rfl, rfl, hG, hQq, hr⟩ := hrel
    have HG : Hid (DhAt hi q r) := hG
    clear HS q0 r0
    have hgq := hG.q32
    have hge := hG.eq
    clear hG
    -- the next pair
    obtain ⟨q', hq'⟩ : ∃ q', q' = q - 1 := ⟨_, rfl⟩
    obtain ⟨r', hr'⟩ : ∃ r', r' = r + 3725290298 := ⟨_, rfl⟩
    have hadd : IntKind.u64.wrap ((r : Int) + 3725290298) = (r' : Nat) := by rw [wrap64]; omega
    have hadd' : (r : Int) + 3725290298 = (r' : Nat) := by omega
    by_cases hgt : 4294967295 < q
    · have hdg : decide ((4294967295 : Int) < (q : Int)) = true := decide_eq_true (by omega)
      have hsub : IntKind.u64.wrap ((q : Int) - 1) = (q' : Nat) := by rw [wrap64]; omega
      have hq1 : Q ≤ q' := by have := HQ.out; omega
      have HN : Hid (DhAt hi q' r') := by
          rw [hq', hr']
          exact HG.out.next (by omega)
      have hmeas : q' < q := by omega
      by_cases hb : 4294967295 < r'
      · have hdb : decide ((4294967295 : Int) < (r' : Int)) = true := decide_eq_true (by omega)
        have hE : q' = Q := by have := HQ.out; omega
        clear hgq hge hq' hr' hQq hq1 hmeas
        subst hE
        go_wp2
        exact bodyPost_ret (v := .tuple #[.int .u64 _, .int .u64 (R : Nat)]) (by simp [results, Oabg.results169, go_sem]) rfl ⟨rfl, below_drewN (Below.refl _ _) _⟩
      · have hdb : decide ((4294967295 : Int) < (r' : Int)) = false := decide_eq_false (by omega)
        have hr32 : r' < 4294967296 := by omega
        clear hgq hge hq' hr' hQq
        go_wp2
        go_roundw
        case rel => exact ⟨q', r', rfl, rfl, by first | rfl | trivial, HN.out, hq1, hr32⟩
        case measure => simp [intOf]; omega
    · have hdg : decide ((4294967295 : Int) < (q : Int)) = false := decide_eq_false (by omega)
      obtain ⟨m, hm⟩ : ∃ m, m = q * 1983905792 := ⟨_, rfl⟩
      obtain ⟨S, hS⟩ : ∃ S, S = r * 4294967296 := ⟨_, rfl⟩
      obtain ⟨Z, hZ⟩ : ∃ Z, Z = S + nx := ⟨_, rfl⟩
      have f1 : IntKind.u64.wrap ((q : Int) * 1983905792) = (m : Nat) := by rw [wrap64]; omega
      have f1' : (q : Int) * 1983905792 = (m : Nat) := by omega
      have f2 : IntKind.u64.wrap ((r : Int) * 4294967296) = (S : Nat) := by rw [wrap64]; omega
      have f2' : (r : Int) * 4294967296 = (S : Nat) := by omega
      have f3 : bits .or .u64 (S : Int) (nx : Int) = (Z : Nat) := by
        rw [u64_or_nat _ _ (by omega) (by omega), nat_join 32 _ _ (by rw [hS]; simp) h2, hZ]
      by_cases hgt : Z < m
      · have hdm : decide ((Z : Int) < (m : Int)) = true := decide_eq_true (by omega)
        have hsub : IntKind.u64.wrap ((q : Int) - 1) = (q' : Nat) := by rw [wrap64]; omega
        have hq1 : Q ≤ q' := by have := HQ.out; omega
        have HN : Hid (DhAt hi q' r') := by
          rw [hq', hr']
          exact HG.out.next (by omega)
        have hmeas : q' < q := by omega
        by_cases hb : 4294967295 < r'
        · have hdb : decide ((4294967295 : Int) < (r' : Int)) = true := decide_eq_true (by omega)
          have hE : q' = Q := by have := HQ.out; omega
          clear hgq hge hq' hr' hQq hq1 hmeas hm hS hZ
          subst hE
          go_wp2
          exact bodyPost_ret (v := .tuple #[.int .u64 _, .int .u64 (R : Nat)]) (by simp [results, Oabg.results169, go_sem]) rfl ⟨rfl, below_drewN (Below.refl _ _) _⟩
        · have hdb : decide ((4294967295 : Int) < (r' : Int)) = false := decide_eq_false (by omega)
          have hr32 : r' < 4294967296 := by omega
          clear hgq hge hq' hr' hQq hm hS hZ
          go_wp2
          go_roundw
          case rel => exact ⟨q', r', rfl, rfl, by first | rfl | trivial, HN.out, hq1, hr32⟩
          case measure => simp [intOf]; omega
      · have hdm : decide ((Z : Int) < (m : Int)) = false := decide_eq_false (by omega)
        have hE : q = Q := by have := HQ.out; omega
        clear hgq hge hq' hr' hQq hm hS hZ hadd hadd'
        subst hE
        go_wp2
        exact bodyPost_ret (v := .tuple #[.int .u64 _, .int .u64 (R : Nat)]) (by simp [results, Oabg.results169, go_sem]) rfl ⟨rfl, below_drewN (Below.refl _ _) _⟩

end Go.Proofs.Ygcoab
