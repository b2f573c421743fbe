import Derived.Test.YgcoabWLift
import Derived.Deep.QuietTactic
import Derived.BigQuiet
namespace Go.Proofs.Ygcoab
open Go.RowKit

def cmpZ (A B : Nat) : Int := if A < B then -1 else if A = B then 0 else 1

theorem nv_lt_of {f g : Nat → Nat} {i n : Nat} (hi : i < n) (hf : ∀ j, j < n → f j < 4294967296) (ht : ∀ j, i < j → j < n → f j = g j) (h : f i < g i) : nv f n < nv g n := by
  induction n with
  | zero => omega
  | succ n ih =>
    show nv f n + f n * 2 ^ (32 * n) < nv g n + g n * 2 ^ (32 * n)
    by_cases hc : i = n
    · subst hc
      have h1 := nv_lt (f := f) (n := i) (fun j hj => hf j (by omega))
      have h2 := Nat.mul_le_mul_right (2 ^ (32 * i)) (show f i + 1 ≤ g i from h)
      rw [Nat.add_mul, Nat.one_mul] at h2
      omega
    · have := ih (by omega) (fun j hj => hf j (by omega)) (fun j h1 h2 => ht j h1 (by omega))
      rw [ht n (by omega) (by omega)]
      omega

theorem cmpZ_lt {A B : Nat} (h : A < B) : cmpZ A B = -1 := by unfold cmpZ; rw [if_pos h]
theorem cmpZ_gt {A B : Nat} (h : B < A) : cmpZ A B = 1 := by unfold cmpZ; rw [if_neg (by omega), if_neg (by omega)]
theorem cmpZ_eq (A : Nat) : cmpZ A A = 0 := by unfold cmpZ; rw [if_neg (by omega), if_pos rfl]

theorem below_drewN {B : Nat} {a w : World} (h : Below B a w) (n : Nat) : Below B a (w.drewN n) := ⟨h.os, h.tape, h.output, h.size, h.block⟩

/-- the lengths part them -/
theorem cmp_ne {w : World} {a a' : Option Addr} {n c n' c' A B : Nat} (hA : IsN w (.slice a n c) A) (hB : IsN w (.slice a' n' c') B) (hne : n ≠ n') (hlt : n < n' → A < B) (hgt : n' < n → B < A) :
    Calls Oabg.prog 77 #[.slice a n c, .slice a' n' c'] w fun e w' => e = .returned (.int .i8 (cmpZ A B)) ∧ Below w.heap.size w w' := by
  have H1 : Hid (∀ w', w' = w → Calls Oabg.prog 106 #[.slice a n c] w' fun e w'' => e = .returned (.slice a n c) ∧ w'' = w') := fun w' hw => by subst hw; exact trim_same hA
  have H2 : Hid (∀ w', w' = w → Calls Oabg.prog 106 #[.slice a' n' c'] w' fun e w'' => e = .returned (.slice a' n' c') ∧ w'' = w') := fun w' hw => by subst hw; exact trim_same hB
  clear hA hB
  have hn : ((n : Int) != (n' : Int)) = true := by simp; omega
  go_enter Oabg.func77, Oabg.ntmps77
  go_wp2_with fail
  go_at_call 106
  refine (H1.out _ rfl).mono ?_
  rintro e w' ⟨rfl, hq⟩
  obtain rfl := hq.symm
  go_wp2_with fail
  go_at_call 106
  refine (H2.out _ rfl).mono ?_
  rintro e w' ⟨rfl, hq⟩
  obtain rfl := hq.symm
  by_cases hc : n < n'
  · have h1 := hlt hc
    have hd : decide ((n : Int) < (n' : Int)) = true := decide_eq_true (by omega)
    go_wp2
    go_ret
    exact ⟨by rw [cmpZ_lt h1]; rfl, Below.refl _ _⟩
  · have h1 := hgt (by omega)
    have hd : decide ((n : Int) < (n' : Int)) = false := decide_eq_false (by omega)
    go_wp2
    go_ret
    exact ⟨by rw [cmpZ_gt h1]; rfl, Below.refl _ _⟩

theorem cmp_nil (w : World) : Calls Oabg.prog 77 #[.slice none 0 0, .slice none 0 0] w fun e w' => e = .returned (.int .i8 0) ∧ Below w.heap.size w w' := by
  go_enter Oabg.func77, Oabg.ntmps77
  go_wp2_with fail
  go_at_call 106
  refine (trim_nil _).mono ?_
  rintro e w' ⟨rfl, hq⟩
  obtain rfl := hq.symm
  go_wp2_with fail
  go_at_call 106
  refine (trim_nil _).mono ?_
  rintro e w' ⟨rfl, hq⟩
  obtain rfl := hq.symm
  go_wp2
  go_loop [5] (fun i => i = .int .i64 (-1)) (fun _ => 0)
  case atStart => rfl
  case round =>
    subst hrel
    go_wp2
    go_ret
    exact ⟨rfl, Below.refl _ _⟩

set_option maxHeartbeats 1000000 in
set_option maxRecDepth 100000 in
theorem cmp_same (b off b' off' n c c' : Nat) (f g : Nat → Nat) (w : World) (hn : 0 < n) (hl : n ≤ 1000000000) (hA : IsN w (.slice (some ⟨b, off, none⟩) n c) (nv f n)) (hB : IsN w (.slice (some ⟨b', off', none⟩) n c') (nv g n))
    (hf : ∀ j, j < n → w.cell? ⟨b, off + j, none⟩ = some (.int .u32 (f j : Nat))) (hg : ∀ j, j < n → w.cell? ⟨b', off' + j, none⟩ = some (.int .u32 (g j : Nat))) (hfl : ∀ j, j < n → f j < 4294967296) (hgl : ∀ j, j < n → g j < 4294967296) :
    Calls Oabg.prog 77 #[.slice (some ⟨b, off, none⟩) n c, .slice (some ⟨b', off', none⟩) n c'] w fun e w' => e = .returned (.int .i8 (cmpZ (nv f n) (nv g n))) ∧ Below w.heap.size w w' := by
  have H1 : Hid (∀ w', w' = w → Calls Oabg.prog 106 #[.slice (some ⟨b, off, none⟩) n c] w' fun e w'' => e = .returned (.slice (some ⟨b, off, none⟩) n c) ∧ w'' = w') := fun w' hw => by subst hw; exact trim_same hA
  have H2 : Hid (∀ w', w' = w → Calls Oabg.prog 106 #[.slice (some ⟨b', off', none⟩) n c'] w' fun e w'' => e = .returned (.slice (some ⟨b', off', none⟩) n c') ∧ w'' = w') := fun w' hw => by subst hw; exact trim_same hB
  have HF : Hid (∀ j, j < n → w.cell? ⟨b, off + j, none⟩ = some (.int .u32 (f j : Nat))) := hf
  have HG : Hid (∀ j, j < n → w.cell? ⟨b', off' + j, none⟩ = some (.int .u32 (g j : Nat))) := hg
  have HFL : Hid (∀ j, j < n → f j < 4294967296) := hfl
  have HGL : Hid (∀ j, j < n → g j < 4294967296) := hgl
  clear hA hB hf hg hfl hgl
  go_enter Oabg.func77, Oabg.ntmps77
  go_wp2_with fail
  go_at_call 106
  refine (H1.out _ rfl).mono ?_
  rintro e w' ⟨rfl, hq⟩
  obtain rfl := hq.symm
  go_wp2_with fail
  go_at_call 106
  refine (H2.out _ rfl).mono ?_
  rintro e w' ⟨rfl, hq⟩
  obtain rfl := hq.symm
  go_wp2
  go_loopw [5] (fun i wr => ∃ (k q : Nat), i = .int .i64 ((k : Int) - 1) ∧ wr = w.drewN q ∧ k ≤ n ∧ ∀ j, k ≤ j → j < n → f j = g j) (fun i _ => (intOf i + 1).toNat)
  case atStart => exact ⟨n, 0, rfl, rfl, Nat.le_refl _, fun j h1 h2 => by omega⟩
  case round =>
    obtain ⟨k, q, rfl, rfl, hk, ht⟩ := hrel
    have HT : Hid (∀ j, k ≤ j → j < n → f j = g j) := ht
    clear ht
    by_cases h0 : k = 0
    · have hd : decide ((0 : Int) ≤ (k : Int) - 1) = false := decide_eq_false (by omega)
      have hE : nv f n = nv g n := nv_congr fun j hj => HT.out j (by omega) hj
      go_wp2
      go_ret
      exact ⟨by rw [hE, cmpZ_eq]; rfl, below_drewN (Below.refl _ _) _⟩
    · obtain ⟨i, rfl⟩ : ∃ i, k = i + 1 := ⟨k - 1, by omega⟩
      have hcf := HF.out i (by omega)
      have hcg := HG.out i (by omega)
      have hi0 : (((i + 1 : Nat) : Int) - 1) = (i : Int) := by omega
      have hd0 : decide ((0 : Int) ≤ (i : Int)) = true := decide_eq_true (by omega)
      rw [hi0]
      by_cases hlt : f i < g i
      · have hd : decide ((f i : Int) < (g i : Int)) = true := decide_eq_true (by omega)
        have hR := nv_lt_of (f := f) (g := g) (i := i) (n := n) (by omega) HFL.out (fun j h1 h2 => HT.out j (by omega) h2) hlt
        go_wp2
        go_quiet (fail)
        go_wp2
        go_ret
        exact ⟨by rw [cmpZ_lt hR]; rfl, by repeat (first | exact Below.refl _ _ | apply below_drewN)⟩
      · have hd : decide ((f i : Int) < (g i : Int)) = false := decide_eq_false (by omega)
        by_cases hgt : g i < f i
        · have hd2 : decide ((g i : Int) < (f i : Int)) = true := decide_eq_true (by omega)
          have hR := nv_lt_of (f := g) (g := f) (i := i) (n := n) (by omega) HGL.out (fun j h1 h2 => (HT.out j (by omega) h2).symm) hgt
          go_wp2
          go_quiet (fail)
          go_wp2
          go_quiet (fail)
          go_wp2
          go_ret
          exact ⟨by rw [cmpZ_gt hR]; rfl, by repeat (first | exact Below.refl _ _ | apply below_drewN)⟩
        · have hd2 : decide ((g i : Int) < (f i : Int)) = false := decide_eq_false (by omega)
          go_wp2
          go_quiet (fail)
          go_wp2
          go_quiet (fail)
          go_wp2
          go_roundw
          case rel =>
            refine ⟨i, _, by go_num, rfl, by omega, fun j h1 h2 => ?_⟩
            by_cases hj : j = i
            · subst hj; omega
            · exact HT.out j (by omega) h2
          case measure => simp [intOf]

/-- Cmp: the order of two numbers -/
theorem cmp_any {w : World} {u v : Value} {A B : Nat} (hA : IsN w u A) (hB : IsN w v B) :
    Calls Oabg.prog 77 #[u, v] w fun e w' => e = .returned (.int .i8 (cmpZ A B)) ∧ Below w.heap.size w w' := by
  have hA' := hA
  have hB' := hB
  rcases hA with ⟨rfl, rfl⟩ | ⟨b, off, n, cap, f, rfl, h2, h3, h4, h5, h6, h7, h8, rfl⟩
  · rcases hB with ⟨rfl, rfl⟩ | ⟨b', off', n', cap', g, rfl, k2, k3, k4, k5, k6, k7, k8, rfl⟩
    · exact cmp_nil w
    · exact cmp_ne hA' hB' (by omega) (fun _ => nv_pos k2 k5) (fun h => by omega)
  · rcases hB with ⟨rfl, rfl⟩ | ⟨b', off', n', cap', g, rfl, k2, k3, k4, k5, k6, k7, k8, rfl⟩
    · exact cmp_ne hA' hB' (by omega) (fun h => by omega) (fun _ => nv_pos h2 h5)
    · by_cases hn : n = n'
      · subst hn
        exact cmp_same b off b' off' n cap cap' f g w h2 (by omega) hA' hB' h7 k7 h6 k6
      · refine cmp_ne hA' hB' hn (fun h => ?_) (fun h => ?_)
        · exact Nat.lt_of_lt_of_le (nv_lt h6) (Nat.le_trans (two_pow_le (by omega)) (nv_ge k2 k5))
        · exact Nat.lt_of_lt_of_le (nv_lt k6) (Nat.le_trans (two_pow_le (by omega)) (nv_ge h2 h5))

end Go.Proofs.Ygcoab
