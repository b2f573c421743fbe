import Derived.Test.YgcoabWCmp
namespace Go.Proofs.Ygcoab
open Go.RowKit

/-- the limbs of g below n, zero above -/
def padL (g : Nat → Nat) (n : Nat) : Nat → Nat := fun j => if j < n then g j else 0

theorem nv_pad {g : Nat → Nat} {n k : Nat} (h : n ≤ k) : nv (padL g n) k = nv g n := by
  rw [nv_zero_top h (fun j h1 _ => by unfold padL; rw [if_neg (by omega)])]
  exact nv_congr fun j hj => by unfold padL; rw [if_pos hj]

theorem pad_lt {g : Nat → Nat} {n : Nat} (h : ∀ j, j < n → g j < 4294967296) (j : Nat) : padL g n j < 4294967296 := by
  unfold padL
  split
  · rename_i hj; exact h j hj
  · omega

theorem pow_next (t : Nat) : (2 : Nat) ^ (32 * (t + 1)) = 4294967296 * 2 ^ (32 * t) := by
  rw [show 32 * (t + 1) = 32 + 32 * t by omega, Nat.pow_add]

/-- Add's loop -/
structure AddAt (f g h : Nat → Nat) (t c : Nat) : Prop where
  car : c ≤ 1
  val : nv h t + c * 2 ^ (32 * t) = nv f t + nv g t

theorem AddAt.start (f g h : Nat → Nat) : AddAt f g h 0 0 := ⟨by omega, by simp [nv]⟩

theorem AddAt.next {f g h : Nat → Nat} {t c : Nat} (H : AddAt f g h t c) (hf : f t < 4294967296) (hg : g t < 4294967296) :
    AddAt f g (upd h t ((c + f t + g t) % 4294967296)) (t + 1) ((c + f t + g t) / 4294967296) := by
  have h1 := H.car
  refine ⟨by omega, ?_⟩
  show nv _ t + _ * 2 ^ (32 * t) + _ = (nv f t + f t * 2 ^ (32 * t)) + (nv g t + g t * 2 ^ (32 * t))
  rw [nv_upd_ge (Nat.le_refl _)]
  have e1 : upd h t ((c + f t + g t) % 4294967296) t = (c + f t + g t) % 4294967296 := by unfold upd; rw [if_pos rfl]
  rw [e1, pow_next, Nat.add_assoc, split_mul, Nat.add_mul, Nat.add_mul]
  have := H.val
  omega

set_option maxHeartbeats 1000000 in
set_option maxRecDepth 100000 in
theorem add_ge (b off n c : Nat) (f : Nat → Nat) (b' off' n' c' : Nat) (g : Nat → Nat) (w : World) (hn : 0 < n) (hl : n ≤ 100000) (hA : IsN w (.slice (some ⟨b, off, none⟩) n c) (nv f n))
    (hf : ∀ j, j < n → w.cell? ⟨b, off + j, none⟩ = some (.int .u32 (f j : Nat))) (hfl : ∀ j, j < n → f j < 4294967296) (hb : b < w.heap.size) (hle : n' ≤ n) (hB : IsN w (.slice (some ⟨b', off', none⟩) n' c') (nv g n')) (hg : ∀ j, j < n' → w.cell? ⟨b', off' + j, none⟩ = some (.int .u32 (g j : Nat))) (hgl : ∀ j, j < n' → g j < 4294967296) (hb' : b' < w.heap.size) :
    Calls Oabg.prog 76 #[.slice (some ⟨b, off, none⟩) n c, .slice (some ⟨b', off', none⟩) n' c'] w fun e w' => ∃ v, e = .returned v ∧ IsN w' v (nv f n + nv g n') ∧ Below w.heap.size w w' := by
  have H1 : Hid (∀ w', w' = w → Calls Oabg.prog 106 #[.slice (some ⟨b, off, none⟩) n c] w' fun e w'' => e = .returned (.slice (some ⟨b, off, none⟩) n c) ∧ w'' = w') := fun w' hw => by subst hw; exact trim_same hA
  have H2 : Hid (∀ w', w' = w → Calls Oabg.prog 106 #[.slice (some ⟨b', off', none⟩) n' c'] w' fun e w'' => e = .returned (.slice (some ⟨b', off', none⟩) n' c') ∧ w'' = w') := fun w' hw => by subst hw; exact trim_same hB
  have HG : Hid (∀ j, j < n' → w.cell? ⟨b', off' + j, none⟩ = some (.int .u32 (g j : Nat))) := hg
  have HPL : Hid (∀ j, (padL g n') j < 4294967296) := pad_lt hgl
  have HF : Hid (∀ j, j < n → w.cell? ⟨b, off + j, none⟩ = some (.int .u32 (f j : Nat))) := hf
  have HFL : Hid (∀ j, j < n → f j < 4294967296) := hfl
  have hmk := fun w => make48 w ((n : Int) + 1) (n + 1) (by omega) (by omega)
  clear hA hf hfl hB hg hgl
  go_enter Oabg.func76, Oabg.ntmps76
  go_wp2_with fail
  go_at_call 106
  refine (H1.out _ rfl).mono ?_
  rintro e w' ⟨rfl, hq⟩
  obtain rfl := hq.symm
  go_wp2_with fail
  go_at_call 106
  refine (H2.out _ rfl).mono ?_
  rintro e w' ⟨rfl, hq⟩
  obtain rfl := hq.symm
  go_wp2
  go_loopw [25, 6] (fun i k wr => ∃ (t q : Nat) (C : Array Value) (h : Nat → Nat), i = .int .i64 t ∧ k = .int .u64 q ∧ wr = w.alloc (.cells C 145) ∧ t ≤ n ∧ RowIs C (n + 1) h ∧ AddAt f (padL g n') h t q) (fun i _ _ => n - (intOf i).toNat)
  case atStart => exact ⟨0, 0, _, _, rfl, rfl, rfl, Nat.zero_le _, RowIs.zero _, AddAt.start _ _ _⟩
  case round =>
    obtain ⟨t, q, C, h, rfl, rfl, rfl, ht, hR, hAt⟩ := hrel
    have HR : Hid (RowIs C (n + 1) h) := hR
    have HA : Hid (AddAt f (padL g n') h t q) := hAt
    have hq1 : q ≤ 1 := hAt.car
    have hCs : C.size = n + 1 := hR.1
    clear hR hAt
    by_cases hlt : t < n
    · have hcell := HF.out t hlt
      have hx := HFL.out t hlt
      have hy := HPL.out t
      have hA2 := HA.out.next hx hy
      have hC1 : ∀ hh : t < C.size, C[t]'hh = .int .u32 (h t : Nat) := HR.out.get t t rfl (by omega)
      by_cases hb2 : t < n'
      · have hp : (padL g n') t = g t := by unfold padL; rw [if_pos hb2]
        rw [hp] at hA2 hy
        have hcg := HG.out t hb2
        have hnl : decide ((t : Int) < (n' : Int)) = true := decide_eq_true (by omega)
        obtain ⟨s, hs⟩ : ∃ s, s = q + f t + g t := ⟨_, rfl⟩
        rw [← hs] at hA2
        have hsl : s < 18446744073709551616 := by omega
        have hlo : s % 4294967296 < 4294967296 := Nat.mod_lt _ (by omega)
        have hR2 := HR.out.put t _ hlo
        have hsum : ((q : Int) + (f t : Int) + (g t : Int)) = (s : Nat) := by omega
        have e1 : IntKind.u32.wrap (s : Int) = ((s % 4294967296 : Nat) : Int) := by rw [IntKind.wrap_u32']; omega
        have e2 : (s : Int) / 4294967296 = ((s / 4294967296 : Nat) : Int) := by omega
        have e3 : (s : Int) % 4294967296 = ((s % 4294967296 : Nat) : Int) := by omega
        have HA2 : Hid (AddAt f (padL g n') (upd h t (s % 4294967296)) (t + 1) (s / 4294967296)) := hA2
        have HR2 : Hid (RowIs (C.setIfInBounds t (.int .u32 ((s % 4294967296 : Nat) : Int))) (n + 1) (upd h t (s % 4294967296))) := hR2
        obtain ⟨lo, hlo'⟩ : ∃ x, x = s % 4294967296 := ⟨_, rfl⟩
        obtain ⟨hi, hhi'⟩ : ∃ x, x = s / 4294967296 := ⟨_, rfl⟩
        rw [← hlo'] at e1 e3 HA2 HR2
        rw [← hhi'] at e2 HA2
        clear hA2 hR2 hs hlo hlo' hhi' hy
        go_wp2
        go_roundw
        case rel => exact ⟨t + 1, hi, _, _, by go_num, rfl, rfl, by omega, HR2.out, HA2.out⟩
        case measure => simp [intOf]; omega
      · have hp : (padL g n') t = 0 := by unfold padL; rw [if_neg hb2]
        rw [hp, Nat.add_zero] at hA2
        have hnl : decide ((t : Int) < (n' : Int)) = false := decide_eq_false (by omega)
        obtain ⟨s, hs⟩ : ∃ s, s = q + f t := ⟨_, rfl⟩
        rw [← hs] at hA2
        have hsl : s < 18446744073709551616 := by omega
        have hlo : s % 4294967296 < 4294967296 := Nat.mod_lt _ (by omega)
        have hR2 := HR.out.put t _ hlo
        have hsum : ((q : Int) + (f t : Int)) = (s : Nat) := by omega
        have e1 : IntKind.u32.wrap (s : Int) = ((s % 4294967296 : Nat) : Int) := by rw [IntKind.wrap_u32']; omega
        have e2 : (s : Int) / 4294967296 = ((s / 4294967296 : Nat) : Int) := by omega
        have e3 : (s : Int) % 4294967296 = ((s % 4294967296 : Nat) : Int) := by omega
        have HA2 : Hid (AddAt f (padL g n') (upd h t (s % 4294967296)) (t + 1) (s / 4294967296)) := hA2
        have HR2 : Hid (RowIs (C.setIfInBounds t (.int .u32 ((s % 4294967296 : Nat) : Int))) (n + 1) (upd h t (s % 4294967296))) := hR2
        obtain ⟨lo, hlo'⟩ : ∃ x, x = s % 4294967296 := ⟨_, rfl⟩
        obtain ⟨hi, hhi'⟩ : ∃ x, x = s / 4294967296 := ⟨_, rfl⟩
        rw [← hlo'] at e1 e3 HA2 HR2
        rw [← hhi'] at e2 HA2
        clear hA2 hR2 hs hlo hlo' hhi' hy
        go_wp2
        go_roundw
        case rel => exact ⟨t + 1, hi, _, _, by go_num, rfl, rfl, by omega, HR2.out, HA2.out⟩
        case measure => simp [intOf]; omega
    · have htn : t = n := by omega
      subst htn
      have hR2 := HR.out.put t q (by omega)
      have hval : nv (upd h t q) (t + 1) = (nv f t + nv g n') := by
        show nv _ t + _ * 2 ^ (32 * t) = _
        rw [nv_upd_ge (Nat.le_refl _)]
        have e1 : upd h t q t = q := by unfold upd; rw [if_pos rfl]
        rw [e1, HA.out.val, nv_pad (by omega)]
        skip
      have HT : Hid (∀ w', w' = w.alloc (.cells (C.setIfInBounds t (.int .u32 q)) 145) → Calls Oabg.prog 106 #[.slice (some ⟨w.heap.size, 0, none⟩) (t + 1) (t + 1)] w' fun e w'' => ∃ v, e = .returned v ∧ w'' = w' ∧ IsN w' v (nv (upd h t q) (t + 1))) := fun w' hw =>
        trim_made w.heap.size (t + 1) (t + 1) _ w' (Nat.le_refl _) (by omega) (by rw [hw]; exact hR2.cell w) (by rw [hw]; simp [go_sem]) (fun j _ => hR2.2.2 j)
      have hC1 : ∀ hh : t < C.size, C[t]'hh = .int .u32 (h t : Nat) := HR.out.get t t rfl (by omega)
      have e1 : IntKind.u32.wrap (q : Int) = (q : Nat) := u32_cast (by omega)
      have HVL : Hid (nv (upd h t q) (t + 1) = (nv f t + nv g n')) := hval
      clear hR2 hval
      go_wp2_with (go_at_call 106; refine (HT.out _ rfl).mono ?_; rintro e w' ⟨v, rfl, hq, hv⟩; obtain rfl := hq.symm)
      go_ret
      refine ⟨v, rfl, ?_, (Below.refl _ _).alloc (Nat.le_refl _) _⟩
      rw [HVL.out] at hv
      exact hv

set_option maxHeartbeats 1000000 in
set_option maxRecDepth 100000 in
theorem add_lt (b off n c : Nat) (f : Nat → Nat) (b' off' n' c' : Nat) (g : Nat → Nat) (w : World) (hn : 0 < n) (hl : n ≤ 100000) (hA : IsN w (.slice (some ⟨b, off, none⟩) n c) (nv f n))
    (hf : ∀ j, j < n → w.cell? ⟨b, off + j, none⟩ = some (.int .u32 (f j : Nat))) (hfl : ∀ j, j < n → f j < 4294967296) (hb : b < w.heap.size) (hle : n' < n) (hB : IsN w (.slice (some ⟨b', off', none⟩) n' c') (nv g n')) (hg : ∀ j, j < n' → w.cell? ⟨b', off' + j, none⟩ = some (.int .u32 (g j : Nat))) (hgl : ∀ j, j < n' → g j < 4294967296) (hb' : b' < w.heap.size) :
    Calls Oabg.prog 76 #[.slice (some ⟨b', off', none⟩) n' c', .slice (some ⟨b, off, none⟩) n c] w fun e w' => ∃ v, e = .returned v ∧ IsN w' v (nv f n + nv g n') ∧ Below w.heap.size w w' := by
  have H1 : Hid (∀ w', w' = w → Calls Oabg.prog 106 #[.slice (some ⟨b, off, none⟩) n c] w' fun e w'' => e = .returned (.slice (some ⟨b, off, none⟩) n c) ∧ w'' = w') := fun w' hw => by subst hw; exact trim_same hA
  have H2 : Hid (∀ w', w' = w → Calls Oabg.prog 106 #[.slice (some ⟨b', off', none⟩) n' c'] w' fun e w'' => e = .returned (.slice (some ⟨b', off', none⟩) n' c') ∧ w'' = w') := fun w' hw => by subst hw; exact trim_same hB
  have HG : Hid (∀ j, j < n' → w.cell? ⟨b', off' + j, none⟩ = some (.int .u32 (g j : Nat))) := hg
  have HPL : Hid (∀ j, (padL g n') j < 4294967296) := pad_lt hgl
  have HF : Hid (∀ j, j < n → w.cell? ⟨b, off + j, none⟩ = some (.int .u32 (f j : Nat))) := hf
  have HFL : Hid (∀ j, j < n → f j < 4294967296) := hfl
  have hmk := fun w => make48 w ((n : Int) + 1) (n + 1) (by omega) (by omega)
  clear hA hf hfl hB hg hgl
  go_enter Oabg.func76, Oabg.ntmps76
  go_wp2_with fail
  go_at_call 106
  refine (H2.out _ rfl).mono ?_
  rintro e w' ⟨rfl, hq⟩
  obtain rfl := hq.symm
  go_wp2_with fail
  go_at_call 106
  refine (H1.out _ rfl).mono ?_
  rintro e w' ⟨rfl, hq⟩
  obtain rfl := hq.symm
  go_wp2
  go_loopw [25, 6] (fun i k wr => ∃ (t q : Nat) (C : Array Value) (h : Nat → Nat), i = .int .i64 t ∧ k = .int .u64 q ∧ wr = w.alloc (.cells C 145) ∧ t ≤ n ∧ RowIs C (n + 1) h ∧ AddAt f (padL g n') h t q) (fun i _ _ => n - (intOf i).toNat)
  case atStart => exact ⟨0, 0, _, _, rfl, rfl, rfl, Nat.zero_le _, RowIs.zero _, AddAt.start _ _ _⟩
  case round =>
    obtain ⟨t, q, C, h, rfl, rfl, rfl, ht, hR, hAt⟩ := hrel
    have HR : Hid (RowIs C (n + 1) h) := hR
    have HA : Hid (AddAt f (padL g n') h t q) := hAt
    have hq1 : q ≤ 1 := hAt.car
    have hCs : C.size = n + 1 := hR.1
    clear hR hAt
    by_cases hlt : t < n
    · have hcell := HF.out t hlt
      have hx := HFL.out t hlt
      have hy := HPL.out t
      have hA2 := HA.out.next hx hy
      have hC1 : ∀ hh : t < C.size, C[t]'hh = .int .u32 (h t : Nat) := HR.out.get t t rfl (by omega)
      by_cases hb2 : t < n'
      · have hp : (padL g n') t = g t := by unfold padL; rw [if_pos hb2]
        rw [hp] at hA2 hy
        have hcg := HG.out t hb2
        have hnl : decide ((t : Int) < (n' : Int)) = true := decide_eq_true (by omega)
        obtain ⟨s, hs⟩ : ∃ s, s = q + f t + g t := ⟨_, rfl⟩
        rw [← hs] at hA2
        have hsl : s < 18446744073709551616 := by omega
        have hlo : s % 4294967296 < 4294967296 := Nat.mod_lt _ (by omega)
        have hR2 := HR.out.put t _ hlo
        have hsum : ((q : Int) + (f t : Int) + (g t : Int)) = (s : Nat) := by omega
        have e1 : IntKind.u32.wrap (s : Int) = ((s % 4294967296 : Nat) : Int) := by rw [IntKind.wrap_u32']; omega
        have e2 : (s : Int) / 4294967296 = ((s / 4294967296 : Nat) : Int) := by omega
        have e3 : (s : Int) % 4294967296 = ((s % 4294967296 : Nat) : Int) := by omega
        have HA2 : Hid (AddAt f (padL g n') (upd h t (s % 4294967296)) (t + 1) (s / 4294967296)) := hA2
        have HR2 : Hid (RowIs (C.setIfInBounds t (.int .u32 ((s % 4294967296 : Nat) : Int))) (n + 1) (upd h t (s % 4294967296))) := hR2
        obtain ⟨lo, hlo'⟩ : ∃ x, x = s % 4294967296 := ⟨_, rfl⟩
        obtain ⟨hi, hhi'⟩ : ∃ x, x = s / 4294967296 := ⟨_, rfl⟩
        rw [← hlo'] at e1 e3 HA2 HR2
        rw [← hhi'] at e2 HA2
        clear hA2 hR2 hs hlo hlo' hhi' hy
        go_wp2
        go_roundw
        case rel => exact ⟨t + 1, hi, _, _, by go_num, rfl, rfl, by omega, HR2.out, HA2.out⟩
        case measure => simp [intOf]; omega
      · have hp : (padL g n') t = 0 := by unfold padL; rw [if_neg hb2]
        rw [hp, Nat.add_zero] at hA2
        have hnl : decide ((t : Int) < (n' : Int)) = false := decide_eq_false (by omega)
        obtain ⟨s, hs⟩ : ∃ s, s = q + f t := ⟨_, rfl⟩
        rw [← hs] at hA2
        have hsl : s < 18446744073709551616 := by omega
        have hlo : s % 4294967296 < 4294967296 := Nat.mod_lt _ (by omega)
        have hR2 := HR.out.put t _ hlo
        have hsum : ((q : Int) + (f t : Int)) = (s : Nat) := by omega
        have e1 : IntKind.u32.wrap (s : Int) = ((s % 4294967296 : Nat) : Int) := by rw [IntKind.wrap_u32']; omega
        have e2 : (s : Int) / 4294967296 = ((s / 4294967296 : Nat) : Int) := by omega
        have e3 : (s : Int) % 4294967296 = ((s % 4294967296 : Nat) : Int) := by omega
        have HA2 : Hid (AddAt f (padL g n') (upd h t (s % 4294967296)) (t + 1) (s / 4294967296)) := hA2
        have HR2 : Hid (RowIs (C.setIfInBounds t (.int .u32 ((s % 4294967296 : Nat) : Int))) (n + 1) (upd h t (s % 4294967296))) := hR2
        obtain ⟨lo, hlo'⟩ : ∃ x, x = s % 4294967296 := ⟨_, rfl⟩
        obtain ⟨hi, hhi'⟩ : ∃ x, x = s / 4294967296 := ⟨_, rfl⟩
        rw [← hlo'] at e1 e3 HA2 HR2
        rw [← hhi'] at e2 HA2
        clear hA2 hR2 hs hlo hlo' hhi' hy
        go_wp2
        go_roundw
        case rel => exact ⟨t + 1, hi, _, _, by go_num, rfl, rfl, by omega, HR2.out, HA2.out⟩
        case measure => simp [intOf]; omega
    · have htn : t = n := by omega
      subst htn
      have hR2 := HR.out.put t q (by omega)
      have hval : nv (upd h t q) (t + 1) = (nv f t + nv g n') := by
        show nv _ t + _ * 2 ^ (32 * t) = _
        rw [nv_upd_ge (Nat.le_refl _)]
        have e1 : upd h t q t = q := by unfold upd; rw [if_pos rfl]
        rw [e1, HA.out.val, nv_pad (by omega)]
        skip
      have HT : Hid (∀ w', w' = w.alloc (.cells (C.setIfInBounds t (.int .u32 q)) 145) → Calls Oabg.prog 106 #[.slice (some ⟨w.heap.size, 0, none⟩) (t + 1) (t + 1)] w' fun e w'' => ∃ v, e = .returned v ∧ w'' = w' ∧ IsN w' v (nv (upd h t q) (t + 1))) := fun w' hw =>
        trim_made w.heap.size (t + 1) (t + 1) _ w' (Nat.le_refl _) (by omega) (by rw [hw]; exact hR2.cell w) (by rw [hw]; simp [go_sem]) (fun j _ => hR2.2.2 j)
      have hC1 : ∀ hh : t < C.size, C[t]'hh = .int .u32 (h t : Nat) := HR.out.get t t rfl (by omega)
      have e1 : IntKind.u32.wrap (q : Int) = (q : Nat) := u32_cast (by omega)
      have HVL : Hid (nv (upd h t q) (t + 1) = (nv f t + nv g n')) := hval
      clear hR2 hval
      go_wp2_with (go_at_call 106; refine (HT.out _ rfl).mono ?_; rintro e w' ⟨v, rfl, hq, hv⟩; obtain rfl := hq.symm)
      go_ret
      refine ⟨v, rfl, ?_, (Below.refl _ _).alloc (Nat.le_refl _) _⟩
      rw [HVL.out] at hv
      exact hv

set_option maxHeartbeats 1000000 in
set_option maxRecDepth 100000 in
theorem add_an (b off n c : Nat) (f : Nat → Nat) (w : World) (hn : 0 < n) (hl : n ≤ 100000) (hA : IsN w (.slice (some ⟨b, off, none⟩) n c) (nv f n))
    (hf : ∀ j, j < n → w.cell? ⟨b, off + j, none⟩ = some (.int .u32 (f j : Nat))) (hfl : ∀ j, j < n → f j < 4294967296) (hb : b < w.heap.size) :
    Calls Oabg.prog 76 #[.slice (some ⟨b, off, none⟩) n c, .slice none 0 0] w fun e w' => ∃ v, e = .returned v ∧ IsN w' v (nv f n) ∧ Below w.heap.size w w' := by
  have H1 : Hid (∀ w', w' = w → Calls Oabg.prog 106 #[.slice (some ⟨b, off, none⟩) n c] w' fun e w'' => e = .returned (.slice (some ⟨b, off, none⟩) n c) ∧ w'' = w') := fun w' hw => by subst hw; exact trim_same hA
  have H2 : Hid (∀ w' : World, w' = w → Calls Oabg.prog 106 #[.slice none 0 0] w' fun e w'' => e = .returned (.slice none 0 0) ∧ w'' = w') := fun w' _ => trim_nil w'
  have HPL : Hid (∀ j, (padL (fun _ => 0) 0) j < 4294967296) := fun j => pad_lt (fun j hj => by omega) j
  have HF : Hid (∀ j, j < n → w.cell? ⟨b, off + j, none⟩ = some (.int .u32 (f j : Nat))) := hf
  have HFL : Hid (∀ j, j < n → f j < 4294967296) := hfl
  have hmk := fun w => make48 w ((n : Int) + 1) (n + 1) (by omega) (by omega)
  clear hA hf hfl
  go_enter Oabg.func76, Oabg.ntmps76
  go_wp2_with fail
  go_at_call 106
  refine (H1.out _ rfl).mono ?_
  rintro e w' ⟨rfl, hq⟩
  obtain rfl := hq.symm
  go_wp2_with fail
  go_at_call 106
  refine (H2.out _ rfl).mono ?_
  rintro e w' ⟨rfl, hq⟩
  obtain rfl := hq.symm
  go_wp2
  go_loopw [25, 6] (fun i k wr => ∃ (t q : Nat) (C : Array Value) (h : Nat → Nat), i = .int .i64 t ∧ k = .int .u64 q ∧ wr = w.alloc (.cells C 145) ∧ t ≤ n ∧ RowIs C (n + 1) h ∧ AddAt f (padL (fun _ => 0) 0) h t q) (fun i _ _ => n - (intOf i).toNat)
  case atStart => exact ⟨0, 0, _, _, rfl, rfl, rfl, Nat.zero_le _, RowIs.zero _, AddAt.start _ _ _⟩
  case round =>
    obtain ⟨t, q, C, h, rfl, rfl, rfl, ht, hR, hAt⟩ := hrel
    have HR : Hid (RowIs C (n + 1) h) := hR
    have HA : Hid (AddAt f (padL (fun _ => 0) 0) h t q) := hAt
    have hq1 : q ≤ 1 := hAt.car
    have hCs : C.size = n + 1 := hR.1
    clear hR hAt
    by_cases hlt : t < n
    · have hcell := HF.out t hlt
      have hx := HFL.out t hlt
      have hy := HPL.out t
      have hA2 := HA.out.next hx hy
      have hC1 : ∀ hh : t < C.size, C[t]'hh = .int .u32 (h t : Nat) := HR.out.get t t rfl (by omega)
      have hp : (padL (fun _ => 0) 0) t = 0 := by unfold padL; rw [if_neg (by omega)]
      rw [hp, Nat.add_zero] at hA2
      have hnl : decide ((t : Int) < 0) = false := decide_eq_false (by omega)
      obtain ⟨s, hs⟩ : ∃ s, s = q + f t := ⟨_, rfl⟩
      rw [← hs] at hA2
      have hsl : s < 18446744073709551616 := by omega
      have hlo : s % 4294967296 < 4294967296 := Nat.mod_lt _ (by omega)
      have hR2 := HR.out.put t _ hlo
      have hsum : ((q : Int) + (f t : Int)) = (s : Nat) := by omega
      have e1 : IntKind.u32.wrap (s : Int) = ((s % 4294967296 : Nat) : Int) := by rw [IntKind.wrap_u32']; omega
      have e2 : (s : Int) / 4294967296 = ((s / 4294967296 : Nat) : Int) := by omega
      have e3 : (s : Int) % 4294967296 = ((s % 4294967296 : Nat) : Int) := by omega
      have HA2 : Hid (AddAt f (padL (fun _ => 0) 0) (upd h t (s % 4294967296)) (t + 1) (s / 4294967296)) := hA2
      have HR2 : Hid (RowIs (C.setIfInBounds t (.int .u32 ((s % 4294967296 : Nat) : Int))) (n + 1) (upd h t (s % 4294967296))) := hR2
      obtain ⟨lo, hlo'⟩ : ∃ x, x = s % 4294967296 := ⟨_, rfl⟩
      obtain ⟨hi, hhi'⟩ : ∃ x, x = s / 4294967296 := ⟨_, rfl⟩
      rw [← hlo'] at e1 e3 HA2 HR2
      rw [← hhi'] at e2 HA2
      clear hA2 hR2 hs hlo hlo' hhi' hy
      go_wp2
      go_roundw
      case rel => exact ⟨t + 1, hi, _, _, by go_num, rfl, rfl, by omega, HR2.out, HA2.out⟩
      case measure => simp [intOf]; omega
    · have htn : t = n := by omega
      subst htn
      have hR2 := HR.out.put t q (by omega)
      have hval : nv (upd h t q) (t + 1) = (nv f t) := by
        show nv _ t + _ * 2 ^ (32 * t) = _
        rw [nv_upd_ge (Nat.le_refl _)]
        have e1 : upd h t q t = q := by unfold upd; rw [if_pos rfl]
        rw [e1, HA.out.val, nv_pad (by omega)]
        simp [nv]
      have HT : Hid (∀ w', w' = w.alloc (.cells (C.setIfInBounds t (.int .u32 q)) 145) → Calls Oabg.prog 106 #[.slice (some ⟨w.heap.size, 0, none⟩) (t + 1) (t + 1)] w' fun e w'' => ∃ v, e = .returned v ∧ w'' = w' ∧ IsN w' v (nv (upd h t q) (t + 1))) := fun w' hw =>
        trim_made w.heap.size (t + 1) (t + 1) _ w' (Nat.le_refl _) (by omega) (by rw [hw]; exact hR2.cell w) (by rw [hw]; simp [go_sem]) (fun j _ => hR2.2.2 j)
      have hC1 : ∀ hh : t < C.size, C[t]'hh = .int .u32 (h t : Nat) := HR.out.get t t rfl (by omega)
      have e1 : IntKind.u32.wrap (q : Int) = (q : Nat) := u32_cast (by omega)
      have HVL : Hid (nv (upd h t q) (t + 1) = (nv f t)) := hval
      clear hR2 hval
      go_wp2_with (go_at_call 106; refine (HT.out _ rfl).mono ?_; rintro e w' ⟨v, rfl, hq, hv⟩; obtain rfl := hq.symm)
      go_ret
      refine ⟨v, rfl, ?_, (Below.refl _ _).alloc (Nat.le_refl _) _⟩
      rw [HVL.out] at hv
      exact hv

set_option maxHeartbeats 1000000 in
set_option maxRecDepth 100000 in
theorem add_na (b off n c : Nat) (f : Nat → Nat) (w : World) (hn : 0 < n) (hl : n ≤ 100000) (hA : IsN w (.slice (some ⟨b, off, none⟩) n c) (nv f n))
    (hf : ∀ j, j < n → w.cell? ⟨b, off + j, none⟩ = some (.int .u32 (f j : Nat))) (hfl : ∀ j, j < n → f j < 4294967296) (hb : b < w.heap.size) :
    Calls Oabg.prog 76 #[.slice none 0 0, .slice (some ⟨b, off, none⟩) n c] w fun e w' => ∃ v, e = .returned v ∧ IsN w' v (nv f n) ∧ Below w.heap.size w w' := by
  have H1 : Hid (∀ w', w' = w → Calls Oabg.prog 106 #[.slice (some ⟨b, off, none⟩) n c] w' fun e w'' => e = .returned (.slice (some ⟨b, off, none⟩) n c) ∧ w'' = w') := fun w' hw => by subst hw; exact trim_same hA
  have H2 : Hid (∀ w' : World, w' = w → Calls Oabg.prog 106 #[.slice none 0 0] w' fun e w'' => e = .returned (.slice none 0 0) ∧ w'' = w') := fun w' _ => trim_nil w'
  have HPL : Hid (∀ j, (padL (fun _ => 0) 0) j < 4294967296) := fun j => pad_lt (fun j hj => by omega) j
  have HF : Hid (∀ j, j < n → w.cell? ⟨b, off + j, none⟩ = some (.int .u32 (f j : Nat))) := hf
  have HFL : Hid (∀ j, j < n → f j < 4294967296) := hfl
  have hmk := fun w => make48 w ((n : Int) + 1) (n + 1) (by omega) (by omega)
  clear hA hf hfl
  go_enter Oabg.func76, Oabg.ntmps76
  go_wp2_with fail
  go_at_call 106
  refine (H2.out _ rfl).mono ?_
  rintro e w' ⟨rfl, hq⟩
  obtain rfl := hq.symm
  go_wp2_with fail
  go_at_call 106
  refine (H1.out _ rfl).mono ?_
  rintro e w' ⟨rfl, hq⟩
  obtain rfl := hq.symm
  go_wp2
  go_loopw [25, 6] (fun i k wr => ∃ (t q : Nat) (C : Array Value) (h : Nat → Nat), i = .int .i64 t ∧ k = .int .u64 q ∧ wr = w.alloc (.cells C 145) ∧ t ≤ n ∧ RowIs C (n + 1) h ∧ AddAt f (padL (fun _ => 0) 0) h t q) (fun i _ _ => n - (intOf i).toNat)
  case atStart => exact ⟨0, 0, _, _, rfl, rfl, rfl, Nat.zero_le _, RowIs.zero _, AddAt.start _ _ _⟩
  case round =>
    obtain ⟨t, q, C, h, rfl, rfl, rfl, ht, hR, hAt⟩ := hrel
    have HR : Hid (RowIs C (n + 1) h) := hR
    have HA : Hid (AddAt f (padL (fun _ => 0) 0) h t q) := hAt
    have hq1 : q ≤ 1 := hAt.car
    have hCs : C.size = n + 1 := hR.1
    clear hR hAt
    by_cases hlt : t < n
    · have hcell := HF.out t hlt
      have hx := HFL.out t hlt
      have hy := HPL.out t
      have hA2 := HA.out.next hx hy
      have hC1 : ∀ hh : t < C.size, C[t]'hh = .int .u32 (h t : Nat) := HR.out.get t t rfl (by omega)
      have hp : (padL (fun _ => 0) 0) t = 0 := by unfold padL; rw [if_neg (by omega)]
      rw [hp, Nat.add_zero] at hA2
      have hnl : decide ((t : Int) < 0) = false := decide_eq_false (by omega)
      obtain ⟨s, hs⟩ : ∃ s, s = q + f t := ⟨_, rfl⟩
      rw [← hs] at hA2
      have hsl : s < 18446744073709551616 := by omega
      have hlo : s % 4294967296 < 4294967296 := Nat.mod_lt _ (by omega)
      have hR2 := HR.out.put t _ hlo
      have hsum : ((q : Int) + (f t : Int)) = (s : Nat) := by omega
      have e1 : IntKind.u32.wrap (s : Int) = ((s % 4294967296 : Nat) : Int) := by rw [IntKind.wrap_u32']; omega
      have e2 : (s : Int) / 4294967296 = ((s / 4294967296 : Nat) : Int) := by omega
      have e3 : (s : Int) % 4294967296 = ((s % 4294967296 : Nat) : Int) := by omega
      have HA2 : Hid (AddAt f (padL (fun _ => 0) 0) (upd h t (s % 4294967296)) (t + 1) (s / 4294967296)) := hA2
      have HR2 : Hid (RowIs (C.setIfInBounds t (.int .u32 ((s % 4294967296 : Nat) : Int))) (n + 1) (upd h t (s % 4294967296))) := hR2
      obtain ⟨lo, hlo'⟩ : ∃ x, x = s % 4294967296 := ⟨_, rfl⟩
      obtain ⟨hi, hhi'⟩ : ∃ x, x = s / 4294967296 := ⟨_, rfl⟩
      rw [← hlo'] at e1 e3 HA2 HR2
      rw [← hhi'] at e2 HA2
      clear hA2 hR2 hs hlo hlo' hhi' hy
      go_wp2
      go_roundw
      case rel => exact ⟨t + 1, hi, _, _, by go_num, rfl, rfl, by omega, HR2.out, HA2.out⟩
      case measure => simp [intOf]; omega
    · have htn : t = n := by omega
      subst htn
      have hR2 := HR.out.put t q (by omega)
      have hval : nv (upd h t q) (t + 1) = (nv f t) := by
        show nv _ t + _ * 2 ^ (32 * t) = _
        rw [nv_upd_ge (Nat.le_refl _)]
        have e1 : upd h t q t = q := by unfold upd; rw [if_pos rfl]
        rw [e1, HA.out.val, nv_pad (by omega)]
        simp [nv]
      have HT : Hid (∀ w', w' = w.alloc (.cells (C.setIfInBounds t (.int .u32 q)) 145) → Calls Oabg.prog 106 #[.slice (some ⟨w.heap.size, 0, none⟩) (t + 1) (t + 1)] w' fun e w'' => ∃ v, e = .returned v ∧ w'' = w' ∧ IsN w' v (nv (upd h t q) (t + 1))) := fun w' hw =>
        trim_made w.heap.size (t + 1) (t + 1) _ w' (Nat.le_refl _) (by omega) (by rw [hw]; exact hR2.cell w) (by rw [hw]; simp [go_sem]) (fun j _ => hR2.2.2 j)
      have hC1 : ∀ hh : t < C.size, C[t]'hh = .int .u32 (h t : Nat) := HR.out.get t t rfl (by omega)
      have e1 : IntKind.u32.wrap (q : Int) = (q : Nat) := u32_cast (by omega)
      have HVL : Hid (nv (upd h t q) (t + 1) = (nv f t)) := hval
      clear hR2 hval
      go_wp2_with (go_at_call 106; refine (HT.out _ rfl).mono ?_; rintro e w' ⟨v, rfl, hq, hv⟩; obtain rfl := hq.symm)
      go_ret
      refine ⟨v, rfl, ?_, (Below.refl _ _).alloc (Nat.le_refl _) _⟩
      rw [HVL.out] at hv
      exact hv


set_option maxRecDepth 100000 in
theorem add_nn (w : World) : Calls Oabg.prog 76 #[.slice none 0 0, .slice none 0 0] w fun e w' => ∃ v, e = .returned v ∧ IsN w' v 0 ∧ Below w.heap.size w w' := by
  have hmk := fun w => make48 w 1 1 (by omega) (by omega)
  have HT : Hid (∀ w', w' = w.alloc (.cells #[.int .u32 0] 145) → Calls Oabg.prog 106 #[.slice (some ⟨w.heap.size, 0, none⟩) 1 1] w' fun e w'' => ∃ v, e = .returned v ∧ w'' = w' ∧ IsN w' v 0) := fun w' hw =>
    (trim_made w.heap.size 1 1 (fun _ => 0) w' (Nat.le_refl _) (by omega) (by rw [hw]; intro j hj; have : j = 0 := (by omega); subst this; simp [go_sem]) (by rw [hw]; simp [go_sem]) (fun j _ => by omega)).mono fun e w'' h => by simpa [nv] using h
  have he : Array.replicate 1 (Value.int IntKind.u32 0) = #[.int .u32 0] := rfl
  rw [he] at hmk
  clear he
  go_enter Oabg.func76, Oabg.ntmps76
  go_wp2_with fail
  go_at_call 106
  refine (trim_nil _).mono ?_
  rintro e w' ⟨rfl, hq⟩
  obtain rfl := hq.symm
  go_wp2_with fail
  go_at_call 106
  refine (trim_nil _).mono ?_
  rintro e w' ⟨rfl, hq⟩
  obtain rfl := hq.symm
  go_wp2
  go_loopw [25, 6] (fun i k wr => i = .int .i64 0 ∧ k = .int .u64 0 ∧ wr = w.alloc (.cells #[.int .u32 0] 145)) (fun _ _ _ => 0)
  case atStart => exact ⟨rfl, rfl, rfl⟩
  case round =>
    obtain ⟨rfl, rfl, rfl⟩ := hrel
    go_wp2_with (go_at_call 106; refine (HT.out _ rfl).mono ?_; rintro e w' ⟨v, rfl, hq, hv⟩; obtain rfl := hq.symm)
    go_ret
    exact ⟨v, rfl, hv, (Below.refl _ _).alloc (Nat.le_refl _) _⟩

/-- Add: the sum -/
theorem add_any {w : World} {u v : Value} {A B : Nat} (hA : IsN w u A) (hB : IsN w v B) (fA : FitsN A) (fB : FitsN B) :
    Calls Oabg.prog 76 #[u, v] w fun e w' => ∃ r, e = .returned r ∧ IsN w' r (A + B) ∧ Below w.heap.size w w' := by
  have hA' := hA
  have hB' := hB
  rcases hA with ⟨rfl, rfl⟩ | ⟨b, off, n, cap, f, rfl, h2, h3, h4, h5, h6, h7, h8, rfl⟩
  · rcases hB with ⟨rfl, rfl⟩ | ⟨b', off', n', cap', g, rfl, k2, k3, k4, k5, k6, k7, k8, rfl⟩
    · exact add_nn w
    · rw [Nat.zero_add]
      exact add_na b' off' n' cap' g w k2 (fB.len k2 k5) hB' k7 k6 k8
  · rcases hB with ⟨rfl, rfl⟩ | ⟨b', off', n', cap', g, rfl, k2, k3, k4, k5, k6, k7, k8, rfl⟩
    · exact add_an b off n cap f w h2 (fA.len h2 h5) hA' h7 h6 h8
    · by_cases hn : n' ≤ n
      · exact add_ge b off n cap f b' off' n' cap' g w h2 (fA.len h2 h5) hA' h7 h6 h8 hn hB' k7 k6 k8
      · rw [Nat.add_comm]
        exact add_lt b' off' n' cap' g b off n cap f w k2 (fB.len k2 k5) hB' k7 k6 k8 (by omega) hA' h7 h6 h8
end Go.Proofs.Ygcoab
