import Derived.Test.YgcoabWAdd
import Derived.Test.YgcoabWRat
namespace Go.Proofs.Ygcoab
open Go.RowKit

/-- Sub's loop -/
structure SubAt (f g h : Nat → Nat) (t c : Nat) : Prop where
  car : c ≤ 1
  val : nv f t + c * 2 ^ (32 * t) = nv h t + nv g t

theorem SubAt.start (f g h : Nat → Nat) : SubAt f g h 0 0 := ⟨by omega, by simp [nv]⟩

/-- a limb's difference, modulo 2^64 -/
def sx (f c g : Nat) : Nat := (f + 18446744073709551616 - c - g) % 18446744073709551616

theorem sx_spec {f c g : Nat} (hf : f < 4294967296) (hg : g < 4294967296) (hc : c ≤ 1) :
    f + sx f c g / 9223372036854775808 * 4294967296 = sx f c g % 4294967296 + c + g ∧ sx f c g / 9223372036854775808 ≤ 1 ∧ sx f c g < 18446744073709551616 := by
  unfold sx
  omega

theorem sub_key (a b c d e f g h P : Nat) (h1 : a + c * P = b + d) (h2 : e + f * 4294967296 = g + c + h) : a + e * P + f * (4294967296 * P) = b + g * P + (d + h * P) := by
  have h3 : e * P + f * (4294967296 * P) = g * P + c * P + h * P := by
    rw [← Nat.mul_assoc, ← Nat.add_mul, h2, Nat.add_mul, Nat.add_mul]
  omega

theorem SubAt.next {f g h : Nat → Nat} {t c : Nat} (H : SubAt f g h t c) (hf : f t < 4294967296) (hg : g t < 4294967296) :
    SubAt f g (upd h t (sx (f t) c (g t) % 4294967296)) (t + 1) (sx (f t) c (g t) / 9223372036854775808) := by
  obtain ⟨k1, k2, k3⟩ := sx_spec hf hg H.car
  refine ⟨k2, ?_⟩
  show nv f t + f t * 2 ^ (32 * t) + _ = nv _ t + _ * 2 ^ (32 * t) + (nv g t + g t * 2 ^ (32 * t))
  rw [nv_upd_ge (Nat.le_refl _)]
  have e1 : upd h t (sx (f t) c (g t) % 4294967296) t = sx (f t) c (g t) % 4294967296 := by unfold upd; rw [if_pos rfl]
  rw [e1, pow_next]
  exact sub_key _ _ _ _ _ _ _ _ _ H.val k1

theorem SubAt.done {f g h : Nat → Nat} {n c : Nat} (H : SubAt f g h n c) (hh : ∀ j, h j < 4294967296) (hle : nv g n ≤ nv f n) : nv h n = nv f n - nv g n := by
  have h1 := nv_lt (f := h) (n := n) (fun j _ => hh j)
  have h2 := H.car
  have h3 := H.val
  rcases Nat.eq_zero_or_pos c with hc | hc
  · subst hc; omega
  · have : c = 1 := by omega
    subst this
    rw [Nat.one_mul] at h3
    omega

set_option maxHeartbeats 1000000 in
set_option maxRecDepth 100000 in
theorem sub_ge (b off n c : Nat) (f : Nat → Nat) (b' off' n' c' : Nat) (g : Nat → Nat) (w : World) (hn : 0 < n) (hl : n ≤ 100000) (hA : IsN w (.slice (some ⟨b, off, none⟩) n c) (nv f n))
    (hf : ∀ j, j < n → w.cell? ⟨b, off + j, none⟩ = some (.int .u32 (f j : Nat))) (hfl : ∀ j, j < n → f j < 4294967296) (hb : b < w.heap.size) (hle : n' ≤ n) (hB : IsN w (.slice (some ⟨b', off', none⟩) n' c') (nv g n')) (hg : ∀ j, j < n' → w.cell? ⟨b', off' + j, none⟩ = some (.int .u32 (g j : Nat))) (hgl : ∀ j, j < n' → g j < 4294967296) (hb' : b' < w.heap.size) (hAB : nv g n' ≤ nv f n) :
    Calls Oabg.prog 90 #[.slice (some ⟨b, off, none⟩) n c, .slice (some ⟨b', off', none⟩) n' c'] w fun e w' => ∃ v, e = .returned (.tuple #[v, .bool true]) ∧ IsN w' v (nv f n - nv g n') ∧ Below w.heap.size w w' := by
  have H1 : Hid (∀ w', w' = w → Calls Oabg.prog 106 #[.slice (some ⟨b, off, none⟩) n c] w' fun e w'' => e = .returned (.slice (some ⟨b, off, none⟩) n c) ∧ w'' = w') := fun w' hw => by subst hw; exact trim_same hA
  have H2 : Hid (∀ w' : World, w' = w → Calls Oabg.prog 106 #[.slice (some ⟨b', off', none⟩) n' c'] w' fun e w'' => e = .returned (.slice (some ⟨b', off', none⟩) n' c') ∧ w'' = w') := fun w' hw => by subst hw; exact trim_same hB
  have hcz : decide (cmpZ (nv f n) (nv g n') < 0) = false := decide_eq_false (by unfold cmpZ; rw [if_neg (by omega)]; split <;> omega)
  have H3 : Hid (∀ w', w' = w → Calls Oabg.prog 77 #[.slice (some ⟨b, off, none⟩) n c, .slice (some ⟨b', off', none⟩) n' c'] w' fun e w'' => e = .returned (.int .i8 (cmpZ (nv f n) (nv g n'))) ∧ Below w.heap.size w w'') := fun w' hw => by subst hw; exact cmp_any hA hB
  have HPL : Hid (∀ j, (padL g n') j < 4294967296) := pad_lt hgl
  have HFL : Hid (∀ j, j < n → f j < 4294967296) := hfl
  have hmk := fun w => make48 w (n : Int) n (by omega) (by omega)
  clear hA hfl hB hgl
  go_enter Oabg.func90, Oabg.ntmps90
  go_wp2_with fail
  go_at_call 106
  refine (H1.out _ rfl).mono ?_
  rintro e w' ⟨rfl, hq⟩
  obtain rfl := hq.symm
  go_wp2_with fail
  go_at_call 106
  refine (H2.out _ rfl).mono ?_
  rintro e w' ⟨rfl, hq⟩
  obtain rfl := hq.symm
  go_wp2_with fail
  go_at_call 77
  refine (H3.out _ rfl).mono ?_
  rintro e w1 ⟨rfl, hw1⟩
  have HF : Hid (∀ j, j < n → w1.cell? ⟨b, off + j, none⟩ = some (.int .u32 (f j : Nat))) := fun j hj => (hw1.cell (p := ⟨b, off + j, none⟩) hb).trans (hf j hj)
  have hbw := Nat.lt_of_lt_of_le hb hw1.size
  have HG : Hid (∀ j, j < n' → w1.cell? ⟨b', off' + j, none⟩ = some (.int .u32 (g j : Nat))) := fun j hj => (hw1.cell (p := ⟨b', off' + j, none⟩) hb').trans (hg j hj)
  have hbw' := Nat.lt_of_lt_of_le hb' hw1.size
  have HB1 : Hid (Below w.heap.size w w1) := hw1
  have HZ1 : Hid (w.heap.size ≤ w1.heap.size) := hw1.size
  clear hf hb hw1 H1 H2 H3 hg hb'
  go_wp2
  go_loopw [23, 7] (fun i k wr => ∃ (t q : Nat) (C : Array Value) (h : Nat → Nat), i = .int .i64 t ∧ k = .int .u64 q ∧ wr = w1.alloc (.cells C 145) ∧ t ≤ n ∧ RowIs C n h ∧ SubAt f (padL g n') h t q) (fun i _ _ => n - (intOf i).toNat)
  case atStart => exact ⟨0, 0, _, _, rfl, rfl, rfl, Nat.zero_le _, RowIs.zero _, SubAt.start _ _ _⟩
  case round =>
    obtain ⟨t, q, C, h, rfl, rfl, rfl, ht, hR, hAt⟩ := hrel
    have HR : Hid (RowIs C n h) := hR
    have HA : Hid (SubAt f (padL g n') h t q) := hAt
    have hq1 : q ≤ 1 := hAt.car
    have hCs : C.size = n := hR.1
    clear hR hAt
    by_cases hlt : t < n
    · have hcell := HF.out t hlt
      have hx := HFL.out t hlt
      have hy := HPL.out t
      have hA2 := HA.out.next hx hy
      have hC1 : ∀ hh : t < C.size, C[t]'hh = .int .u32 (h t : Nat) := HR.out.get t t rfl (by omega)
      by_cases hb2 : t < n'
      · have hp : (padL g n') t = g t := by unfold padL; rw [if_pos hb2]
        rw [hp] at hA2 hy
        have hcg := HG.out t hb2
        have hnl : decide ((t : Int) < (n' : Int)) = true := decide_eq_true (by omega)
        obtain ⟨s, hs⟩ : ∃ s, s = sx (f t) q (g t) := ⟨_, rfl⟩
        have hsl := (sx_spec hx (g := g t) (by omega) hq1).2.2
        rw [← hs] at hA2 hsl
        have e9 : IntKind.u64.wrap ((f t : Int) - (q : Int)) = (sx (f t) q 0 : Nat) := by rw [wrap64]; unfold sx; omega
        have e0 : IntKind.u64.wrap ((sx (f t) q 0 : Int) - (g t : Int)) = (s : Nat) := by rw [wrap64, hs]; unfold sx; omega
        generalize sx (f t) q 0 = s0 at e9 e0
        have hlo : s % 4294967296 < 4294967296 := Nat.mod_lt _ (by omega)
        have hR2 := HR.out.put t _ hlo
        have e1 : IntKind.u32.wrap (s : Int) = ((s % 4294967296 : Nat) : Int) := by rw [IntKind.wrap_u32']; omega
        have e2 : (s : Int) / 9223372036854775808 = ((s / 9223372036854775808 : Nat) : Int) := by omega
        have e3 : (s : Int) % 4294967296 = ((s % 4294967296 : Nat) : Int) := by omega
        have HA2 : Hid (SubAt f (padL g n') (upd h t (s % 4294967296)) (t + 1) (s / 9223372036854775808)) := hA2
        have HR2 : Hid (RowIs (C.setIfInBounds t (.int .u32 ((s % 4294967296 : Nat) : Int))) n (upd h t (s % 4294967296))) := hR2
        obtain ⟨lo, hlo'⟩ : ∃ x, x = s % 4294967296 := ⟨_, rfl⟩
        obtain ⟨hi, hhi'⟩ : ∃ x, x = s / 9223372036854775808 := ⟨_, rfl⟩
        rw [← hlo'] at e1 e3 HA2 HR2
        rw [← hhi'] at e2 HA2
        clear hA2 hR2 hs hlo hlo' hhi'
        go_wp2
        go_roundw
        case rel => exact ⟨t + 1, hi, _, _, by go_num, rfl, rfl, by omega, HR2.out, HA2.out⟩
        case measure => simp [intOf]; omega
      · have hp : (padL g n') t = 0 := by unfold padL; rw [if_neg hb2]
        rw [hp] at hA2
        have hnl : decide ((t : Int) < (n' : Int)) = false := decide_eq_false (by omega)
        obtain ⟨s, hs⟩ : ∃ s, s = sx (f t) q (0) := ⟨_, rfl⟩
        have hsl := (sx_spec hx (g := 0) (by omega) hq1).2.2
        rw [← hs] at hA2 hsl
        have e0 : IntKind.u64.wrap ((f t : Int) - (q : Int)) = (s : Nat) := by rw [wrap64, hs]; unfold sx; omega
        have hlo : s % 4294967296 < 4294967296 := Nat.mod_lt _ (by omega)
        have hR2 := HR.out.put t _ hlo
        have e1 : IntKind.u32.wrap (s : Int) = ((s % 4294967296 : Nat) : Int) := by rw [IntKind.wrap_u32']; omega
        have e2 : (s : Int) / 9223372036854775808 = ((s / 9223372036854775808 : Nat) : Int) := by omega
        have e3 : (s : Int) % 4294967296 = ((s % 4294967296 : Nat) : Int) := by omega
        have HA2 : Hid (SubAt f (padL g n') (upd h t (s % 4294967296)) (t + 1) (s / 9223372036854775808)) := hA2
        have HR2 : Hid (RowIs (C.setIfInBounds t (.int .u32 ((s % 4294967296 : Nat) : Int))) n (upd h t (s % 4294967296))) := hR2
        obtain ⟨lo, hlo'⟩ : ∃ x, x = s % 4294967296 := ⟨_, rfl⟩
        obtain ⟨hi, hhi'⟩ : ∃ x, x = s / 9223372036854775808 := ⟨_, rfl⟩
        rw [← hlo'] at e1 e3 HA2 HR2
        rw [← hhi'] at e2 HA2
        clear hA2 hR2 hs hlo hlo' hhi'
        go_wp2
        go_roundw
        case rel => exact ⟨t + 1, hi, _, _, by go_num, rfl, rfl, by omega, HR2.out, HA2.out⟩
        case measure => simp [intOf]; omega
    · have htn : t = n := by omega
      subst htn
      have HVL : Hid (nv h t = (nv f t - nv g n')) := by
        have := HA.out.done HR.out.2.2 (by rw [nv_pad (by omega)]; exact hAB)
        rw [nv_pad (by omega)] at this
        skip
        exact this
      have HT : Hid (∀ w', w' = w1.alloc (.cells C 145) → Calls Oabg.prog 106 #[.slice (some ⟨w1.heap.size, 0, none⟩) t t] w' fun e w'' => ∃ v, e = .returned v ∧ w'' = w' ∧ IsN w' v (nv h t)) := fun w' hw =>
        trim_made w1.heap.size t t _ w' (Nat.le_refl _) (by omega) (by rw [hw]; exact HR.out.cell w1) (by rw [hw]; simp [go_sem]) (fun j _ => HR.out.2.2 j)
      go_wp2_with (go_at_call 106; refine (HT.out _ rfl).mono ?_; rintro e w' ⟨v, rfl, hq, hv⟩; obtain rfl := hq.symm)
      go_ret2
      refine ⟨v, rfl, ?_, HB1.out.alloc HZ1.out _⟩
      rw [HVL.out] at hv
      exact hv

set_option maxHeartbeats 1000000 in
set_option maxRecDepth 100000 in
theorem sub_an (b off n c : Nat) (f : Nat → Nat) (w : World) (hn : 0 < n) (hl : n ≤ 100000) (hA : IsN w (.slice (some ⟨b, off, none⟩) n c) (nv f n))
    (hf : ∀ j, j < n → w.cell? ⟨b, off + j, none⟩ = some (.int .u32 (f j : Nat))) (hfl : ∀ j, j < n → f j < 4294967296) (hb : b < w.heap.size) :
    Calls Oabg.prog 90 #[.slice (some ⟨b, off, none⟩) n c, .slice none 0 0] w fun e w' => ∃ v, e = .returned (.tuple #[v, .bool true]) ∧ IsN w' v (nv f n) ∧ Below w.heap.size w w' := by
  have H1 : Hid (∀ w', w' = w → Calls Oabg.prog 106 #[.slice (some ⟨b, off, none⟩) n c] w' fun e w'' => e = .returned (.slice (some ⟨b, off, none⟩) n c) ∧ w'' = w') := fun w' hw => by subst hw; exact trim_same hA
  have H2 : Hid (∀ w' : World, w' = w → Calls Oabg.prog 106 #[.slice none 0 0] w' fun e w'' => e = .returned (.slice none 0 0) ∧ w'' = w') := fun w' _ => trim_nil w'
  have hcz : decide (cmpZ (nv f n) 0 < 0) = false := decide_eq_false (by unfold cmpZ; rw [if_neg (by omega)]; split <;> omega)
  have H3 : Hid (∀ w', w' = w → Calls Oabg.prog 77 #[.slice (some ⟨b, off, none⟩) n c, .slice none 0 0] w' fun e w'' => e = .returned (.int .i8 (cmpZ (nv f n) 0)) ∧ Below w.heap.size w w'') := fun w' hw => by subst hw; exact cmp_any hA (.inl ⟨rfl, rfl⟩)
  have HPL : Hid (∀ j, (padL (fun _ => 0) 0) j < 4294967296) := fun j => pad_lt (fun j hj => by omega) j
  have HFL : Hid (∀ j, j < n → f j < 4294967296) := hfl
  have hmk := fun w => make48 w (n : Int) n (by omega) (by omega)
  clear hA hfl
  go_enter Oabg.func90, Oabg.ntmps90
  go_wp2_with fail
  go_at_call 106
  refine (H1.out _ rfl).mono ?_
  rintro e w' ⟨rfl, hq⟩
  obtain rfl := hq.symm
  go_wp2_with fail
  go_at_call 106
  refine (H2.out _ rfl).mono ?_
  rintro e w' ⟨rfl, hq⟩
  obtain rfl := hq.symm
  go_wp2_with fail
  go_at_call 77
  refine (H3.out _ rfl).mono ?_
  rintro e w1 ⟨rfl, hw1⟩
  have HF : Hid (∀ j, j < n → w1.cell? ⟨b, off + j, none⟩ = some (.int .u32 (f j : Nat))) := fun j hj => (hw1.cell (p := ⟨b, off + j, none⟩) hb).trans (hf j hj)
  have hbw := Nat.lt_of_lt_of_le hb hw1.size
  have HB1 : Hid (Below w.heap.size w w1) := hw1
  have HZ1 : Hid (w.heap.size ≤ w1.heap.size) := hw1.size
  clear hf hb hw1 H1 H2 H3
  go_wp2
  go_loopw [23, 7] (fun i k wr => ∃ (t q : Nat) (C : Array Value) (h : Nat → Nat), i = .int .i64 t ∧ k = .int .u64 q ∧ wr = w1.alloc (.cells C 145) ∧ t ≤ n ∧ RowIs C n h ∧ SubAt f (padL (fun _ => 0) 0) h t q) (fun i _ _ => n - (intOf i).toNat)
  case atStart => exact ⟨0, 0, _, _, rfl, rfl, rfl, Nat.zero_le _, RowIs.zero _, SubAt.start _ _ _⟩
  case round =>
    obtain ⟨t, q, C, h, rfl, rfl, rfl, ht, hR, hAt⟩ := hrel
    have HR : Hid (RowIs C n h) := hR
    have HA : Hid (SubAt f (padL (fun _ => 0) 0) h t q) := hAt
    have hq1 : q ≤ 1 := hAt.car
    have hCs : C.size = n := hR.1
    clear hR hAt
    by_cases hlt : t < n
    · have hcell := HF.out t hlt
      have hx := HFL.out t hlt
      have hy := HPL.out t
      have hA2 := HA.out.next hx hy
      have hC1 : ∀ hh : t < C.size, C[t]'hh = .int .u32 (h t : Nat) := HR.out.get t t rfl (by omega)
      have hp : (padL (fun _ => 0) 0) t = 0 := by unfold padL; rw [if_neg (by omega)]
      rw [hp] at hA2
      have hnl : decide ((t : Int) < 0) = false := decide_eq_false (by omega)
      obtain ⟨s, hs⟩ : ∃ s, s = sx (f t) q (0) := ⟨_, rfl⟩
      have hsl := (sx_spec hx (g := 0) (by omega) hq1).2.2
      rw [← hs] at hA2 hsl
      have e0 : IntKind.u64.wrap ((f t : Int) - (q : Int)) = (s : Nat) := by rw [wrap64, hs]; unfold sx; omega
      have hlo : s % 4294967296 < 4294967296 := Nat.mod_lt _ (by omega)
      have hR2 := HR.out.put t _ hlo
      have e1 : IntKind.u32.wrap (s : Int) = ((s % 4294967296 : Nat) : Int) := by rw [IntKind.wrap_u32']; omega
      have e2 : (s : Int) / 9223372036854775808 = ((s / 9223372036854775808 : Nat) : Int) := by omega
      have e3 : (s : Int) % 4294967296 = ((s % 4294967296 : Nat) : Int) := by omega
      have HA2 : Hid (SubAt f (padL (fun _ => 0) 0) (upd h t (s % 4294967296)) (t + 1) (s / 9223372036854775808)) := hA2
      have HR2 : Hid (RowIs (C.setIfInBounds t (.int .u32 ((s % 4294967296 : Nat) : Int))) n (upd h t (s % 4294967296))) := hR2
      obtain ⟨lo, hlo'⟩ : ∃ x, x = s % 4294967296 := ⟨_, rfl⟩
      obtain ⟨hi, hhi'⟩ : ∃ x, x = s / 9223372036854775808 := ⟨_, rfl⟩
      rw [← hlo'] at e1 e3 HA2 HR2
      rw [← hhi'] at e2 HA2
      clear hA2 hR2 hs hlo hlo' hhi'
      go_wp2
      go_roundw
      case rel => exact ⟨t + 1, hi, _, _, by go_num, rfl, rfl, by omega, HR2.out, HA2.out⟩
      case measure => simp [intOf]; omega
    · have htn : t = n := by omega
      subst htn
      have HVL : Hid (nv h t = (nv f t)) := by
        have := HA.out.done HR.out.2.2 (by rw [nv_pad (by omega)]; simp [nv])
        rw [nv_pad (by omega)] at this
        rw [show nv (fun _ => 0) 0 = 0 from rfl, Nat.sub_zero] at this
        exact this
      have HT : Hid (∀ w', w' = w1.alloc (.cells C 145) → Calls Oabg.prog 106 #[.slice (some ⟨w1.heap.size, 0, none⟩) t t] w' fun e w'' => ∃ v, e = .returned v ∧ w'' = w' ∧ IsN w' v (nv h t)) := fun w' hw =>
        trim_made w1.heap.size t t _ w' (Nat.le_refl _) (by omega) (by rw [hw]; exact HR.out.cell w1) (by rw [hw]; simp [go_sem]) (fun j _ => HR.out.2.2 j)
      go_wp2_with (go_at_call 106; refine (HT.out _ rfl).mono ?_; rintro e w' ⟨v, rfl, hq, hv⟩; obtain rfl := hq.symm)
      go_ret2
      refine ⟨v, rfl, ?_, HB1.out.alloc HZ1.out _⟩
      rw [HVL.out] at hv
      exact hv

set_option maxRecDepth 100000 in
theorem sub_nn (w : World) : Calls Oabg.prog 90 #[.slice none 0 0, .slice none 0 0] w fun e w' => ∃ v, e = .returned (.tuple #[v, .bool true]) ∧ IsN w' v 0 ∧ Below w.heap.size w w' := by
  have hmk := fun w => make48 w 0 0 (by omega) (by omega)
  have he : Array.replicate 0 (Value.int IntKind.u32 0) = #[] := rfl
  rw [he] at hmk
  clear he
  go_enter Oabg.func90, Oabg.ntmps90
  go_wp2_with fail
  go_at_call 106
  refine (trim_nil _).mono ?_
  rintro e w' ⟨rfl, hq⟩
  obtain rfl := hq.symm
  go_wp2_with fail
  go_at_call 106
  refine (trim_nil _).mono ?_
  rintro e w' ⟨rfl, hq⟩
  obtain rfl := hq.symm
  go_wp2_with fail
  go_at_call 77
  refine (cmp_nil _).mono ?_
  rintro e w1 ⟨rfl, hw1⟩
  have HB1 : Hid (Below w.heap.size w w1) := hw1
  have HZ1 : Hid (w.heap.size ≤ w1.heap.size) := hw1.size
  clear hw1
  have HT : Hid (∀ w', w' = w1.alloc (.cells #[] 145) → Calls Oabg.prog 106 #[.slice (some ⟨w1.heap.size, 0, none⟩) 0 0] w' fun e w'' => ∃ v, e = .returned v ∧ w'' = w' ∧ IsN w' v 0) := fun w' hw =>
    (trim_made w1.heap.size 0 0 (fun _ => 0) w' (Nat.le_refl _) (by omega) (fun j hj => by omega) (by rw [hw]; simp [go_sem]) (fun j hj => by omega)).mono fun e w'' h => by simpa [nv] using h
  go_wp2
  go_loopw [23, 7] (fun i k wr => i = .int .i64 0 ∧ k = .int .u64 0 ∧ wr = w1.alloc (.cells #[] 145)) (fun _ _ _ => 0)
  case atStart => exact ⟨rfl, rfl, rfl⟩
  case round =>
    obtain ⟨rfl, rfl, rfl⟩ := hrel
    go_wp2_with (go_at_call 106; refine (HT.out _ rfl).mono ?_; rintro e w' ⟨v, rfl, hq, hv⟩; obtain rfl := hq.symm)
    go_ret2
    exact ⟨v, rfl, hv, HB1.out.alloc HZ1.out _⟩

/-- Sub where it fails -/
theorem sub_less {w : World} {u v : Value} {A B : Nat} (hA : IsN w u A) (hB : IsN w v B) (hlt : A < B) :
    Calls Oabg.prog 90 #[u, v] w fun e w' => e = .returned (.tuple #[.slice none 0 0, .bool false]) ∧ Below w.heap.size w w' := by
  obtain ⟨a, n, c, rfl⟩ := hA.shape
  obtain ⟨a', n', c', rfl⟩ := hB.shape
  have H1 : Hid (∀ w', w' = w → Calls Oabg.prog 106 #[.slice a n c] w' fun e w'' => e = .returned (.slice a n c) ∧ w'' = w') := fun w' hw => by subst hw; exact trim_same hA
  have H2 : Hid (∀ w', w' = w → Calls Oabg.prog 106 #[.slice a' n' c'] w' fun e w'' => e = .returned (.slice a' n' c') ∧ w'' = w') := fun w' hw => by subst hw; exact trim_same hB
  have H3 : Hid (∀ w', w' = w → Calls Oabg.prog 77 #[.slice a n c, .slice a' n' c'] w' fun e w'' => e = .returned (.int .i8 (-1)) ∧ Below w.heap.size w w'') := fun w' hw => by
    subst hw
    have := cmp_any hA hB
    rw [cmpZ_lt hlt] at this
    exact this
  clear hA hB hlt
  go_enter Oabg.func90, Oabg.ntmps90
  go_wp2_with fail
  go_at_call 106
  refine (H1.out _ rfl).mono ?_
  rintro e w' ⟨rfl, hq⟩
  obtain rfl := hq.symm
  go_wp2_with fail
  go_at_call 106
  refine (H2.out _ rfl).mono ?_
  rintro e w' ⟨rfl, hq⟩
  obtain rfl := hq.symm
  go_wp2_with (go_at_call 77; refine (H3.out _ rfl).mono ?_; rintro e w1 ⟨rfl, hw1⟩)
  go_ret2
  exact ⟨rfl, hw1⟩

/-- Sub: the difference -/
theorem sub_any {w : World} {u v : Value} {A B : Nat} (hA : IsN w u A) (hB : IsN w v B) (fA : FitsN A) (hle : B ≤ A) :
    Calls Oabg.prog 90 #[u, v] w fun e w' => ∃ r, e = .returned (.tuple #[r, .bool true]) ∧ IsN w' r (A - B) ∧ Below w.heap.size w w' := by
  have hA' := hA
  have hB' := hB
  rcases hA with ⟨rfl, rfl⟩ | ⟨b, off, n, cap, f, rfl, h2, h3, h4, h5, h6, h7, h8, rfl⟩
  · have : B = 0 := by omega
    subst this
    rcases hB with ⟨_, rfl⟩ | ⟨b', off', n', cap', g, rfl, k2, k3, k4, k5, k6, k7, k8, k9⟩
    · exact sub_nn w
    · have := nv_pos k2 k5
      omega
  · rcases hB with ⟨rfl, rfl⟩ | ⟨b', off', n', cap', g, rfl, k2, k3, k4, k5, k6, k7, k8, rfl⟩
    · rw [Nat.sub_zero]
      exact sub_an b off n cap f w h2 (fA.len h2 h5) hA' h7 h6 h8
    · have hn : n' ≤ n := by
        by_cases hc : n' ≤ n
        · exact hc
        · have := Nat.lt_of_lt_of_le (nv_lt h6) (Nat.le_trans (two_pow_le (show 32 * n ≤ 32 * (n' - 1) by omega)) (nv_ge k2 k5))
          omega
      exact sub_ge b off n cap f b' off' n' cap' g w h2 (fA.len h2 h5) hA' h7 h6 h8 hn hB' k7 k6 k8 hle

end Go.Proofs.Ygcoab
