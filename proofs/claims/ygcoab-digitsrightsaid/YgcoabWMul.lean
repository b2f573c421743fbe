import Derived.Test.YgcoabWCmp
import Derived.Test.YgcoabPlainMul
import Derived.Test.YgcoabWRat
namespace Go.Proofs.Ygcoab
open Go.RowKit

theorem set_drewN (w : World) (D : Array Value) (y i : Nat) (v : Value) : ((w.alloc (.cells D 145)).drewN y).setCell ⟨w.heap.size, i, none⟩ v = (w.alloc (.cells (D.setIfInBounds i v) 145)).drewN y := by
  have : (w.alloc (.cells D 145)).setCell ⟨w.heap.size, i, none⟩ v = w.alloc (.cells (D.setIfInBounds i v) 145) := by simp [go_sem]
  rw [← this]
  rfl

set_option maxHeartbeats 2000000 in
set_option maxRecDepth 100000 in
theorem mul_some (b off n c b' off' m c' : Nat) (f g : Nat → Nat) (w : World) (hn : 0 < n) (hm : 0 < m) (hl : n ≤ 100000) (hl' : m ≤ 100000) (hA : IsN w (.slice (some ⟨b, off, none⟩) n c) (nv f n)) (hB : IsN w (.slice (some ⟨b', off', none⟩) m c') (nv g m))
    (hf : ∀ j, j < n → w.cell? ⟨b, off + j, none⟩ = some (.int .u32 (f j : Nat))) (hg : ∀ j, j < m → w.cell? ⟨b', off' + j, none⟩ = some (.int .u32 (g j : Nat))) (hfl : ∀ j, j < n → f j < 4294967296) (hgl : ∀ j, j < m → g j < 4294967296)
    (hb : b < w.heap.size) (hb' : b' < w.heap.size) :
    Calls Oabg.prog 73 #[.slice (some ⟨b, off, none⟩) n c, .slice (some ⟨b', off', none⟩) m c'] w fun e w' => ∃ v, e = .returned v ∧ IsN w' v (nv f n * nv g m) ∧ Below w.heap.size w w' := by
  have H1 : Hid (∀ w', w' = w → Calls Oabg.prog 106 #[.slice (some ⟨b, off, none⟩) n c] w' fun e w'' => e = .returned (.slice (some ⟨b, off, none⟩) n c) ∧ w'' = w') := fun w' hw => by subst hw; exact trim_same hA
  have H2 : Hid (∀ w', w' = w → Calls Oabg.prog 106 #[.slice (some ⟨b', off', none⟩) m c'] w' fun e w'' => e = .returned (.slice (some ⟨b', off', none⟩) m c') ∧ w'' = w') := fun w' hw => by subst hw; exact trim_same hB
  have HF : Hid (∀ j, j < n → w.cell? ⟨b, off + j, none⟩ = some (.int .u32 (f j : Nat))) := hf
  have HG : Hid (∀ j, j < m → w.cell? ⟨b', off' + j, none⟩ = some (.int .u32 (g j : Nat))) := hg
  have HFL : Hid (∀ j, j < n → f j < 4294967296) := hfl
  have HGL : Hid (∀ j, j < m → g j < 4294967296) := hgl
  have hmk := fun w => make48 w ((n : Int) + (m : Int)) (n + m) (by omega) (by omega)
  clear hA hB hf hg hfl hgl
  go_enter Oabg.func73, Oabg.ntmps73
  go_wp2_with fail
  go_at_call 106
  refine (H1.out _ rfl).mono ?_
  rintro e w' ⟨rfl, hq⟩
  obtain rfl := hq.symm
  go_wp2_with fail
  go_at_call 106
  refine (H2.out _ rfl).mono ?_
  rintro e w' ⟨rfl, hq⟩
  obtain rfl := hq.symm
  go_wp2
  go_loopw [21] (fun i wr => ∃ (t z : Nat) (C : Array Value) (h : Nat → Nat), i = .int .i64 t ∧ wr = (w.alloc (.cells C 145)).drewN z ∧ t ≤ n ∧ RowIs C (n + m) h ∧ MulAt f g h m t) (fun i _ => n - (intOf i).toNat)
  case atStart => exact ⟨0, 0, _, _, rfl, rfl, Nat.zero_le _, RowIs.zero _, MulAt.start f g m⟩
  case round =>
    obtain ⟨t, z, C, h, rfl, rfl, ht, hR, hAt⟩ := hrel
    have HR : Hid (RowIs C (n + m) h) := hR
    have HA : Hid (MulAt f g h m t) := hAt
    clear hR hAt
    by_cases hlt : t < n
    · have hcell := HF.out t hlt
      have hx := HFL.out t hlt
      go_wp2
      go_loopw [26, 7] (fun i k wr => ∃ (j q y : Nat) (D : Array Value) (u : Nat → Nat), i = .int .i64 j ∧ k = .int .u64 q ∧ wr = (w.alloc (.cells D 145)).drewN y ∧ j ≤ m ∧ RowIs D (n + m) u ∧ MulIn f g u m t j q) (fun i _ _ => m - (intOf i).toNat)
      case atStart => exact ⟨0, 0, z, C, h, rfl, rfl, rfl, Nat.zero_le _, HR.out, HA.out.enter⟩
      case round =>
        obtain ⟨j, q, y, D, u, rfl, rfl, rfl, hj, hR2, hI⟩ := hrel
        have HR2 : Hid (RowIs D (n + m) u) := hR2
        have HI : Hid (MulIn f g u m t j q) := hI
        have hDs : D.size = n + m := hR2.1
        have hq : q < 4294967296 := hI.car
        clear hR2 hI
        by_cases hjm : j < m
        · have hcg := HG.out j hjm
          have hgx := HGL.out j hjm
          have hux := HR2.out.2.2 (t + j)
          have hD1 : ∀ hh : t + j < D.size, D[t + j]'hh = .int .u32 (u (t + j) : Nat) := HR2.out.get (t + j) (t + j) rfl (by omega)
          have hI2 := HI.out.next hjm hx hgx hux
          have hbd := mul_bound hx hgx hq hux
          obtain ⟨p, hp⟩ : ∃ p, p = f t * g j := ⟨_, rfl⟩
          obtain ⟨s1, hs1⟩ : ∃ s, s = p + u (t + j) := ⟨_, rfl⟩
          obtain ⟨s, hs⟩ : ∃ s, s = q + s1 := ⟨_, rfl⟩
          rw [← hp, ← hs1, ← hs] at hI2 hbd
          have hix : IntKind.i64.wrap ((t : Int) + (j : Int)) = (t : Int) + (j : Int) := by rw [IntKind.wrap_i64]; omega
          have hD2 : D[t + j]? = some (.int .u32 (u (t + j) : Nat)) := HR2.out.2.1 (t + j) (by omega)
          have h0i : (0 : Int) ≤ (t : Int) + (j : Int) := by omega
          have hli : (t : Int) + (j : Int) < (n : Int) + (m : Int) := by omega
          have hto : ((t : Int) + (j : Int)).toNat = t + j := by omega
          have hfw : IntKind.u64.wrap (f t : Int) = (f t : Nat) := w64_nat (by omega)
          have hgw : IntKind.u64.wrap (g j : Int) = (g j : Nat) := w64_nat (by omega)
          have huw : IntKind.u64.wrap (u (t + j) : Int) = (u (t + j) : Nat) := w64_nat (by omega)
          have hpr : IntKind.u64.wrap ((f t : Int) * (g j : Int)) = (p : Nat) := by
            have e : ((f t : Int) * (g j : Int)) = (p : Nat) := by rw [hp]; simp
            rw [e, w64_nat (by omega)]
          have hsw : IntKind.u64.wrap ((p : Int) + (u (t + j) : Int)) = (s1 : Nat) := by
            have e : ((p : Int) + (u (t + j) : Int)) = (s1 : Nat) := by omega
            rw [e, w64_nat (by omega)]
          have hsv : IntKind.u64.wrap ((q : Int) + (s1 : Int)) = (s : Nat) := by
            have e : ((q : Int) + (s1 : Int)) = (s : Nat) := by omega
            rw [e, w64_nat hbd]
          have hlo : s % 4294967296 < 4294967296 := Nat.mod_lt _ (by omega)
          have hRR := HR2.out.put (t + j) _ hlo
          have e1 : IntKind.u32.wrap (s : Int) = ((s % 4294967296 : Nat) : Int) := by rw [IntKind.wrap_u32']; omega
          have e2 : (s : Int) / 4294967296 = ((s / 4294967296 : Nat) : Int) := by omega
          have e3 : (s : Int) % 4294967296 = ((s % 4294967296 : Nat) : Int) := by omega
          have HI2 : Hid (MulIn f g (upd u (t + j) (s % 4294967296)) m t (j + 1) (s / 4294967296)) := hI2
          have HRR : Hid (RowIs (D.setIfInBounds (t + j) (.int .u32 ((s % 4294967296 : Nat) : Int))) (n + m) (upd u (t + j) (s % 4294967296))) := hRR
          obtain ⟨lo, hlo'⟩ : ∃ x, x = s % 4294967296 := ⟨_, rfl⟩
          obtain ⟨hi, hhi'⟩ : ∃ x, x = s / 4294967296 := ⟨_, rfl⟩
          rw [← hlo'] at e1 e3 HI2 HRR
          rw [← hhi'] at e2 HI2
          clear hI2 hRR hp hs1 hs hlo hlo' hhi'
          go_wp2
          go_quiet (fail)
          go_wp2
          go_roundw
          case rel => exact ⟨j + 1, hi, _, _, _, by go_num, rfl, set_drewN .., by omega, HRR.out, HI2.out⟩
          case measure => simp [intOf]; omega
        · have hjj : j = m := by omega
          subst hjj
          have hRR := HR2.out.put (t + j) q hq
          have e1 : IntKind.u32.wrap (q : Int) = (q : Nat) := u32_cast hq
          have hD1 : ∀ hh : t + j < D.size, D[t + j]'hh = .int .u32 (u (t + j) : Nat) := HR2.out.get (t + j) (t + j) rfl (by omega)
          have HI2 : Hid (MulAt f g (upd u (t + j) q) j (t + 1)) := HI.out.leave
          have HRR : Hid (RowIs (D.setIfInBounds (t + j) (.int .u32 (q : Int))) (n + j) (upd u (t + j) q)) := hRR
          clear hRR
          go_wp2
          go_roundw
          case rel => exact ⟨t + 1, _, _, _, by go_num, set_drewN .., by omega, HRR.out, HI2.out⟩
          case measure => simp [intOf]; omega
    · have htn : t = n := by omega
      subst htn
      have HT : Hid (∀ w', w' = (w.alloc (.cells C 145)).drewN z → Calls Oabg.prog 106 #[.slice (some ⟨w.heap.size, 0, none⟩) (t + m) (t + m)] w' fun e w'' => ∃ v, e = .returned v ∧ w'' = w' ∧ IsN w' v (nv h (t + m))) := fun w' hw =>
        trim_made w.heap.size (t + m) (t + m) _ w' (Nat.le_refl _) (by omega) (by rw [hw]; exact HR.out.cell w) (by rw [hw]; simp [go_sem]) (fun j _ => HR.out.2.2 j)
      go_wp2_with (go_at_call 106; refine (HT.out _ rfl).mono ?_; rintro e w' ⟨v, rfl, hq, hv⟩; obtain rfl := hq.symm)
      go_ret
      refine ⟨v, rfl, ?_, below_drewN ((Below.refl _ _).alloc (Nat.le_refl _) _) _⟩
      rw [HA.out.val] at hv
      exact hv

set_option maxHeartbeats 1000000 in
set_option maxRecDepth 100000 in
theorem mul_na (a' : Option Addr) (m c' B : Nat) (w : World) (hl' : m ≤ 100000) (hB : IsN w (.slice a' m c') B) :
    Calls Oabg.prog 73 #[.slice none 0 0, .slice a' m c'] w fun e w' => ∃ v, e = .returned v ∧ IsN w' v 0 ∧ Below w.heap.size w w' := by
  have H2 : Hid (∀ w', w' = w → Calls Oabg.prog 106 #[.slice a' m c'] w' fun e w'' => e = .returned (.slice a' m c') ∧ w'' = w') := fun w' hw => by subst hw; exact trim_same hB
  have hmk := fun w => make48 w (m : Int) m (by omega) (by omega)
  have hR := RowIs.zero m
  have HT : Hid (∀ w', w' = w.alloc (.cells (Array.replicate m (.int .u32 0)) 145) → Calls Oabg.prog 106 #[.slice (some ⟨w.heap.size, 0, none⟩) m m] w' fun e w'' => ∃ v, e = .returned v ∧ w'' = w' ∧ IsN w' v 0) := fun w' hw =>
    (trim_made w.heap.size m m (fun _ => 0) w' (Nat.le_refl _) (by omega) (by rw [hw]; exact hR.cell w) (by rw [hw]; simp [go_sem]) (fun j _ => by show 0 < _; omega)).mono fun e w'' h => by rw [nv_all_zero] at h; exact h
  clear hB hR
  go_enter Oabg.func73, Oabg.ntmps73
  go_wp2_with fail
  go_at_call 106
  refine (trim_nil _).mono ?_
  rintro e w' ⟨rfl, hq⟩
  obtain rfl := hq.symm
  go_wp2_with fail
  go_at_call 106
  refine (H2.out _ rfl).mono ?_
  rintro e w' ⟨rfl, hq⟩
  obtain rfl := hq.symm
  go_wp2
  go_loopw [21] (fun i wr => i = .int .i64 0 ∧ wr = w.alloc (.cells (Array.replicate m (.int .u32 0)) 145)) (fun _ _ => 0)
  case atStart => exact ⟨rfl, rfl⟩
  case round =>
    obtain ⟨rfl, rfl⟩ := hrel
    go_wp2_with (go_at_call 106; refine (HT.out _ rfl).mono ?_; rintro e w' ⟨v, rfl, hq, hv⟩; obtain rfl := hq.symm)
    go_ret
    exact ⟨v, rfl, hv, (Below.refl _ _).alloc (Nat.le_refl _) _⟩

theorem upd_zero {h : Nat → Nat} (hz : ∀ j, h j = 0) (t : Nat) : ∀ j, upd h t 0 j = 0 := fun j => by
  unfold upd
  split
  · rfl
  · exact hz j

theorem nv_zero_of {h : Nat → Nat} (hz : ∀ j, h j = 0) (n : Nat) : nv h n = 0 := by
  rw [nv_congr (g := fun _ => 0) (fun j _ => hz j)]
  exact nv_all_zero n

set_option maxHeartbeats 1000000 in
set_option maxRecDepth 100000 in
theorem mul_an (b off n c A : Nat) (w : World) (hl : n ≤ 100000) (hA : IsN w (.slice (some ⟨b, off, none⟩) n c) A) :
    Calls Oabg.prog 73 #[.slice (some ⟨b, off, none⟩) n c, .slice none 0 0] w fun e w' => ∃ v, e = .returned v ∧ IsN w' v 0 ∧ Below w.heap.size w w' := by
  have H1 : Hid (∀ w', w' = w → Calls Oabg.prog 106 #[.slice (some ⟨b, off, none⟩) n c] w' fun e w'' => e = .returned (.slice (some ⟨b, off, none⟩) n c) ∧ w'' = w') := fun w' hw => by subst hw; exact trim_same hA
  have hmk := fun w => make48 w (n : Int) n (by omega) (by omega)
  clear hA
  go_enter Oabg.func73, Oabg.ntmps73
  go_wp2_with fail
  go_at_call 106
  refine (H1.out _ rfl).mono ?_
  rintro e w' ⟨rfl, hq⟩
  obtain rfl := hq.symm
  go_wp2_with fail
  go_at_call 106
  refine (trim_nil _).mono ?_
  rintro e w' ⟨rfl, hq⟩
  obtain rfl := hq.symm
  go_wp2
  go_loopw [21] (fun i wr => ∃ (t : Nat) (C : Array Value) (h : Nat → Nat), i = .int .i64 t ∧ wr = w.alloc (.cells C 145) ∧ t ≤ n ∧ RowIs C n h ∧ ∀ j, h j = 0) (fun i _ => n - (intOf i).toNat)
  case atStart => exact ⟨0, _, _, rfl, rfl, Nat.zero_le _, RowIs.zero _, fun _ => rfl⟩
  case round =>
    obtain ⟨t, C, h, rfl, rfl, ht, hR, hz⟩ := hrel
    have HR : Hid (RowIs C n h) := hR
    have HZ : Hid (∀ j, h j = 0) := hz
    have hCs : C.size = n := hR.1
    clear hR hz
    by_cases hlt : t < n
    · have HRR : Hid (RowIs (C.setIfInBounds t (.int .u32 0)) n (upd h t 0)) := HR.out.put t 0 (by omega)
      have hC1 : ∀ hh : t < C.size, C[t]'hh = .int .u32 (h t : Nat) := HR.out.get t t rfl (by omega)
      go_wp2
      go_loopw [26, 7] (fun i k wr => i = .int .i64 0 ∧ k = .int .u64 0 ∧ wr = w.alloc (.cells C 145)) (fun _ _ _ => 0)
      case atStart => exact ⟨rfl, rfl, rfl⟩
      case round =>
        obtain ⟨rfl, rfl, rfl⟩ := hrel
        go_wp2
        go_roundw
        case rel => exact ⟨t + 1, _, _, by go_num, rfl, by omega, HRR.out, upd_zero HZ.out t⟩
        case measure => simp [intOf]; omega
    · have htn : t = n := by omega
      subst htn
      have HT : Hid (∀ w', w' = w.alloc (.cells C 145) → Calls Oabg.prog 106 #[.slice (some ⟨w.heap.size, 0, none⟩) t t] w' fun e w'' => ∃ v, e = .returned v ∧ w'' = w' ∧ IsN w' v (nv h t)) := fun w' hw =>
        trim_made w.heap.size t t _ w' (Nat.le_refl _) (by omega) (by rw [hw]; exact HR.out.cell w) (by rw [hw]; simp [go_sem]) (fun j _ => HR.out.2.2 j)
      go_wp2_with (go_at_call 106; refine (HT.out _ rfl).mono ?_; rintro e w' ⟨v, rfl, hq, hv⟩; obtain rfl := hq.symm)
      go_ret
      refine ⟨v, rfl, ?_, (Below.refl _ _).alloc (Nat.le_refl _) _⟩
      rw [nv_zero_of HZ.out] at hv
      exact hv

/-- Mul: the product -/
theorem mul_any {w : World} {u v : Value} {A B : Nat} (hA : IsN w u A) (hB : IsN w v B) (fA : FitsN A) (fB : FitsN B) :
    Calls Oabg.prog 73 #[u, v] w fun e w' => ∃ r, e = .returned r ∧ IsN w' r (A * B) ∧ Below w.heap.size w w' := by
  have hA' := hA
  have hB' := hB
  rcases hA with ⟨rfl, rfl⟩ | ⟨b, off, n, cap, f, rfl, h2, h3, h4, h5, h6, h7, h8, rfl⟩
  · rw [Nat.zero_mul]
    rcases hB with ⟨rfl, rfl⟩ | ⟨b', off', n', cap', g, rfl, k2, k3, k4, k5, k6, k7, k8, rfl⟩
    · exact mul_na none 0 0 0 w (by omega) hB'
    · exact mul_na _ n' cap' _ w (fB.len k2 k5) hB'
  · rcases hB with ⟨rfl, rfl⟩ | ⟨b', off', n', cap', g, rfl, k2, k3, k4, k5, k6, k7, k8, rfl⟩
    · rw [Nat.mul_zero]
      exact mul_an b off n cap _ w (fA.len h2 h5) hA'
    · exact mul_some b off n cap b' off' n' cap' f g w h2 k2 (fA.len h2 h5) (fB.len k2 k5) hA' hB' h7 k7 h6 k6 h8 k8

end Go.Proofs.Ygcoab
