import Derived.Test.YgcoabWNat
namespace Go.Proofs.Ygcoab
open Go.RowKit

theorem u32_cast {x : Nat} (h : x < 4294967296) : IntKind.u32.wrap (x : Int) = x := by rw [IntKind.wrap_u32']; omega

theorem RowIs.get {C : Array Value} {L : Nat} {g : Nat → Nat} (h : RowIs C L g) (i j : Nat) (e : i = j) (hj : j < L) (hi : i < C.size) : C[i]'hi = .int .u32 (g j : Nat) := by
  subst e
  have := h.2.1 i hj
  rw [Array.getElem?_eq_getElem hi] at this
  exact Option.some.inj this

set_option maxHeartbeats 1000000 in
set_option maxRecDepth 100000 in
theorem lift_some (b off n cap k : Nat) (f : Nat → Nat) (w : World) (hn : 0 < n) (hc : n ≤ cap) (hc2 : cap ≤ 1000000000) (hnl : n ≤ 100000000) (hk : k ≤ 65535) (hb : b < w.heap.size) (h5 : f (n - 1) ≠ 0)
    (hl : ∀ j, j < n → f j < 4294967296) (hf : ∀ j, j < n → w.cell? ⟨b, off + j, none⟩ = some (.int .u32 (f j : Nat))) :
    Calls Oabg.prog 138 #[.slice (some ⟨b, off, none⟩) n cap, .int .i64 k] w fun e w' => ∃ v, e = .returned v ∧ IsN w' v (nv f n * 2 ^ k) ∧ Below w.heap.size w w' := by
  have H : IsN w (.slice (some ⟨b, off, none⟩) n cap) (nv f n) := .inr ⟨b, off, n, cap, f, rfl, hn, hc, hc2, h5, hl, hf, hb, rfl⟩
  have HF : Hid (∀ j, j < n → w.cell? ⟨b, off + j, none⟩ = some (.int .u32 (f j : Nat))) := hf
  have HL : Hid (∀ j, j < n → f j < 4294967296) := hl
  have HH : Hid (IsN w (.slice (some ⟨b, off, none⟩) n cap) (nv f n)) := H
  have hnil := fun w => nil48 w (some ⟨b, off, none⟩) n cap
  simp only [Option.isNone_some] at hnil
  obtain ⟨m, hm⟩ : ∃ m, m = k / 32 := ⟨_, rfl⟩
  obtain ⟨s, hs⟩ : ∃ s, s = k % 32 := ⟨_, rfl⟩
  have hd : (k : Int) / 32 = (m : Nat) := by omega
  have hr : (k : Int) % 32 = (s : Nat) := by omega
  have hms : k = 32 * m + s := by omega
  have HMS : Hid (k = 32 * m + s) := hms
  have hsl : s < 32 := by omega
  have hml : m ≤ 2048 := by omega
  have hmk := fun w => make48 w ((n : Int) + (m : Int) + 1) (n + m + 1) (by omega) (by omega)
  clear hf hl h5 H hm hs hms hk
  go_enter Oabg.func138, Oabg.ntmps138
  go_wp2_with (go_at_call 106; refine (trim_same HH.out).mono ?_; rintro e w' ⟨rfl, hq⟩; obtain rfl := hq.symm)
  go_loopw [27] (fun i wr => ∃ (t : Nat) (C : Array Value) (g : Nat → Nat), i = .int .i64 t ∧ wr = w.alloc (.cells C 145) ∧ t ≤ n ∧ RowIs C (n + m + 1) g ∧ LiftAt f g m s t) (fun i _ => n - (intOf i).toNat)
  case atStart => exact ⟨0, _, _, rfl, rfl, Nat.zero_le _, RowIs.zero _, LiftAt.start f m s⟩
  case round =>
    obtain ⟨t, C, g, rfl, rfl, ht, hR, hA⟩ := hrel
    have HR : Hid (RowIs C (n + m + 1) g) := hR
    have HA : Hid (LiftAt f g m s t) := hA
    clear hR hA
    by_cases hlt : t < n
    · have hcell := HF.out t hlt
      have hx := HL.out t hlt
      obtain ⟨hor, hlo, hhi, hbig, hA⟩ := HA.out.next hsl hx
      have hR2 := (HR.out.put (m + t) _ hlo).put (m + t + 1) _ hhi
      have hC1 : ∀ h : t + m < C.size, C[t + m]'h = .int .u32 (g (m + t) : Nat) := HR.out.get (t + m) (m + t) (by omega) (by omega)
      have hCs : C.size = n + m + 1 := HR.out.1
      have hg := HR.out.2.2 (m + t)
      obtain ⟨wd, hwd⟩ : ∃ y, y = f t * 2 ^ s := ⟨_, rfl⟩
      rw [← hwd] at hor hlo hhi hbig hA hR2
      have hw : IntKind.u64.wrap ((f t : Int) * 2 ^ s) = (wd : Nat) := by
        have : ((f t : Int) * 2 ^ s) = (wd : Nat) := by rw [hwd]; simp
        rw [this, w64_nat hbig]
      obtain ⟨lo, hlo'⟩ : ∃ y, y = g (m + t) + wd % 4294967296 := ⟨_, rfl⟩
      obtain ⟨hi, hhi'⟩ : ∃ y, y = wd / 4294967296 := ⟨_, rfl⟩
      rw [← hlo'] at hor hlo hA hR2
      rw [← hhi'] at hhi hA hR2
      have ho1 : bits .or .u32 (g (m + t) : Int) (IntKind.u32.wrap (wd : Int)) = (lo : Nat) := by
        rw [IntKind.wrap_u32', show ((wd : Int) % 4294967296) = ((wd % 4294967296 : Nat) : Int) by omega, u32_or_nat _ _ hg (by omega), hor]
      have ho2 : bits .or .u32 (g (m + t) : Int) ((wd : Int) % 4294967296) = (lo : Nat) := by
        rw [← IntKind.wrap_u32']; exact ho1
      have hh1 : IntKind.u32.wrap ((wd : Int) / 4294967296) = (hi : Nat) := by rw [IntKind.wrap_u32']; omega
      have hh2 : (wd : Int) / 4294967296 = (hi : Nat) := by omega
      have HA2 : Hid (LiftAt f (upd (upd g (m + t) lo) (m + t + 1) hi) m s (t + 1)) := hA
      have HR2 : Hid (RowIs ((C.setIfInBounds (m + t) (.int .u32 lo)).setIfInBounds (m + t + 1) (.int .u32 hi)) (n + m + 1) (upd (upd g (m + t) lo) (m + t + 1) hi)) := hR2
      clear hA hR2 hor hwd hlo' hhi' hlo hhi
      go_wp2
      go_roundw
      case rel => exact ⟨t + 1, _, _, by go_num, by rw [Nat.add_comm t m], by omega, HR2.out, HA2.out⟩
      case measure => simp [intOf]; omega
    · have htn : t = n := by omega
      subst htn
      have hT := fun w' (hw : w' = w.alloc (.cells C 145)) => trim_made w.heap.size (t + m + 1) (t + m + 1) g w' (Nat.le_refl _) (by omega) (by rw [hw]; exact HR.out.cell w) (by rw [hw]; simp [go_sem]) (fun j _ => HR.out.2.2 j)
      have HT : Hid (∀ w', w' = w.alloc (.cells C 145) → Calls Oabg.prog 106 #[.slice (some ⟨w.heap.size, 0, none⟩) (t + m + 1) (t + m + 1)] w' fun e w'' => ∃ v, e = .returned v ∧ w'' = w' ∧ IsN w' v (nv g (t + m + 1))) := hT
      clear hT
      go_wp2_with (go_at_call 106; refine (HT.out _ rfl).mono ?_; rintro e w' ⟨v, rfl, hq, hv⟩; obtain rfl := hq.symm)
      go_ret
      refine ⟨v, rfl, ?_, (Below.refl _ _).alloc (Nat.le_refl _) _⟩
      rw [Nat.add_comm t m, HA.out.val, ← HMS.out] at hv
      exact hv

/-- N has at most 100000 limbs -/
def limbMax : Nat := 100000
def FitsN (N : Nat) : Prop := N < 2 ^ (32 * limbMax)

theorem FitsN.len {f : Nat → Nat} {n : Nat} (h : FitsN (nv f n)) (hn : 0 < n) (h5 : f (n - 1) ≠ 0) : n ≤ limbMax := nv_len (k := limbMax) hn h5 h

theorem limbMax_eq : limbMax = 100000 := rfl

theorem FitsN.of {N a : Nat} (h : N < 2 ^ a) (ha : a ≤ 3200000) : FitsN N := Nat.lt_of_lt_of_le h (two_pow_le (show a ≤ 32 * limbMax from ha))

/-- lift: a number shifted left by k bits -/
theorem lift_any {w : World} {v : Value} {N k : Nat} (h : IsN w v N) (hN : FitsN N) (hk : k ≤ 65535) :
    Calls Oabg.prog 138 #[v, .int .i64 k] w fun e w' => ∃ u, e = .returned u ∧ IsN w' u (N * 2 ^ k) ∧ Below w.heap.size w w' := by
  rcases h with ⟨rfl, rfl⟩ | ⟨b, off, n, cap, f, rfl, h2, h3, h4, h5, h6, h7, h8, rfl⟩
  · have hnil := fun w => nil48 w none 0 0
    simp only [Option.isNone_none] at hnil
    go_enter Oabg.func138, Oabg.ntmps138
    go_wp2_with (go_at_call 106; refine (trim_nil _).mono ?_; rintro e w' ⟨rfl, hq⟩; obtain rfl := hq.symm)
    go_ret
    exact ⟨_, rfl, .inl ⟨by simp, rfl⟩, Below.refl _ _⟩
  · exact lift_some b off n cap k f w h2 h3 h4 (Nat.le_trans (hN.len h2 h5) (by rw [limbMax_eq]; omega)) hk h8 h5 h6 h7

theorem shl_any {w : World} {v : Value} {N k : Nat} (h : IsN w v N) (hN : FitsN N) (hk : k ≤ 65535) :
    Calls Oabg.prog 93 #[v, .int .u16 k] w fun e w' => ∃ u, e = .returned u ∧ IsN w' u (N * 2 ^ k) ∧ Below w.heap.size w w' := by
  have HL : Hid (∀ w', w' = w → Calls Oabg.prog 138 #[v, .int .i64 k] w' fun e w' => ∃ u, e = .returned u ∧ IsN w' u (N * 2 ^ k) ∧ Below w.heap.size w w') := by
    rintro w' rfl
    exact lift_any h hN hk
  clear h hN
  go_enter Oabg.func93, Oabg.ntmps93
  go_wp2_with (go_at_call 138; refine (HL.out _ rfl).mono ?_; rintro e w' ⟨u, rfl, hu, hb⟩)
  go_ret
  exact ⟨u, rfl, hu, hb⟩

end Go.Proofs.Ygcoab
