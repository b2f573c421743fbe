import Derived.Test.YgcoabWTake
namespace Go.Proofs.Ygcoab
open Go.RowKit

/-- Succ's loop -/
structure SuccAt (A : Nat) (h : Nat → Nat) (L t : Nat) : Prop where
  val : nv h L + 2 ^ (32 * t) = A + 1

theorem SuccAt.stop {A : Nat} {h : Nat → Nat} {L t : Nat} (H : SuccAt A h L t) (ht : t < L) : nv (upd h t (h t + 1)) L = A + 1 := by
  have h1 := nv_upd (h := h) (k := t) (x := h t + 1) (n := L) ht
  have h2 := H.val
  rw [Nat.add_mul, Nat.one_mul] at h1
  omega

theorem SuccAt.next {A : Nat} {h : Nat → Nat} {L t : Nat} (H : SuccAt A h L t) (ht : t < L) (hx : h t = 4294967295) : SuccAt A (upd h t 0) L (t + 1) := by
  have h1 := nv_upd (h := h) (k := t) (x := 0) (n := L) ht
  have h2 := H.val
  refine ⟨?_⟩
  rw [pow_next]
  rw [hx, Nat.zero_mul] at h1
  omega

set_option maxHeartbeats 1000000 in
set_option maxRecDepth 100000 in
theorem succ_loop (n : Nat) (a : Option Addr) (m c A : Nat) (C0 : Array Value) (h0 : Nat → Nat) (w : World) (hl : n ≤ 100000) (hm : m = n) (hA : IsN w (.slice a m c) A) (hR0 : RowIs C0 (n + 1) h0) (hv0 : nv h0 (n + 1) = A) (hlt0 : A + 1 < 2 ^ (32 * (n + 1)))
    (hcp : ∀ ty, (Builtin.copy_ #[48, 48] ty #[.slice (some ⟨w.heap.size, 0, none⟩) (n + 1) (n + 1), .slice a m c]).run Oabg.prog (w.alloc (.cells (Array.replicate (n + 1) (.int .u32 0)) 145)) = .ok (goInt n) (w.alloc (.cells C0 145))) :
    Calls Oabg.prog 143 #[.slice a m c] w fun e w' => ∃ v, e = .returned v ∧ IsN w' v (A + 1) ∧ Below w.heap.size w w' := by
  have H1 : Hid (∀ w', w' = w → Calls Oabg.prog 106 #[.slice a m c] w' fun e w'' => e = .returned (.slice a m c) ∧ w'' = w') := fun w' hw => by subst hw; exact trim_same hA
  have hmk := fun w => make48 w ((m : Int) + 1) (n + 1) (by omega) (by omega)
  have HR0 : Hid (RowIs C0 (n + 1) h0) := hR0
  have HV0 : Hid (nv h0 (n + 1) = A) := hv0
  have HX : Hid (∀ h, ¬ SuccAt A h (n + 1) (n + 1)) := fun h H => by have := H.val; omega
  have HMN : Hid (m = n) := hm
  have hmn : m ≤ 100000 := by omega
  clear hA hR0 hv0 hlt0 hm
  go_enter Oabg.func143, Oabg.ntmps143
  go_wp2_with (go_at_call 106; refine (H1.out _ rfl).mono ?_; rintro e w' ⟨rfl, hq⟩; obtain rfl := hq.symm)
  go_loopw [16] (fun i wr => ∃ (t : Nat) (C : Array Value) (h : Nat → Nat), i = .int .i64 t ∧ wr = w.alloc (.cells C 145) ∧ t ≤ n + 1 ∧ RowIs C (n + 1) h ∧ SuccAt A h (n + 1) t) (fun i _ => n + 1 - (intOf i).toNat)
  case atStart => exact ⟨0, C0, h0, rfl, rfl, Nat.zero_le _, HR0.out, ⟨by rw [HV0.out]⟩⟩
  case round =>
    obtain ⟨t, C, h, rfl, rfl, ht, hR, hS⟩ := hrel
    have HR : Hid (RowIs C (n + 1) h) := hR
    have HS : Hid (SuccAt A h (n + 1) t) := hS
    have hCs : C.size = n + 1 := hR.1
    have hx := hR.2.2 t
    clear hR hS hcp hmk HR0 HV0 HMN H1
    by_cases hlt : t < n + 1
    · have hC1 : ∀ hh : t < C.size, C[t]'hh = .int .u32 (h t : Nat) := HR.out.get t t rfl (by omega)
      by_cases hc : h t = 4294967295
      · have HR2 : Hid (RowIs (C.setIfInBounds t (.int .u32 0)) (n + 1) (upd h t 0)) := HR.out.put t 0 (by omega)
        have HS2 : Hid (SuccAt A (upd h t 0) (n + 1) (t + 1)) := HS.out.next hlt hc
        have e1 : IntKind.u32.wrap ((h t : Int) + 1) = 0 := by rw [IntKind.wrap_u32', hc]; rfl
        clear hc
        go_wp2
        go_roundw
        case rel => exact ⟨t + 1, _, _, by go_num, rfl, by omega, HR2.out, HS2.out⟩
        case measure => simp [intOf]; omega
      · have hR2 := HR.out.put t (h t + 1) (by omega)
        obtain ⟨x, hxx⟩ : ∃ x, x = h t + 1 := ⟨_, rfl⟩
        have e1 : IntKind.u32.wrap ((h t : Int) + 1) = (x : Nat) := by rw [IntKind.wrap_u32', hxx]; omega
        have hne : ((x : Int) != 0) = true := by simp; omega
        have hstop := HS.out.stop hlt
        rw [← hxx] at hstop hR2
        have HT : Hid (∀ w', w' = w.alloc (.cells (C.setIfInBounds t (.int .u32 (x : Int))) 145) → Calls Oabg.prog 106 #[.slice (some ⟨w.heap.size, 0, none⟩) (n + 1) (n + 1)] w' fun e w'' => ∃ v, e = .returned v ∧ w'' = w' ∧ IsN w' v (A + 1)) := fun w' hw => by
          have := trim_made w.heap.size (n + 1) (n + 1) _ w' (Nat.le_refl _) (by omega) (by rw [hw]; exact hR2.cell w) (by rw [hw]; simp [go_sem]) (fun j _ => hR2.2.2 j)
          rw [hstop] at this
          exact this
        clear hR2 hstop hxx
        go_wp2_with (go_at_call 106; refine (HT.out _ rfl).mono ?_; rintro e w' ⟨v, rfl, hq, hv⟩; obtain rfl := hq.symm)
        go_ret
        exact ⟨v, rfl, hv, (Below.refl _ _).alloc (Nat.le_refl _) _⟩
    · have htn : t = n + 1 := by omega
      subst htn
      exact absurd HS.out (HX.out h)

theorem succ_any {w : World} {u : Value} {A : Nat} (hA : IsN w u A) (fA : FitsN A) :
    Calls Oabg.prog 143 #[u] w fun e w' => ∃ r, e = .returned r ∧ IsN w' r (A + 1) ∧ Below w.heap.size w w' := by
  have hA' := hA
  rcases hA with ⟨rfl, rfl⟩ | ⟨b, off, n, cap, f, rfl, h2, h3, h4, h5, h6, h7, h8, rfl⟩
  · refine succ_loop 0 none 0 0 0 _ _ w (by omega) rfl hA' (RowIs.zero 1) (by rw [nv_all_zero]) (by decide) (fun ty => ?_)
    exact run_copy_nil (P := Oabg.prog) (w.alloc (.cells (Array.replicate (0 + 1) (.int .u32 0)) 145)) 48 48 ty 145 ⟨w.heap.size, 0, none⟩ (0 + 1) (0 + 1) Oabg.underlying48 (by rw [size145]; rfl)
  · refine succ_loop n _ n cap _ _ _ w (fA.len h2 h5) rfl hA' (limbsA_row (Nat.le_succ n) h6) (nv_pad (Nat.le_succ n)) ?_ (fun ty => copy48 w ty b off n cap (n + 1) f (Nat.le_succ n) h8 h7)
    have h1 := nv_lt h6
    have h3 := two_pow_pos' (32 * n)
    rw [pow_next]
    omega

end Go.Proofs.Ygcoab
