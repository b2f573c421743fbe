import Derived.Test.YgcoabWOwn
import Derived.Test.YgcoabPlainShr
namespace Go.Proofs.Ygcoab
open Go.RowKit

theorem w32_pow {n : Nat} (h : n < 32) : IntKind.u32.wrap (2 ^ n) = ((2 ^ n : Nat) : Int) := by
  have h1 : (2 : Nat) ^ n < 4294967296 := two_pow_lt (k := 32) h
  rw [IntKind.wrap_u32', icast]
  exact Int.emod_eq_of_lt (Int.natCast_nonneg _) (Int.ofNat_lt.2 h1)

set_option maxHeartbeats 1000000 in
set_option maxRecDepth 100000 in
theorem shr_some (v0 : Value) (b off n c k : Nat) (f : Nat → Nat) (w : World) (hn : 0 < n) (hl : n ≤ 200000) (hk : k < 32)
    (hT : Calls Oabg.prog 106 #[v0] w fun e w'' => e = .returned (.slice (some ⟨b, off, none⟩) n c) ∧ w'' = w)
    (hf : ∀ j, j < n → w.cell? ⟨b, off + j, none⟩ = some (.int .u32 (f j : Nat))) (hfl : ∀ j, j < n → f j < 4294967296) (hb : b < w.heap.size) :
    Calls Oabg.prog 118 #[v0, .int .u16 k] w fun e w' => ∃ v, e = .returned (.tuple #[v, .bool (nv f n % 2 ^ k != 0)]) ∧ IsN w' v (nv f n / 2 ^ k) ∧ Below w.heap.size w w' := by
  have H1 : Hid (∀ w', w' = w → Calls Oabg.prog 106 #[v0] w' fun e w'' => e = .returned (.slice (some ⟨b, off, none⟩) n c) ∧ w'' = w') := fun w' hw => by subst hw; exact hT
  have HF : Hid (∀ j, j < n → w.cell? ⟨b, off + j, none⟩ = some (.int .u32 (f j : Nat))) := hf
  have HFL : Hid (∀ j, j < n → f j < 4294967296) := hfl
  have hc0 := hf 0 hn
  rw [Nat.add_zero] at hc0
  have hx0 := hfl 0 hn
  have hmk := fun w => make48 w (n : Int) n (by omega) (by omega)
  have hd32 : (k : Int) / 32 = 0 := by omega
  have hr32 : (k : Int) % 32 = k := by omega
  have hmin : min k 32 = k := by omega
  have hmin64 : min k 64 = k := by omega
  rw [shr_lost hn hk]
  have hpw := w32_pow hk
  have hPl : (2 : Nat) ^ k < 4294967296 := two_pow_lt (k := 32) hk
  have hPp := two_pow_pos' k
  obtain ⟨P, hP⟩ : ∃ P, P = 2 ^ k := ⟨_, rfl⟩
  have hpm : IntKind.u32.wrap ((P : Int) - 1) = ((P - 1 : Nat) : Int) := by rw [IntKind.wrap_u32']; omega
  have hand : bits .and .u32 (f 0 : Int) ((P - 1 : Nat) : Int) = ((f 0 % P : Nat) : Int) := by
    rw [u32_and_nat _ _ hx0 (by omega), hP, Nat.and_two_pow_sub_one_eq_mod]
  have HD : Hid (∀ W : Nat, (W : Int) / 2 ^ k = ((W / 2 ^ k : Nat) : Int)) := fun W => by rw [icast, ← Int.natCast_ediv]
  rw [← hP] at hpw hPl hPp ⊢
  obtain ⟨P1, hP1⟩ : ∃ x, x = P - 1 := ⟨_, rfl⟩
  rw [← hP1] at hpm hand
  have hne : (((f 0 % P : Nat) : Int) != 0) = (f 0 % P != 0) := by
    by_cases h : f 0 % P = 0
    · rw [h]; rfl
    · have e1 : (f 0 % P != 0) = true := by simp [h]
      have e2 : (((f 0 % P : Nat) : Int) != 0) = true := by rw [bne_iff_ne]; omega
      rw [e1, e2]
  obtain ⟨Lq, hLq⟩ : ∃ x, x = f 0 % P := ⟨_, rfl⟩
  rw [← hLq] at hand hne
  generalize hlost : (Lq != 0) = lost at hne
  have HLost : Hid ((f 0 % P != 0) = lost) := by rw [← hLq]; exact hlost
  have HP : Hid (P = 2 ^ k) := hP
  clear hT hf hfl hLq hlost hP1 hP
  go_enter Oabg.func118, Oabg.ntmps118
  go_wp2_with (go_at_call 106; refine (H1.out _ rfl).mono ?_; rintro e w' ⟨rfl, hq⟩; obtain rfl := hq.symm)
  go_loop [8, 5] (fun i l => i = .int .i64 0 ∧ l = .bool false) (fun _ _ => 0)
  case atStart => exact ⟨rfl, rfl⟩
  case round =>
    obtain ⟨rfl, rfl⟩ := hrel
    go_wp2
    go_quiet (fail)
    go_wp2
    obtain ⟨W0, hW0⟩ : ∃ W0, W0 = (w.drewN nq).alloc (.cells (Array.replicate n (.int .u32 0)) 145) := ⟨_, rfl⟩
    have HW0 : Hid (W0.heap[w.heap.size]? = some (.cells (Array.replicate n (.int .u32 0)) 145 (0, 0))) := by
      rw [hW0]
      show ((w.drewN nq).heap.push _)[(w.drewN nq).heap.size]? = _
      simp
    have HB0 : Hid (Below w.heap.size w W0) := by rw [hW0]; exact (below_drewN (Below.refl _ _) _).alloc (Nat.le_refl _) _
    have HZ0 : Hid (w.heap.size < W0.heap.size) := by rw [hW0]; show w.heap.size < ((w.drewN nq).heap.push _).size; simp [World.drewN]
    rw [← hW0]
    clear hW0
    go_loopw [62] (fun a wr => ∃ (t : Nat) (C : Array Value) (h : Nat → Nat), a = .int .i64 t ∧ Own W0 w.heap.size C wr ∧ t ≤ n ∧ RowIs C n h ∧ ∀ i, i < t → h i = (f i + (if i + 1 < n then f (i + 1) else 0) * 4294967296) / 2 ^ k % 4294967296) (fun a _ => n - (intOf a).toNat)
    case atStart => exact ⟨0, _, _, rfl, Own.refl HW0.out, Nat.zero_le _, RowIs.zero _, fun i hi => by omega⟩
    case round =>
      obtain ⟨t, C, h, rfl, hO, ht, hR, hz⟩ := hrel
      have HO : Hid (Own W0 w.heap.size C _) := hO
      have hfz := hO.frozen
      have hcA := fun j (hj : j < n) => ((hO.other b (off + j) (by omega)).trans (HB0.out.cell (p := ⟨b, off + j, none⟩) hb)).trans (HF.out j hj)
      have HR : Hid (RowIs C n h) := hR
      have HZ : Hid (∀ i, i < t → h i = (f i + (if i + 1 < n then f (i + 1) else 0) * 4294967296) / 2 ^ k % 4294967296) := hz
      have hCs : C.size = n := hR.1
      clear hR hz hO hmk H1 hc0 hx0 hpw hPl hPp hpm hand hne
      by_cases hlt : t < n
      · have hcell := hcA t hlt
        have hx := HFL.out t hlt
        have hcu := HO.out.cell t
        rw [HR.out.2.1 t hlt] at hcu
        by_cases h1 : t + 1 < n
        · have hcell1 := hcA (t + 1) h1
          have hx1 := HFL.out (t + 1) h1
          have hdl : decide ((t : Int) + 1 < (n : Int)) = true := decide_eq_true (by omega)
          have hif : (if t + 1 < n then f (t + 1) else 0) = f (t + 1) := if_pos h1
          clear hcA
          obtain ⟨S, hS⟩ : ∃ S, S = f (t + 1) * 4294967296 := ⟨_, rfl⟩
          have f2 : IntKind.u64.wrap ((f (t + 1) : Int) * 4294967296) = (S : Nat) := by rw [wrap64]; omega
          have f2' : (f (t + 1) : Int) * 4294967296 = (S : Nat) := by omega
          obtain ⟨W, hW'⟩ : ∃ W, W = f t + S := ⟨_, rfl⟩
          have f3 : bits .or .u64 (f t : Int) (S : Int) = (W : Nat) := by
            rw [u64_or_nat _ _ (by omega) (by omega), Nat.or_comm, nat_join 32 _ _ (by rw [hS]; simp) hx, hW', Nat.add_comm]
          have hW : W = f t + f (t + 1) * 4294967296 := by rw [hW', hS]
          have hWl : W < 18446744073709551616 := by omega
          obtain ⟨D, hD⟩ : ∃ D, D = W / 2 ^ k := ⟨_, rfl⟩
          have hDl : D < 18446744073709551616 := by rw [hD]; exact Nat.lt_of_le_of_lt (Nat.div_le_self _ _) hWl
          have g1 : (W : Int) / 2 ^ k = (D : Nat) := by rw [hD]; exact HD.out W
          have hlo : D % 4294967296 < 4294967296 := Nat.mod_lt _ (by omega)
          have g2 : IntKind.u32.wrap (D : Int) = ((D % 4294967296 : Nat) : Int) := by rw [IntKind.wrap_u32']; omega
          have g3 : (D : Int) % 4294967296 = ((D % 4294967296 : Nat) : Int) := by omega
          have HR2 : Hid (RowIs (C.setIfInBounds t (.int .u32 ((D % 4294967296 : Nat) : Int))) n (upd h t (D % 4294967296))) := HR.out.put t _ hlo
          have HZ2 : Hid (∀ i, i < t + 1 → upd h t (D % 4294967296) i = (f i + (if i + 1 < n then f (i + 1) else 0) * 4294967296) / 2 ^ k % 4294967296) := fun i hi => by
            unfold upd
            by_cases hit : i = t
            · subst hit
              rw [if_pos rfl, hD, hW, hif]
            · rw [if_neg hit]
              exact HZ.out i (by omega)
          obtain ⟨lo, hlo'⟩ : ∃ x, x = D % 4294967296 := ⟨_, rfl⟩
          rw [← hlo'] at g2 g3 HR2 HZ2
          clear hD hlo hlo' hW hif hS hW'
          go_wp2
          go_roundw
          case rel => exact ⟨t + 1, _, _, by go_num, HO.out.put t _, by omega, HR2.out, HZ2.out⟩
          case measure => simp [intOf]; omega
        · have hdl : decide ((t : Int) + 1 < (n : Int)) = false := decide_eq_false (by omega)
          have hif : (if t + 1 < n then f (t + 1) else 0) = 0 := if_neg h1
          clear hcA
          obtain ⟨W, hW'⟩ : ∃ W, W = f t := ⟨_, rfl⟩
          have hW : W = f t + 0 * 4294967296 := by rw [hW']; omega
          have hWl : W < 18446744073709551616 := by omega
          rw [← hW'] at hcell hx
          obtain ⟨D, hD⟩ : ∃ D, D = W / 2 ^ k := ⟨_, rfl⟩
          have hDl : D < 18446744073709551616 := by rw [hD]; exact Nat.lt_of_le_of_lt (Nat.div_le_self _ _) hWl
          have g1 : (W : Int) / 2 ^ k = (D : Nat) := by rw [hD]; exact HD.out W
          have hlo : D % 4294967296 < 4294967296 := Nat.mod_lt _ (by omega)
          have g2 : IntKind.u32.wrap (D : Int) = ((D % 4294967296 : Nat) : Int) := by rw [IntKind.wrap_u32']; omega
          have g3 : (D : Int) % 4294967296 = ((D % 4294967296 : Nat) : Int) := by omega
          have HR2 : Hid (RowIs (C.setIfInBounds t (.int .u32 ((D % 4294967296 : Nat) : Int))) n (upd h t (D % 4294967296))) := HR.out.put t _ hlo
          have HZ2 : Hid (∀ i, i < t + 1 → upd h t (D % 4294967296) i = (f i + (if i + 1 < n then f (i + 1) else 0) * 4294967296) / 2 ^ k % 4294967296) := fun i hi => by
            unfold upd
            by_cases hit : i = t
            · subst hit
              rw [if_pos rfl, hD, hW, hif]
            · rw [if_neg hit]
              exact HZ.out i (by omega)
          obtain ⟨lo, hlo'⟩ : ∃ x, x = D % 4294967296 := ⟨_, rfl⟩
          rw [← hlo'] at g2 g3 HR2 HZ2
          clear hD hlo hlo' hW hif hW'
          go_wp2
          go_roundw
          case rel => exact ⟨t + 1, _, _, by go_num, HO.out.put t _, by omega, HR2.out, HZ2.out⟩
          case measure => simp [intOf]; omega
      · have htn : t = n := by omega
        subst htn
        have hval := shr_val hk HFL.out HZ.out
        have hT := trim_made w.heap.size t t h _ (Nat.le_refl _) (by omega) (fun j hj => (HO.out.cell j).trans (HR.out.2.1 j hj)) (by rw [HO.out.size]; exact HZ0.out) (fun j _ => HR.out.2.2 j)
        rw [hval] at hT
        have HT : Hid (Calls Oabg.prog 106 #[.slice (some ⟨w.heap.size, 0, none⟩) t t] _ fun e w'' => ∃ v, e = .returned v ∧ w'' = _ ∧ IsN _ v (nv f t / 2 ^ k)) := hT
        clear hT
        clear hval
        go_wp2_with (go_at_call 106; refine (HT.out).mono ?_; rintro e w' ⟨v, rfl, hq, hv⟩; obtain rfl := hq.symm)
        go_ret2
        exact ⟨v, by rw [HLost.out]; rfl, by rw [HP.out]; exact hv, HB0.out.trans (HO.out.below (Nat.le_refl _))⟩

end Go.Proofs.Ygcoab
