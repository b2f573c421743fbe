import Derived.Test.YgcoabWDivLoop
import Derived.Test.YgcoabPlainDig
namespace Go.Proofs.Ygcoab
open Go.RowKit

/-- what is known of the shifted numbers -/
structure DivFit (A B U D s n m : Nat) : Prop where
  d1 : 2 ^ (32 * (n - 1)) ≤ D
  d2 : D < 2 ^ (32 * n)
  u0 : 0 < U
  u1 : U < 2 ^ (32 * (m + 1))
  u2 : U < D * 2 ^ (32 * (m - n + 1))
  dd : D = B * 2 ^ s
  uu : U = A * 2 ^ s
  b0 : 0 < B

theorem row_cell {W : World} {g : Nat} {C : Array Value} (h : W.heap[g]? = some (.cells C 145 (0, 0))) (k : Nat) : W.cell? ⟨g, k, none⟩ = C[k]? := (Own.refl h).cell k

theorem DW.drew {w W : World} {ub qb db doff n : Nat} {C E : Array Value} {g : Nat → Nat} (h : DW w ub qb db doff n C E g W) : DW w ub qb db doff n C E g W.drew :=
  ⟨h.rowU, h.rowQ, h.dc, h.below.drew, h.ne1, h.ne2, h.ne3, h.lu, h.lq, h.ld⟩

theorem keepDW {w W W' : World} {ub qb db doff n k0 k1 k2 k3 k4 : Nat} {C E : Array Value} {g : Nat → Nat} {v0 v1 v2 v3 v4 : Value} (hb : Below W.heap.size W W')
    (h : (W.cell? ⟨ub, k0, none⟩ = some v0 ∧ W.cell? ⟨ub, k1, none⟩ = some v1 ∧ W.cell? ⟨ub, k2, none⟩ = some v2 ∧ W.cell? ⟨db, k3, none⟩ = some v3 ∧ W.cell? ⟨db, k4, none⟩ = some v4) ∧ DW w ub qb db doff n C E g W) :
    (W'.cell? ⟨ub, k0, none⟩ = some v0 ∧ W'.cell? ⟨ub, k1, none⟩ = some v1 ∧ W'.cell? ⟨ub, k2, none⟩ = some v2 ∧ W'.cell? ⟨db, k3, none⟩ = some v3 ∧ W'.cell? ⟨db, k4, none⟩ = some v4) ∧ DW w ub qb db doff n C E g W' :=
  have ku := fun k => hb.cell (p := ⟨ub, k, none⟩) h.2.su
  have kd := fun k => hb.cell (p := ⟨db, k, none⟩) h.2.ld
  ⟨⟨(ku k0).trans h.1.1, (ku k1).trans h.1.2.1, (ku k2).trans h.1.2.2.1, (kd k3).trans h.1.2.2.2.1, (kd k4).trans h.1.2.2.2.2⟩, h.2.step hb⟩

set_option maxHeartbeats 1000000 in
set_option maxRecDepth 100000 in
theorem divLong_some (b off m ca b' off' n cb : Nat) (fb : Nat → Nat) (w : World) (hn : 2 ≤ n) (hnm : n ≤ m) (hm : m ≤ 100000) (A B : Nat)
    (hA : IsN w (.slice (some ⟨b, off, none⟩) m ca) A) (hB : IsN w (.slice (some ⟨b', off', none⟩) n cb) B) (fA : FitsN A) (fB : FitsN B)
    (hcb : ∀ j, j < n → w.cell? ⟨b', off' + j, none⟩ = some (.int .u32 (fb j : Nat))) (hbl : ∀ j, j < n → fb j < 4294967296) (hbt : fb (n - 1) ≠ 0) (hBv : nv fb n = B) (hAl : A < 2 ^ (32 * m)) (hBA : B ≤ A) :
    Calls Oabg.prog 146 #[.slice (some ⟨b, off, none⟩) m ca, .slice (some ⟨b', off', none⟩) n cb] w fun e w' => ∃ v r, e = .returned (.tuple #[v, r]) ∧ IsN w' v (A / B) ∧ IsN w' r (A % B) ∧ Below w.heap.size w w' := by
  have hx := hbl (n - 1) (by omega)
  have hq1 := blen_pos (x := fb (n - 1)) (by omega)
  have hq2 : blen (fb (n - 1)) ≤ 32 := blen_le (n := 32) hx
  have hblen := blen_nv (f := fb) (n := n) (by omega) hbt hbl
  rw [hBv] at hblen
  have HW : Hid (∀ w : World, Calls Oabg.prog 139 #[.int .u32 (fb (n - 1) : Nat)] w fun e w' => e = .returned (.int .i64 (blen (fb (n - 1)))) ∧ w' = w) := fun w => width32_any _ hx w
  have hcell := hcb (n - 1) (by omega)
  have hto1 : ((n : Int) - 1).toNat = n - 1 := by omega
  have hin1 : (((n - 1 : Nat)) : Int) = (n : Int) - 1 := by omega
  obtain ⟨q, hq⟩ : ∃ q, q = blen (fb (n - 1)) := ⟨_, rfl⟩
  obtain ⟨s, hs⟩ : ∃ s, s = 32 - q := ⟨_, rfl⟩
  rw [← hq] at hq1 hq2 hblen HW
  have hs31 : s ≤ 31 := by omega
  have hsz : (32 : Int) - (q : Int) = (s : Nat) := by omega
  have hB0 : 0 < B := by rw [← hBv]; exact nv_pos (by omega) hbt
  have hBlt := lt_blen B
  have hBge := blen_ge hB0
  -- D has n limbs
  have hD1 : 2 ^ (32 * (n - 1)) ≤ B * 2 ^ s := by
    have h1 := Nat.mul_le_mul_right (2 ^ s) hBge
    rw [← Nat.pow_add] at h1
    exact Nat.le_trans (two_pow_le (by omega)) h1
  have hD2 : B * 2 ^ s < 2 ^ (32 * n) := by
    have h1 := Nat.mul_lt_mul_of_pos_right hBlt (two_pow_pos' s)
    rw [← Nat.pow_add] at h1
    exact Nat.lt_of_lt_of_le h1 (two_pow_le (by omega))
  have hA0 : 0 < A := by omega
  have hA2 : A * 2 ^ s < 2 ^ (32 * (m + 1)) := by
    have h1 := Nat.mul_lt_mul_of_pos_right hAl (two_pow_pos' s)
    rw [← Nat.pow_add] at h1
    exact Nat.lt_of_lt_of_le h1 (two_pow_le (by omega))
  have HLb : Hid (∀ w', Below w.heap.size w w' → Calls Oabg.prog 138 #[.slice (some ⟨b', off', none⟩) n cb, .int .i64 s] w' fun e w'' => ∃ u, e = .returned u ∧ IsN w'' u (B * 2 ^ s) ∧ Below w'.heap.size w' w'') := fun w' hw => lift_any (hB.step hw) fB (by omega)
  have HLa : Hid (∀ w', Below w.heap.size w w' → Calls Oabg.prog 138 #[.slice (some ⟨b, off, none⟩) m ca, .int .i64 s] w' fun e w'' => ∃ u, e = .returned u ∧ IsN w'' u (A * 2 ^ s) ∧ Below w'.heap.size w' w'') := fun w' hw => lift_any (hA.step hw) fA (by omega)
  obtain ⟨D, hD⟩ : ∃ D, D = B * 2 ^ s := ⟨_, rfl⟩
  obtain ⟨U, hU⟩ : ∃ U, U = A * 2 ^ s := ⟨_, rfl⟩
  rw [← hD] at hD1 hD2
  rw [← hU] at hA2
  have HFit : DivFit A B U D s n m := by
    refine ⟨hD1, hD2, by rw [hU]; exact Nat.mul_pos hA0 (two_pow_pos' s), hA2, ?_, hD, hU, hB0⟩
    rw [hU, hD, Nat.mul_right_comm]
    apply Nat.mul_lt_mul_of_pos_right _ (two_pow_pos' s)
    have h1 : 2 ^ (32 * (n - 1)) ≤ B := by rw [← hBv]; exact nv_ge (by omega) hbt
    have h2 := Nat.mul_le_mul_right (2 ^ (32 * (m - n + 1))) h1
    rw [← Nat.pow_add, show 32 * (n - 1) + 32 * (m - n + 1) = 32 * m by omega] at h2
    omega
  clear hA hB fA fB hcb hbl hbt hBv hAl hBA hx hq hblen hs hB0 hBlt hBge hD1 hD2 hA0 hA2 hD hU
  have hmk := fun w => make48 w ((m : Int) + 1) (m + 1) (by omega) (by omega)
  have hmk2 := fun w => make48 w ((m : Int) - (n : Int) + 1) (m - n + 1) (by omega) (by omega)
  go_enter Oabg.func146, Oabg.ntmps146
  go_wp2_with (go_at_call 139; refine (HW.out _).mono ?_; rintro e w' ⟨rfl, hw'⟩; obtain rfl := hw'.symm)
  go_at_call 138
  refine (HLb.out _ (Below.refl _ _)).mono ?_
  rintro e w1 ⟨vd, rfl, hvd, hb1⟩
  rw [← HFit.dd] at hvd
  obtain ⟨db, doff, cd, g, rfl, hdc1, hdc2, hgt, hgl, hgc, hdb, hgv⟩ := isN_limbs (n := n) hvd (by omega) HFit.d1 HFit.d2
  go_wp2_with fail
  go_at_call 138
  obtain ⟨Wu, hWu⟩ : ∃ W, W = w1.alloc (.cells (Array.replicate (m + 1) (.int .u32 0)) 145) := ⟨_, rfl⟩
  rw [show (w1.alloc (.cells (Array.replicate (m + 1) (.int .u32 0)) 145)) = Wu from hWu.symm]
  have hbU : Below w.heap.size w Wu := by rw [hWu]; exact below_step hb1 hb1.size (below_alloc w1 _)
  have hbw : Below w1.heap.size w1 Wu := by rw [hWu]; exact below_alloc w1 _
  have hrowU : Wu.heap[w1.heap.size]? = some (.cells (Array.replicate (m + 1) (.int .u32 0)) 145 (0, 0)) := by
    rw [hWu]
    show (w1.heap.push _)[w1.heap.size]? = _
    simp
  have hszU : w1.heap.size < Wu.heap.size := (Array.getElem?_eq_some_iff.1 hrowU).1
  clear hWu
  refine (HLa.out _ hbU).mono ?_
  rintro e w2 ⟨va, rfl, hva, hb3⟩
  rw [← HFit.uu] at hva
  rcases hva with ⟨h0, _⟩ | ⟨ab, aoff, m', c', f', rfl, k2, k3, k4, k5, k6, k7, k8, k9⟩
  · have := HFit.u0
    omega
  have hm' : m' ≤ m + 1 := nv_len k2 k5 (by rw [k9]; exact HFit.u1)
  obtain ⟨w3, hcp, hO3⟩ := copy_row48 w2 w1.heap.size ab aoff m' c' (m + 1) f' hm' ((hb3.block _ hszU).trans hrowU) k7
  have hR3 := limbsA_row (f := f') hm' k6
  have hv3 : nv (padL f' m') (m + 1) = U := by rw [nv_pad hm', k9]
  have hb4 : Below w.heap.size w w3 := (below_step hbU (Nat.le_trans hb1.size (Nat.le_of_lt hszU)) hb3).trans (hO3.below hb1.size)
  have hgc3 : ∀ i, i < n → w3.cell? ⟨db, doff + i, none⟩ = some (.int .u32 (g i : Nat)) := fun i hi =>
    (hO3.other db (doff + i) (by omega)).trans ((hb3.cell (p := ⟨db, doff + i, none⟩) (Nat.lt_trans hdb hszU)).trans ((hbw.cell (p := ⟨db, doff + i, none⟩) hdb).trans (hgc i hi)))
  have hs3 : w1.heap.size < w3.heap.size := (Array.getElem?_eq_some_iff.1 hO3.row).1
  have hl1 := hb1.size
  have hDW : DW w w1.heap.size w3.heap.size db doff n (limbsA f' m' (m + 1)) (Array.replicate (m - n + 1) (.int .u32 0)) g (w3.alloc (.cells (Array.replicate (m - n + 1) (.int .u32 0)) 145)) :=
    ⟨(Below.heap_alloc w3 _ _ hs3).trans hO3.row, by show (w3.heap.push _)[w3.heap.size]? = _; simp, fun i hi => ((below_alloc w3 _).cell (p := ⟨db, doff + i, none⟩) (by show db < w3.heap.size; omega)).trans (hgc3 i hi), hb4.alloc hb4.size _, by omega, by omega, by omega, hl1, hb4.size, by simp; omega⟩
  have HDW : Hid (DW w w1.heap.size w3.heap.size db doff n (limbsA f' m' (m + 1)) (Array.replicate (m - n + 1) (.int .u32 0)) g (w3.alloc (.cells (Array.replicate (m - n + 1) (.int .u32 0)) 145))) := hDW
  have HR3 : Hid (RowIs (limbsA f' m' (m + 1)) (m + 1) (padL f' m')) := hR3
  have HV3 : Hid (nv (padL f' m') (m + 1) = U) := hv3
  have HGL : Hid (∀ j, j < n → g j < 4294967296) := hgl
  have HGT : Hid (g (n - 1) ≠ 0 ∧ nv g n = D) := ⟨hgt, hgv⟩
  clear hvd hgt hgl hgc hgv hb1 hbU hbw hrowU hb3 k5 k6 k7 k9 hO3 hR3 hv3 hb4 hgc3 hDW HW HLa HLb
  go_wp2
  have hat : ((m - n + 1 : Nat) : Int) - 1 = ((m - n : Nat) : Int) := by omega
  clear hcp hmk hmk2 hcell hto1 hin1
  go_loopw [11] (fun i wr => ∃ (J : Nat) (C E : Array Value) (h e : Nat → Nat), i = .int .i64 ((J : Int) - 1) ∧ DW w w1.heap.size w3.heap.size db doff n C E g wr ∧ RowIs C (m + 1) h ∧ RowIs E (m - n + 1) e ∧ DvAt U D h e n (m + 1) (m - n + 1) J ∧ J ≤ m - n + 1) (fun i _ => (intOf i + 1).toNat)
  case atStart => exact ⟨m - n + 1, _, _, _, _, by rw [hat], HDW.out, HR3.out, RowIs.zero _, ⟨by rw [HV3.out, nv_all_zero]; omega, by rw [HV3.out]; exact HFit.u2, fun _ _ => rfl⟩, Nat.le_refl _⟩
  case round =>
    obtain ⟨J, C, E, h, e, rfl, hDW, hR, hE, hV, hJ⟩ := hrel
    have HDW : Hid (DW w w1.heap.size w3.heap.size db doff n C E g _) := hDW
    have HR : Hid (RowIs C (m + 1) h) := hR
    have HE : Hid (RowIs E (m - n + 1) e) := hE
    have HV : Hid (DvAt U D h e n (m + 1) (m - n + 1) J) := hV
    clear hDW hR hE hV HV3 HR3 hat
    by_cases h0 : J = 0
    · subst h0
      obtain ⟨hq, hr⟩ := HV.out.done
      have HQ : Hid (nv e (m - n + 1) = A / B) := by
        show _ = _
        rw [hq, HFit.uu, HFit.dd, Nat.mul_div_mul_right _ _ (two_pow_pos' s)]
      have HM : Hid (nv h (m + 1) / 2 ^ s = A % B) := by
        show _ = _
        rw [hr, HFit.uu, HFit.dd, Nat.mul_mod_mul_right, Nat.mul_div_cancel _ (two_pow_pos' s)]
      clear hq hr HV
      have hdd : decide ((0 : Int) ≤ (((0 : Nat) : Int) - 1)) = false := rfl
      have hws : IntKind.u16.wrap (s : Int) = (s : Int) := by rw [IntKind.wrap_u16]; omega
      go_wp2_with fail
      go_at_call 118
      refine (shr_row (h := h) (L := m + 1) (k := s) (by omega) (by omega) (fun k hk => (row_cell HDW.out.rowU k).trans (HR.out.2.1 k hk)) HR.out.2.2 HDW.out.su).mono ?_
      rintro ee ws ⟨v, l, rfl, hv, hbs⟩
      have hDS := HDW.out.step hbs
      rw [HM.out] at hv
      go_wp2_with fail
      go_at_call 106
      refine (trim_made w3.heap.size (m - n + 1) (m - n + 1) e ws (Nat.le_refl _) (by omega) (fun k hk => (row_cell hDS.rowQ k).trans (HE.out.2.1 k hk)) hDS.sq (fun k _ => HE.out.2.2 k)).mono ?_
      rintro ee wz ⟨vq, rfl, hwz, hvq⟩
      obtain rfl := hwz.symm
      rw [HQ.out] at hvq
      go_wp2
      go_ret2
      exact ⟨_, _, rfl, hvq, hv, hDS.below⟩
    · obtain ⟨j, rfl⟩ : ∃ j, J = j + 1 := ⟨J - 1, by omega⟩
      have hj : (((j + 1 : Nat) : Int) - 1) = (j : Int) := by omega
      have hdd : decide ((0 : Int) ≤ (j : Int)) = true := decide_eq_true (by omega)
      rw [hj]
      have hjn : j + n ≤ m := by omega
      obtain ⟨hle, hdig⟩ := dig_of HV.out (show j + n + 1 ≤ m + 1 by omega) hn HR.out.2.2 HGL.out HGT.out.2 HGT.out.1
      have hcu := fun k (hk : k < m + 1) => (row_cell HDW.out.rowU k).trans (HR.out.2.1 k hk)
      obtain ⟨k0, hk0⟩ : ∃ k, k = j + n := ⟨_, rfl⟩
      obtain ⟨k1, hk1⟩ : ∃ k, k = j + n - 1 := ⟨_, rfl⟩
      obtain ⟨k2, hk2⟩ : ∃ k, k = j + n - 2 := ⟨_, rfl⟩
      obtain ⟨p1, hp1⟩ : ∃ k, k = n - 1 := ⟨_, rfl⟩
      obtain ⟨p2, hp2⟩ : ∃ k, k = n - 2 := ⟨_, rfl⟩
      have hu0 := hcu k0 (by omega)
      have hu1 := hcu k1 (by omega)
      have hu2 := hcu k2 (by omega)
      have hd1 := HDW.out.dc p1 (by omega)
      have hd0 := HDW.out.dc p2 (by omega)
      have hw0 : IntKind.i64.wrap ((j : Int) + (n : Int)) = (k0 : Nat) := by rw [IntKind.wrap_i64]; omega
      have hw1 : IntKind.i64.wrap ((k0 : Int) - 1) = (k1 : Nat) := by rw [IntKind.wrap_i64]; omega
      have hw2 : IntKind.i64.wrap ((k0 : Int) - 2) = (k2 : Nat) := by rw [IntKind.wrap_i64]; omega
      have hw3 : IntKind.i64.wrap ((n : Int) - 1) = (p1 : Nat) := by rw [IntKind.wrap_i64]; omega
      have hw4 : IntKind.i64.wrap ((n : Int) - 2) = (p2 : Nat) := by rw [IntKind.wrap_i64]; omega
      have hl0 : k0 < m + 1 := by omega
      have hl1 : k1 < m + 1 := by omega
      have hl2 : k2 < m + 1 := by omega
      have hl3 : p1 < n := by omega
      have hl4 : p2 < n := by omega
      have hl0' : (k0 : Int) < (m : Int) + 1 := by omega
      have hl1' : (k1 : Int) < (m : Int) + 1 := by omega
      have hl2' : (k2 : Int) < (m : Int) + 1 := by omega
      have hl3' : (p1 : Int) < (n : Int) := by omega
      have hl4' : (p2 : Int) < (n : Int) := by omega
      have hz0 : (0 : Int) ≤ (k0 : Int) := by omega
      have hz1 : (0 : Int) ≤ (k1 : Int) := by omega
      have hz2 : (0 : Int) ≤ (k2 : Int) := by omega
      have hz3 : (0 : Int) ≤ (p1 : Int) := by omega
      have hz4 : (0 : Int) ≤ (p2 : Int) := by omega
      have hy0' : (k0 : Int) < ((m + 1 : Nat) : Int) := by omega
      have hy1' : (k1 : Int) < ((m + 1 : Nat) : Int) := by omega
      have hy2' : (k2 : Int) < ((m + 1 : Nat) : Int) := by omega
      rw [← hk0, ← hp1] at hle
      rw [← hk0, ← hp1, ← hp2, show k0 - 1 = k1 by omega, show k0 - 2 = k2 by omega] at hdig
      obtain ⟨k5, hk5⟩ : ∃ k, k = j + n + 1 := ⟨_, rfl⟩
      have hw5 : IntKind.i64.wrap ((k0 : Int) + 1) = (k5 : Nat) := by rw [IntKind.wrap_i64]; omega
      have hl5 : (j : Int) ≤ (k5 : Int) := by omega
      have hl5' : (k5 : Int) ≤ (m : Int) + 1 := by omega
      have hs5 : k5 - j = n + 1 := by omega
      have HKS : Hid (k0 = j + n ∧ k1 = j + n - 1 ∧ k2 = j + n - 2 ∧ p1 = n - 1 ∧ p2 = n - 2) := ⟨hk0, hk1, hk2, hp1, hp2⟩
      obtain ⟨G, hG⟩ : ∃ G, G = gue (h k0) (h k1) (h k2) (g p1) (g p2) := ⟨_, rfl⟩
      have HGue : Hid (∀ w : World, Calls Oabg.prog 166 #[.int .u32 (h k0 : Nat), .int .u32 (h k1 : Nat), .int .u32 (h k2 : Nat), .int .u32 (g p1 : Nat), .int .u32 (g p2 : Nat)] w fun e w' => e = .returned (.int .u32 (G : Nat)) ∧ Below w.heap.size w w') := fun w => by
        rw [hG]
        refine guess_any _ _ _ _ _ (HR.out.2.2 _) (HR.out.2.2 _) (HR.out.2.2 _) (HGL.out _ hl3) (HGL.out _ hl4) (by have := HGT.out.1; rw [hp1]; omega) hle w
      clear hk0 hk1 hk2 hp1 hp2 hk5
      rw [← hG] at hdig
      have HGG : Hid (DigAt (nv (win h j) (n + 1)) D G) := hdig
      clear hcu hG hdig hle
      go_wp2
      go_cut [12] (fun s12 wx => s12 = .int .u32 G ∧ DW w w1.heap.size w3.heap.size db doff n C E g wx)
      case first =>
        clear HR HE HV HGT HGL HGG HFit HKS
        go_region_held3 (fun w' => (w'.cell? ⟨w1.heap.size, k0, none⟩ = some (.int .u32 (h k0 : Nat)) ∧ w'.cell? ⟨w1.heap.size, k1, none⟩ = some (.int .u32 (h k1 : Nat)) ∧ w'.cell? ⟨w1.heap.size, k2, none⟩ = some (.int .u32 (h k2 : Nat)) ∧ w'.cell? ⟨db, doff + p1, none⟩ = some (.int .u32 (g p1 : Nat)) ∧ w'.cell? ⟨db, doff + p2, none⟩ = some (.int .u32 (g p2 : Nat))) ∧ DW w w1.heap.size w3.heap.size db doff n C E g w')
          (first
            | exact ⟨⟨hu0, hu1, hu2, hd1, hd0⟩, HDW.out.drew⟩
            | (with_reducible refine keepDW hbg ?_; assumption))
          (first | (go_at_call 166; refine (HGue.out _).mono ?_; rintro ee wg ⟨rfl, hbg⟩))
        rename_i hH
        go_wp2
        go_meet
        exact ⟨rfl, hH.2⟩
      case rest =>
      obtain ⟨rfl, hDW'⟩ := hcut
      have HDW' : Hid (DW w w1.heap.size w3.heap.size db doff n C E g wc) := hDW'
      clear hDW' HDW HGue hu0 hu1 hu2 hd0 hd1 hw1 hw2 hw3 hw4 hl0 hl1 hl2 hl3 hl4 hl0' hl1' hl2' hl3' hl4' hz0 hz1 hz2 hz3 hz4 hy0' hy1' hy2'
      have HDp : Hid (0 < D) := by have := HFit.b0; rw [HFit.dd]; exact Nat.mul_pos this (two_pow_pos' s)
      have hjK : j < m - n + 1 := by omega
      have hlj : (j : Int) < ((m - n + 1 : Nat) : Int) := by omega
      have hlj2 : (j : Int) < ((m - n : Nat) : Int) + 1 := by omega
      have hzj : (0 : Int) ≤ (j : Int) := by omega
      have hwj : IntKind.i64.wrap ((j : Int) - 1) = (j : Int) - 1 := by rw [IntKind.wrap_i64]; omega
      go_wp2_with fail
      go_at_call 167
      refine (takeAway_any w1.heap.size j n (m + 1 - j) db doff cd G (m + 1) C h g wc (by omega) (by omega) HDW'.out.ne2 HGG.out.lt HDW'.out.rowU HR.out HDW'.out.dc HGL.out).mono ?_
      rintro ee wt ⟨o, C1, h1, rfl, hO1, hR1, hT1, ho, hv1⟩
      rw [HGT.out.2] at hv1
      have hDT := HDW'.out.ownU hO1
      obtain ⟨hD0, hD1⟩ := dig_take HV.out (show j + n + 1 ≤ m + 1 by omega) hjK HFit.d2 HDp.out HR.out.2.2 hR1.2.2 HGG.out hT1 ho hv1
      have HR1 : Hid (RowIs C1 (m + 1) h1) := hR1
      have HDT : Hid (DW w w1.heap.size w3.heap.size db doff n C1 E g wt) := hDT
      have HGl : Hid (G < 4294967296) := HGG.out.lt
      clear hv1 hT1 hR1 hDT hO1 HDW' HR HGG HV
      rcases (show o = 0 ∨ o = 1 by omega) with h00 | h00
      · have HV1 : Hid (DvAt U D h1 (upd e j G) n (m + 1) (m - n + 1) j) := hD0 h00
        subst h00
        have hb0 : ((((0 : Nat) : Int)) == 1) = false := rfl
        have hcq := (row_cell HDT.out.rowQ j).trans (HE.out.2.1 j hjK)
        have hfq := (Own.refl HDT.out.rowQ).frozen j
        have HEnd : Hid (DW w w1.heap.size w3.heap.size db doff n C1 (E.setIfInBounds j (.int .u32 G)) g (wt.setCell ⟨w3.heap.size, j, none⟩ (.int .u32 G))) := HDT.out.ownQ ((Own.refl HDT.out.rowQ).put j _)
        have HE2 : Hid (RowIs (E.setIfInBounds j (.int .u32 G)) (m - n + 1) (upd e j G)) := HE.out.put j G HGl.out
        clear hD0 hD1
        rw [hb0]
        go_wp2
        go_roundw
        case rel => exact ⟨j, _, _, _, _, rfl, HEnd.out, HR1.out, HE2.out, HV1.out, by omega⟩
        case measure => simp [intOf]
      · obtain ⟨hG0, hD2⟩ := hD1 h00
        have HD2 := (show Hid _ from hD2)
        subst h00
        have hb0 : ((((1 : Nat) : Int)) == 1) = true := rfl
        clear hD0 hD1 hD2
        obtain ⟨G1, hG1⟩ : ∃ x, x = G - 1 := ⟨_, rfl⟩
        have hwG : IntKind.u32.wrap ((G : Int) - 1) = (G1 : Nat) := by rw [IntKind.wrap_u32']; have := HGl.out; omega
        have HG1 : Hid (G1 = G - 1 ∧ G1 < 4294967296) := ⟨hG1, by have := HGl.out; omega⟩
        clear hG1 HGl
        rw [hb0]
        go_wp2_with fail
        go_at_call 168
        refine (putBack_any w1.heap.size j n (m + 1 - j) db doff cd (m + 1) C1 h1 g wt (by omega) (by omega) HDT.out.ne2 HDT.out.rowU HR1.out HDT.out.dc HGL.out).mono ?_
        rintro ee wp ⟨c, C2, h2, rfl, hO2, hR2, hT2, hc, hv2⟩
        rw [HGT.out.2] at hv2
        have hV2 := HD2.out h2 c hR2.2.2 hT2 hc hv2
        rw [← HG1.out.1] at hV2
        have HV2 : Hid (DvAt U D h2 (upd e j G1) n (m + 1) (m - n + 1) j) := hV2
        have hDP := HDT.out.ownU hO2
        have HDP : Hid (DW w w1.heap.size w3.heap.size db doff n C2 E g wp) := hDP
        have HR2 : Hid (RowIs C2 (m + 1) h2) := hR2
        clear hv2 hV2 hT2 hR2 hDP hO2 HDT HR1 HD2
        have hcq := (row_cell HDP.out.rowQ j).trans (HE.out.2.1 j hjK)
        have hfq := (Own.refl HDP.out.rowQ).frozen j
        have HEnd : Hid (DW w w1.heap.size w3.heap.size db doff n C2 (E.setIfInBounds j (.int .u32 G1)) g (wp.setCell ⟨w3.heap.size, j, none⟩ (.int .u32 G1))) := HDP.out.ownQ ((Own.refl HDP.out.rowQ).put j _)
        have HE2 : Hid (RowIs (E.setIfInBounds j (.int .u32 G1)) (m - n + 1) (upd e j G1)) := HE.out.put j G1 HG1.out.2
        go_wp2
        go_roundw
        case rel => exact ⟨j, _, _, _, _, rfl, HEnd.out, HR2.out, HE2.out, HV2.out, by omega⟩
        case measure => simp [intOf]

end Go.Proofs.Ygcoab
