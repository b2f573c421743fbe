import Derived.Test.YgcoabWXdigE
namespace Go.Proofs.Ygcoab
open Go.RowKit

def XfPost (w : World) (N : Nat) (e : Ending) (w' : World) : Prop := ∃ b, e = .returned (.string b) ∧ DigB N b ∧ Below w.heap.size w w'

theorem digB_zero : DigB 0 { data := #[48] } := ⟨by decide, by decide, by decide, .inl rfl⟩

/-- what DigitsF's expansion says -/
theorem xf_facts {A D : Nat} {g : Nat → Nat} {n : Nat} {top : Int} {prec keep : Nat} (hD : 0 < D) (h : ExpOk A D g n top 2880 (prec : Int)) (hn : n ≤ 1300) (hk : (keep : Int) = top + 1 + prec) :
    unitsN A D (-(prec : Int)) = rndN g n keep := by
  have := exp_units hD h keep (fun m p q1 q2 q3 => by rcases q3 with q3 | q3 <;> omega)
  rw [← this]
  congr 1
  omega

set_option maxRecDepth 100000 in
set_option maxHeartbeats 4000000 in
theorem xdigF_fin {E M : Nat} (h : FOk E M) (x : Nat) (hx : x < 18446744073709551616) (hf : expF E M x ≠ topE E) (hz : clsF E M x ≠ 0) (prec : Nat) (hp : prec ≤ 2000) (w : World) :
    Calls Oabg.prog 35 #[fmtV E M, .int .u64 x, .int .u16 prec] w (XfPost w (unitsN (vNum E M x) (vDen E M x) (-(prec : Int)))) := by
  have HC : Hid (∀ w : World, Calls Oabg.prog 78 #[.agg #[.int .u8 E, .int .u8 M], .int .u64 x, .int .u16 prec] w fun e w' => e = .returned (.int .i8 (clsF E M x)) ∧ Below w.heap.size w w') := fun w => classX_yes h x hx prec hp w
  have HX : Hid (∀ (P : Nat) (sig pr : Int) (w : World), ExAt P (fun _ => 0) 0 0 sig pr w → Calls Oabg.prog 80 #[.pointer (some ⟨P, 0, none⟩), .agg #[.int .u8 E, .int .u8 M], .int .u64 x] w fun e w' => e = .returned (.tuple #[]) ∧ ExPost w P (vNum E M x) (vDen E M x) sig pr w') := fun P sig pr w hE => expand_any h x hx hf hz P _ sig pr w hE
  have hA := vNum_pos hf hz
  have hD := vDen_pos E M x
  have hcl := cls_finite hf
  have e0 : (clsF E M x == 0) = false := by rw [beq_eq_false_iff_ne]; exact hz
  have e3 : (clsF E M x == 3) = false := by rw [beq_eq_false_iff_ne]; omega
  have e4 : (clsF E M x == 4) = false := by rw [beq_eq_false_iff_ne]; omega
  clear hf hz h hcl
  generalize clsF E M x = kc at *
  generalize vNum E M x = A at *
  generalize vDen E M x = D at *
  obtain ⟨N, hN⟩ : ∃ N, N = unitsN A D (-(prec : Int)) := ⟨_, rfl⟩
  rw [← hN]
  have HN : Hid (N = unitsN A D (-(prec : Int))) := hN
  have ewp : IntKind.i64.wrap (prec : Int) = (prec : Nat) := by rw [IntKind.wrap_i64]; omega
  clear hN
  obtain ⟨C0, C1, hcs, hzv, hC1, hst', hE1'⟩ := fresh112 2880 (prec : Int)
  have HE1 : Hid (∀ w : World, ExAt w.heap.size (fun _ => 0) 0 0 2880 (prec : Int) (w.alloc (.cells C1 112))) := hE1'
  have HST : Hid (∀ w : World, (storeCells ⟨w.heap.size, 0, none⟩ ((C0.toList.set 1443 (.int .i64 2880)).set 1444 (.int .i64 (prec : Int)))).run Oabg.prog (w.alloc (.cells C0 112)) = .ok () (w.alloc (.cells C1 112))) := hst'
  clear hE1' hst' hC1
  unfold fmtV
  go_enter Oabg.func35, Oabg.ntmps35
  have hB0 := fmt_start w E M
  go_wp2_with fail
  go_at_call 78
  refine (HC.out _).mono ?_
  rintro e w1 ⟨rfl, hb⟩
  have hFB := fb_step hB0 hb
  obtain ⟨c0, c1⟩ := hFB.1.all
  have hst := HST.out w1
  have hE1 := HE1.out w1
  have hFB2 := fb_step hFB (below_alloc w1 (.cells C1 112))
  obtain ⟨c02, c12⟩ := hFB2.1.all
  have hws := hFB.1.size
  clear hb hB0
  have HBw : Hid (Below w.heap.size w (w1.alloc (.cells C1 112))) := hFB2.2
  have HEx : Hid (ExAt w1.heap.size (fun _ => 0) 0 0 2880 (prec : Int) (w1.alloc (.cells C1 112))) := hE1
  clear hE1 hFB2 hFB
  go_wp2_with fail
  go_at_call 80
  refine (HX.out _ _ _ _ HEx.out).mono ?_
  rintro e w3 ⟨rfl, g, n, top, hEx, hOk, hn, ht1, ht2, hbP⟩
  have hB3 : Below w.heap.size w w3 := HBw.out.trans (hbP.mono (by omega))
  obtain ⟨hn0, hdg, hld⟩ := exp_digits hA hOk
  have ct := hEx.all.2.1
  have HB3 : Hid (Below w.heap.size w w3) := hB3
  obtain ⟨kp, hkp⟩ : ∃ kp : Int, kp = top + 1 + prec := ⟨_, rfl⟩
  have ek1 : IntKind.i64.wrap (top + 1) = top + 1 := by rw [IntKind.wrap_i64]; omega
  have ek2 : IntKind.i64.wrap (top + 1 + (prec : Int)) = kp := by rw [IntKind.wrap_i64]; omega
  have ek3 : top + 1 + (prec : Int) = kp := hkp.symm
  by_cases hneg : kp < 0
  · have HRd : Hid (Calls Oabg.prog 81 #[.pointer (some ⟨w1.heap.size, 0, none⟩), .int .i64 kp] w3 fun e w' => e = .returned (.string { data := #[48] }) ∧ Below w3.heap.size w3 w') := roundX_neg _ kp hneg w3
    have HN0 : Hid (N = 0) := by rw [HN.out]; exact exp_small hD hOk prec (by omega)
    clear hOk hbP hB3 hdg hld hEx HEx HBw HX hst c0 c1 c02 c12 hkp
    go_wp2_with fail
    go_at_call 81
    refine HRd.out.mono ?_
    rintro e w4 ⟨rfl, hb⟩
    have HB4 : Hid (Below w.heap.size w w4) := below_step HB3.out HB3.out.size hb
    clear hb
    go_wp2
    go_ret
    exact ⟨_, rfl, by rw [HN0.out]; exact digB_zero, HB4.out⟩
  · obtain ⟨keep, rfl⟩ : ∃ keep : Nat, kp = keep := ⟨kp.toNat, by omega⟩
    have HRd : Hid (Calls Oabg.prog 81 #[.pointer (some ⟨w1.heap.size, 0, none⟩), .int .i64 (keep : Nat)] w3 (RoundPost w3 g n keep)) := roundX_any _ g n top _ _ keep hn0 (by omega) (by omega) hdg hld w3 hEx
    have HU : Hid (N = rndN g n keep) := by rw [HN.out]; exact xf_facts hD hOk hn hkp
    clear hOk hbP hB3 hdg hld hEx HEx HBw HX hst c0 c1 c02 c12 hkp
    go_wp2_with fail
    go_at_call 81
    refine HRd.out.mono ?_
    rintro e w4 ⟨b, rfl, hbd, hb⟩
    have HB4 : Hid (Below w.heap.size w w4) := below_step HB3.out HB3.out.size hb
    have HDb : Hid (DigB N b) := by rw [HU.out]; exact hbd
    clear hb hbd
    go_wp2
    go_ret
    exact ⟨_, rfl, HDb.out, HB4.out⟩

end Go.Proofs.Ygcoab
