import Derived.Test.YgcoabWXdig
namespace Go.Proofs.Ygcoab
open Go.RowKit

theorem ExC.putS {C : Array Value} {g : Nat → Nat} {n : Nat} {top sig pr : Int} (h : ExC C g n top sig pr) (x : Int) : ExC (C.setIfInBounds 1443 (.int .i64 x)) g n top x pr := by
  refine ⟨by rw [Array.size_setIfInBounds]; exact h.size, fun j hj => ?_, ?_, ?_, ?_, ?_⟩
  · rw [Array.getElem?_setIfInBounds, if_neg (by omega)]; exact h.dig j hj
  · rw [Array.getElem?_setIfInBounds, if_neg (by omega)]; exact h.cn
  · rw [Array.getElem?_setIfInBounds, if_neg (by omega)]; exact h.ct
  · rw [Array.getElem?_setIfInBounds, if_pos rfl, if_pos (by rw [h.size]; omega)]
  · rw [Array.getElem?_setIfInBounds, if_neg (by omega)]; exact h.cp

theorem ExC.putP {C : Array Value} {g : Nat → Nat} {n : Nat} {top sig pr : Int} (h : ExC C g n top sig pr) (x : Int) : ExC (C.setIfInBounds 1444 (.int .i64 x)) g n top sig x := by
  refine ⟨by rw [Array.size_setIfInBounds]; exact h.size, fun j hj => ?_, ?_, ?_, ?_, ?_⟩
  · rw [Array.getElem?_setIfInBounds, if_neg (by omega)]; exact h.dig j hj
  · rw [Array.getElem?_setIfInBounds, if_neg (by omega)]; exact h.cn
  · rw [Array.getElem?_setIfInBounds, if_neg (by omega)]; exact h.ct
  · rw [Array.getElem?_setIfInBounds, if_neg (by omega)]; exact h.cs
  · rw [Array.getElem?_setIfInBounds, if_pos rfl, if_pos (by rw [h.size]; omega)]

theorem ExC.all {C : Array Value} {g : Nat → Nat} {n : Nat} {top sig pr : Int} (h : ExC C g n top sig pr) : C.all (·.oneCell') = true := all_int fun j hj => by
  rw [h.size] at hj
  by_cases h1 : j < 1441
  · exact ⟨_, _, h.dig j h1⟩
  · have : j = 1441 ∨ j = 1442 ∨ j = 1443 ∨ j = 1444 := by omega
    rcases this with rfl | rfl | rfl | rfl
    · exact ⟨_, _, h.cn⟩
    · exact ⟨_, _, h.ct⟩
    · exact ⟨_, _, h.cs⟩
    · exact ⟨_, _, h.cp⟩

/-- a fresh expansion, as the walk meets it -/
theorem fresh112 (sig pr : Int) : ∃ C0 C1 : Array Value, C0.size = 1445 ∧ (∀ w : World, (zeroValue 112).run Oabg.prog w = .ok (.agg C0) w) ∧ (C0.setIfInBounds 1443 (.int .i64 sig)).setIfInBounds 1444 (.int .i64 pr) = C1 ∧
    (∀ w : World, (storeCells ⟨w.heap.size, 0, none⟩ ((C0.toList.set 1443 (.int .i64 sig)).set 1444 (.int .i64 pr))).run Oabg.prog (w.alloc (.cells C0 112)) = .ok () (w.alloc (.cells C1 112))) ∧ (∀ w : World, ExAt w.heap.size (fun _ => 0) 0 0 sig pr (w.alloc (.cells C1 112))) := by
  have h0 := exCells_ex 0 0
  have h1 := (h0.putS sig).putP pr
  refine ⟨exCells (.int .i64 0) (.int .i64 0), _, exCells_size _ _, zero112, rfl, fun w => ?_, fun w => ⟨_, Blk.start w _ 112, h1⟩⟩
  have := run_storeCells_new (P := Oabg.prog) w 112 (exCells (.int .i64 0) (.int .i64 0)) _ (by rw [h1.size]; exact info112s) (by rw [h1.size, exCells_size]) h1.all
  rw [Array.toList_setIfInBounds, Array.toList_setIfInBounds] at this
  exact this

def XePost (w : World) (A D prec : Nat) (e : Ending) (w' : World) : Prop :=
  ∃ b k, TenLe A D k ∧ ¬ TenLe A D (k + 1) ∧ DigB (unitsN A D (k - prec)) b ∧ Below w.heap.size w w' ∧
    ((prec + 1 < b.size ∧ e = .returned (.tuple #[.string (b.extract 0 (prec + 1)), .int .i16 (k + 1)])) ∨ (b.size ≤ prec + 1 ∧ e = .returned (.tuple #[.string b, .int .i16 k])))

/-- what DigitsE's expansion says -/
theorem xe_facts {A D : Nat} {g : Nat → Nat} {n : Nat} {top : Int} {prec : Nat} (hD : 0 < D) (hA : 0 < A) (h : ExpOk A D g n top ((prec : Int) + 1) 2880) (hn : n ≤ 1300) (ht : -1300 ≤ top) :
    TenLe A D top ∧ ¬ TenLe A D (top + 1) ∧ unitsN A D (top - prec) = rndN g n (prec + 1) := by
  obtain ⟨m, p, h1, h2, h3, h4⟩ := exp_size hD h
  have hm : 0 < m := by
    rcases h4 with h4 | ⟨h4, h5 | h5⟩
    · rw [h4]; exact (exp_digits hA h).1
    · omega
    · omega
  refine ⟨ten_le h1 hm (h3 hm), ten_lt h1 h2, ?_⟩
  have := exp_units hD h (prec + 1) (fun m p q1 q2 q3 => by rcases q3 with q3 | q3 <;> omega)
  rw [← this]
  congr 1
  omega

set_option maxRecDepth 100000 in
set_option maxHeartbeats 4000000 in
theorem xdigE_fin {E M : Nat} (h : FOk E M) (x : Nat) (hx : x < 18446744073709551616) (hf : expF E M x ≠ topE E) (hz : clsF E M x ≠ 0) (prec : Nat) (hp : prec ≤ 2000) (w : World) :
    Calls Oabg.prog 34 #[fmtV E M, .int .u64 x, .int .u16 prec] w (XePost w (vNum E M x) (vDen E M x) prec) := by
  have HC : Hid (∀ w : World, Calls Oabg.prog 78 #[.agg #[.int .u8 E, .int .u8 M], .int .u64 x, .int .u16 prec] w fun e w' => e = .returned (.int .i8 (clsF E M x)) ∧ Below w.heap.size w w') := fun w => classX_yes h x hx prec hp w
  have HX : Hid (∀ (P : Nat) (sig pr : Int) (w : World), ExAt P (fun _ => 0) 0 0 sig pr w → Calls Oabg.prog 80 #[.pointer (some ⟨P, 0, none⟩), .agg #[.int .u8 E, .int .u8 M], .int .u64 x] w fun e w' => e = .returned (.tuple #[]) ∧ ExPost w P (vNum E M x) (vDen E M x) sig pr w') := fun P sig pr w hE => expand_any h x hx hf hz P _ sig pr w hE
  have hA := vNum_pos hf hz
  have hD := vDen_pos E M x
  have hcl := cls_finite hf
  have e0 : (clsF E M x == 0) = false := by rw [beq_eq_false_iff_ne]; exact hz
  have e3 : (clsF E M x == 3) = false := by rw [beq_eq_false_iff_ne]; omega
  have e4 : (clsF E M x == 4) = false := by rw [beq_eq_false_iff_ne]; omega
  clear hf hz h hcl
  generalize clsF E M x = kc at *
  generalize vNum E M x = A at *
  generalize vDen E M x = D at *
  obtain ⟨p1, hp1⟩ : ∃ p1, p1 = prec + 1 := ⟨_, rfl⟩
  have ew1 : IntKind.i64.wrap ((prec : Int) + 1) = (p1 : Nat) := by rw [IntKind.wrap_i64]; omega
  have ew1' : (prec : Int) + 1 = (p1 : Nat) := by omega
  have HP1 : Hid (p1 = prec + 1) := hp1
  have hp1l : p1 ≤ 2001 := by omega
  clear hp1
  obtain ⟨C0, C1, hcs, hzv, hC1, hst', hE1'⟩ := fresh112 (p1 : Int) 2880
  have HE1 : Hid (∀ w : World, ExAt w.heap.size (fun _ => 0) 0 0 (p1 : Int) 2880 (w.alloc (.cells C1 112))) := hE1'
  have HST : Hid (∀ w : World, (storeCells ⟨w.heap.size, 0, none⟩ ((C0.toList.set 1443 (.int .i64 (p1 : Int))).set 1444 (.int .i64 2880))).run Oabg.prog (w.alloc (.cells C0 112)) = .ok () (w.alloc (.cells C1 112))) := hst'
  clear hE1' hst' hC1
  unfold fmtV
  go_enter Oabg.func34, Oabg.ntmps34
  have hB0 := fmt_start w E M
  go_wp2_with fail
  go_at_call 78
  refine (HC.out _).mono ?_
  rintro e w1 ⟨rfl, hb⟩
  have hFB := fb_step hB0 hb
  obtain ⟨c0, c1⟩ := hFB.1.all
  have hst := HST.out w1
  have hE1 := HE1.out w1
  have hFB2 := fb_step hFB (below_alloc w1 (.cells C1 112))
  obtain ⟨c02, c12⟩ := hFB2.1.all
  have hws := hFB.1.size
  clear hb hB0
  have HBw : Hid (Below w.heap.size w (w1.alloc (.cells C1 112))) := hFB2.2
  have HEx : Hid (ExAt w1.heap.size (fun _ => 0) 0 0 (p1 : Int) 2880 (w1.alloc (.cells C1 112))) := hE1
  clear hE1 hFB2 hFB
  go_wp2_with fail
  go_at_call 80
  refine (HX.out _ _ _ _ HEx.out).mono ?_
  rintro e w3 ⟨rfl, g, n, top, hEx, hOk, hn, ht1, ht2, hbP⟩
  have hB3 : Below w.heap.size w w3 := HBw.out.trans (hbP.mono (by omega))
  obtain ⟨hn0, hdg, hld⟩ := exp_digits hA hOk
  have HOk : Hid (TenLe A D top ∧ ¬ TenLe A D (top + 1) ∧ unitsN A D (top - prec) = rndN g n p1) := by
    rw [HP1.out]
    rw [HP1.out] at hOk
    have := xe_facts (prec := prec) hD hA (by simpa using hOk) hn ht1
    exact this
  have HRd : Hid (Calls Oabg.prog 81 #[.pointer (some ⟨w1.heap.size, 0, none⟩), .int .i64 (p1 : Nat)] w3 (RoundPost w3 g n p1)) := roundX_any _ g n top _ _ p1 hn0 (by omega) (by omega) hdg hld w3 hEx
  have HE3 : Hid (ExAt w1.heap.size g n top (p1 : Int) 2880 w3) := hEx
  have HB3 : Hid (Below w.heap.size w w3) := hB3
  clear hOk hbP hB3 hdg hld hEx HEx HBw HX hst c0 c1 c02 c12
  go_wp2_with fail
  go_at_call 81
  refine HRd.out.mono ?_
  rintro e w4 ⟨b, rfl, hb, hbl⟩
  have hE4 := HE3.out.step hbl HE3.out.size
  have ct := hE4.all.2.1
  have HB4 : Hid (Below w.heap.size w w4) := below_step HB3.out HB3.out.size hbl
  have HDb : Hid (DigB (unitsN A D (top - prec)) b) := by
    rw [HOk.out.2.2]
    exact hb
  clear hb hbl hE4 HE3 HB3 HRd
  have ewu : IntKind.u16.wrap (p1 : Int) = (p1 : Nat) := by simp [IntKind.wrap, IntKind.bits, IntKind.signed]; omega
  have ewt : IntKind.i16.wrap (top + 1) = top + 1 := i16_int (by omega) (by omega)
  have ewt0 : IntKind.i16.wrap top = top := i16_int (by omega) (by omega)
  by_cases hsz : p1 < b.size
  · have hdz : decide ((p1 : Int) < (b.size : Int)) = true := decide_eq_true (by omega)
    have HF : Hid (XePost w A D prec (.returned (.tuple #[.string (b.extract 0 p1), .int .i16 (top + 1)])) w4.drew) :=
      ⟨b, top, HOk.out.1, HOk.out.2.1, HDb.out, HB4.out.drew, .inl ⟨by have := HP1.out; omega, by rw [HP1.out]⟩⟩
    go_wp2_with fail
    go_region
    go_wp2
    exact bodyPost_ret (v := .tuple #[.string (b.extract 0 p1), .int .i16 (top + 1)]) (by simp [results, Oabg.results34]) rfl HF.out
  · have hdz : decide ((p1 : Int) < (b.size : Int)) = false := decide_eq_false (by omega)
    have HF : Hid (XePost w A D prec (.returned (.tuple #[.string b, .int .i16 top])) w4.drew) :=
      ⟨b, top, HOk.out.1, HOk.out.2.1, HDb.out, HB4.out.drew, .inr ⟨by have := HP1.out; omega, rfl⟩⟩
    go_wp2_with fail
    go_region
    go_wp2
    exact bodyPost_ret (v := .tuple #[.string b, .int .i16 top]) (by simp [results, Oabg.results34]) rfl HF.out

end Go.Proofs.Ygcoab
