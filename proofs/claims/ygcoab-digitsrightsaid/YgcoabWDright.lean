import Derived.Test.YgcoabWXdigF
import Derived.Test.YgcoabWDigOff
import Derived.Deep.RegionHeld3
namespace Go.Proofs.Ygcoab
open Go.RowKit

set_option maxRecDepth 100000 in
set_option maxHeartbeats 4000000 in
/-- the law, whatever the four calls give, so long as they give the same -/
theorem dright_of {E M : Nat} (x prec : Int) (R1 R2 S1 S2 : Ending → Prop)
    (hE1 : ∀ w : World, Calls Oabg.prog 34 #[fmtV E M, .int .u64 x, .int .u16 prec] w fun e w' => R1 e ∧ Below w.heap.size w w')
    (hE2 : ∀ w : World, Calls Oabg.prog 24 #[fmtV E M, .int .u64 x, .int .u16 prec] w fun e w' => R2 e ∧ Below w.heap.size w w')
    (hF1 : ∀ w : World, Calls Oabg.prog 35 #[fmtV E M, .int .u64 x, .int .u16 prec] w fun e w' => S1 e ∧ Below w.heap.size w w')
    (hF2 : ∀ w : World, Calls Oabg.prog 25 #[fmtV E M, .int .u64 x, .int .u16 prec] w fun e w' => S2 e ∧ Below w.heap.size w w')
    (hR1 : ∀ e, R1 e → ∃ s i, e = .returned (.tuple #[.string s, .int .i16 i]))
    (hR2 : ∀ s i e, R1 (.returned (.tuple #[.string s, .int .i16 i])) → R2 e → e = .returned (.tuple #[.string s, .int .i16 i]))
    (hS1 : ∀ e, S1 e → ∃ s, e = .returned (.string s))
    (hS2 : ∀ s e, S1 (.returned (.string s)) → S2 e → e = .returned (.string s)) (w : World) :
    Calls Oabg.prog 8 #[fmtV E M, .int .u64 x, .int .u16 prec] w fun e w' => e = .returned (.bool true) ∧ Below w.heap.size w w' := by
  have HE1 : Hid (∀ w : World, Calls Oabg.prog 34 #[.agg #[.int .u8 E, .int .u8 M], .int .u64 x, .int .u16 prec] w fun e w' => R1 e ∧ Below w.heap.size w w') := hE1
  have HE2 : Hid (∀ w : World, Calls Oabg.prog 24 #[.agg #[.int .u8 E, .int .u8 M], .int .u64 x, .int .u16 prec] w fun e w' => R2 e ∧ Below w.heap.size w w') := hE2
  have HF1 : Hid (∀ w : World, Calls Oabg.prog 35 #[.agg #[.int .u8 E, .int .u8 M], .int .u64 x, .int .u16 prec] w fun e w' => S1 e ∧ Below w.heap.size w w') := hF1
  have HF2 : Hid (∀ w : World, Calls Oabg.prog 25 #[.agg #[.int .u8 E, .int .u8 M], .int .u64 x, .int .u16 prec] w fun e w' => S2 e ∧ Below w.heap.size w w') := hF2
  have HR1 : Hid (∀ e, R1 e → ∃ s i, e = .returned (.tuple #[.string s, .int .i16 i])) := hR1
  have HR2 : Hid (∀ s i e, R1 (.returned (.tuple #[.string s, .int .i16 i])) → R2 e → e = .returned (.tuple #[.string s, .int .i16 i])) := hR2
  have HS1 : Hid (∀ e, S1 e → ∃ s, e = .returned (.string s)) := hS1
  have HS2 : Hid (∀ s e, S1 (.returned (.string s)) → S2 e → e = .returned (.string s)) := hS2
  clear hE1 hE2 hF1 hF2 hR1 hR2 hS1 hS2
  unfold fmtV
  go_enter Oabg.func8, Oabg.ntmps8
  have hB0 := fmt_start w E M
  go_wp2_with fail
  go_at_call 34
  refine (HE1.out _).mono ?_
  rintro e w1 ⟨hr1, hb⟩
  obtain ⟨s, i, rfl⟩ := HR1.out _ hr1
  have hFB := fb_step hB0 hb
  obtain ⟨c0, c1⟩ := hFB.1.all
  have HQ : Hid (R1 (.returned (.tuple #[.string s, .int .i16 i]))) := hr1
  clear hb hB0 hr1
  go_wp2_with fail
  go_at_call 24
  refine (HE2.out _).mono ?_
  rintro e w2 ⟨hr2, hb⟩
  obtain rfl := HR2.out _ _ _ HQ.out hr2
  have hFB := fb_step hFB hb
  clear hb c0 c1 hr2 HE1 HE2 HR1 HR2 HQ
  obtain ⟨c0, c1⟩ := hFB.1.all
  have HK : Hid (Below w.heap.size w w2 ∧ w.heap.size < w2.heap.size) := ⟨hFB.2, hFB.1.size⟩
  clear hFB
  go_upto_region 3 with (fail)
  go_region_held3 (fun W => W.cell? ⟨w.heap.size, 0, none⟩ = some (.int .u8 E) ∧ W.cell? ⟨w.heap.size, 1, none⟩ = some (.int .u8 M) ∧ Below w.heap.size w W ∧ w.heap.size < W.heap.size)
    (first
      | exact ⟨c0, c1, HK.out.1.drew, HK.out.2⟩
      | assumption
      | (with_reducible refine keepF hbA ?_; assumption)
      | (with_reducible refine keepF hbB ?_; assumption))
    (first
      | (go_at_call 35; refine (HF1.out _).mono ?_; rintro ee wA ⟨hsA, hbA⟩; obtain ⟨sA, rfl⟩ := HS1.out _ hsA)
      | (go_at_call 25; refine (HF2.out _).mono ?_; rintro ee wB ⟨hsB, hbB⟩; obtain rfl := HS2.out _ _ hsA hsB))
  all_goals (
    rename_i hH
    have HB : Hid (Below w.heap.size w _) := hH.2.2.1
    clear hH hbA hbB
    go_wp2
    go_ret
    exact ⟨rfl, HB.out⟩)

set_option maxRecDepth 100000 in
set_option maxHeartbeats 2000000 in
theorem digitsE_no {E M : Nat} (h : ¬ FOk E M) (x prec : Int) (w : World) :
    Calls Oabg.prog 24 #[fmtV E M, .int .u64 x, .int .u16 prec] w fun e w' => e = .returned (.tuple #[.string { data := #[] }, .int .i16 0]) ∧ Below w.heap.size w w' := by
  have HN : Hid (∀ w : World, Calls Oabg.prog 23 #[.agg #[.int .u8 E, .int .u8 M]] w fun e w' => e = .returned (.bool false) ∧ Below w.heap.size w w') := fun w => ok_no h w
  clear h
  unfold fmtV
  go_enter Oabg.func24, Oabg.ntmps24
  have hB0 := fmt_start w E M
  go_wp2_with fail
  go_at_call 23
  refine (HN.out _).mono ?_
  rintro e w1 ⟨rfl, hb⟩
  have hFB := fb_step hB0 hb
  have HB : Hid (Below w.heap.size w w1) := hFB.2
  clear hb hB0 hFB
  go_wp2
  exact bodyPost_ret (v := .tuple #[.string { data := #[] }, .int .i16 0]) (by simp [results, Oabg.results24]) rfl ⟨rfl, HB.out⟩

set_option maxRecDepth 100000 in
set_option maxHeartbeats 2000000 in
theorem digitsF_no {E M : Nat} (h : ¬ FOk E M) (x prec : Int) (w : World) :
    Calls Oabg.prog 25 #[fmtV E M, .int .u64 x, .int .u16 prec] w fun e w' => e = .returned (.string { data := #[] }) ∧ Below w.heap.size w w' := by
  have HN : Hid (∀ w : World, Calls Oabg.prog 23 #[.agg #[.int .u8 E, .int .u8 M]] w fun e w' => e = .returned (.bool false) ∧ Below w.heap.size w w') := fun w => ok_no h w
  clear h
  unfold fmtV
  go_enter Oabg.func25, Oabg.ntmps25
  have hB0 := fmt_start w E M
  go_wp2_with fail
  go_at_call 23
  refine (HN.out _).mono ?_
  rintro e w1 ⟨rfl, hb⟩
  have hFB := fb_step hB0 hb
  have HB : Hid (Below w.heap.size w w1) := hFB.2
  clear hb hB0 hFB
  go_wp2
  go_ret
  exact ⟨rfl, HB.out⟩

/-- nothing on either side -/
theorem dright_off {E M : Nat} (x prec c : Int) (hc : c = 3 ∨ c = 4) (hC : ∀ w : World, Calls Oabg.prog 78 #[fmtV E M, .int .u64 x, .int .u16 prec] w fun e w' => e = .returned (.int .i8 c) ∧ Below w.heap.size w w')
    (hE : ∀ w : World, Calls Oabg.prog 24 #[fmtV E M, .int .u64 x, .int .u16 prec] w fun e w' => e = .returned (.tuple #[.string { data := #[] }, .int .i16 0]) ∧ Below w.heap.size w w')
    (hF : ∀ w : World, Calls Oabg.prog 25 #[fmtV E M, .int .u64 x, .int .u16 prec] w fun e w' => e = .returned (.string { data := #[] }) ∧ Below w.heap.size w w') (w : World) :
    Calls Oabg.prog 8 #[fmtV E M, .int .u64 x, .int .u16 prec] w fun e w' => e = .returned (.bool true) ∧ Below w.heap.size w w' :=
  dright_of x prec (fun e => e = .returned (.tuple #[.string { data := #[] }, .int .i16 0])) (fun e => e = .returned (.tuple #[.string { data := #[] }, .int .i16 0])) (fun e => e = .returned (.string { data := #[] })) (fun e => e = .returned (.string { data := #[] }))
    (fun w => xdigE_off x prec c hc hC w) hE (fun w => xdigF_off x prec c hc hC w) hF (fun _ h => ⟨_, _, h⟩) (fun _ _ _ h1 h2 => h2.trans h1.symm) (fun _ h => ⟨_, h⟩) (fun _ _ h1 h2 => h2.trans h1.symm) w

theorem dright_zero {E M : Nat} (h : FOk E M) (x : Nat) (hx : x < 18446744073709551616) (hf : expF E M x ≠ topE E) (hz : clsF E M x = 0) (prec : Nat) (hp : prec ≤ 2000) (w : World) :
    Calls Oabg.prog 8 #[fmtV E M, .int .u64 x, .int .u16 prec] w fun e w' => e = .returned (.bool true) ∧ Below w.heap.size w w' := by
  have hC : ∀ w : World, Calls Oabg.prog 78 #[fmtV E M, .int .u64 x, .int .u16 prec] w fun e w' => e = .returned (.int .i8 0) ∧ Below w.heap.size w w' := fun w => by
    have := classX_yes h x hx prec hp w
    rw [hz] at this
    exact this
  refine dright_of x prec (fun e => e = .returned (.tuple #[.string (zerosB (prec + 1)), .int .i16 0])) (fun e => e = .returned (.tuple #[.string (zerosB (prec + 1)), .int .i16 0])) (fun e => e = .returned (.string { data := #[48] })) (fun e => ∃ b, e = .returned (.string b) ∧ DigS (unitsN (vNum E M x) (vDen E M x) (-(prec : Int))) b)
    (fun w => xdigE_zero x prec hp hC w) (fun w => digitsE_zero h x hx hz prec hp w) (fun w => xdigF_zero x prec hC w) (fun w => (digitsF_fin h x hx hf prec hp w).mono ?_) (fun _ h => ⟨_, _, h⟩) (fun _ _ _ h1 h2 => h2.trans h1.symm) (fun _ h => ⟨_, h⟩) (fun s e h1 h2 => ?_) w
  · rintro e w' ⟨b, h1, h2, h3⟩
    exact ⟨⟨b, h1, h2⟩, h3⟩
  · obtain ⟨b, h3, h4⟩ := h2
    have h5 := h4.bytes
    rw [vNum_zero hf hz, units_zero (vDen_pos E M x)] at h5
    rw [h3, h5.zero]
    exact h1.symm

theorem dright_fin {E M : Nat} (h : FOk E M) (x : Nat) (hx : x < 18446744073709551616) (hf : expF E M x ≠ topE E) (hz : clsF E M x ≠ 0) (prec : Nat) (hp : prec ≤ 2000) (w : World) :
    Calls Oabg.prog 8 #[fmtV E M, .int .u64 x, .int .u16 prec] w fun e w' => e = .returned (.bool true) ∧ Below w.heap.size w w' := by
  refine dright_of x prec
    (fun e => ∃ b k, TenLe (vNum E M x) (vDen E M x) k ∧ ¬ TenLe (vNum E M x) (vDen E M x) (k + 1) ∧ DigB (unitsN (vNum E M x) (vDen E M x) (k - prec)) b ∧ ((prec + 1 < b.size ∧ e = .returned (.tuple #[.string (b.extract 0 (prec + 1)), .int .i16 (k + 1)])) ∨ (b.size ≤ prec + 1 ∧ e = .returned (.tuple #[.string b, .int .i16 k]))))
    (fun e => ∃ b k, TenLe (vNum E M x) (vDen E M x) k ∧ ¬ TenLe (vNum E M x) (vDen E M x) (k + 1) ∧ DigB (unitsN (vNum E M x) (vDen E M x) (k - prec)) b ∧ ((prec + 1 < b.size ∧ e = .returned (.tuple #[.string (b.extract 0 (prec + 1)), .int .i16 (k + 1)])) ∨ (b.size ≤ prec + 1 ∧ e = .returned (.tuple #[.string b, .int .i16 k]))))
    (fun e => ∃ b, e = .returned (.string b) ∧ DigB (unitsN (vNum E M x) (vDen E M x) (-(prec : Int))) b)
    (fun e => ∃ b, e = .returned (.string b) ∧ DigB (unitsN (vNum E M x) (vDen E M x) (-(prec : Int))) b)
    (fun w => (xdigE_fin h x hx hf hz prec hp w).mono ?_) (fun w => (digitsE_fin h x hx hf hz prec hp w).mono ?_) (fun w => (xdigF_fin h x hx hf hz prec hp w).mono ?_) (fun w => (digitsF_fin h x hx hf prec hp w).mono ?_) ?_ ?_ ?_ ?_ w
  · rintro e w' ⟨b, k, h1, h2, h3, h4, h5⟩
    exact ⟨⟨b, k, h1, h2, h3, h5⟩, h4⟩
  · rintro e w' ⟨b, k, h1, h3, h4, h5⟩
    exact ⟨⟨b, k, h1.le, h1.lt, h3.bytes, h5⟩, h4⟩
  · rintro e w' ⟨b, h1, h2, h3⟩
    exact ⟨⟨b, h1, h2⟩, h3⟩
  · rintro e w' ⟨b, h1, h2, h3⟩
    exact ⟨⟨b, h1, h2.bytes⟩, h3⟩
  · rintro e ⟨b, k, h1, h2, h3, ⟨h4, h5⟩ | ⟨h4, h5⟩⟩
    · exact ⟨_, _, h5⟩
    · exact ⟨_, _, h5⟩
  · rintro s i e ⟨b, k, h1, h2, h3, h4⟩ ⟨b', k', h1', h2', h3', h4'⟩
    have hk := log_uniq h1 h2 h1' h2'
    subst hk
    have hb := h3.uniq h3'
    subst hb
    rcases h4 with ⟨a, b⟩ | ⟨a, b⟩
    · rcases h4' with ⟨c, d⟩ | ⟨c, d⟩
      · rw [d, b]
      · omega
    · rcases h4' with ⟨c, d⟩ | ⟨c, d⟩
      · omega
      · rw [d, b]
  · rintro e ⟨b, h1, h2⟩
    exact ⟨b, h1⟩
  · rintro s e ⟨b, h1, h2⟩ ⟨b', h1', h2'⟩
    have hb := h2.uniq h2'
    subst hb
    rw [h1', h1]

theorem dright_any (E M x prec : Nat) (hx : x < 18446744073709551616) (w : World) :
    Calls Oabg.prog 8 #[fmtV E M, .int .u64 x, .int .u16 prec] w fun e w' => e = .returned (.bool true) ∧ Below w.heap.size w w' := by
  by_cases h : FOk E M
  · by_cases hp : prec ≤ 2000
    · by_cases hf : expF E M x = topE E
      · rcases cls_special hf with hc | hc
        · exact dright_off x prec 3 (.inl rfl) (fun w => by have := classX_yes h x hx prec hp w; rw [hc] at this; exact this) (fun w => digitsE_inf h x hx hc prec hp w) (fun w => digitsF_inf h x hx hc prec hp w) w
        · exact dright_off x prec 4 (.inr rfl) (fun w => by have := classX_yes h x hx prec hp w; rw [hc] at this; exact this) (fun w => digitsE_nan h x hx hc prec hp w) (fun w => digitsF_nan h x hx hc prec hp w) w
      · by_cases hz : clsF E M x = 0
        · exact dright_zero h x hx hf hz prec hp w
        · exact dright_fin h x hx hf hz prec hp w
    · exact dright_off x prec 4 (.inr rfl) (fun w => classX_big h x prec (by omega) w) (fun w => digitsE_big h x prec (by omega) w) (fun w => digitsF_big h x prec (by omega) w) w
  · exact dright_off x prec 4 (.inr rfl) (fun w => classX_no h x prec w) (fun w => digitsE_no h x prec w) (fun w => digitsF_no h x prec w) w

end Go.Proofs.Ygcoab
