import Derived.Test.YgcoabWRoundD
import Derived.Deep.DeepCutAuto
namespace Go.Proofs.Ygcoab
open Go.RowKit

theorem HVar.drew {R : Nat} {half : Int} {some : Bool} {w : World} (h : HVar R half some w) : HVar R half some w.drew := ⟨h.r0, h.r1, h.rf, h.size⟩

/-- raised's world: the result's variable, the rest's variable -/
structure RsAt (w : World) (Q : Nat) (half : Int) (some : Bool) (v : Value) (n : Nat) (W : World) : Prop where
  res : HVar w.heap.size 0 false W
  var : HVar Q half some W
  ne : Q ≠ w.heap.size
  num : IsN W v n
  below : Below w.heap.size w W

theorem RsAt.step {w W W' : World} {Q n : Nat} {half : Int} {some : Bool} {v : Value} (h : RsAt w Q half some v n W) (hb : Below W.heap.size W W') : RsAt w Q half some v n W' :=
  ⟨h.res.step hb, h.var.step hb, h.ne, h.num.step hb, below_step h.below h.below.size hb⟩

theorem RsAt.drew {w W : World} {Q n : Nat} {half : Int} {some : Bool} {v : Value} (h : RsAt w Q half some v n W) : RsAt w Q half some v n W.drew :=
  ⟨h.res.drew, h.var.drew, h.ne, h.num.drew, h.below.drew⟩

theorem RsAt.start {w W : World} {n : Nat} {half : Int} {some : Bool} {v : Value} (res : HVar w.heap.size 0 false W) (num : IsN W v n) (below : Below w.heap.size w W) :
    RsAt w W.heap.size half some v n (W.alloc (.cells #[.int .i8 half, .bool some] 136)) := by
  have hs := res.size
  have hA := below_alloc W (.cells #[.int .i8 half, .bool some] 136)
  exact ⟨res.step hA, HVar.start W half some, by omega, num.step hA, below_step below below.size hA⟩

theorem RsAt.all {w W : World} {Q n : Nat} {half : Int} {some : Bool} {v : Value} (h : RsAt w Q half some v n W) :
    W.cell? ⟨Q, 0, none⟩ = .some (.int .i8 half) ∧ W.cell? ⟨Q, 1, none⟩ = .some (.bool some) ∧ W.cell? ⟨w.heap.size, 0, none⟩ = .some (.int .i8 0) ∧ W.cell? ⟨w.heap.size, 1, none⟩ = .some (.bool false) ∧ (∀ o, W.frozen? ⟨w.heap.size, o, none⟩ = false) ∧ w.heap.size < W.heap.size ∧ Hid (RsAt w Q half some v n W) :=
  ⟨h.var.r0, h.var.r1, h.res.r0, h.res.r1, h.res.rf, h.res.size, h⟩

theorem keepRs {w W W' : World} {Q n : Nat} {half : Int} {some : Bool} {v : Value} (hb : Below W.heap.size W W')
    (h : (W.cell? ⟨Q, 0, none⟩ = .some (.int .i8 half) ∧ W.cell? ⟨Q, 1, none⟩ = .some (.bool some)) ∧ RsAt w Q half some v n W) :
    (W'.cell? ⟨Q, 0, none⟩ = .some (.int .i8 half) ∧ W'.cell? ⟨Q, 1, none⟩ = .some (.bool some)) ∧ RsAt w Q half some v n W' :=
  have k := h.2.step hb
  ⟨⟨k.var.r0, k.var.r1⟩, k⟩

set_option maxHeartbeats 1000000 in
theorem raised_any {w : World} {u v : Value} {N D : Nat} (mode : Nat) (neg : Bool) (hN : IsN w u N) (hD : IsN w v D) (fN : FitsN N) (fD : FitsN D) (h0 : 0 < D) :
    Calls Oabg.prog 101 #[.int .u8 mode, .bool neg, u, v] w (FlPost w (raisedN mode neg N D) (halfZ N D) (someB N D)) := by
  have T1 : Hid (∀ w', Below w.heap.size w w' → Calls Oabg.prog 141 #[u, v] w' (FlPost w' (N / D) (halfZ N D) (someB N D))) := fun w' hw => floor_any (hN.step hw) (hD.step hw) fN fD h0
  have HFq : Hid (FitsN (N / D)) := fN.le (Nat.div_le_self _ _)
  have HR : Hid (raisedN mode neg N D = if raisesB mode neg (N / D % 2 == 1) (halfZ N D) (someB N D) = true then N / D + 1 else N / D) := rfl
  generalize raisedN mode neg N D = rn at *
  generalize halfZ N D = hf at *
  generalize someB N D = sm at *
  obtain ⟨q, hq⟩ : ∃ q, q = N / D := ⟨_, rfl⟩
  rw [← hq] at T1 HFq HR
  obtain ⟨b, hb⟩ : ∃ b, b = raisesB mode neg (q % 2 == 1) hf sm := ⟨_, rfl⟩
  rw [← hb] at HR
  have HRa : Hid (∀ w : World, Calls Oabg.prog 142 #[.int .u8 mode, .bool neg, .bool (q % 2 == 1), .agg #[.int .i8 hf, .bool sm]] w fun e w' => e = .returned (.bool b) ∧ Below w.heap.size w w') := fun w => by
    rw [hb]
    exact raises_any mode neg _ hf sm w
  clear hN hD fN fD h0 hq hb
  obtain ⟨od, hod⟩ : ∃ od, od = (q % 2 == 1) := ⟨_, rfl⟩
  rw [← hod] at HRa
  have HBi : Hid (∀ (W : World) (x : Value), IsN W x q → Calls Oabg.prog 72 #[x, .int .i64 0] W fun e w' => e = .returned (.bool od) ∧ w' = W) := fun W x hx => by
    rw [hod]
    exact bit0_any hx
  clear hod
  go_enter Oabg.func101, Oabg.ntmps101
  go_wp2_with fail
  go_at_call 141
  have hV := HVar.start w 0 false
  have hB := (Below.refl w.heap.size w).alloc (Nat.le_refl _) (.cells #[.int .i8 0, .bool false] 136)
  obtain ⟨W, hW⟩ : ∃ W, W = w.alloc (.cells #[.int .i8 0, .bool false] 136) := ⟨_, rfl⟩
  rw [← hW] at hV hB ⊢
  clear hW
  refine (T1.out _ hB).mono ?_
  rintro ee w1 ⟨a, l, c, rfl, hn, hbl⟩
  have hS := RsAt.start (half := hf) (some := sm) (hV.step hbl) hn (below_step hB (Nat.le_of_lt hV.size) hbl)
  clear hV hB hbl hn
  go_wp2_with fail
  obtain ⟨W2, hW⟩ : ∃ W, W = w1.alloc (.cells #[.int .i8 hf, .bool sm] 136) := ⟨_, rfl⟩
  rw [← hW] at hS ⊢
  clear hW
  obtain ⟨Q, hQ⟩ : ∃ Q, Q = w1.heap.size := ⟨_, rfl⟩
  rw [← hQ] at hS ⊢
  clear hQ
  have HB2 : Hid (∀ W : World, ((W.cell? ⟨Q, 0, none⟩ = .some (.int .i8 hf) ∧ W.cell? ⟨Q, 1, none⟩ = .some (.bool sm)) ∧ RsAt w Q hf sm (.slice a l c) q W) → Calls Oabg.prog 72 #[.slice a l c, .int .i64 0] W fun e w' => e = .returned (.bool od) ∧ w' = W) := fun W h => HBi.out W _ h.2.num
  go_cut [23] (fun s23 wx => s23 = .bool b ∧ RsAt w Q hf sm (.slice a l c) q wx)
  case first =>
    obtain ⟨c0, c1, _, _, _, _, HK⟩ := hS.all
    clear hS
    go_region_held3 (fun w' => (w'.cell? ⟨Q, 0, none⟩ = .some (.int .i8 hf) ∧ w'.cell? ⟨Q, 1, none⟩ = .some (.bool sm)) ∧ RsAt w Q hf sm (.slice a l c) q w')
      (first
        | exact ⟨⟨c0, c1⟩, HK.out.drew⟩
        | assumption
        | (with_reducible refine keepRs hb ?_; assumption))
      (first
        | (go_at_call 72; refine (HB2.out _ (by assumption)).mono ?_; rintro ee w' ⟨rfl, hq⟩; obtain rfl := hq.symm)
        | (go_at_call 142; refine (HRa.out _).mono ?_; rintro ee w' ⟨rfl, hb⟩))
    rename_i hH
    go_wp2
    go_meet
    exact ⟨rfl, hH.2⟩
  case rest =>
  obtain ⟨rfl, hK⟩ := hcut
  clear hS HB2 HBi HRa
  cases b
  · have hrn : rn = q := by have := HR.out; simpa using this
    subst hrn
    obtain ⟨c0, c1, r0, r1, rf, rs, HK⟩ := hK.all
    clear hK
    go_wp2_with fail
    go_region
    all_goals go_wp2
    all_goals exact bodyPost_ret (v := .tuple #[.slice a l c, .agg #[.int .i8 hf, .bool sm]]) (by simp [results, Oabg.results101, go_sem, r0, r1]) rfl ⟨a, l, c, rfl, HK.out.drew.num.setH HK.out.drew.res, below_set2 HK.out.drew.below (Nat.le_refl _)⟩
  · have hrn : rn = q + 1 := by have := HR.out; simpa using this
    subst hrn
    go_wp2_with fail
    go_at_call 143
    refine (succ_any hK.num HFq.out).mono ?_
    rintro ee w3 ⟨x, rfl, hx, hb⟩
    obtain ⟨a2, l2, c2, rfl⟩ := hx.shape
    have hK2 : RsAt w Q hf sm (.slice a2 l2 c2) (q + 1) w3 := ⟨hK.res.step hb, hK.var.step hb, hK.ne, hx, below_step hK.below hK.below.size hb⟩
    obtain ⟨c0, c1, r0, r1, rf, rs, HK⟩ := hK2.all
    clear hK hK2 hx hb
    go_wp2_with fail
    go_region
    all_goals go_wp2
    all_goals exact bodyPost_ret (v := .tuple #[.slice a2 l2 c2, .agg #[.int .i8 hf, .bool sm]]) (by simp [results, Oabg.results101, go_sem, r0, r1]) rfl ⟨a2, l2, c2, rfl, HK.out.drew.num.setH HK.out.drew.res, below_set2 HK.out.drew.below (Nat.le_refl _)⟩

end Go.Proofs.Ygcoab
