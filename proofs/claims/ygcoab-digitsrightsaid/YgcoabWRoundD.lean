import Derived.Test.YgcoabWRoundC
import Derived.WalkSpells
namespace Go.Proofs.Ygcoab
open Go.RowKit

/-- a rest's variable in block R -/
structure HVar (R : Nat) (half : Int) (some : Bool) (w : World) : Prop where
  r0 : w.cell? ⟨R, 0, none⟩ = .some (.int .i8 half)
  r1 : w.cell? ⟨R, 1, none⟩ = .some (.bool some)
  rf : ∀ o, w.frozen? ⟨R, o, none⟩ = false
  size : R < w.heap.size

theorem HVar.start (w : World) (half : Int) (some : Bool) : HVar w.heap.size half some (w.alloc (.cells #[.int .i8 half, .bool some] 136)) :=
  ⟨by simp [go_sem], by simp [go_sem], fun o => by simp [go_sem], by simp [go_sem]⟩

theorem HVar.step {R : Nat} {half : Int} {some : Bool} {w w' : World} (h : HVar R half some w) (hb : Below w.heap.size w w') : HVar R half some w' :=
  have k := fun o => hb.cell (p := ⟨R, o, none⟩) h.size
  ⟨(k 0).trans h.r0, (k 1).trans h.r1, fun o => (hb.frozen (p := ⟨R, o, none⟩) h.size).trans (h.rf o), Nat.lt_of_lt_of_le h.size hb.size⟩

theorem HVar.all {R : Nat} {half : Int} {some : Bool} {w : World} (h : HVar R half some w) : w.cell? ⟨R, 0, none⟩ = .some (.int .i8 half) ∧ w.cell? ⟨R, 1, none⟩ = .some (.bool some) ∧ (∀ o, w.frozen? ⟨R, o, none⟩ = false) ∧ R < w.heap.size ∧ Hid (HVar R half some w) :=
  ⟨h.r0, h.r1, h.rf, h.size, h⟩

theorem IsN.setH {R : Nat} {half : Int} {some : Bool} {w : World} {v u0 u1 : Value} {N : Nat} (h : IsN w v N) (k : HVar R half some w) : IsN ((w.setCell ⟨R, 0, none⟩ u0).setCell ⟨R, 1, none⟩ u1) v N := by
  refine (h.set k.r0 (fun _ h => by cases h)).set (z := .bool some) ?_ (fun _ h => by cases h)
  rw [cell_set_ne _ _ _ _ _ _ (by omega)]
  exact k.r1

theorem below_set2 {B b : Nat} {a w : World} {v0 v1 : Value} (h : Below B a w) (hb : B ≤ b) :
    Below B a ((w.setCell ⟨b, 0, none⟩ v0).setCell ⟨b, 1, none⟩ v1) :=
  (h.setCell (p := ⟨b, 0, none⟩) hb v0).setCell (p := ⟨b, 1, none⟩) hb v1

theorem neq48 (w : World) (a : Option Addr) (n c : Nat) : (binOp .neq 48 (.slice a n c) (.slice none 0 0)).run Oabg.prog w = .ok (.bool (!a.isNone)) w :=
  run_neq_slice_nil_any w 48 145 a n c 0 0 Oabg.underlying48

theorem IsN.some_iff {w : World} {a : Option Addr} {n c R : Nat} (h : IsN w (.slice a n c) R) : (!a.isNone) = !decide (R = 0) := by
  rcases h with ⟨h0, h1⟩ | ⟨b, off, n', cap, f, h1, h2, h3, h4, h5, h6, h7, h8, h9⟩
  · injection h1 with h1 _ _
    subst h1 h0
    rfl
  · injection h1 with h1 _ _
    subst h1
    have : R ≠ 0 := by
      rw [← h9]
      have := nv_pos h2 h5
      omega
    simp [this]

def FlPost (w : World) (n : Nat) (half : Int) (some : Bool) (e : Ending) (w' : World) : Prop := ∃ a l c, e = .returned (.tuple #[.slice a l c, .agg #[.int .i8 half, .bool some]]) ∧ IsN w' (.slice a l c) n ∧ Below w.heap.size w w'

set_option maxHeartbeats 1000000 in
theorem floor_any {w : World} {u v : Value} {N D : Nat} (hN : IsN w u N) (hD : IsN w v D) (fN : FitsN N) (fD : FitsN D) (h0 : 0 < D) :
    Calls Oabg.prog 141 #[u, v] w (FlPost w (N / D) (halfZ N D) (someB N D)) := by
  have T1 : Hid (∀ w', Below w.heap.size w w' → Calls Oabg.prog 102 #[u, v] w' (DmPost w' N D)) := fun w' hw => divMod_any (hN.step hw) (hD.step hw) fN fD h0
  have hml := Nat.mod_lt N h0
  have HFr : Hid (FitsN (N % D)) := fD.le (by omega)
  have HDv : Hid (∀ w', Below w.heap.size w w' → IsN w' v D) := fun w' hw => hD.step hw
  have HH : Hid (cmpZ (N % D * 2) D = halfZ N D) := rfl
  have HSm : Hid ((!decide (N % D = 0)) = someB N D) := rfl
  generalize halfZ N D = hf at *
  generalize someB N D = sm at *
  clear hN hD fN fD h0 hml
  go_enter Oabg.func141, Oabg.ntmps141
  go_wp2_with fail
  go_at_call 102
  have hV := HVar.start w 0 false
  have hB := (Below.refl w.heap.size w).alloc (Nat.le_refl _) (.cells #[.int .i8 0, .bool false] 136)
  obtain ⟨W, hW⟩ : ∃ W, W = w.alloc (.cells #[.int .i8 0, .bool false] 136) := ⟨_, rfl⟩
  rw [← hW] at hV hB ⊢
  clear hW
  refine (T1.out _ hB).mono ?_
  rintro ee w1 ⟨q, r, rfl, hq, hr, hb⟩
  obtain ⟨a1, n1, c1, rfl⟩ := hq.shape
  obtain ⟨a2, n2, c2, rfl⟩ := hr.shape
  have hV1 := hV.step hb
  have hB1 := below_step hB (Nat.le_of_lt hV.size) hb
  have hnq := fun w' => neq48 w' a2 n2 c2
  rw [hr.some_iff, HSm.out] at hnq
  have HQ : Hid (IsN w1 (.slice a1 n1 c1) (N / D)) := hq
  have HRr : Hid (IsN w1 (.slice a2 n2 c2) (N % D)) := hr
  clear hq hr hb hV hB
  go_wp2_with fail
  go_at_call 93
  refine (shl_any (k := 1) HRr.out HFr.out (by omega)).mono ?_
  rintro ee w2 ⟨x, rfl, hx, hb⟩
  obtain ⟨a3, n3, c3, rfl⟩ := hx.shape
  rw [Nat.pow_one] at hx
  have hV2 := hV1.step hb
  have hB2 := below_step hB1 (Nat.le_of_lt hV1.size) hb
  have HQ2 : Hid (IsN w2 (.slice a1 n1 c1) (N / D)) := HQ.out.step hb
  have HX : Hid (IsN w2 (.slice a3 n3 c3) (N % D * 2)) := hx
  clear hx hb hV1 hB1 HQ HRr
  go_wp2_with fail
  go_at_call 77
  refine (cmp_any HX.out (HDv.out _ hB2)).mono ?_
  rintro ee w3 ⟨rfl, hb⟩
  rw [HH.out]
  obtain ⟨r0, r1, rf, rs, HV⟩ := (hV2.step hb).all
  have HB : Hid (Below w.heap.size w w3) := below_step hB2 (Nat.le_of_lt hV2.size) hb
  have HQ3 : Hid (IsN w3 (.slice a1 n1 c1) (N / D)) := HQ2.out.step hb
  clear hV2 hB2 hb HX HQ2
  go_wp2
  exact bodyPost_ret (v := .tuple #[.slice a1 n1 c1, .agg #[.int .i8 hf, .bool sm]]) (by simp [results, Oabg.results141, go_sem, r0, r1]) rfl ⟨a1, n1, c1, rfl, HQ3.out.setH HV.out, below_set2 HB.out (Nat.le_refl _)⟩

end Go.Proofs.Ygcoab
