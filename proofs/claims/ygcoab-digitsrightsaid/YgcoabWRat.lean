import Derived.Test.YgcoabWLift
import Derived.Test.YgcoabWUnpack2
namespace Go.Proofs.Ygcoab
open Go.RowKit

theorem IsN.shape {w : World} {v : Value} {N : Nat} (h : IsN w v N) : ∃ a n c, v = .slice a n c := by
  rcases h with ⟨_, rfl⟩ | ⟨b, off, n, cap, f, rfl, _⟩
  · exact ⟨_, _, _, rfl⟩
  · exact ⟨_, _, _, rfl⟩

/-- v is the fraction N/D with the sign neg, in the world w -/
def RatAt (w : World) (v : Value) (neg : Bool) (N D : Nat) : Prop := ∃ a n c a' n' c', v = .agg #[.bool neg, .slice a n c, .slice a' n' c'] ∧ IsN w (.slice a n c) N ∧ IsN w (.slice a' n' c') D

theorem RatAt.step {w w' : World} {v : Value} {neg : Bool} {N D : Nat} (h : RatAt w v neg N D) (hb : Below w.heap.size w w') : RatAt w' v neg N D := by
  obtain ⟨a, n, c, a', n', c', h1, h2, h3⟩ := h
  exact ⟨a, n, c, a', n', c', h1, h2.step hb, h3.step hb⟩

theorem isN_nil (w : World) : IsN w (.slice none 0 0) 0 := .inl ⟨rfl, rfl⟩

theorem below_set3 {B b : Nat} {a w : World} {v0 v1 v2 : Value} (h : Below B a w) (hb : B ≤ b) :
    Below B a (((w.setCell ⟨b, 0, none⟩ v0).setCell ⟨b, 1, none⟩ v1).setCell ⟨b, 2, none⟩ v2) :=
  ((h.setCell (p := ⟨b, 0, none⟩) hb v0).setCell (p := ⟨b, 1, none⟩) hb v1).setCell (p := ⟨b, 2, none⟩) hb v2

theorem cell_set_ne (w : World) (R o b i : Nat) (u : Value) (h : ¬ (b = R ∧ i = o)) : (w.setCell ⟨R, o, none⟩ u).cell? ⟨b, i, none⟩ = w.cell? ⟨b, i, none⟩ := by
  have := World.cell?_setCells_out R [u] o w ⟨b, i, none⟩ (fun (h1 : b = R) _ => by
    show i < o ∨ o + 1 ≤ i
    by_cases h2 : i = o
    · exact absurd ⟨h1, h2⟩ h
    · omega)
  exact this

theorem IsN.set {w : World} {v z u : Value} {N R o : Nat} (h : IsN w v N) (hz : w.cell? ⟨R, o, none⟩ = some z) (hn : ∀ x, z ≠ .int .u32 x) : IsN (w.setCell ⟨R, o, none⟩ u) v N := by
  rcases h with h | ⟨b, off, n, cap, f, h1, h2, h3, h4, h5, h6, h7, h8, h9⟩
  · exact .inl h
  · refine .inr ⟨b, off, n, cap, f, h1, h2, h3, h4, h5, h6, fun j hj => ?_, Nat.lt_of_lt_of_le h8 (((Below.refl 0 w).setCell (p := ⟨R, o, none⟩) (Nat.zero_le _) u).size), h9⟩
    rw [cell_set_ne w R o b (off + j) u (fun ⟨e1, e2⟩ => ?_)]
    · exact h7 j hj
    · have := h7 j hj
      rw [e1, e2, hz] at this
      exact hn _ (Option.some.inj this)

theorem IsN.set3 {w : World} {v z0 z1 z2 u0 u1 u2 : Value} {N R : Nat} (h : IsN w v N) (h0 : w.cell? ⟨R, 0, none⟩ = some z0) (h1 : w.cell? ⟨R, 1, none⟩ = some z1) (h2 : w.cell? ⟨R, 2, none⟩ = some z2)
    (n0 : ∀ x, z0 ≠ .int .u32 x) (n1 : ∀ x, z1 ≠ .int .u32 x) (n2 : ∀ x, z2 ≠ .int .u32 x) : IsN (((w.setCell ⟨R, 0, none⟩ u0).setCell ⟨R, 1, none⟩ u1).setCell ⟨R, 2, none⟩ u2) v N := by
  refine ((h.set h0 n0).set (z := z1) ?_ n1).set (z := z2) ?_ n2
  · rw [cell_set_ne _ _ _ _ _ _ (by omega)]; exact h1
  · rw [cell_set_ne _ _ _ _ _ _ (by omega), cell_set_ne _ _ _ _ _ _ (by omega)]; exact h2

/-- a fraction's variable in block R -/
structure RVar (R : Nat) (w : World) : Prop where
  r0 : w.cell? ⟨R, 0, none⟩ = some (.bool false)
  r1 : w.cell? ⟨R, 1, none⟩ = some (.slice none 0 0)
  r2 : w.cell? ⟨R, 2, none⟩ = some (.slice none 0 0)
  rf : ∀ o, w.frozen? ⟨R, o, none⟩ = false
  size : R < w.heap.size

theorem RVar.start (w : World) : RVar w.heap.size (w.alloc (.cells #[.bool false, .slice none 0 0, .slice none 0 0] 50)) :=
  ⟨by simp [go_sem], by simp [go_sem], by simp [go_sem], fun o => by simp [go_sem], by simp [go_sem]⟩

theorem RVar.step {R : Nat} {w w' : World} (h : RVar R w) (hb : Below w.heap.size w w') : RVar R w' :=
  have k := fun o => hb.cell (p := ⟨R, o, none⟩) h.size
  ⟨(k 0).trans h.r0, (k 1).trans h.r1, (k 2).trans h.r2, fun o => (hb.frozen (p := ⟨R, o, none⟩) h.size).trans (h.rf o), Nat.lt_of_lt_of_le h.size hb.size⟩

theorem RVar.all {R : Nat} {w : World} (h : RVar R w) : w.cell? ⟨R, 0, none⟩ = some (.bool false) ∧ w.cell? ⟨R, 1, none⟩ = some (.slice none 0 0) ∧ w.cell? ⟨R, 2, none⟩ = some (.slice none 0 0) ∧ (∀ o, w.frozen? ⟨R, o, none⟩ = false) ∧ R < w.heap.size ∧ Hid (RVar R w) :=
  ⟨h.r0, h.r1, h.r2, h.rf, h.size, h⟩

theorem IsN.setR {R : Nat} {w : World} {v u0 u1 u2 : Value} {N : Nat} (h : IsN w v N) (k : RVar R w) : IsN (((w.setCell ⟨R, 0, none⟩ u0).setCell ⟨R, 1, none⟩ u1).setCell ⟨R, 2, none⟩ u2) v N :=
  h.set3 k.r0 k.r1 k.r2 (fun _ h => by cases h) (fun _ h => by cases h) (fun _ h => by cases h)

set_option maxHeartbeats 400000 in
theorem whole_any {w : World} {v : Value} {N : Nat} (neg : Bool) (h : IsN w v N) :
    Calls Oabg.prog 67 #[.bool neg, v] w fun e w' => ∃ r, e = .returned r ∧ RatAt w' r neg N 1 ∧ Below w.heap.size w w' := by
  obtain ⟨a, n, c, rfl⟩ := h.shape
  have H : Hid (IsN w (.slice a n c) N) := h
  clear h
  go_enter Oabg.func67, Oabg.ntmps67
  go_wp2_with fail
  go_at_call 69
  have hR := RVar.start w
  have hB := (Below.refl w.heap.size w).alloc (Nat.le_refl _) (.cells #[.bool false, .slice none 0 0, .slice none 0 0] 50)
  obtain ⟨W, hW⟩ : ∃ W, W = w.alloc (.cells #[.bool false, .slice none 0 0, .slice none 0 0] 50) := ⟨_, rfl⟩
  rw [← hW] at hR hB ⊢
  have HN : Hid (IsN W (.slice a n c) N) := H.out.step hB
  clear hW
  refine (fromU64_any 1 (by omega) _).mono ?_
  rintro e w1 ⟨u, rfl, hu, hb⟩
  obtain ⟨a', n', c', rfl⟩ := hu.shape
  have HU : Hid (IsN w1 (.slice a' n' c') 1) := hu
  obtain ⟨r0, r1, r2, rf, rs, HR⟩ := (hR.step hb).all
  have HN1 : Hid (IsN w1 (.slice a n c) N) := HN.out.step hb
  have HB : Hid (Below w.heap.size w w1) := below_step hB (Nat.le_of_lt hR.size) hb
  clear hu hb hR hB
  go_wp2
  exact bodyPost_ret (v := .agg #[.bool neg, .slice a n c, .slice a' n' c']) (by simp [results, Oabg.results67, go_sem, r0, r1, r2]) rfl ⟨_, rfl, ⟨a, n, c, a', n', c', rfl, HN1.out.setR HR.out, HU.out.setR HR.out⟩, below_set3 HB.out (Nat.le_refl _)⟩

end Go.Proofs.Ygcoab
