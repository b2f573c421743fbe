import Derived.Test.YgcoabWMul
import Derived.Test.YgcoabWAdd
import Derived.Laws.CopyRow
import Derived.Deep.WholeRow
import Derived.OpenShut
namespace Go.Proofs.Ygcoab
open Go.RowKit

/-- n limbs of f in a row of L -/
def limbsA (f : Nat → Nat) (n L : Nat) : Array Value := ((List.range n).map (fun j => Value.int .u32 (f j : Nat)) ++ List.replicate (L - n) (Value.int .u32 0)).toArray

theorem limbsA_row {f : Nat → Nat} {n L : Nat} (h : n ≤ L) (hf : ∀ j, j < n → f j < 4294967296) : RowIs (limbsA f n L) L (padL f n) := by
  refine ⟨by simp [limbsA]; omega, fun j hj => ?_, pad_lt hf⟩
  unfold limbsA padL
  by_cases hc : j < n
  · rw [if_pos hc]
    simp [List.getElem?_append, hc]
  · rw [if_neg hc, List.getElem?_toArray, List.getElem?_append_right (by simp; omega)]
    simp only [List.length_map, List.length_range, List.getElem?_replicate]
    rw [if_pos (by omega)]
    rfl

theorem size145 : (Oabg.prog.info? 145).map (·.size) = some 1 := by kernel_rfl

theorem copy48 (w : World) (ty : TypeId) (b off n c L : Nat) (f : Nat → Nat) (hL : n ≤ L) (hb : b < w.heap.size) (hf : ∀ j, j < n → w.cell? ⟨b, off + j, none⟩ = some (.int .u32 (f j : Nat))) :
    (Builtin.copy_ #[48, 48] ty #[.slice (some ⟨w.heap.size, 0, none⟩) L L, .slice (some ⟨b, off, none⟩) n c]).run Oabg.prog (w.alloc (.cells (Array.replicate L (.int .u32 0)) 145)) =
      .ok (goInt n) (w.alloc (.cells (limbsA f n L) 145)) := by
  have := run_copy_row (P := Oabg.prog) (w.alloc (.cells (Array.replicate L (.int .u32 0)) 145)) 48 48 ty 145 w.heap.size 0 L L ⟨b, off, none⟩ n c (Array.replicate L (.int .u32 0)) 145 ((List.range n).map (fun j => Value.int .u32 (f j : Nat)))
    Oabg.underlying48 size145 (by show (w.heap.push _)[w.heap.size]? = _; simp) (by rw [List.length_map, List.length_range]; exact (Nat.min_eq_left hL).symm) (fun j v hv => ?_) (by simp; omega) (fun v hv => ?_)
  · simp only [List.length_map, List.length_range] at this
    rw [this, World.setRow_alloc_new]
    have e : (List.take 0 (Array.replicate L (Value.int IntKind.u32 0)).toList ++ List.map (fun j => Value.int IntKind.u32 (f j : Nat)) (List.range n) ++ List.drop (0 + n) (Array.replicate L (Value.int IntKind.u32 0)).toList).toArray = limbsA f n L := by
      unfold limbsA
      simp
    rw [e]
  · have hj : j < n := by
      by_cases hj : j < n
      · exact hj
      · simp [hj] at hv
    simp [hj] at hv
    have := (below_alloc w (.cells (Array.replicate L (.int .u32 0)) 145)).cell (p := ⟨b, off + j, none⟩) hb
    rw [Go.WideShapes.add_plain, this, hf j hj, ← hv]
  · simp at hv
    obtain ⟨j, _, rfl⟩ := hv
    rfl

theorem isN_row {C : Array Value} {L : Nat} {g : Nat → Nat} (h : RowIs C L g) (w : World) (hL : 0 < L) (hc : L ≤ 1000000000) (ht : g (L - 1) ≠ 0) : IsN (w.alloc (.cells C 145)) (.slice (some ⟨w.heap.size, 0, none⟩) L L) (nv g L) :=
  .inr ⟨w.heap.size, 0, L, L, g, rfl, hL, Nat.le_refl _, hc, ht, fun j _ => h.2.2 j, fun j hj => by rw [Nat.zero_add]; exact h.cell w j hj, by simp [go_sem], rfl⟩

set_option maxHeartbeats 1000000 in
set_option maxRecDepth 100000 in
theorem take_some (b off n c : Nat) (f : Nat → Nat) (w : World) (hn : 0 < n) (hl : n ≤ 100000) (hA : IsN w (.slice (some ⟨b, off, none⟩) n c) (nv f n)) (h5 : f (n - 1) ≠ 0)
    (hf : ∀ j, j < n → w.cell? ⟨b, off + j, none⟩ = some (.int .u32 (f j : Nat))) (hfl : ∀ j, j < n → f j < 4294967296) (hb : b < w.heap.size) :
    Calls Oabg.prog 144 #[.slice (some ⟨b, off, none⟩) n c] w fun e w' => ∃ v, e = .returned v ∧ IsN w' v (nv f n) ∧ Below w.heap.size w w' := by
  have H1 : Hid (∀ w', w' = w → Calls Oabg.prog 106 #[.slice (some ⟨b, off, none⟩) n c] w' fun e w'' => e = .returned (.slice (some ⟨b, off, none⟩) n c) ∧ w'' = w') := fun w' hw => by subst hw; exact trim_same hA
  have hnil := fun w => nil48 w (some ⟨b, off, none⟩) n c
  simp only [Option.isNone_some] at hnil
  have hmk := fun w => make48 w (n : Int) n (by omega) (by omega)
  have hcp := fun ty => copy48 w ty b off n c n f (Nat.le_refl _) hb hf
  have HN : Hid (IsN (w.alloc (.cells (limbsA f n n) 145)) (.slice (some ⟨w.heap.size, 0, none⟩) n n) (nv f n)) := by
    have h := isN_row (limbsA_row (f := f) (Nat.le_refl n) hfl) w hn (by omega) (by unfold padL; rw [if_pos (by omega)]; exact h5)
    rw [nv_pad (Nat.le_refl _)] at h
    exact h
  clear hA hf hfl h5
  go_enter Oabg.func144, Oabg.ntmps144
  go_wp2_with (go_at_call 106; refine (H1.out _ rfl).mono ?_; rintro e w' ⟨rfl, hq⟩; obtain rfl := hq.symm)
  go_ret
  exact ⟨_, rfl, HN.out, (Below.refl _ _).alloc (Nat.le_refl _) _⟩

theorem take_nil (w : World) : Calls Oabg.prog 144 #[.slice none 0 0] w fun e w' => ∃ v, e = .returned v ∧ IsN w' v 0 ∧ Below w.heap.size w w' := by
  have hnil := fun w => nil48 w none 0 0
  simp only [Option.isNone_none] at hnil
  go_enter Oabg.func144, Oabg.ntmps144
  go_wp2_with (go_at_call 106; refine (trim_nil _).mono ?_; rintro e w' ⟨rfl, hq⟩; obtain rfl := hq.symm)
  go_ret
  exact ⟨_, rfl, .inl ⟨rfl, rfl⟩, Below.refl _ _⟩

/-- Take: a copy -/
theorem take_any {w : World} {u : Value} {A : Nat} (hA : IsN w u A) (fA : FitsN A) :
    Calls Oabg.prog 144 #[u] w fun e w' => ∃ r, e = .returned r ∧ IsN w' r A ∧ Below w.heap.size w w' := by
  have hA' := hA
  rcases hA with ⟨rfl, rfl⟩ | ⟨b, off, n, cap, f, rfl, h2, h3, h4, h5, h6, h7, h8, rfl⟩
  · exact take_nil w
  · exact take_some b off n cap f w h2 (fA.len h2 h5) hA' h5 h7 h6 h8

end Go.Proofs.Ygcoab
