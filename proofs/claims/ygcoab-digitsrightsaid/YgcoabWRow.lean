import Derived.Test.YgcoabWWholeA
import Derived.Laws.Tables
import Derived.Laws.Rows
namespace Go.Proofs.Ygcoab
open Go.RowKit

theorem info151s : (Oabg.prog.info? 151).map (·.size) = some 21 := by kernel_rfl
theorem info112s : (Oabg.prog.info? 112).map (·.size) = some 1445 := by kernel_rfl

theorem under_of {T : Nat} (h : (Oabg.prog.underlying T).map (fun d => (match d with | .struct _ | .array _ _ => true | _ => false)) = some true) :
    ∃ d, Oabg.prog.underlying T = some d ∧ (match d with | .struct _ | .array _ _ => true | _ => false) = true := by
  cases hq : Oabg.prog.underlying T with
  | none => simp [hq] at h
  | some d =>
    rw [hq] at h
    exact ⟨d, rfl, Option.some.inj h⟩

theorem under151 : ∃ d, Oabg.prog.underlying 151 = some d ∧ (match d with | .struct _ | .array _ _ => true | _ => false) = true := under_of (by kernel_rfl)
theorem under112 : ∃ d, Oabg.prog.underlying 112 = some d ∧ (match d with | .struct _ | .array _ _ => true | _ => false) = true := under_of (by kernel_rfl)

theorem Blk.setRow {X T : Nat} {C C' : Array Value} {W : World} (h : Blk X T C W) : Blk X T C' (W.setRow X C') := ⟨setRow_heap W X C C' T (0, 0) h.row⟩

theorem below_setRow {B X : Nat} {w W : World} {C : Array Value} (h : Below B w W) (hX : B ≤ X) : Below B w (W.setRow X C) := by
  refine ⟨h.os, h.tape, h.output, ?_, fun j hj => ?_⟩
  · show w.heap.size ≤ (W.heap.modify X _).size
    rw [Array.size_modify]
    exact h.size
  · show (W.heap.modify X _)[j]? = _
    rw [Array.getElem?_modify, if_neg (by omega)]
    exact h.block j hj

theorem all_int {C : Array Value} (h : ∀ j, j < C.size → ∃ k x, C[j]? = some (.int k x)) : C.all (·.oneCell') = true := by
  rw [Array.all_eq_true]
  intro i hi
  obtain ⟨k, x, hx⟩ := h i hi
  rw [Array.getElem?_eq_getElem hi] at hx
  rw [Option.some.inj hx]
  rfl

theorem GrC.all {C : Array Value} {h : Nat → Nat} {n : Nat} (H : GrC C h n) : C.all (·.oneCell') = true := all_int fun j hj => by
  have hs := H.size
  by_cases h20 : j = 20
  · subst h20
    exact ⟨_, _, H.cn⟩
  · exact ⟨_, _, H.cell j (by omega)⟩

end Go.Proofs.Ygcoab
