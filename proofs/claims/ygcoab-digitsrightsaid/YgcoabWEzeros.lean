import Derived.Test.YgcoabWRow
import Derived.Test.YgcoabWItoa
import Derived.Test.YgcoabPlainDigZ
import Derived.Deep.WholeRow
namespace Go.Proofs.Ygcoab
open Go.RowKit

structure U8C (C : Array Value) (L : Nat) (f : Nat → Nat) : Prop where
  size : C.size = L
  cell : ∀ j, j < L → C[j]? = some (.int .u8 (f j : Nat))

theorem U8C.put {C : Array Value} {L : Nat} {f : Nat → Nat} (h : U8C C L f) (i x : Nat) : U8C (C.setIfInBounds i (.int .u8 (x : Int))) L (upd f i x) := by
  refine ⟨by rw [Array.size_setIfInBounds]; exact h.size, fun j hj => ?_⟩
  rw [Array.getElem?_setIfInBounds]
  unfold upd
  by_cases hji : i = j
  · rw [if_pos hji, if_pos (by rw [h.size]; omega), if_pos hji.symm]
  · rw [if_neg hji, if_neg (by omega)]
    exact h.cell j hj

theorem U8C.zero (L : Nat) : U8C (Array.replicate L (.int .u8 0)) L (fun _ => 0) :=
  ⟨by simp, fun j hj => by rw [Array.getElem?_replicate, if_pos hj]; rfl⟩

/-- a row of bytes in block R, the rest below B as in w -/
structure RbAt (w : World) (B R T L : Nat) (f : Nat → Nat) (W : World) : Prop where
  r : ∃ C, Blk R T C W ∧ U8C C L f
  below : Below B w W
  hB : B ≤ R

theorem RbAt.at {w W : World} {B R T L : Nat} {f : Nat → Nat} (h : RbAt w B R T L f W) {j : Nat} (hj : j < L) : W.cell? ⟨R, j, none⟩ = some (.int .u8 (f j : Nat)) := by
  obtain ⟨C, h1, h2⟩ := h.r
  exact (h1.cell _).trans (h2.cell j hj)

theorem RbAt.fr {w W : World} {B R T L : Nat} {f : Nat → Nat} (h : RbAt w B R T L f W) (j : Nat) : W.frozen? ⟨R, j, none⟩ = false := by
  obtain ⟨C, h1, h2⟩ := h.r
  exact h1.frozen _

theorem RbAt.put {w W : World} {B R T L : Nat} {f : Nat → Nat} (h : RbAt w B R T L f W) (i x : Nat) : RbAt w B R T L (upd f i x) (W.setCell ⟨R, i, none⟩ (.int .u8 (x : Int))) := by
  obtain ⟨C, h1, h2⟩ := h.r
  exact ⟨⟨_, h1.put _ _, h2.put i x⟩, below_set h.below h.hB _ _, h.hB⟩

theorem RbAt.start (w : World) (T L : Nat) : RbAt w w.heap.size w.heap.size T L (fun _ => 0) (w.alloc (.cells (Array.replicate L (.int .u8 0)) T)) :=
  ⟨⟨_, Blk.start w _ T, U8C.zero L⟩, below_alloc _ _, Nat.le_refl _⟩

theorem zero147 (w : World) : (zeroValue 147).run Oabg.prog w = .ok (.agg (Array.replicate 4096 (.int .u8 0))) w :=
  (zero_of_info (P := Oabg.prog) (t := 147) (v := .agg (Array.replicate 4096 (.int .u8 0))) (n := 4096) (by kernel_rfl)).1 w

theorem len147 : Oabg.prog.arrayLen 147 = 4096 := by kernel_rfl
theorem elem147 : Oabg.prog.elem 147 = 5 := by kernel_rfl
theorem under147 : Oabg.prog.underlying 147 = some (.array (Oabg.prog.arrayLen 147) (Oabg.prog.elem 147)) := by kernel_rfl

theorem slice4096 (b k : Nat) (hk : k ≤ 4096) (w : World) : (Instr.sliceAt 147 (.pointer (some ⟨b, 0, none⟩)) none (some (.int .i64 (k : Int))) none).run Oabg.prog w = .ok (.slice (some ⟨b, 0, none⟩) k 4096) w := by
  rw [run_sliceAt_array_h w 147 _ under147 .i64 k (by omega) (by rw [len147]; omega), len147, elem147, size5]
  simp [Result.andThen, slicedAt, Addr.add]

set_option maxHeartbeats 1000000 in
set_option maxRecDepth 100000 in
theorem ezeros_none (n : Int) (hn : n ≤ 0) (w : World) :
    Calls Oabg.prog 79 #[.int .i64 n] w fun e w' => e = .returned (.string { data := #[] }) ∧ Below w.heap.size w w' := by
  have hd : decide (n ≤ 0) = true := decide_eq_true hn
  go_enter Oabg.func79, Oabg.ntmps79
  go_wp2
  go_ret
  exact ⟨rfl, Below.refl _ _⟩

set_option maxHeartbeats 1000000 in
set_option maxRecDepth 100000 in
theorem ezeros_some (n : Nat) (hn : 0 < n) (hn2 : n ≤ 4096) (w : World) :
    Calls Oabg.prog 79 #[.int .i64 n] w fun e w' => e = .returned (.string (zerosB n)) ∧ Below w.heap.size w w' := by
  have hd : decide ((n : Int) ≤ 0) = false := decide_eq_false (by omega)
  have hz := zero147
  go_enter Oabg.func79, Oabg.ntmps79
  have hn0 : ¬ n = 0 := by omega
  have hI := RbAt.start w 147 4096
  go_wp2_with fail
  obtain ⟨W1, hW1⟩ : ∃ W1, W1 = w.alloc (.cells (Array.replicate 4096 (.int .u8 0)) 147) := ⟨_, rfl⟩
  rw [← hW1] at hI
  rw [← hW1]
  clear hW1 hz
  go_loopg [4, 7] 4096 (fun m _ s7 wr => ∃ i f, s7 = .int .i64 (i : Nat) ∧ RbAt w w.heap.size w.heap.size 147 4096 f wr ∧ (∀ j, j < i → f j = 48) ∧ i ≤ 4096 ∧ 4096 - i ≤ m)
  case atStart => exact ⟨0, _, rfl, hI, fun j hj => by omega, by omega, by omega⟩
  case round =>
    obtain ⟨i, f, rfl, hR, h48, hi, him⟩ := hrel
    clear hI
    by_cases hlt : i < 4096
    · have hdl : decide ((i : Int) < 4096) = true := decide_eq_true (by omega)
      have ci := hR.at hlt
      have fi := hR.fr i
      have HR : Hid (RbAt w w.heap.size w.heap.size 147 4096 (upd f i 48) (wr.setCell ⟨w.heap.size, i, none⟩ (.int .u8 48))) := hR.put i 48
      have H48 : Hid (∀ j, j < i + 1 → upd f i 48 j = 48) := fun j hj => by
        unfold upd
        split
        · rfl
        · exact h48 j (by omega)
      have hm : 4096 - (i + 1) < gk := by omega
      clear hR h48 him
      go_wp2
      go_roundg (4096 - (i + 1))
      case measure => exact hm
      case rel => exact ⟨i + 1, _, by simp, HR.out, H48.out, by omega, Nat.le_refl _⟩
    · have hdl : decide ((i : Int) < 4096) = false := decide_eq_false (by omega)
      have hie : i = 4096 := by omega
      subst hie
      have hsl := fun W => slice4096 w.heap.size n hn2 W
      have hcv : (convert 83 9 (.slice (some ⟨w.heap.size, 0, none⟩) n 4096)).run Oabg.prog wr = .ok (.string (strOfNums (List.replicate n 48))) wr :=
        string_of w.heap.size 0 (List.replicate n 48) n 4096 wr (by simp) (fun j hj => by
          rw [Nat.zero_add, hR.at (by omega), h48 j (by omega), List.getD_eq_getElem?_getD, List.getElem?_replicate, if_pos hj]
          rfl)
      have hmin : (if (n : Int) < 4096 then (n : Int) else 4096) = (n : Nat) := by
        split <;> omega
      have HB : Hid (Below w.heap.size w wr) := hR.below
      clear hR h48 him
      go_wp2
      go_ret
      exact ⟨rfl, HB.out⟩

end Go.Proofs.Ygcoab
