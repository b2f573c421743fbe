import Derived.Test.YgcoabWDivTen
import Derived.Test.YgcoabWBlk
import Derived.Test.YgcoabPlainWhole
namespace Go.Proofs.Ygcoab
open Go.RowKit

structure U64C (C : Array Value) (L : Nat) (f : Nat → Nat) : Prop where
  size : C.size = L
  cell : ∀ j, j < L → C[j]? = some (.int .u64 (f j : Nat))

structure GrC (C : Array Value) (h : Nat → Nat) (n : Nat) : Prop where
  size : C.size = 21
  cell : ∀ j, j < 20 → C[j]? = some (.int .u64 (h j : Nat))
  cn : C[20]? = some (.int .i64 (n : Int))

theorem U64C.put {C : Array Value} {L : Nat} {f : Nat → Nat} (h : U64C C L f) (i x : Nat) : U64C (C.setIfInBounds i (.int .u64 (x : Int))) L (upd f i x) := by
  refine ⟨by rw [Array.size_setIfInBounds]; exact h.size, fun j hj => ?_⟩
  rw [Array.getElem?_setIfInBounds]
  unfold upd
  by_cases hji : i = j
  · rw [if_pos hji, if_pos (by rw [h.size]; omega), if_pos hji.symm]
  · rw [if_neg hji, if_neg (by omega)]
    exact h.cell j hj

theorem GrC.put {C : Array Value} {f : Nat → Nat} {n : Nat} (h : GrC C f n) {i : Nat} (hi : i < 20) (x : Nat) : GrC (C.setIfInBounds i (.int .u64 (x : Int))) (upd f i x) n := by
  refine ⟨by rw [Array.size_setIfInBounds]; exact h.size, fun j hj => ?_, ?_⟩
  · rw [Array.getElem?_setIfInBounds]
    unfold upd
    by_cases hji : i = j
    · rw [if_pos hji, if_pos (by rw [h.size]; omega), if_pos hji.symm]
    · rw [if_neg hji, if_neg (by omega)]
      exact h.cell j hj
  · rw [Array.getElem?_setIfInBounds, if_neg (by omega)]
    exact h.cn

theorem GrC.putN {C : Array Value} {f : Nat → Nat} {n : Nat} (h : GrC C f n) (x : Nat) : GrC (C.setIfInBounds 20 (.int .i64 (x : Int))) f x := by
  refine ⟨by rw [Array.size_setIfInBounds]; exact h.size, fun j hj => ?_, ?_⟩
  · rw [Array.getElem?_setIfInBounds, if_neg (by omega)]
    exact h.cell j hj
  · rw [Array.getElem?_setIfInBounds, if_pos rfl, if_pos (by rw [h.size]; omega)]

/-- the array w in block X, the rest as it was -/
structure WwAt (w : World) (f : Nat → Nat) (W : World) : Prop where
  r4 : Blk w.heap.size 151 #[.int .u64 0, .int .u64 0, .int .u64 0, .int .u64 0, .int .u64 0, .int .u64 0, .int .u64 0, .int .u64 0, .int .u64 0, .int .u64 0, .int .u64 0, .int .u64 0, .int .u64 0, .int .u64 0, .int .u64 0, .int .u64 0, .int .u64 0, .int .u64 0, .int .u64 0, .int .u64 0, .int .i64 0] W
  rw : ∃ C, Blk (w.heap.size + 1) 188 C W ∧ U64C C 18 f
  below : Below w.heap.size w W

theorem WwAt.at {w W : World} {f : Nat → Nat} (h : WwAt w f W) {j : Nat} (hj : j < 18) : W.cell? ⟨w.heap.size + 1, j, none⟩ = some (.int .u64 (f j : Nat)) := by
  obtain ⟨C, h1, h2⟩ := h.rw
  exact (h1.cell _).trans (h2.cell j hj)

theorem WwAt.fr {w W : World} {f : Nat → Nat} (h : WwAt w f W) (j : Nat) : W.frozen? ⟨w.heap.size + 1, j, none⟩ = false := by
  obtain ⟨C, h1, h2⟩ := h.rw
  exact h1.frozen _

theorem WwAt.put {w W : World} {f : Nat → Nat} (h : WwAt w f W) (i x : Nat) : WwAt w (upd f i x) (W.setCell ⟨w.heap.size + 1, i, none⟩ (.int .u64 (x : Int))) := by
  obtain ⟨C, h1, h2⟩ := h.rw
  exact ⟨h.r4.other _ _ (by omega), ⟨_, h1.put _ _, h2.put i x⟩, below_set h.below (by omega) _ _⟩

theorem WwAt.size {w W : World} {f : Nat → Nat} (h : WwAt w f W) : w.heap.size + 1 < W.heap.size := by
  obtain ⟨C, h1, h2⟩ := h.rw
  exact h1.size

theorem WwAt.step {w W W' : World} {f : Nat → Nat} (h : WwAt w f W) (hb : Below W.heap.size W W') : WwAt w f W' := by
  have hs := h.size
  obtain ⟨C, h1, h2⟩ := h.rw
  exact ⟨h.r4.step hb h.r4.size, ⟨C, h1.step hb h1.size, h2⟩, below_step h.below (by omega) hb⟩

theorem u64c_zero : U64C #[.int .u64 0, .int .u64 0, .int .u64 0, .int .u64 0, .int .u64 0, .int .u64 0, .int .u64 0, .int .u64 0, .int .u64 0, .int .u64 0, .int .u64 0, .int .u64 0, .int .u64 0, .int .u64 0, .int .u64 0, .int .u64 0, .int .u64 0, .int .u64 0] 18 (fun _ => 0) := ⟨rfl, fun j hj => by
  match j, hj with
  | 0, _ => rfl
  | 1, _ => rfl
  | 2, _ => rfl
  | 3, _ => rfl
  | 4, _ => rfl
  | 5, _ => rfl
  | 6, _ => rfl
  | 7, _ => rfl
  | 8, _ => rfl
  | 9, _ => rfl
  | 10, _ => rfl
  | 11, _ => rfl
  | 12, _ => rfl
  | 13, _ => rfl
  | 14, _ => rfl
  | 15, _ => rfl
  | 16, _ => rfl
  | 17, _ => rfl
  | (i + 18), hj => omega⟩

theorem grc_zero : GrC #[.int .u64 0, .int .u64 0, .int .u64 0, .int .u64 0, .int .u64 0, .int .u64 0, .int .u64 0, .int .u64 0, .int .u64 0, .int .u64 0, .int .u64 0, .int .u64 0, .int .u64 0, .int .u64 0, .int .u64 0, .int .u64 0, .int .u64 0, .int .u64 0, .int .u64 0, .int .u64 0, .int .i64 0] (fun _ => 0) 0 := ⟨rfl, fun j hj => by
  match j, hj with
  | 0, _ => rfl
  | 1, _ => rfl
  | 2, _ => rfl
  | 3, _ => rfl
  | 4, _ => rfl
  | 5, _ => rfl
  | 6, _ => rfl
  | 7, _ => rfl
  | 8, _ => rfl
  | 9, _ => rfl
  | 10, _ => rfl
  | 11, _ => rfl
  | 12, _ => rfl
  | 13, _ => rfl
  | 14, _ => rfl
  | 15, _ => rfl
  | 16, _ => rfl
  | 17, _ => rfl
  | 18, _ => rfl
  | 19, _ => rfl
  | (i + 20), hj => omega, rfl⟩

theorem WwAt.start (w : World) : WwAt w (fun _ => 0) ((w.alloc (.cells #[.int .u64 0, .int .u64 0, .int .u64 0, .int .u64 0, .int .u64 0, .int .u64 0, .int .u64 0, .int .u64 0, .int .u64 0, .int .u64 0, .int .u64 0, .int .u64 0, .int .u64 0, .int .u64 0, .int .u64 0, .int .u64 0, .int .u64 0, .int .u64 0, .int .u64 0, .int .u64 0, .int .i64 0] 151)).alloc (.cells #[.int .u64 0, .int .u64 0, .int .u64 0, .int .u64 0, .int .u64 0, .int .u64 0, .int .u64 0, .int .u64 0, .int .u64 0, .int .u64 0, .int .u64 0, .int .u64 0, .int .u64 0, .int .u64 0, .int .u64 0, .int .u64 0, .int .u64 0, .int .u64 0] 188)) := by
  have h1 := Blk.start w #[.int .u64 0, .int .u64 0, .int .u64 0, .int .u64 0, .int .u64 0, .int .u64 0, .int .u64 0, .int .u64 0, .int .u64 0, .int .u64 0, .int .u64 0, .int .u64 0, .int .u64 0, .int .u64 0, .int .u64 0, .int .u64 0, .int .u64 0, .int .u64 0, .int .u64 0, .int .u64 0, .int .i64 0] 151
  have h2 := Blk.start (w.alloc (.cells #[.int .u64 0, .int .u64 0, .int .u64 0, .int .u64 0, .int .u64 0, .int .u64 0, .int .u64 0, .int .u64 0, .int .u64 0, .int .u64 0, .int .u64 0, .int .u64 0, .int .u64 0, .int .u64 0, .int .u64 0, .int .u64 0, .int .u64 0, .int .u64 0, .int .u64 0, .int .u64 0, .int .i64 0] 151)) #[.int .u64 0, .int .u64 0, .int .u64 0, .int .u64 0, .int .u64 0, .int .u64 0, .int .u64 0, .int .u64 0, .int .u64 0, .int .u64 0, .int .u64 0, .int .u64 0, .int .u64 0, .int .u64 0, .int .u64 0, .int .u64 0, .int .u64 0, .int .u64 0] 188
  have hs : (w.alloc (.cells #[.int .u64 0, .int .u64 0, .int .u64 0, .int .u64 0, .int .u64 0, .int .u64 0, .int .u64 0, .int .u64 0, .int .u64 0, .int .u64 0, .int .u64 0, .int .u64 0, .int .u64 0, .int .u64 0, .int .u64 0, .int .u64 0, .int .u64 0, .int .u64 0, .int .u64 0, .int .u64 0, .int .i64 0] 151)).heap.size = w.heap.size + 1 := by simp [go_sem]
  have hb := below_alloc (w.alloc (.cells #[.int .u64 0, .int .u64 0, .int .u64 0, .int .u64 0, .int .u64 0, .int .u64 0, .int .u64 0, .int .u64 0, .int .u64 0, .int .u64 0, .int .u64 0, .int .u64 0, .int .u64 0, .int .u64 0, .int .u64 0, .int .u64 0, .int .u64 0, .int .u64 0, .int .u64 0, .int .u64 0, .int .i64 0] 151)) (.cells #[.int .u64 0, .int .u64 0, .int .u64 0, .int .u64 0, .int .u64 0, .int .u64 0, .int .u64 0, .int .u64 0, .int .u64 0, .int .u64 0, .int .u64 0, .int .u64 0, .int .u64 0, .int .u64 0, .int .u64 0, .int .u64 0, .int .u64 0, .int .u64 0] 188)
  rw [hs] at h2
  exact ⟨h1.step hb (by rw [hs]; omega), ⟨_, h2, u64c_zero⟩, below_step (below_alloc _ _) (by rw [hs]; omega) hb⟩

/-- the groups beside it -/
structure WgAt (w : World) (f h : Nat → Nat) (n : Nat) (W : World) : Prop where
  ww : WwAt w f W
  rg : ∃ C, Blk (w.heap.size + 2) 151 C W ∧ GrC C h n

theorem WgAt.at {w W : World} {f h : Nat → Nat} {n : Nat} (H : WgAt w f h n W) {j : Nat} (hj : j < 20) : W.cell? ⟨w.heap.size + 2, j, none⟩ = some (.int .u64 (h j : Nat)) := by
  obtain ⟨C, h1, h2⟩ := H.rg
  exact (h1.cell _).trans (h2.cell j hj)

theorem WgAt.cn {w W : World} {f h : Nat → Nat} {n : Nat} (H : WgAt w f h n W) : W.cell? ⟨w.heap.size + 2, 20, none⟩ = some (.int .i64 (n : Nat)) := by
  obtain ⟨C, h1, h2⟩ := H.rg
  exact (h1.cell _).trans h2.cn

theorem WgAt.fr {w W : World} {f h : Nat → Nat} {n : Nat} (H : WgAt w f h n W) (j : Nat) : W.frozen? ⟨w.heap.size + 2, j, none⟩ = false := by
  obtain ⟨C, h1, h2⟩ := H.rg
  exact h1.frozen _

theorem WgAt.step {w W W' : World} {f h : Nat → Nat} {n : Nat} (H : WgAt w f h n W) (hb : Below W.heap.size W W') : WgAt w f h n W' := by
  obtain ⟨C, h1, h2⟩ := H.rg
  exact ⟨H.ww.step hb, ⟨C, h1.step hb h1.size, h2⟩⟩

theorem WgAt.putW {w W : World} {f h : Nat → Nat} {n : Nat} (H : WgAt w f h n W) (i x : Nat) : WgAt w (upd f i x) h n (W.setCell ⟨w.heap.size + 1, i, none⟩ (.int .u64 (x : Int))) := by
  obtain ⟨C, h1, h2⟩ := H.rg
  exact ⟨H.ww.put i x, ⟨C, h1.other _ _ (by omega), h2⟩⟩

theorem WwAt.other {w W : World} {f : Nat → Nat} (h : WwAt w f W) (i : Nat) (v : Value) : WwAt w f (W.setCell ⟨w.heap.size + 2, i, none⟩ v) := by
  obtain ⟨C, h1, h2⟩ := h.rw
  exact ⟨h.r4.other _ _ (by omega), ⟨_, h1.other _ _ (by omega), h2⟩, below_set h.below (by omega) _ _⟩

theorem WgAt.putG {w W : World} {f h : Nat → Nat} {n : Nat} (H : WgAt w f h n W) {i : Nat} (hi : i < 20) (x : Nat) : WgAt w f (upd h i x) n (W.setCell ⟨w.heap.size + 2, i, none⟩ (.int .u64 (x : Int))) := by
  obtain ⟨C, h1, h2⟩ := H.rg
  exact ⟨H.ww.other _ _, ⟨_, h1.put _ _, h2.put hi x⟩⟩

theorem WgAt.putN {w W : World} {f h : Nat → Nat} {n : Nat} (H : WgAt w f h n W) (x : Nat) : WgAt w f h x (W.setCell ⟨w.heap.size + 2, 20, none⟩ (.int .i64 (x : Int))) := by
  obtain ⟨C, h1, h2⟩ := H.rg
  exact ⟨H.ww.other _ _, ⟨_, h1.put _ _, h2.putN x⟩⟩

theorem WwAt.groups {w W : World} {f : Nat → Nat} (h : WwAt w f W) (hs : W.heap.size = w.heap.size + 2) : WgAt w f (fun _ => 0) 0 (W.alloc (.cells #[.int .u64 0, .int .u64 0, .int .u64 0, .int .u64 0, .int .u64 0, .int .u64 0, .int .u64 0, .int .u64 0, .int .u64 0, .int .u64 0, .int .u64 0, .int .u64 0, .int .u64 0, .int .u64 0, .int .u64 0, .int .u64 0, .int .u64 0, .int .u64 0, .int .u64 0, .int .u64 0, .int .i64 0] 151)) := by
  have h1 := Blk.start W #[.int .u64 0, .int .u64 0, .int .u64 0, .int .u64 0, .int .u64 0, .int .u64 0, .int .u64 0, .int .u64 0, .int .u64 0, .int .u64 0, .int .u64 0, .int .u64 0, .int .u64 0, .int .u64 0, .int .u64 0, .int .u64 0, .int .u64 0, .int .u64 0, .int .u64 0, .int .u64 0, .int .i64 0] 151
  rw [hs] at h1
  exact ⟨h.step (below_alloc _ _), ⟨_, h1, grc_zero⟩⟩

end Go.Proofs.Ygcoab
