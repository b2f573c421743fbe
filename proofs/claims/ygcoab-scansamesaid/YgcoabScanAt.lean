/- The relation of Scan's loop, and what each act does to it. -/
import Derived.Test.YgcoabScanWorld
namespace Go.Proofs.Ygcoab
open Go.RowKit

def zero32 : Array Value := #[.int .u8 0, .bool false, .string ⟨#[]⟩, .int .i16 0, .int .i64 0, .int .i32 0]

structure ScanAt (w : World) (s : ByteArray) (k : Nat) (neg en : Bool) (ds : List Int) (fr ex : Nat) (v : Value) (wr : World) : Prop where
  below : Below w.heap.size w wr
  res : wr.heap[w.heap.size]? = some (.cells zero32 32 (0, 0))
  g : wr.heap[w.heap.size + 2]? = some (.cells #[.bool neg, .bool en, v, .int .i64 fr, .int .i64 ex] 85 (0, 0))
  dig : DigAt w.heap.size wr v ds
  it : wr.heap[w.heap.size + 3]? = some (.stringIter s k)
  size : w.heap.size + 4 ≤ wr.heap.size

section
variable {w wr : World} {s : ByteArray} {k : Nat} {neg en : Bool} {ds : List Int} {fr ex : Nat} {v : Value}

theorem ScanAt.iter (h : ScanAt w s k neg en ds fr ex v wr) (p : Nat) : ScanAt w s p neg en ds fr ex v (wr.iterAt (w.heap.size + 3) s p) :=
  ⟨Lib.below_iterAt h.below (by omega) s p, by rw [Lib.iterAt_other _ _ _ _ _ (by omega)]; exact h.res, by rw [Lib.iterAt_other _ _ _ _ _ (by omega)]; exact h.g, h.dig.iterAt s p, Lib.iterAt_heap _ _ s k p h.it, by rw [Lib.iterAt_size]; exact h.size⟩

theorem ScanAt.set0 (h : ScanAt w s k neg en ds fr ex v wr) (b : Bool) : ScanAt w s k b en ds fr ex v (wr.setCell ⟨w.heap.size + 1 + 1, 0, none⟩ (.bool b)) :=
  ⟨h.below.setCell (by simp; omega) _, by rw [heap_setCell_other _ _ _ _ (by simp; omega)]; exact h.res, heap_setCell_same wr (w.heap.size + 2) 0 _ 85 _ h.g, h.dig.setCell _ _ (by simp) (by simp), by rw [heap_setCell_other _ _ _ _ (by simp)]; exact h.it, by simpa using h.size⟩

theorem ScanAt.set1 (h : ScanAt w s k neg en ds fr ex v wr) (b : Bool) : ScanAt w s k neg b ds fr ex v (wr.setCell ⟨w.heap.size + 1 + 1, 1, none⟩ (.bool b)) :=
  ⟨h.below.setCell (by simp; omega) _, by rw [heap_setCell_other _ _ _ _ (by simp; omega)]; exact h.res, heap_setCell_same wr (w.heap.size + 2) 1 _ 85 _ h.g, h.dig.setCell _ _ (by simp) (by simp), by rw [heap_setCell_other _ _ _ _ (by simp)]; exact h.it, by simpa using h.size⟩

theorem ScanAt.set3 (h : ScanAt w s k neg en ds fr ex v wr) (f : Nat) (x : Int) (hx : x = (f : Int)) : ScanAt w s k neg en ds f ex v (wr.setCell ⟨w.heap.size + 1 + 1, 3, none⟩ (.int .i64 x)) :=
  hx ▸   ⟨h.below.setCell (by simp; omega) _, by rw [heap_setCell_other _ _ _ _ (by simp; omega)]; exact h.res, heap_setCell_same wr (w.heap.size + 2) 3 _ 85 _ h.g, h.dig.setCell _ _ (by simp) (by simp), by rw [heap_setCell_other _ _ _ _ (by simp)]; exact h.it, by simpa using h.size⟩

theorem ScanAt.set4 (h : ScanAt w s k neg en ds fr ex v wr) (e : Nat) (x : Int) (hx : x = (e : Int)) : ScanAt w s k neg en ds fr e v (wr.setCell ⟨w.heap.size + 1 + 1, 4, none⟩ (.int .i64 x)) :=
  hx ▸   ⟨h.below.setCell (by simp; omega) _, by rw [heap_setCell_other _ _ _ _ (by simp; omega)]; exact h.res, heap_setCell_same wr (w.heap.size + 2) 4 _ 85 _ h.g, h.dig.setCell _ _ (by simp) (by simp), by rw [heap_setCell_other _ _ _ _ (by simp)]; exact h.it, by simpa using h.size⟩

/-- a digit laid: the append, then the store of the new slice -/
theorem ScanAt.push (h : ScanAt w s k neg en ds fr ex v wr) {v' : Value} {w' : World} {ds' : List Int} (hd : DigAt w.heap.size w' v' ds') (hk : Keep w.heap.size wr w') :
    ScanAt w s k neg en ds' fr ex v' (w'.setCell ⟨w.heap.size + 1 + 1, 2, none⟩ v') := by
  have hg : w'.heap[w.heap.size + 2]? = some (.cells #[.bool neg, .bool en, v, .int .i64 fr, .int .i64 ex] 85 (0, 0)) := by rw [hk.block _ (by omega) (by omega)]; exact h.g
  refine ⟨(hk.below h.below).setCell (by simp; omega) _, ?_, heap_setCell_same w' (w.heap.size + 2) 2 _ 85 _ hg, hd.setCell _ _ (by simp) (by simp), ?_, by have := hk.size; have := h.size; simp; omega⟩
  · rw [heap_setCell_other _ _ _ _ (by simp; omega), hk.block _ (by omega) (by omega)]; exact h.res
  · rw [heap_setCell_other _ _ _ _ (by simp), hk.block _ (by omega) (by omega)]; exact h.it

/-- what the walk reads -/
theorem ScanAt.gcells (h : ScanAt w s k neg en ds fr ex v wr) :
    wr.cell? ⟨w.heap.size + 1 + 1, 0, none⟩ = some (.bool neg) ∧ wr.cell? ⟨w.heap.size + 1 + 1, 1, none⟩ = some (.bool en) ∧ wr.cell? ⟨w.heap.size + 1 + 1, 2, none⟩ = some v ∧
    wr.cell? ⟨w.heap.size + 1 + 1, 3, none⟩ = some (.int .i64 fr) ∧ wr.cell? ⟨w.heap.size + 1 + 1, 4, none⟩ = some (.int .i64 ex) ∧ (∀ o, wr.frozen? ⟨w.heap.size + 1 + 1, o, none⟩ = false) :=
  ⟨cell_of_row wr _ 0 _ _ _ h.g, cell_of_row wr _ 1 _ _ _ h.g, cell_of_row wr _ 2 _ _ _ h.g, cell_of_row wr _ 3 _ _ _ h.g, cell_of_row wr _ 4 _ _ _ h.g, fun o => frozen_of_row wr _ o _ _ h.g⟩

theorem ScanAt.rcells (h : ScanAt w s k neg en ds fr ex v wr) :
    wr.cell? ⟨w.heap.size, 0, none⟩ = some (.int .u8 0) ∧ wr.cell? ⟨w.heap.size, 1, none⟩ = some (.bool false) ∧ wr.cell? ⟨w.heap.size, 2, none⟩ = some (.string ⟨#[]⟩) ∧
    wr.cell? ⟨w.heap.size, 3, none⟩ = some (.int .i16 0) ∧ wr.cell? ⟨w.heap.size, 4, none⟩ = some (.int .i64 0) ∧ wr.cell? ⟨w.heap.size, 5, none⟩ = some (.int .i32 0) ∧ (∀ o, wr.frozen? ⟨w.heap.size, o, none⟩ = false) :=
  ⟨cell_of_row wr _ 0 _ _ _ h.res, cell_of_row wr _ 1 _ _ _ h.res, cell_of_row wr _ 2 _ _ _ h.res, cell_of_row wr _ 3 _ _ _ h.res, cell_of_row wr _ 4 _ _ _ h.res, cell_of_row wr _ 5 _ _ _ h.res, fun o => frozen_of_row wr _ o _ _ h.res⟩
end

/-- the loop's relation -/
def SRel (w : World) (s : ByteArray) (st wd at_ : Value) (wr : World) : Prop :=
  ∃ (k : Nat) (S : Sc) (v : Value), k ≤ s.size ∧ runTo s k = some S ∧ st = .int .i64 S.st ∧ wd = .string (wordB S.wd) ∧ at_ = .int .i64 S.at_ ∧ ScanAt w s k S.neg S.en S.ds S.fr S.ex v wr

def smu (w : World) (s : ByteArray) (wr : World) : Nat := s.size - wr.iterPos (w.heap.size + 3)

theorem smu_at {w wr : World} {s : ByteArray} {k : Nat} (h : wr.heap[w.heap.size + 3]? = some (.stringIter s k)) : smu w s wr = s.size - k := by
  unfold smu World.iterPos; rw [h]

/-- a step made: the relation again, and the measure gone down -/
theorem srel_step {w wr : World} {s : ByteArray} {k : Nat} {S S' : Sc} {v : Value} {st wd at_ : Value} {w0 : World} (hr : runTo s k = some S) (hk : k < s.size) (hs : S.step (bAt s k) = some S')
    (h : ScanAt w s (k + 1) S'.neg S'.en S'.ds S'.fr S'.ex v wr) (h1 : st = .int .i64 S'.st) (h2 : wd = .string (wordB S'.wd)) (h3 : at_ = .int .i64 S'.at_) (h0 : w0.heap[w.heap.size + 3]? = some (.stringIter s k)) :
    SRel w s st wd at_ wr ∧ smu w s wr < smu w s w0 := by
  refine ⟨⟨k + 1, S', v, hk, by rw [runTo_next hr, hs], h1, h2, h3, h⟩, ?_⟩
  rw [smu_at h.it, smu_at h0]; omega

theorem heap_new (w : World) (o : Obj) (k : Nat) (h : k = w.heap.size) : (w.alloc o).heap[k]? = some o := by
  subst h
  show (w.heap.push o)[w.heap.size]? = _
  simp

theorem srel_start {w : World} {s : ByteArray} {C : Array Value} (hC : C.size = 40) :
    SRel w s (.int .i64 0) (.string ⟨#[]⟩) (.int .i64 0) (((((w.alloc (.cells zero32 32)).alloc (.cells C 82)).alloc (.cells #[.bool false, .bool false, .slice (some ⟨w.heap.size + 1, 0, none⟩) 0 40, .int .i64 0, .int .i64 0] 85))).iter s 0) := by
  refine ⟨0, Sc.init, .slice (some ⟨w.heap.size + 1, 0, none⟩) 0 40, Nat.zero_le _, rfl, rfl, rfl, rfl, ?_⟩
  have b1 : Below w.heap.size w (w.alloc (.cells zero32 32)) := (Below.refl _ _).alloc (Nat.le_refl _) _
  have b2 := b1.alloc (o := .cells C 82) (by simp)
  have b3 := b2.alloc (o := .cells #[.bool false, .bool false, .slice (some ⟨w.heap.size + 1, 0, none⟩) 0 40, .int .i64 0, .int .i64 0] 85) (by simp; omega)
  have b4 := b3.alloc (o := .stringIter s 0) (by simp; omega)
  refine ⟨b4, ?_, ?_, ⟨w.heap.size + 1, C, 82, by rw [hC]; rfl, Nat.zero_le _, ?_, .inl rfl, fun j hj => by simp [Sc.init] at hj⟩, ?_, by simp [World.iter]⟩
  · rw [World.iter, Below.heap_alloc _ _ _ (by simp; omega), Below.heap_alloc _ _ _ (by simp; omega), Below.heap_alloc _ _ _ (by simp), heap_new _ _ _ rfl]
  · rw [World.iter, Below.heap_alloc _ _ _ (by simp), heap_new _ _ _ (by simp)]
    rfl
  · rw [World.iter, Below.heap_alloc _ _ _ (by simp), Below.heap_alloc _ _ _ (by simp), heap_new _ _ _ (by simp)]
  · rw [World.iter, heap_new _ _ _ (by simp)]

end Go.Proofs.Ygcoab
