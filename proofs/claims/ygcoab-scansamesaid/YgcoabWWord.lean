import Derived.Test.YgcoabWNumber
import Derived.Test.YgcoabPlainWord
namespace Go.Proofs.Ygcoab
open Go.RowKit

theorem nat_step {w W w1 : World} (h : NAt w W) (hb : Below W.heap.size W w1) : NAt w w1 :=
  have hc := fun o => hb.cell (p := ⟨w.heap.size, o, none⟩) h.size
  ⟨(hc 0).trans h.c0, (hc 1).trans h.c1, (hc 2).trans h.c2, (hc 3).trans h.c3, (hc 4).trans h.c4, (hc 5).trans h.c5, fun o => (hb.frozen (p := ⟨w.heap.size, o, none⟩) h.size).trans (h.cf o), h.below.trans (hb.mono (Nat.le_of_lt h.size)), Nat.lt_of_lt_of_le h.size hb.size⟩

theorem nat_all {w W : World} (h : NAt w W) : (W.cell? ⟨w.heap.size, 0, none⟩ = some (.int .u8 0)) ∧ (W.cell? ⟨w.heap.size, 1, none⟩ = some (.bool false)) ∧ (W.cell? ⟨w.heap.size, 2, none⟩ = some (.string ⟨#[]⟩)) ∧
    (W.cell? ⟨w.heap.size, 3, none⟩ = some (.int .i16 0)) ∧ (W.cell? ⟨w.heap.size, 4, none⟩ = some (.int .i64 0)) ∧ (W.cell? ⟨w.heap.size, 5, none⟩ = some (.int .i32 0)) ∧ (∀ o, W.frozen? ⟨w.heap.size, o, none⟩ = false) ∧ w.heap.size < W.heap.size ∧ Hid (NAt w W) :=
  ⟨h.c0, h.c1, h.c2, h.c3, h.c4, h.c5, h.cf, h.size, h⟩

theorem nat_nw0 (w : World) : NAt w (NW w) := nat_nw w 0

theorem nat_set {w W : World} {v0 v1 v2 v3 v4 v5 : Value} (h : NAt w W) :
    Below w.heap.size w ((((((W.setCell ⟨w.heap.size, 0, none⟩ v0).setCell ⟨w.heap.size, 1, none⟩ v1).setCell ⟨w.heap.size, 2, none⟩ v2).setCell ⟨w.heap.size, 3, none⟩ v3).setCell ⟨w.heap.size, 4, none⟩ v4).setCell ⟨w.heap.size, 5, none⟩ v5) :=
  below_set6 h.below (Nat.le_refl _)

end Go.Proofs.Ygcoab
