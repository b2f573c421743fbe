import Derived.Test.YgcoabPlainFrac
import Derived.Test.YgcoabWPutD
import Derived.Test.YgcoabWRow
namespace Go.Proofs.Ygcoab
open Go.RowKit

set_option maxHeartbeats 1000000 in
set_option maxRecDepth 100000 in
theorem enough_any (P : Nat) (g : Nat → Nat) (n : Nat) (top sig pr : Int) (pl : Int) (W : World) (hE : ExAt P g n top sig pr W) :
    Calls Oabg.prog 149 #[.pointer (some ⟨P, 0, none⟩), .int .i64 pl] W fun e w' => e = .returned (.bool (decide (sig < n) || decide (pr < pl))) ∧ Below W.heap.size W w' := by
  obtain ⟨c1, c2, c3, c4, cf⟩ := hE.all
  clear hE cf c2
  go_enter Oabg.func149, Oabg.ntmps149
  by_cases h1 : sig < (n : Int)
  · have hd : decide (sig < (n : Int)) = true := decide_eq_true h1
    clear h1
    go_wp2
    go_quiet (fail)
    go_wp2
    go_ret
    exact ⟨by rw [hd]; rfl, below_drewN (Below.refl _ _) _⟩
  · have hd : decide (sig < (n : Int)) = false := decide_eq_false h1
    clear h1
    go_wp2
    go_quiet (fail)
    go_wp2
    go_ret
    exact ⟨by rw [hd]; rfl, below_drewN (Below.refl _ _) _⟩

theorem ExAt.other {P Y : Nat} {g : Nat → Nat} {n : Nat} {top sig pr : Int} {W : World} (h : ExAt P g n top sig pr W) (k : Nat) (v : Value) (hn : P ≠ Y) : ExAt P g n top sig pr (W.setCell ⟨Y, k, none⟩ v) := by
  obtain ⟨C, h1, h2⟩ := h
  exact ⟨C, h1.other k v hn, h2⟩

/-- fraction's world: the array in block w.heap.size, the expansion in block P -/
structure FwAt (w : World) (P : Nat) (f : Nat → Nat) (g : Nat → Nat) (n : Nat) (top sig pr : Int) (W : World) : Prop where
  ex : ExAt P g n top sig pr W
  rw : ∃ C, Blk w.heap.size 188 C W ∧ U64C C 18 f
  below : Below P w W
  hP : P < w.heap.size

theorem FwAt.at {w W : World} {P : Nat} {f g : Nat → Nat} {n : Nat} {top sig pr : Int} (h : FwAt w P f g n top sig pr W) {j : Nat} (hj : j < 18) : W.cell? ⟨w.heap.size, j, none⟩ = some (.int .u64 (f j : Nat)) := by
  obtain ⟨C, h1, h2⟩ := h.rw
  exact (h1.cell _).trans (h2.cell j hj)

theorem FwAt.fr {w W : World} {P : Nat} {f g : Nat → Nat} {n : Nat} {top sig pr : Int} (h : FwAt w P f g n top sig pr W) (j : Nat) : W.frozen? ⟨w.heap.size, j, none⟩ = false := by
  obtain ⟨C, h1, h2⟩ := h.rw
  exact h1.frozen _

theorem FwAt.size {w W : World} {P : Nat} {f g : Nat → Nat} {n : Nat} {top sig pr : Int} (h : FwAt w P f g n top sig pr W) : w.heap.size < W.heap.size := by
  obtain ⟨C, h1, h2⟩ := h.rw
  exact h1.size

theorem FwAt.step {w W W' : World} {P : Nat} {f g : Nat → Nat} {n : Nat} {top sig pr : Int} (h : FwAt w P f g n top sig pr W) (hb : Below W.heap.size W W') : FwAt w P f g n top sig pr W' := by
  have hs := h.ex.size
  obtain ⟨C, h1, h2⟩ := h.rw
  exact ⟨h.ex.step hb hs, ⟨C, h1.step hb h1.size, h2⟩, below_step h.below (Nat.le_of_lt hs) hb, h.hP⟩

theorem FwAt.drew {w W : World} {P : Nat} {f g : Nat → Nat} {n : Nat} {top sig pr : Int} (h : FwAt w P f g n top sig pr W) : FwAt w P f g n top sig pr W.drew := by
  obtain ⟨C, h1, h2⟩ := h.rw
  exact ⟨h.ex.drew, ⟨C, h1.drew, h2⟩, h.below.drew, h.hP⟩

theorem FwAt.putW {w W : World} {P : Nat} {f g : Nat → Nat} {n : Nat} {top sig pr : Int} (h : FwAt w P f g n top sig pr W) (i x : Nat) : FwAt w P (upd f i x) g n top sig pr (W.setCell ⟨w.heap.size, i, none⟩ (.int .u64 (x : Int))) := by
  have hP := h.hP
  obtain ⟨C, h1, h2⟩ := h.rw
  exact ⟨h.ex.other _ _ (by omega), ⟨_, h1.put _ _, h2.put i x⟩, below_set h.below (Nat.le_of_lt hP) _ _, hP⟩

theorem FwAt.start {w : World} {P : Nat} {g : Nat → Nat} {n : Nat} {top sig pr : Int} (h : ExAt P g n top sig pr w) : FwAt w P (fun _ => 0) g n top sig pr (w.alloc (.cells #[.int .u64 0, .int .u64 0, .int .u64 0, .int .u64 0, .int .u64 0, .int .u64 0, .int .u64 0, .int .u64 0, .int .u64 0, .int .u64 0, .int .u64 0, .int .u64 0, .int .u64 0, .int .u64 0, .int .u64 0, .int .u64 0, .int .u64 0, .int .u64 0] 188)) :=
  ⟨h.step (below_alloc w _) h.size, ⟨_, Blk.start w _ 188, u64c_zero⟩, (below_alloc w _).mono (Nat.le_of_lt h.size), h.size⟩

theorem FwAt.put {w W W' : World} {P N v : Nat} {bh : Bool} {f g : Nat → Nat} {n t : Nat} {top sig pr : Int} {g' : Nat → Nat} {n' : Nat} {top' : Int} (h : FwAt w P f g n top sig pr W) (k : PutAt W P N v bh n top sig pr t g' n' top' W') : FwAt w P f g' n' top' sig pr W' := by
  have hP := h.hP
  obtain ⟨C, h1, h2⟩ := h.rw
  exact ⟨k.ex, ⟨C, h1.only k.only (by omega), h2⟩, h.below.trans (k.only.below (Nat.le_refl _)), hP⟩

/-- the turn's state -/
structure TurnAt (w : World) (P A k at' : Nat) (n0 : Nat) (top0 sig pr : Int) (f : Nat → Nat) (low high t : Nat) (g : Nat → Nat) (n : Nat) (top : Int) (N : Nat) (W : World) : Prop where
  fw : FwAt w P f g n top sig pr W
  lz : LimbZ f low high
  fr : FrAt A k at' N (18 * t) (mv f 18)
  dg : DgN g n N
  le : n ≤ n0 + 18 * t
  bal : (n : Int) - top = n0 - top0 + 18 * t
  deg : at' + 18 * t < 1200

/-- what the expansion says of the number A / D -/
def ExpOk (A D : Nat) (g : Nat → Nat) (n : Nat) (top sig pr : Int) : Prop :=
  ∃ p N : Nat, (DgN g n N ∧ A * 10 ^ p = N * D ∧ (n : Int) - 1 - top = p) ∨
    (∃ m, n = m + 1 ∧ g m = 49 ∧ DgN g m N ∧ N * D < A * 10 ^ p ∧ A * 10 ^ p < (N + 1) * D ∧ (m : Int) - 1 - top = p ∧ (sig < m ∨ pr < p))

def ExPost (w : World) (P A D : Nat) (sig pr : Int) (W : World) : Prop :=
  ∃ g n top, ExAt P g n top sig pr W ∧ ExpOk A D g n top sig pr ∧ n ≤ 1300 ∧ -1300 ≤ top ∧ top ≤ 1300 ∧ Below P w W

end Go.Proofs.Ygcoab
