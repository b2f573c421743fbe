/- The worlds of Scan's loop: the digits' buffer, the gatherer, the iterator. -/
import Derived.Test.YgcoabRows
import Derived.Test.YgcoabPlainScan
import Derived.WalkKit
import Derived.WalkSpells
import Derived.WalkLawsBesides
import Derived.ArgAppend
import Derived.Lib.OthersKept
namespace Go.Proofs.Ygcoab
open Go.RowKit

/-- v holds the digits ds: in the room of forty, or in an array of append's own -/
def DigAt (B : Nat) (w : World) (v : Value) (ds : List Int) : Prop :=
  ∃ b C ty, v = .slice (some ⟨b, 0, none⟩) ds.length C.size ∧ ds.length ≤ C.size ∧ w.heap[b]? = some (.cells C ty (0, 0)) ∧ (b = B + 1 ∨ B + 4 ≤ b) ∧ ∀ j, j < ds.length → C[j]? = some (.int .u8 (ds.getD j 0))

/-- all but the room of forty stands as it stood, up to the iterator -/
structure Keep (B : Nat) (w w' : World) : Prop where
  os : w'.os = w.os
  tape : w'.tape = w.tape
  output : w'.output = w.output
  size : w.heap.size ≤ w'.heap.size
  block : ∀ k, k < B + 4 → k ≠ B + 1 → w'.heap[k]? = w.heap[k]?

theorem Keep.below {B : Nat} {a w w' : World} (h : Below B a w) (k : Keep B w w') : Below B a w' :=
  h.trans ⟨k.os, k.tape, k.output, k.size, fun i hi => k.block i (by omega) (by omega)⟩

theorem DigAt.of_heap {B : Nat} {w w' : World} {v : Value} {ds : List Int} (h : DigAt B w v ds) (hh : ∀ b, (b = B + 1 ∨ B + 4 ≤ b) → ∀ o, w.heap[b]? = some o → w'.heap[b]? = some o) : DigAt B w' v ds := by
  obtain ⟨b, C, ty, h1, h2, h3, h4, h5⟩ := h
  exact ⟨b, C, ty, h1, h2, hh b h4 _ h3, h4, h5⟩

theorem DigAt.alloc {B : Nat} {w : World} {v : Value} {ds : List Int} (h : DigAt B w v ds) (o : Obj) : DigAt B (w.alloc o) v ds :=
  h.of_heap fun b _ x hx => by rw [Below.heap_alloc w o b (Array.getElem?_eq_some_iff.1 hx).1]; exact hx

theorem DigAt.setCell {B : Nat} {w : World} {v : Value} {ds : List Int} (h : DigAt B w v ds) (a : Addr) (u : Value) (ha : a.block ≠ B + 1) (ha2 : a.block < B + 4) : DigAt B (w.setCell a u) v ds :=
  h.of_heap fun b hb x hx => by rw [Below.heap_setCell w a u b (by omega)]; exact hx

theorem DigAt.iterAt {B : Nat} {w : World} {v : Value} {ds : List Int} (h : DigAt B w v ds) (s : ByteArray) (p : Nat) : DigAt B (w.iterAt (B + 3) s p) v ds :=
  h.of_heap fun b hb x hx => by rw [Lib.iterAt_other w (B + 3) b s p (by omega)]; exact hx

theorem info5' : (Oabg.prog.info? 5).map (fun i => (i.zero, i.size, i.bytes)) = some (some (.int .u8 0), 1, 1) := by kernel_rfl

theorem setCells_one (w : World) (b o : Nat) (u : Value) : w.setCells b o [u] = w.setCell ⟨b, o, none⟩ u := rfl

/-- 'append(g.dig, x)' -/
theorem wpList_append_dig (w : World) {ops : Array Oper} {rest : List Oper} {o : Oper} {a : Act} {Q : Exit → Act → World → Prop}
    (hg : o.guard = none) (s x : Operand) (hop : o.op = Op.call { callee := Callee.builtin Builtin.append, args := #[s, x], argTypes := #[83, 83] })
    (B : Nat) (v : Value) (ds : List Int) (hs : a.eval s = v) (hd : DigAt B w v ds) (d : Int) (gb : Nat) (hx : a.eval x = .slice (some ⟨gb, 0, none⟩) 1 1) (hgb : gb = w.heap.size) (hl : ds.length ≤ 2000) (hB : B + 4 ≤ w.heap.size)
    (hK : ∀ b' cap' w', DigAt B w' (.slice (some ⟨b', 0, none⟩) (ds.length + 1) cap') (ds ++ [d]) → Keep B w w' → wpList Oabg.prog ops Q rest (a.put o.dst (.slice (some ⟨b', 0, none⟩) (ds.length + 1) cap')) w') :
    wpList Oabg.prog ops Q (o :: rest) a (w.alloc (.cells #[.int .u8 d] 5)) := by
  subst hgb
  obtain ⟨i0, hi, hz0, hz1, hz2⟩ := info_parts info5'
  obtain ⟨b, C, ty, rfl, h2, h3, h4, h5⟩ := hd
  have hblt : b < w.heap.size := (Array.getElem?_eq_some_iff.1 h3).1
  have h3' : (w.alloc (.cells #[.int .u8 d] 5)).heap[b]? = some (.cells C ty (0, 0)) := by rw [Below.heap_alloc w _ b hblt]; exact h3
  have hkeep0 : ∀ k, k < B + 4 → (w.alloc (.cells #[.int .u8 d] 5)).heap[k]? = w.heap[k]? := fun k hk => Below.heap_alloc w _ k (by omega)
  have hget : ∀ j, (ds ++ [d]).getD j 0 = if j < ds.length then ds.getD j 0 else if j = ds.length then d else 0 := by
    intro j
    by_cases hj : j < ds.length
    · rw [if_pos hj, getD_app_l _ _ _ _ hj]
    · rw [if_neg hj, getD_app_r _ _ _ _ (by omega)]
      by_cases hj2 : j = ds.length
      · subst hj2; simp
      · rw [if_neg hj2]
        simp [List.getD_eq_getElem?_getD, show ¬ j - ds.length = 0 from by omega]
  refine wpList_append_arg (w.alloc (.cells #[.int .u8 d] 5)) hg s x 83 hop 5 i0 (.int .u8 0) 1 1 Oabg.underlying83 hi hz0 hz1 hz2 rfl (by decide) b 0 ds.length C.size (ds.map (Value.int .u8)) hs (by simp) ?_
    ⟨w.heap.size, 0, none⟩ 1 1 [.int .u8 d] hx rfl (cell_one_new _ _ _) ?_ ?_ (by unfold maxLen; omega) (by omega) ?_ ?_
  · intro j u hj
    rw [List.getElem?_map] at hj
    cases e : ds[j]? with
    | none => rw [e] at hj; simp at hj
    | some y =>
      rw [e] at hj
      simp at hj
      have hjl : j < ds.length := (List.getElem?_eq_some_iff.1 e).1
      have := h5 j hjl
      rw [List.getD_eq_getElem?_getD, e, Option.getD_some] at this
      rw [Nat.zero_add, cell_of_row _ b j C ty (0, 0) h3', this, hj]
  · intro u hu; simp at hu; subst hu; rfl
  · intro hr j hj
    simp at hj
    subst hj
    rw [Nat.zero_add, Nat.mul_one, Nat.add_zero, cell_of_row _ b _ C ty (0, 0) h3']
    exact ⟨by simp; omega, frozen_of_row _ b _ C ty h3'⟩
  · intro hr
    rw [Nat.zero_add, Nat.mul_one, setCells_one]
    have hw := heap_setCell_same (w.alloc (.cells #[.int .u8 d] 5)) b ds.length C ty (.int .u8 d) h3'
    have hlen : (ds ++ [d]).length = ds.length + 1 := by simp
    refine hK b C.size _ ⟨b, C.setIfInBounds ds.length (.int .u8 d), ty, by simp, by simp; omega, hw, h4, ?_⟩ ⟨rfl, rfl, rfl, by simp, ?_⟩
    · intro j hj
      rw [hlen] at hj
      rw [hget]
      by_cases hjl : j < ds.length
      · rw [Array.getElem?_setIfInBounds_ne (by omega), h5 j hjl, if_pos hjl]
      · have : j = ds.length := by omega
        subst this
        rw [Array.getElem?_setIfInBounds_self_of_lt (by omega), if_neg hjl, if_pos rfl]
    · intro k hk hk1
      rw [heap_setCell_other _ _ k _ (by show k ≠ b; omega), hkeep0 k hk]
  · intro hr v' w' hown hgr
    rcases hown.2 with ⟨_, h0⟩ | ⟨g, cap, cur, hv, hbg, hh, hn, _, hsz, htake⟩
    · omega
    · have hsz1 : w.heap.size + 1 ≤ g := by simpa using hbg
      have hlen : (ds ++ [d]).length = ds.length + 1 := by simp
      subst hv
      refine hK g cap _ ⟨g, cur, 5, by rw [hlen, show cur.size = cap from by omega], by rw [hlen]; omega, hh, .inr (by omega), ?_⟩ ⟨hgr.os, hgr.tape, hgr.output, by have := hgr.size; simp at this; omega, ?_⟩
      · intro j hj
        rw [hlen] at hj
        have : (cur.toList.take ((ds.length + 1) * 1))[j]? = some (.int .u8 ((ds ++ [d]).getD j 0)) := by
          rw [htake, show (ds.map (Value.int .u8) ++ [Value.int .u8 d]) = (ds ++ [d]).map (Value.int .u8) from by simp, List.getElem?_map, List.getElem?_eq_getElem (by omega), List.getD_eq_getElem?_getD, List.getElem?_eq_getElem (by omega)]
          rfl
        rw [List.getElem?_take_of_lt (by omega)] at this
        simpa using this
      · intro k hk hk1
        rw [hgr.block k (by simp; omega) (by simp), hkeep0 k hk]

theorem Keep.cell2 {B : Nat} {w w' : World} (h : Keep B w w') : ∀ o, w'.cell? ⟨B + 1 + 1, o, none⟩ = w.cell? ⟨B + 1 + 1, o, none⟩ :=
  fun o => World.cell?_of_block (h.block (B + 2) (by omega) (by omega))
theorem Keep.frozen2 {B : Nat} {w w' : World} (h : Keep B w w') : ∀ o, w'.frozen? ⟨B + 1 + 1, o, none⟩ = w.frozen? ⟨B + 1 + 1, o, none⟩ :=
  fun o => World.frozen?_of_block (h.block (B + 2) (by omega) (by omega))

end Go.Proofs.Ygcoab
