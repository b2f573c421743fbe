import Derived.Test.YgcoabWShr
import Derived.Test.YgcoabWPutBack
import Derived.Test.YgcoabPlainDiv
import Derived.Deep.RegionHeld3
import Derived.Deep.DeepCutAuto
namespace Go.Proofs.Ygcoab
open Go.RowKit

set_option maxRecDepth 100000 in
theorem shr_nil (v0 : Value) (k : Nat) (w : World) (hk : k < 32) (hT : Calls Oabg.prog 106 #[v0] w fun e w'' => e = .returned (.slice none 0 0) ∧ w'' = w) :
    Calls Oabg.prog 118 #[v0, .int .u16 k] w fun e w' => e = .returned (.tuple #[.slice none 0 0, .bool false]) ∧ Below w.heap.size w w' := by
  have H1 : Hid (∀ w', w' = w → Calls Oabg.prog 106 #[v0] w' fun e w'' => e = .returned (.slice none 0 0) ∧ w'' = w') := fun w' hw => by subst hw; exact hT
  have hd32 : (k : Int) / 32 = 0 := by omega
  have hr32 : (k : Int) % 32 = k := by omega
  clear hT
  go_enter Oabg.func118, Oabg.ntmps118
  go_wp2_with (go_at_call 106; refine (H1.out _ rfl).mono ?_; rintro e w' ⟨rfl, hq⟩; obtain rfl := hq.symm)
  go_loop [8, 5] (fun i l => i = .int .i64 0 ∧ l = .bool false) (fun _ _ => 0)
  case atStart => exact ⟨rfl, rfl⟩
  case round =>
    obtain ⟨rfl, rfl⟩ := hrel
    go_wp2
    go_ret2
    exact ⟨rfl, Below.refl _ _⟩

/-- Shr of a row's number -/
theorem shr_row {w : World} {g L k : Nat} {h : Nat → Nat} (hL : L ≤ 200000) (hk : k < 32) (hc : ∀ j, j < L → w.cell? ⟨g, j, none⟩ = some (.int .u32 (h j : Nat))) (hh : ∀ j, h j < 4294967296) (hg : g < w.heap.size) :
    Calls Oabg.prog 118 #[.slice (some ⟨g, 0, none⟩) L L, .int .u16 k] w fun e w' => ∃ v l, e = .returned (.tuple #[v, .bool l]) ∧ IsN w' v (nv h L / 2 ^ k) ∧ Below w.heap.size w w' := by
  have hc' : ∀ j, j < L → w.cell? ⟨g, 0 + j, none⟩ = some (.int .u32 (h j : Nat)) := fun j hj => by rw [Nat.zero_add]; exact hc j hj
  obtain ⟨n, hn⟩ : ∃ n, TrimTo h L n := by
    clear hc hc' hL
    induction L with
    | zero => exact ⟨0, Nat.le_refl _, fun j h1 h2 => by omega, fun h => by omega⟩
    | succ L ih =>
      by_cases h0 : h L = 0
      · obtain ⟨n, h1, h2, h3⟩ := ih
        exact ⟨n, by omega, fun j k1 k2 => by
          by_cases hj : j = L
          · rw [hj]; exact h0
          · exact h2 j k1 (by omega), h3⟩
      · exact ⟨L + 1, Nat.le_refl _, fun j h1 h2 => by omega, fun _ => h0⟩
  have hT : Calls Oabg.prog 106 #[.slice (some ⟨g, 0, none⟩) L L] w fun e w'' => e = .returned (trimV g 0 n L) ∧ w'' = w := by
    refine (trim_any g 0 L L h w (Nat.le_refl _) (by omega) hc').mono fun e w' ⟨k, hk, he, hw⟩ => ⟨?_, hw⟩
    have hkn : k = n := by
      obtain ⟨a1, a2, a3⟩ := hk
      obtain ⟨b1, b2, b3⟩ := hn
      rcases Nat.lt_trichotomy k n with hlt | heq | hgt
      · exact absurd (a2 (n - 1) (by omega) (by omega)) (b3 (by omega))
      · exact heq
      · exact absurd (b2 (k - 1) (by omega) (by omega)) (a3 (by omega))
    rw [he, hkn]
  obtain ⟨n1, n2, n3⟩ := hn
  rw [nv_zero_top n1 n2]
  unfold trimV at hT
  by_cases h0 : n = 0
  · subst h0
    rw [if_pos rfl] at hT
    refine (shr_nil _ k w hk hT).mono fun e w' ⟨he, hb⟩ => ⟨_, _, he, .inl ⟨?_, rfl⟩, hb⟩
    simp [nv]
  · rw [if_neg h0] at hT
    exact (shr_some _ g 0 n L k h w (by omega) (by omega) hk hT (fun j hj => hc' j (by omega)) (fun j _ => hh j) hg).mono fun e w' ⟨v, he, hv, hb⟩ => ⟨v, _, he, hv, hb⟩

/-- divLong's world in the loop -/
structure DW (w : World) (ub qb db doff n : Nat) (C E : Array Value) (g : Nat → Nat) (W : World) : Prop where
  rowU : W.heap[ub]? = some (.cells C 145 (0, 0))
  rowQ : W.heap[qb]? = some (.cells E 145 (0, 0))
  dc : ∀ i, i < n → W.cell? ⟨db, doff + i, none⟩ = some (.int .u32 (g i : Nat))
  below : Below w.heap.size w W
  ne1 : ub ≠ qb
  ne2 : db ≠ ub
  ne3 : db ≠ qb
  lu : w.heap.size ≤ ub
  lq : w.heap.size ≤ qb
  ld : db < W.heap.size

theorem DW.su {w W : World} {ub qb db doff n : Nat} {C E : Array Value} {g : Nat → Nat} (h : DW w ub qb db doff n C E g W) : ub < W.heap.size := (Array.getElem?_eq_some_iff.1 h.rowU).1
theorem DW.sq {w W : World} {ub qb db doff n : Nat} {C E : Array Value} {g : Nat → Nat} (h : DW w ub qb db doff n C E g W) : qb < W.heap.size := (Array.getElem?_eq_some_iff.1 h.rowQ).1

theorem DW.step {w W W' : World} {ub qb db doff n : Nat} {C E : Array Value} {g : Nat → Nat} (h : DW w ub qb db doff n C E g W) (hb : Below W.heap.size W W') : DW w ub qb db doff n C E g W' :=
  ⟨(hb.block ub h.su).trans h.rowU, (hb.block qb h.sq).trans h.rowQ, fun i hi => (hb.cell (p := ⟨db, doff + i, none⟩) h.ld).trans (h.dc i hi), below_step h.below (Nat.le_trans h.lu (Nat.le_of_lt h.su)) hb, h.ne1, h.ne2, h.ne3, h.lu, h.lq, Nat.lt_of_lt_of_le h.ld hb.size⟩

theorem DW.ownU {w W W' : World} {ub qb db doff n : Nat} {C C' E : Array Value} {g : Nat → Nat} (h : DW w ub qb db doff n C E g W) (k : Own W ub C' W') : DW w ub qb db doff n C' E g W' :=
  ⟨k.row, (k.rest qb (Ne.symm h.ne1)).trans h.rowQ, fun i hi => (k.other db (doff + i) h.ne2).trans (h.dc i hi), h.below.trans (k.below h.lu), h.ne1, h.ne2, h.ne3, h.lu, h.lq, by rw [k.size]; exact h.ld⟩

theorem DW.ownQ {w W W' : World} {ub qb db doff n : Nat} {C E E' : Array Value} {g : Nat → Nat} (h : DW w ub qb db doff n C E g W) (k : Own W qb E' W') : DW w ub qb db doff n C E' g W' :=
  ⟨(k.rest ub h.ne1).trans h.rowU, k.row, fun i hi => (k.other db (doff + i) h.ne3).trans (h.dc i hi), h.below.trans (k.below h.lq), h.ne1, h.ne2, h.ne3, h.lu, h.lq, by rw [k.size]; exact h.ld⟩

end Go.Proofs.Ygcoab
