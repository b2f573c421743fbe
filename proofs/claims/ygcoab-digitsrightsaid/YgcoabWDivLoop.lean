import Derived.Test.YgcoabWDivLong
namespace Go.Proofs.Ygcoab
open Go.RowKit

/-- a normal number between two powers has its number of limbs -/
theorem isN_limbs {w : World} {v : Value} {N n : Nat} (h : IsN w v N) (hn : 0 < n) (h1 : 2 ^ (32 * (n - 1)) ≤ N) (h2 : N < 2 ^ (32 * n)) :
    ∃ b off c f, v = .slice (some ⟨b, off, none⟩) n c ∧ n ≤ c ∧ c ≤ 1000000000 ∧ f (n - 1) ≠ 0 ∧ (∀ j, j < n → f j < 4294967296) ∧ (∀ j, j < n → w.cell? ⟨b, off + j, none⟩ = some (.int .u32 (f j : Nat))) ∧ b < w.heap.size ∧ nv f n = N := by
  rcases h with ⟨rfl, _⟩ | ⟨b, off, n', c, f, rfl, k2, k3, k4, k5, k6, k7, k8, rfl⟩
  · have := two_pow_pos' (32 * (n - 1))
    omega
  · have a1 : n' ≤ n := nv_len k2 k5 h2
    have a2 : n ≤ n' := by
      by_cases hc : n ≤ n'
      · exact hc
      · have := nv_lt k6
        have := two_pow_le (n := 32 * n') (k := 32 * (n - 1)) (by omega)
        omega
    have : n' = n := by omega
    subst this
    exact ⟨b, off, c, f, rfl, k3, k4, k5, k6, k7, k8, rfl⟩

theorem copy_row48 (w : World) (ub b off n c L : Nat) (f : Nat → Nat) (hL : n ≤ L) (hrow : w.heap[ub]? = some (.cells (Array.replicate L (.int .u32 0)) 145 (0, 0))) (hf : ∀ j, j < n → w.cell? ⟨b, off + j, none⟩ = some (.int .u32 (f j : Nat))) :
    ∃ w', (∀ ty, (Builtin.copy_ #[48, 48] ty #[.slice (some ⟨ub, 0, none⟩) L L, .slice (some ⟨b, off, none⟩) n c]).run Oabg.prog w = .ok (goInt n) w') ∧ Own w ub (limbsA f n L) w' := by
  refine ⟨w.setRow ub (limbsA f n L), fun ty => ?_, setRow_heap w ub _ _ 145 (0, 0) hrow, fun k hk => setRow_other w ub k _ hk, by simp, rfl, rfl, rfl⟩
  have := run_copy_row (P := Oabg.prog) w 48 48 ty 145 ub 0 L L ⟨b, off, none⟩ n c (Array.replicate L (.int .u32 0)) 145 ((List.range n).map (fun j => Value.int .u32 (f j : Nat)))
    Oabg.underlying48 size145 hrow (by rw [List.length_map, List.length_range]; exact (Nat.min_eq_left hL).symm) (fun j v hv => ?_) (by simp; omega) (fun v hv => ?_)
  · simp only [List.length_map, List.length_range] at this
    have e : (List.take 0 (Array.replicate L (Value.int IntKind.u32 0)).toList ++ List.map (fun j => Value.int IntKind.u32 (f j : Nat)) (List.range n) ++ List.drop (0 + n) (Array.replicate L (Value.int IntKind.u32 0)).toList).toArray = limbsA f n L := by
      unfold limbsA
      simp
    rw [e] at this
    exact this
  · have hj : j < n := by
      by_cases hj : j < n
      · exact hj
      · simp [hj] at hv
    simp [hj] at hv
    rw [Go.WideShapes.add_plain, hf j hj, ← hv]
  · simp at hv
    obtain ⟨j, _, rfl⟩ := hv
    rfl

end Go.Proofs.Ygcoab
