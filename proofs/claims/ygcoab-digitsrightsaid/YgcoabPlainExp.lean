import Derived.Test.YgcoabWNat
namespace Go.Proofs.Ygcoab
open Go.RowKit

/-- the number that the first n digits spell -/
def dv (g : Nat → Nat) : Nat → Nat
  | 0 => 0
  | k + 1 => dv g k * 10 + (g k - 48)

structure DgN (g : Nat → Nat) (n N : Nat) : Prop where
  dig : ∀ j, j < n → 48 ≤ g j ∧ g j ≤ 57
  val : dv g n = N
  lead : 0 < n → g 0 ≠ 48

theorem dv_congr {g h : Nat → Nat} {n : Nat} (H : ∀ j, j < n → g j = h j) : dv g n = dv h n := by
  induction n with
  | zero => rfl
  | succ n ih =>
    show dv g n * 10 + (g n - 48) = dv h n * 10 + (h n - 48)
    rw [ih fun j hj => H j (by omega), H n (by omega)]

theorem DgN.none {g : Nat → Nat} {N : Nat} (h : DgN g 0 N) : N = 0 := h.val.symm

theorem DgN.start (g : Nat → Nat) : DgN g 0 0 := ⟨fun j hj => by omega, rfl, fun h => by omega⟩

theorem DgN.push {g : Nat → Nat} {n N c : Nat} (h : DgN g n N) (hc : c < 10) (h0 : n = 0 → c ≠ 0) : DgN (upd g n (48 + c)) (n + 1) (N * 10 + c) := by
  have hv : dv (upd g n (48 + c)) n = N := by
    rw [← h.val]
    refine dv_congr fun j hj => ?_
    unfold upd
    rw [if_neg (by omega)]
  refine ⟨fun j hj => ?_, ?_, fun _ => ?_⟩
  · unfold upd
    split
    · omega
    · exact h.dig j (by omega)
  · show dv (upd g n (48 + c)) n * 10 + (upd g n (48 + c) n - 48) = _
    rw [hv]
    unfold upd
    rw [if_pos rfl]
    omega
  · unfold upd
    split
    · rename_i q
      have := h0 q.symm
      omega
    · rename_i q
      exact h.lead (by omega)

theorem dv_lt {g : Nat → Nat} {n : Nat} (h : ∀ j, j < n → 48 ≤ g j ∧ g j ≤ 57) : dv g n < 10 ^ n := by
  induction n with
  | zero => exact Nat.one_pos
  | succ n ih =>
    have h1 := ih fun j hj => h j (by omega)
    have h2 := h n (by omega)
    show dv g n * 10 + (g n - 48) < 10 ^ (n + 1)
    rw [Nat.pow_succ]
    omega

theorem dv_ge {g : Nat → Nat} (h0 : 48 < g 0) (n : Nat) : 10 ^ n ≤ dv g (n + 1) := by
  induction n with
  | zero => show 1 ≤ 0 * 10 + (g 0 - 48); omega
  | succ n ih =>
    show 10 ^ (n + 1) ≤ dv g (n + 1) * 10 + (g (n + 1) - 48)
    rw [Nat.pow_succ]
    omega

theorem DgN.lt {g : Nat → Nat} {n N : Nat} (h : DgN g n N) : N < 10 ^ n := by rw [← h.val]; exact dv_lt h.dig

theorem DgN.ge {g : Nat → Nat} {n N : Nat} (h : DgN g n N) (hn : 0 < n) : 10 ^ (n - 1) ≤ N := by
  obtain ⟨m, rfl⟩ : ∃ m, n = m + 1 := ⟨n - 1, by omega⟩
  rw [← h.val]
  have h1 := h.dig 0 hn
  have h2 := h.lead hn
  exact dv_ge (by omega) m

/-- the expansion's cells: 1441 digits, n, top, sig, prec -/
structure ExC (C : Array Value) (g : Nat → Nat) (n : Nat) (top sig pr : Int) : Prop where
  size : C.size = 1445
  dig : ∀ j, j < 1441 → C[j]? = some (.int .u8 (g j : Nat))
  cn : C[1441]? = some (.int .i64 (n : Int))
  ct : C[1442]? = some (.int .i64 top)
  cs : C[1443]? = some (.int .i64 sig)
  cp : C[1444]? = some (.int .i64 pr)

theorem ExC.putDig {C : Array Value} {g : Nat → Nat} {n : Nat} {top sig pr : Int} (h : ExC C g n top sig pr) {i : Nat} (hi : i < 1441) (x : Nat) : ExC (C.setIfInBounds i (.int .u8 (x : Int))) (upd g i x) n top sig pr := by
  refine ⟨by rw [Array.size_setIfInBounds]; exact h.size, fun j hj => ?_, ?_, ?_, ?_, ?_⟩
  · rw [Array.getElem?_setIfInBounds]
    unfold upd
    by_cases hji : i = j
    · rw [if_pos hji, if_pos (by rw [h.size]; omega), if_pos hji.symm]
    · rw [if_neg hji, if_neg (by omega)]
      exact h.dig j hj
  · rw [Array.getElem?_setIfInBounds, if_neg (by omega)]; exact h.cn
  · rw [Array.getElem?_setIfInBounds, if_neg (by omega)]; exact h.ct
  · rw [Array.getElem?_setIfInBounds, if_neg (by omega)]; exact h.cs
  · rw [Array.getElem?_setIfInBounds, if_neg (by omega)]; exact h.cp

theorem ExC.putN {C : Array Value} {g : Nat → Nat} {n : Nat} {top sig pr : Int} (h : ExC C g n top sig pr) (x : Nat) : ExC (C.setIfInBounds 1441 (.int .i64 (x : Int))) g x top sig pr := by
  refine ⟨by rw [Array.size_setIfInBounds]; exact h.size, fun j hj => ?_, ?_, ?_, ?_, ?_⟩
  · rw [Array.getElem?_setIfInBounds, if_neg (by omega)]; exact h.dig j hj
  · rw [Array.getElem?_setIfInBounds, if_pos rfl, if_pos (by rw [h.size]; omega)]
  · rw [Array.getElem?_setIfInBounds, if_neg (by omega)]; exact h.ct
  · rw [Array.getElem?_setIfInBounds, if_neg (by omega)]; exact h.cs
  · rw [Array.getElem?_setIfInBounds, if_neg (by omega)]; exact h.cp

theorem ExC.putT {C : Array Value} {g : Nat → Nat} {n : Nat} {top sig pr : Int} (h : ExC C g n top sig pr) (x : Int) : ExC (C.setIfInBounds 1442 (.int .i64 x)) g n x sig pr := by
  refine ⟨by rw [Array.size_setIfInBounds]; exact h.size, fun j hj => ?_, ?_, ?_, ?_, ?_⟩
  · rw [Array.getElem?_setIfInBounds, if_neg (by omega)]; exact h.dig j hj
  · rw [Array.getElem?_setIfInBounds, if_neg (by omega)]; exact h.cn
  · rw [Array.getElem?_setIfInBounds, if_pos rfl, if_pos (by rw [h.size]; omega)]
  · rw [Array.getElem?_setIfInBounds, if_neg (by omega)]; exact h.cs
  · rw [Array.getElem?_setIfInBounds, if_neg (by omega)]; exact h.cp

/-- the digit that a turn of put brings -/
theorem put_digit (v t : Nat) (ht : t < 18) : v / 10 ^ (17 - t) = v / 10 ^ (18 - t) * 10 + v / 10 ^ (17 - t) % 10 := by
  have h : 18 - t = (17 - t) + 1 := by omega
  rw [h, Nat.pow_succ, ← Nat.div_div_eq_div_mul]
  omega

end Go.Proofs.Ygcoab
