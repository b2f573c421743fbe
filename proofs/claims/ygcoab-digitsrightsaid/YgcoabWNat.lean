import Derived.Test.YgcoabWTrim
import Derived.Laws.MakeOwn
import Derived.Laws.OwnMore
import Derived.ArgAppend
namespace Go.Proofs.Ygcoab
open Go.RowKit

/-- v is the normal natural number N in the world w -/
def IsN (w : World) (v : Value) (N : Nat) : Prop :=
  (N = 0 ∧ v = .slice none 0 0) ∨ ∃ b off n cap f, v = .slice (some ⟨b, off, none⟩) n cap ∧ 0 < n ∧ n ≤ cap ∧ cap ≤ 1000000000 ∧ f (n - 1) ≠ 0 ∧ (∀ j, j < n → f j < 4294967296) ∧
    (∀ j, j < n → w.cell? ⟨b, off + j, none⟩ = some (.int .u32 (f j : Nat))) ∧ b < w.heap.size ∧ nv f n = N

theorem nil48 (w : World) (a : Option Addr) (n c : Nat) : (binOp .eql 48 (.slice a n c) (.slice none 0 0)).run Oabg.prog w = .ok (.bool a.isNone) w :=
  Lib.run_eql_slice_nil w 48 145 a n c 0 0 Oabg.underlying48

theorem IsN.step {w w' : World} {v : Value} {N : Nat} (h : IsN w v N) (hb : Below w.heap.size w w') : IsN w' v N := by
  rcases h with h | ⟨b, off, n, cap, f, h1, h2, h3, h4, h5, h6, h7, h8, h9⟩
  · exact .inl h
  · exact .inr ⟨b, off, n, cap, f, h1, h2, h3, h4, h5, h6, fun j hj => (hb.cell (p := ⟨b, off + j, none⟩) h8).trans (h7 j hj), Nat.lt_of_lt_of_le h8 hb.size, h9⟩

theorem TrimTo.self {f : Nat → Nat} {n k : Nat} (h : TrimTo f n k) (hn : 0 < n) (hf : f (n - 1) ≠ 0) : k = n := by
  obtain ⟨h1, h2, h3⟩ := h
  by_cases hc : k = n
  · exact hc
  · exact absurd (h2 (n - 1) (by omega) (by omega)) hf

/-- trim leaves a normal number as it is -/
theorem trim_same {w : World} {v : Value} {N : Nat} (h : IsN w v N) : Calls Oabg.prog 106 #[v] w fun e w' => e = .returned v ∧ w' = w := by
  rcases h with ⟨_, rfl⟩ | ⟨b, off, n, cap, f, rfl, h2, h3, h4, h5, h6, h7, h8, h9⟩
  · exact trim_nil w
  · refine (trim_any b off n cap f w h3 h4 h7).mono fun e w' ⟨k, hk, he, hw⟩ => ⟨?_, hw⟩
    have := hk.self h2 h5
    subst this
    rw [he, trimV, if_neg (by omega)]

/-- trim makes a normal number of limbs -/
theorem trim_made (b n cap : Nat) (f : Nat → Nat) (w : World) (hn : n ≤ cap) (hc : cap ≤ 1000000000) (hf : ∀ j, j < n → w.cell? ⟨b, j, none⟩ = some (.int .u32 (f j))) (hb : b < w.heap.size) (hl : ∀ j, j < n → f j < 4294967296) :
    Calls Oabg.prog 106 #[.slice (some ⟨b, 0, none⟩) n cap] w fun e w' => ∃ v, e = .returned v ∧ w' = w ∧ IsN w v (nv f n) := by
  have hf' : ∀ j, j < n → w.cell? ⟨b, 0 + j, none⟩ = some (.int .u32 (f j)) := fun j hj => by rw [Nat.zero_add]; exact hf j hj
  refine (trim_any b 0 n cap f w hn hc hf').mono fun e w' ⟨k, ⟨k1, k2, k3⟩, he, hw⟩ => ⟨_, he, hw, ?_⟩
  rw [nv_zero_top k1 k2]
  unfold trimV
  by_cases hk : k = 0
  · subst hk
    exact .inl ⟨rfl, rfl⟩
  · rw [if_neg hk]
    exact .inr ⟨b, 0, k, cap, f, rfl, by omega, by omega, hc, k3 (by omega), fun j hj => hl j (by omega), fun j hj => hf' j (by omega), hb, rfl⟩

theorem split64 (x : Nat) : nv (fun j => if j = 0 then x % 4294967296 else x / 4294967296) 2 = x := by
  simp [nv]
  omega

set_option maxHeartbeats 400000 in
theorem fromU64_any (x : Nat) (hx : x < 18446744073709551616) (w : World) :
    Calls Oabg.prog 69 #[.int .u64 x] w fun e w' => ∃ v, e = .returned v ∧ IsN w' v x ∧ Below w.heap.size w w' := by
  go_enter Oabg.func69, Oabg.ntmps69
  go_wp2_with (go_at_call 106; refine (trim_made w.heap.size 2 2 (fun j => if j = 0 then x % 4294967296 else x / 4294967296) _ (by omega) (by omega) ?_ (by simp [go_sem]) ?_).mono ?_)
  · intro j hj
    obtain rfl | rfl : j = 0 ∨ j = 1 := by omega
    · simp [go_sem]
    · simp [go_sem]
  · intro j hj
    show (if j = 0 then _ else _) < _
    split <;> omega
  · rintro e w' ⟨v, rfl, rfl, hv⟩
    rw [split64] at hv
    go_wp2
    go_ret
    exact ⟨v, rfl, hv, (Below.refl _ _).alloc (Nat.le_refl _) _⟩

theorem info145 : (Oabg.prog.info? 145).map (fun i => (i.zero, i.size, i.bytes)) = some (some (.int .u32 0), 1, 4) := by kernel_rfl

theorem make48 (w : World) (z : Int) (L : Nat) (hz : z = L) (hL : L ≤ 1000000000) : (Instr.makeSlice 48 (.int .i64 z) (.int .i64 z)).run Oabg.prog w =
    .ok (.slice (some ⟨w.heap.size, 0, none⟩) L L) (w.alloc (.cells (Array.replicate L (.int .u32 0)) 145)) := by
  subst hz
  obtain ⟨i, hi, h0, h1, h2⟩ := info_parts info145
  have := run_make w 48 145 i (.int .u32 0) Oabg.underlying48 hi h0 .i64 .i64 (L : Int) (L : Int) (by omega) (Int.le_refl _) (by rw [h2]; omega) (by omega)
  rw [h1, Int.toNat_natCast, Nat.mul_one] at this
  have e : (Value.int IntKind.u32 0).cells = #[Value.int IntKind.u32 0] := rfl
  have e' : madeCells #[Value.int IntKind.u32 0] L = Array.replicate L (.int .u32 0) := by
    apply Array.toList_inj.1
    rw [toList_madeCells_one, Array.toList_replicate]
  rw [this, e, e']

/-- the row C holds the limbs g -/
def RowIs (C : Array Value) (L : Nat) (g : Nat → Nat) : Prop := C.size = L ∧ (∀ j, j < L → C[j]? = some (.int .u32 (g j : Nat))) ∧ ∀ j, g j < 4294967296

theorem RowIs.zero (L : Nat) : RowIs (Array.replicate L (.int .u32 0)) L (fun _ => 0) :=
  ⟨by simp, fun j hj => by simp [hj], fun _ => by show 0 < _; omega⟩

def upd (g : Nat → Nat) (i x : Nat) : Nat → Nat := fun j => if j = i then x else g j

theorem RowIs.put {C : Array Value} {L : Nat} {g : Nat → Nat} (h : RowIs C L g) (i x : Nat) (hx : x < 4294967296) : RowIs (C.setIfInBounds i (.int .u32 x)) L (upd g i x) := by
  refine ⟨by simp [h.1], fun j hj => ?_, fun j => ?_⟩
  · unfold upd
    by_cases hc : j = i
    · subst hc
      rw [if_pos rfl, Array.getElem?_setIfInBounds_self_of_lt (by rw [h.1]; exact hj)]
    · rw [if_neg hc, Array.getElem?_setIfInBounds_ne (by omega)]
      exact h.2.1 j hj
  · unfold upd
    split
    · exact hx
    · exact h.2.2 j

theorem RowIs.cell {C : Array Value} {L : Nat} {g : Nat → Nat} (h : RowIs C L g) (w : World) (j : Nat) (hj : j < L) : (w.alloc (.cells C 145)).cell? ⟨w.heap.size, j, none⟩ = some (.int .u32 (g j : Nat)) := by
  simp [go_sem, h.2.1 j hj]

/-- lift's loop, in plain numbers -/
structure LiftAt (f g : Nat → Nat) (m s t : Nat) : Prop where
  top : ∀ j, m + t < j → g j = 0
  car : g (m + t) < 2 ^ s
  val : nv g (m + t + 1) = nv f t * 2 ^ (32 * m + s)

theorem nv_upd_ge {g : Nat → Nat} {i x n : Nat} (h : n ≤ i) : nv (upd g i x) n = nv g n :=
  nv_congr fun j hj => by unfold upd; rw [if_neg (by omega)]

theorem nv_all_zero (n : Nat) : nv (fun _ => 0) n = 0 := by
  induction n with
  | zero => rfl
  | succ n ih => simp [nv, ih]

theorem LiftAt.start (f : Nat → Nat) (m s : Nat) : LiftAt f (fun _ => 0) m s 0 :=
  ⟨fun _ _ => rfl, two_pow_pos' s, by rw [nv_all_zero]; simp [nv]⟩

theorem split_mul (X P : Nat) : X % 4294967296 * P + X / 4294967296 * (4294967296 * P) = X * P := by
  rw [← Nat.mul_assoc, ← Nat.add_mul, Nat.mul_comm (X / 4294967296), Nat.mod_add_div]

theorem LiftAt.next {f g : Nat → Nat} {m s t : Nat} (h : LiftAt f g m s t) (hs : s < 32) (hf : f t < 4294967296) :
    g (m + t) ||| (f t * 2 ^ s % 4294967296) = g (m + t) + f t * 2 ^ s % 4294967296 ∧ g (m + t) + f t * 2 ^ s % 4294967296 < 4294967296 ∧ f t * 2 ^ s / 4294967296 < 4294967296 ∧ f t * 2 ^ s < 18446744073709551616 ∧
    LiftAt f (upd (upd g (m + t) (g (m + t) + f t * 2 ^ s % 4294967296)) (m + t + 1) (f t * 2 ^ s / 4294967296)) m s (t + 1) := by
  have e32 : (4294967296 : Nat) = 2 ^ (32 - s) * 2 ^ s := by rw [← Nat.pow_add]; rw [show 32 - s + s = 32 by omega]
  have hmod : f t * 2 ^ s % 4294967296 = f t % 2 ^ (32 - s) * 2 ^ s := by
    rw [e32, Nat.mul_mod_mul_right]
  have hlt : f t % 2 ^ (32 - s) + 1 ≤ 2 ^ (32 - s) := Nat.mod_lt _ (two_pow_pos' _)
  have hle := Nat.mul_le_mul_right (2 ^ s) hlt
  rw [Nat.add_mul, Nat.one_mul, ← e32] at hle
  have hcar := h.car
  have hdiv : f t * 2 ^ s / 4294967296 < 2 ^ s := by
    rw [Nat.div_lt_iff_lt_mul (by omega), Nat.mul_comm]
    exact Nat.mul_lt_mul_of_pos_left hf (two_pow_pos' s)
  have hps : (2 : Nat) ^ s ≤ 4294967296 := two_pow_le (k := 32) (by omega)
  have hbig : f t * 2 ^ s < 18446744073709551616 := by
    have := Nat.mul_lt_mul_of_lt_of_le hf hps (by omega)
    omega
  refine ⟨?_, by omega, by omega, hbig, ?_, ?_, ?_⟩
  · rw [Nat.or_comm, nat_join s _ _ (by rw [hmod]; simp) hcar, Nat.add_comm]
  · intro j hj
    unfold upd
    rw [if_neg (by omega), if_neg (by omega)]
    exact h.top j (by omega)
  · show upd _ (m + t + 1) _ (m + t + 1) < _
    unfold upd
    rw [if_pos rfl]
    exact hdiv
  · show nv _ (m + t + 1) + _ * 2 ^ (32 * (m + t + 1)) = (nv f t + f t * 2 ^ (32 * t)) * 2 ^ (32 * m + s)
    rw [nv_upd_ge (Nat.le_refl _)]
    have e1 : upd (upd g (m + t) (g (m + t) + f t * 2 ^ s % 4294967296)) (m + t + 1) (f t * 2 ^ s / 4294967296) (m + (t + 1)) = f t * 2 ^ s / 4294967296 := by
      unfold upd; rw [if_pos (by omega)]
    rw [e1]
    have e2 : nv (upd g (m + t) (g (m + t) + f t * 2 ^ s % 4294967296)) (m + t + 1) = nv g (m + t + 1) + f t * 2 ^ s % 4294967296 * 2 ^ (32 * (m + t)) := by
      show nv _ (m + t) + _ * 2 ^ (32 * (m + t)) = nv g (m + t) + g (m + t) * 2 ^ (32 * (m + t)) + _
      rw [nv_upd_ge (Nat.le_refl _)]
      have e3 : upd g (m + t) (g (m + t) + f t * 2 ^ s % 4294967296) (m + t) = g (m + t) + f t * 2 ^ s % 4294967296 := by unfold upd; rw [if_pos rfl]
      rw [e3, Nat.add_mul, Nat.add_assoc]
    have e4 : (2 : Nat) ^ (32 * (m + t + 1)) = 4294967296 * 2 ^ (32 * (m + t)) := by
      rw [show 32 * (m + t + 1) = 32 + 32 * (m + t) by omega, Nat.pow_add]
    have e5 : f t * 2 ^ (32 * t) * 2 ^ (32 * m + s) = f t * 2 ^ s * 2 ^ (32 * (m + t)) := by
      rw [Nat.mul_assoc, ← Nat.pow_add, Nat.mul_assoc, ← Nat.pow_add, show 32 * t + (32 * m + s) = s + 32 * (m + t) by omega]
    rw [e2, h.val, Nat.add_mul, Nat.add_assoc, e4, e5, split_mul]

end Go.Proofs.Ygcoab
