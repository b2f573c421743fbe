import Derived.Test.YgcoabPlainRnd2
import Derived.Test.YgcoabWEzeros
import Derived.Laws.CopyRow
namespace Go.Proofs.Ygcoab
open Go.RowKit

theorem dv_upd {o : Nat → Nat} {i x m : Nat} (hi : i < m) : dv (upd o i x) m + (o i - 48) * 10 ^ (m - 1 - i) = dv o m + (x - 48) * 10 ^ (m - 1 - i) := by
  induction m with
  | zero => omega
  | succ m ih =>
    show dv (upd o i x) m * 10 + (upd o i x m - 48) + _ = dv o m * 10 + (o m - 48) + _
    by_cases hm : i = m
    · subst hm
      have h1 : dv (upd o i x) i = dv o i := dv_congr fun j hj => by unfold upd; rw [if_neg (by omega)]
      rw [h1, upd_at, show i + 1 - 1 - i = 0 by omega, Nat.pow_zero, Nat.mul_one, Nat.mul_one]
      omega
    · have h1 := ih (by omega)
      have h2 : upd o i x m = o m := by unfold upd; rw [if_neg (by omega)]
      have h3 : m + 1 - 1 - i = (m - 1 - i) + 1 := by omega
      rw [h2, h3, Nat.pow_succ, ← Nat.mul_assoc, ← Nat.mul_assoc]
      generalize (o i - 48) * 10 ^ (m - 1 - i) = a at *
      generalize (x - 48) * 10 ^ (m - 1 - i) = b at *
      omega

/-- round's second loop: one is added from the end on -/
structure IncAt (V kk : Nat) (o : Nat → Nat) (i1 : Nat) (up : Bool) : Prop where
  dig : ∀ j, j ≤ kk → 48 ≤ o j ∧ o j ≤ 57
  val : dv o (kk + 1) + (if up then 10 ^ (kk + 1 - i1) else 0) = V
  top : up = true → o 0 = 48 ∧ 0 < i1
  le : i1 ≤ kk + 1

theorem IncAt.start {kk : Nat} {o : Nat → Nat} (up : Bool) (hd : ∀ j, j ≤ kk → 48 ≤ o j ∧ o j ≤ 57) (h0 : o 0 = 48) : IncAt (dv o (kk + 1) + if up then 1 else 0) kk o (kk + 1) up :=
  ⟨hd, by rw [Nat.sub_self, Nat.pow_zero], fun _ => ⟨h0, by omega⟩, Nat.le_refl _⟩

theorem IncAt.done {V kk i : Nat} {o : Nat → Nat} (h : IncAt V kk o (i + 1) true) (h9 : o i ≠ 57) : IncAt V kk (upd o i (o i + 1)) i false := by
  have hle := h.le
  have hv := h.val
  have hu := dv_upd (o := o) (i := i) (x := o i + 1) (m := kk + 1) (by omega)
  have hdi := h.dig i (by omega)
  refine ⟨fun j hj => ?_, ?_, fun h => (Bool.noConfusion h), by omega⟩
  · unfold upd
    split
    · omega
    · exact h.dig j hj
  · rw [if_pos rfl, show kk + 1 - (i + 1) = kk + 1 - 1 - i by omega] at hv
    simp only [Bool.false_eq_true, if_false]
    rw [show o i + 1 - 48 = (o i - 48) + 1 by omega, Nat.add_mul, Nat.one_mul] at hu
    omega

theorem IncAt.carry {V kk i : Nat} {o : Nat → Nat} (h : IncAt V kk o (i + 1) true) (h9 : o i = 57) : IncAt V kk (upd o i 48) i true := by
  have hle := h.le
  have hv := h.val
  have hu := dv_upd (o := o) (i := i) (x := 48) (m := kk + 1) (by omega)
  have hi : i ≠ 0 := fun hq => by
    have := (h.top rfl).1
    rw [hq] at h9
    omega
  refine ⟨fun j hj => ?_, ?_, fun _ => ⟨?_, by omega⟩, by omega⟩
  · unfold upd
    split
    · omega
    · exact h.dig j hj
  · rw [if_pos rfl] at hv ⊢
    rw [show kk + 1 - (i + 1) = kk + 1 - 1 - i by omega] at hv
    rw [show kk + 1 - i = (kk + 1 - 1 - i) + 1 by omega, Nat.pow_succ]
    rw [h9] at hu
    generalize 10 ^ (kk + 1 - 1 - i) = Y at *
    omega
  · unfold upd
    rw [if_neg (by omega)]
    exact (h.top rfl).1

theorem dv_shift {o : Nat → Nat} (h0 : o 0 = 48) (k : Nat) : dv o (k + 1) = dv (fun j => o (j + 1)) k := by
  induction k with
  | zero => show 0 * 10 + (o 0 - 48) = 0; rw [h0]
  | succ k ih => show dv o (k + 1) * 10 + _ = dv (fun j => o (j + 1)) k * 10 + _; rw [ih]

/-- the row that round fills: a nought, then the digits kept -/
def outF (g : Nat → Nat) (kk : Nat) : Nat → Nat := fun j => if j = 0 then 48 else if j ≤ kk then g (j - 1) else 0

theorem outF_dv (g : Nat → Nat) (kk : Nat) : dv (outF g kk) (kk + 1) = dv g kk := by
  rw [dv_shift (by unfold outF; rw [if_pos rfl])]
  refine dv_congr fun j hj => ?_
  unfold outF
  rw [if_neg (by omega), if_pos (by omega), Nat.add_sub_cancel]

theorem outF_dig {g : Nat → Nat} {kk n : Nat} (hd : ∀ j, j < n → 48 ≤ g j ∧ g j ≤ 57) (hk : kk ≤ n) : ∀ j, j ≤ kk → 48 ≤ outF g kk j ∧ outF g kk j ≤ 57 := fun j hj => by
  unfold outF
  by_cases h0 : j = 0
  · rw [if_pos h0]; omega
  · rw [if_neg h0, if_pos hj]
    exact hd _ (by omega)

/-- the last digit kept is odd as the number is -/
theorem outF_odd {g : Nat → Nat} {kk n : Nat} (hd : ∀ j, j < n → 48 ≤ g j ∧ g j ≤ 57) (hk : kk ≤ n) : outF g kk kk % 2 = dv g kk % 2 := by
  cases kk with
  | zero => simp [outF, dv]
  | succ k =>
    have h1 := hd k (by omega)
    show (if k + 1 = 0 then 48 else if k + 1 ≤ k + 1 then g (k + 1 - 1) else 0) % 2 = (dv g k * 10 + (g k - 48)) % 2
    rw [if_neg (by omega), if_pos (Nat.le_refl _), Nat.add_sub_cancel]
    omega

theorem zerosB_zero : zerosB 0 = { data := #[] } := by
  apply ba_ext
  · rw [zerosB_size]; rfl
  · intro k hk
    rw [zerosB_size] at hk
    omega

/-- the string that round gives -/
theorem round_out {g : Nat → Nat} {n keep : Nat} {o : Nat → Nat} {i1 : Nat} (hn : 0 < n) (hd : ∀ j, j < n → 48 ≤ g j ∧ g j ≤ 57) (hl : g 0 ≠ 48)
    (h : IncAt (dv g (min keep n) + if upF g n keep then 1 else 0) (min keep n) o i1 false) :
    ((o 0 ≠ 48 ∨ min keep n = 0) → DigB (rndN g n keep) (strOfNums (rowL (fun j => (o j : Int)) 0 (min keep n + 1)) ++ zerosB (keep - n))) ∧
    (¬ (o 0 ≠ 48 ∨ min keep n = 0) → DigB (rndN g n keep) (strOfNums (rowL (fun j => (o j : Int)) 1 (min keep n)) ++ zerosB (keep - n))) := by
  have hv := h.val
  simp only [Bool.false_eq_true, if_false, Nat.add_zero] at hv
  unfold rndN
  rw [← hv]
  constructor
  · intro hc
    have := str_digB (o := o) (off := 0) (cnt := min keep n + 1) (z := keep - n) (fun j hj => by rw [Nat.zero_add]; exact h.dig j (by omega)) (by omega) (by
      rcases hc with hc | hc
      · exact .inr hc
      · left; omega)
    simpa using this
  · intro hc
    have h0 : o 0 = 48 := Classical.byContradiction fun hq => hc (.inl hq)
    have hk : 0 < min keep n := Nat.pos_of_ne_zero fun hq => hc (.inr hq)
    have hs := dv_shift h0 (min keep n)
    have h1 : o 1 ≠ 48 := fun h1 => by
      obtain ⟨k, hk'⟩ : ∃ k, min keep n = k + 1 := ⟨min keep n - 1, by omega⟩
      have h2 : dv g (min keep n) ≤ dv o (min keep n + 1) := by omega
      have h3 : 10 ^ k ≤ dv g (min keep n) := by
        rw [hk']
        have := hd 0 hn
        exact dv_ge (by omega) k
      have h4 : dv o (min keep n + 1) < 10 ^ k := by
        rw [hs, hk', dv_shift (o := fun j => o (j + 1)) h1]
        exact dv_lt fun j hj => h.dig _ (by omega)
      omega
    have := str_digB (o := o) (off := 1) (cnt := min keep n) (z := keep - n) (fun j hj => h.dig _ (by omega)) hk (.inr h1)
    rw [hs]
    have e : (fun j => o (1 + j)) = fun j => o (j + 1) := by funext j; rw [Nat.add_comm]
    rw [e] at this
    exact this

theorem zero155 (w : World) : (zeroValue 155).run Oabg.prog w = .ok (.agg (Array.replicate 1442 (.int .u8 0))) w :=
  (zero_of_info (P := Oabg.prog) (t := 155) (v := .agg (Array.replicate 1442 (.int .u8 0))) (n := 1442) (by kernel_rfl)).1 w

theorem len155 : Oabg.prog.arrayLen 155 = 1442 := by kernel_rfl
theorem elem155 : Oabg.prog.elem 155 = 5 := by kernel_rfl
theorem under155 : Oabg.prog.underlying 155 = some (.array (Oabg.prog.arrayLen 155) (Oabg.prog.elem 155)) := by kernel_rfl
theorem len110 : Oabg.prog.arrayLen 110 = 1441 := by kernel_rfl
theorem elem110 : Oabg.prog.elem 110 = 5 := by kernel_rfl
theorem under110 : Oabg.prog.underlying 110 = some (.array (Oabg.prog.arrayLen 110) (Oabg.prog.elem 110)) := by kernel_rfl
theorem info5s : (Oabg.prog.info? 5).map (·.size) = some 1 := by kernel_rfl

theorem sliceTail (b : Nat) (w : World) : (Instr.sliceAt 155 (.pointer (some ⟨b, 0, none⟩)) (some (.int .i64 1)) none none).run Oabg.prog w = .ok (.slice (some ⟨b, 1, none⟩) 1441 1441) w := by
  rw [run_sliceAt_array_l w 155 _ under155 .i64 1 (by omega) (by rw [len155]; omega), len155, elem155, size5]
  simp [Result.andThen, slicedAt, Addr.add]

theorem sliceDig (b k : Nat) (hk : k ≤ 1441) (w : World) : (Instr.sliceAt 110 (.pointer (some ⟨b, 0, none⟩)) none (some (.int .i64 (k : Int))) none).run Oabg.prog w = .ok (.slice (some ⟨b, 0, none⟩) k 1441) w := by
  rw [run_sliceAt_array_h w 110 _ under110 .i64 k (by omega) (by rw [len110]; omega), len110, elem110, size5]
  simp [Result.andThen, slicedAt, Addr.add]

theorem sliceHead (b k : Nat) (hk : k ≤ 1442) (w : World) : (Instr.sliceAt 155 (.pointer (some ⟨b, 0, none⟩)) none (some (.int .i64 (k : Int))) none).run Oabg.prog w = .ok (.slice (some ⟨b, 0, none⟩) k 1442) w := by
  rw [run_sliceAt_array_h w 155 _ under155 .i64 k (by omega) (by rw [len155]; omega), len155, elem155, size5]
  simp [Result.andThen, slicedAt, Addr.add]

theorem sliceMid (b k : Nat) (hk : k + 1 ≤ 1442) (w : World) : (Instr.sliceAt 155 (.pointer (some ⟨b, 0, none⟩)) (some (.int .i64 1)) (some (.int .i64 ((k : Int) + 1))) none).run Oabg.prog w = .ok (.slice (some ⟨b, 1, none⟩) k 1441) w := by
  rw [run_sliceAt_array_lh w 155 _ under155 .i64 .i64 1 ((k : Int) + 1) (by omega) (by omega) (by rw [len155]; omega), len155, elem155, size5]
  simp [Result.andThen, slicedAt, Addr.add]

/-- the digits are copied behind the nought -/
theorem copyDig {W : World} {P R : Nat} {C : Array Value} {g f : Nat → Nat} {kk : Nat} (hk : kk ≤ 1441) (hC : Blk R 155 C W) (hU : U8C C 1442 f) (hd : ∀ j, j < kk → W.cell? ⟨P, j, none⟩ = some (.int .u8 (g j : Nat))) (ty : TypeId) :
    ∃ C', (Builtin.copy_ #[83, 83] ty #[.slice (some ⟨R, 1, none⟩) 1441 1441, .slice (some ⟨P, 0, none⟩) kk 1441]).run Oabg.prog W = .ok (goInt kk) (W.setRow R C') ∧ U8C C' 1442 (fun j => if 1 ≤ j ∧ j < 1 + kk then g (j - 1) else f j) := by
  have hs := hU.size
  obtain ⟨cs, hcs⟩ : ∃ cs, cs = (List.range kk).map (fun j => Value.int .u8 (g j : Nat)) := ⟨_, rfl⟩
  have hlen : cs.length = kk := by rw [hcs]; simp
  have hget : ∀ j, j < kk → cs[j]? = some (Value.int .u8 (g j : Nat)) := fun j hj => by
    rw [hcs]
    simp [hj]
  refine ⟨(C.toList.take 1 ++ cs ++ C.toList.drop (1 + cs.length)).toArray, ?_, ?_, fun j hj => ?_⟩
  · have := run_copy_row (P := Oabg.prog) W 83 83 ty 5 R 1 1441 1441 ⟨P, 0, none⟩ kk 1441 C 155 cs Oabg.underlying83 info5s hC.row (by rw [hlen]; exact (Nat.min_eq_left hk).symm) (fun j v hv => by
      have hj : j < kk := by
        have := (List.getElem?_eq_some_iff.1 hv).1
        omega
      rw [hget j hj] at hv
      have hadd : (⟨P, 0, none⟩ : Addr).add j = ⟨P, j, none⟩ := by unfold Addr.add; split <;> simp_all
      rw [hadd, hd j hj]
      exact hv) (by rw [hlen, hs]; omega) (fun v hv => by
      rw [hcs] at hv
      simp at hv
      obtain ⟨a, _, rfl⟩ := hv
      rfl)
    rw [hlen] at this ⊢
    exact this
  · simp [hlen, hs]
    omega
  · rw [List.getElem?_toArray]
    have hl1 : (C.toList.take 1).length = 1 := by simp [hs]
    have hC' : ∀ i, i < 1442 → C.toList[i]? = some (Value.int .u8 (f i : Nat)) := fun i hi => by
      rw [Array.getElem?_toList]
      exact hU.cell i hi
    by_cases h0 : j < 1
    · rw [List.append_assoc, List.getElem?_append_left (by omega), List.getElem?_take_of_lt h0, hC' j hj, if_neg (by omega)]
    · by_cases h1 : j < 1 + kk
      · rw [List.append_assoc, List.getElem?_append_right (by omega), hl1, List.getElem?_append_left (by omega), hget _ (by omega), if_pos (by omega)]
      · rw [List.getElem?_append_right (by simp [hs, hlen]; omega), List.getElem?_drop, if_neg (by omega)]
        have : 1 + cs.length + (j - (C.toList.take 1 ++ cs).length) = j := by
          rw [List.length_append, hl1, hlen]
          omega
        rw [this]
        exact hC' j hj

end Go.Proofs.Ygcoab
