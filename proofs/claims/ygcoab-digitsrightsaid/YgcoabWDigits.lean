/- exact.digitsOf -/
import Derived.Test.YgcoabWUnits
import Derived.Test.YgcoabWItoa
import Derived.Deep.LoopGhost
namespace Go.Proofs.Ygcoab
open Go.RowKit

/-- the number that n digits from place i on spell -/
def dval (f : Nat → Int) : Nat → Nat → Nat
  | _, 0 => 0
  | i, n + 1 => (f i - 48).toNat * 10 ^ n + dval f (i + 1) n

def updI (f : Nat → Int) (k : Nat) (x : Int) : Nat → Int := fun j => if j = k then x else f j

theorem dval_upd {f : Nat → Int} {k : Nat} {x : Int} (i n : Nat) (h : k < i) : dval (updI f k x) i n = dval f i n := by
  induction n generalizing i with
  | zero => rfl
  | succ n ih =>
    unfold dval
    rw [ih (i + 1) (by omega)]
    have : updI f k x i = f i := by unfold updI; rw [if_neg (by omega)]
    rw [this]

theorem dval_put {f : Nat → Int} {k n d : Nat} (hd : d < 10) : dval (updI f k ((48 + d : Nat) : Int)) k (n + 1) = d * 10 ^ n + dval f (k + 1) n := by
  show (updI f k ((48 + d : Nat) : Int) k - 48).toNat * 10 ^ n + dval (updI f k ((48 + d : Nat) : Int)) (k + 1) n = _
  rw [dval_upd (k + 1) n (by omega)]
  have : (updI f k ((48 + d : Nat) : Int) k - 48).toNat = d := by unfold updI; rw [if_pos rfl]; omega
  rw [this]

/-- the digits of a list -/
def valL : List Int → Nat
  | [] => 0
  | x :: xs => (x - 48).toNat * 10 ^ xs.length + valL xs

def rowL (f : Nat → Int) : Nat → Nat → List Int
  | _, 0 => []
  | i, n + 1 => f i :: rowL f (i + 1) n

theorem rowL_len (f : Nat → Int) (i n : Nat) : (rowL f i n).length = n := by
  induction n generalizing i with
  | zero => rfl
  | succ n ih => show (rowL f (i + 1) n).length + 1 = n + 1; rw [ih]

theorem rowL_get (f : Nat → Int) (i n j : Nat) (h : j < n) : (rowL f i n).getD j 0 = f (i + j) := by
  induction n generalizing i j with
  | zero => omega
  | succ n ih =>
    cases j with
    | zero => rfl
    | succ j =>
      show (rowL f (i + 1) n).getD j 0 = _
      rw [ih (i + 1) j (by omega)]
      congr 1
      omega

theorem rowL_val (f : Nat → Int) (i n : Nat) : valL (rowL f i n) = dval f i n := by
  induction n generalizing i with
  | zero => rfl
  | succ n ih =>
    show (f i - 48).toNat * 10 ^ (rowL f (i + 1) n).length + valL (rowL f (i + 1) n) = _
    rw [rowL_len, ih]
    rfl

theorem rowL_mem (f : Nat → Int) (i n : Nat) (P : Int → Prop) (h : ∀ j, j < n → P (f (i + j))) : ∀ x, x ∈ rowL f i n → P x := by
  induction n generalizing i with
  | zero => intro x hx; cases hx
  | succ n ih =>
    intro x hx
    cases hx with
    | head => exact h 0 (by omega)
    | tail _ hx =>
      refine ih (i + 1) (fun j hj => ?_) x hx
      have := h (j + 1) (by omega)
      rw [show i + (j + 1) = i + 1 + j by omega] at this
      exact this

/-- b spells N in decimal, without zeros ahead -/
def DigS (N : Nat) (b : ByteArray) : Prop := ∃ xs : List Int, b = strOfNums xs ∧ (∀ x, x ∈ xs → 48 ≤ x ∧ x ≤ 57) ∧ valL xs = N ∧ 0 < xs.length ∧ (xs.length = 1 ∨ xs.getD 0 0 ≠ 48)

/-- block B holds L bytes -/
structure BufAt (B L : Nat) (f : Nat → Int) (W : World) : Prop where
  c : ∀ j, j < L → W.cell? ⟨B, j, none⟩ = some (.int .u8 (f j))
  fr : ∀ o, W.frozen? ⟨B, o, none⟩ = false
  size : B < W.heap.size

theorem BufAt.step {B L : Nat} {f : Nat → Int} {W W' : World} (h : BufAt B L f W) (hb : Below W.heap.size W W') : BufAt B L f W' :=
  ⟨fun j hj => (hb.cell (p := ⟨B, j, none⟩) h.size).trans (h.c j hj), fun o => (hb.frozen (p := ⟨B, o, none⟩) h.size).trans (h.fr o), Nat.lt_of_lt_of_le h.size hb.size⟩

theorem BufAt.put {B L : Nat} {f : Nat → Int} {W : World} (h : BufAt B L f W) (k : Nat) (hk : k < L) (x : Int) : BufAt B L (updI f k x) (W.setCell ⟨B, k, none⟩ (.int .u8 x)) := by
  refine ⟨fun j hj => ?_, fun o => ?_, ?_⟩
  · unfold updI
    by_cases hjk : j = k
    · rw [if_pos hjk, hjk]
      exact cell_set_eq _ _ _ _ _ (h.c k hk)
    · rw [if_neg hjk, cell_set_ne _ _ _ _ _ _ (by omega)]
      exact h.c j hj
  · have := h.fr o
    simpa [go_sem] using this
  · rw [set1_size]; exact h.size

theorem BufAt.isN {B L k : Nat} {f : Nat → Int} {W : World} {v u : Value} {N : Nat} (h : BufAt B L f W) (hk : k < L) (hv : IsN W v N) : IsN (W.setCell ⟨B, k, none⟩ u) v N := hv.set (h.c k hk) (fun _ h => by cases h)

theorem info5 : (Oabg.prog.info? 5).map (fun i => (i.zero, i.size, i.bytes)) = some (some (.int .u8 0), 1, 1) := by kernel_rfl

theorem make83 (w : World) (z : Int) (L : Nat) (hz : z = L) (hL : L ≤ 1000000000) : (Instr.makeSlice 83 (.int .i64 z) (.int .i64 z)).run Oabg.prog w =
    .ok (.slice (some ⟨w.heap.size, 0, none⟩) L L) (w.alloc (.cells (Array.replicate L (.int .u8 0)) 5)) := by
  subst hz
  obtain ⟨i, hi, h0, h1, h2⟩ := info_parts info5
  have := run_make w 83 5 i (.int .u8 0) Oabg.underlying83 hi h0 .i64 .i64 (L : Int) (L : Int) (by omega) (Int.le_refl _) (by rw [h2]; omega) (by omega)
  rw [h1, Int.toNat_natCast, Nat.mul_one] at this
  have e : (Value.int IntKind.u8 0).cells = #[Value.int IntKind.u8 0] := rfl
  have e' : madeCells #[Value.int IntKind.u8 0] L = Array.replicate L (.int .u8 0) := by
    apply Array.toList_inj.1
    rw [toList_madeCells_one, Array.toList_replicate]
  rw [this, e, e']

theorem BufAt.start (w : World) (L : Nat) : BufAt w.heap.size L (fun _ => 0) (w.alloc (.cells (Array.replicate L (.int .u8 0)) 5)) :=
  ⟨fun j hj => by
    have : (Array.replicate L (Value.int IntKind.u8 0))[j]? = some (.int .u8 0) := by
      rw [Array.getElem?_replicate, if_pos hj]
    simpa [go_sem] using this, fun o => by simp [go_sem], by simp [go_sem]⟩

/-- the room is enough -/
theorem dig_room {N0 bl r : Nat} (h : 10 ^ (9 * r) ≤ N0) (hb : N0 < 2 ^ bl) : 9 * r ≤ bl / 3 := by
  have h1 : 2 ^ (3 * (9 * r)) ≤ 10 ^ (9 * r) := by
    rw [Nat.pow_mul]
    exact Nat.pow_le_pow_left (by omega) _
  have h2 : 3 * (9 * r) < bl := by
    by_cases hc : 3 * (9 * r) < bl
    · exact hc
    · have := two_pow_le (n := bl) (k := 3 * (9 * r)) (by omega)
      omega
  omega

/-- digitsOf's state: at the place at, N is left -/
structure DgAt (w : World) (B L N0 : Nat) (f : Nat → Int) (at' N : Nat) (W : World) : Prop where
  buf : BufAt B L f W
  le : at' ≤ L
  dig : ∀ j, at' ≤ j → j < L → 48 ≤ f j ∧ f j ≤ 57
  sum : N * 10 ^ (L - at') + dval f at' (L - at') = N0
  below : Below w.heap.size w W
  lt : w.heap.size ≤ B

theorem DgAt.step {w W W' : World} {B L N0 at' N : Nat} {f : Nat → Int} (h : DgAt w B L N0 f at' N W) (hb : Below W.heap.size W W') : DgAt w B L N0 f at' N W' :=
  ⟨h.buf.step hb, h.le, h.dig, h.sum, below_step h.below h.below.size hb, h.lt⟩

/-- one digit more -/
theorem DgAt.put {w W : World} {B L N0 k v : Nat} {f : Nat → Int} (h : DgAt w B L N0 f (k + 1) v W) : DgAt w B L N0 (updI f k ((48 + v % 10 : Nat) : Int)) k (v / 10) (W.setCell ⟨B, k, none⟩ (.int .u8 ((48 + v % 10 : Nat) : Int))) := by
  have hk : k < L := h.le
  refine ⟨h.buf.put k hk _, by omega, fun j h1 h2 => ?_, ?_, h.below.setCell (p := ⟨B, k, none⟩) h.lt _, h.lt⟩
  · unfold updI
    by_cases hj : j = k
    · rw [if_pos hj]; omega
    · rw [if_neg hj]; exact h.dig j (by omega) h2
  · have hs := h.sum
    obtain ⟨n, hn⟩ : ∃ n, L - (k + 1) = n := ⟨_, rfl⟩
    rw [hn] at hs
    rw [show L - k = n + 1 by omega, dval_put (Nat.mod_lt v (by omega)), ← hs, Nat.pow_succ]
    have e : v * 10 ^ n = v / 10 * (10 ^ n * 10) + v % 10 * 10 ^ n := by
      have := Nat.div_add_mod v 10
      calc v * 10 ^ n = (10 * (v / 10) + v % 10) * 10 ^ n := by rw [this]
        _ = v / 10 * (10 ^ n * 10) + v % 10 * 10 ^ n := by
          rw [Nat.add_mul, Nat.mul_comm 10 (v / 10), Nat.mul_assoc, Nat.mul_comm 10 (10 ^ n)]
    rw [e]
    omega

end Go.Proofs.Ygcoab
