import Derived.Test.YgcoabPlainExp
namespace Go.Proofs.Ygcoab
open Go.RowKit

/-- limbs of 64 bits, the least first -/
def mv (f : Nat → Nat) : Nat → Nat
  | 0 => 0
  | k + 1 => mv f k + f k * 18446744073709551616 ^ k

/-- m limbs from k on, in units of limb k -/
def hv (f : Nat → Nat) : Nat → Nat → Nat
  | 0, _ => 0
  | m + 1, k => f k + 18446744073709551616 * hv f m (k + 1)

theorem mv_split (f : Nat → Nat) (m k : Nat) : mv f (k + m) = mv f k + hv f m k * 18446744073709551616 ^ k := by
  induction m generalizing k with
  | zero => simp [hv]
  | succ m ih =>
    have h1 : k + (m + 1) = (k + 1) + m := by omega
    rw [h1, ih (k + 1)]
    show mv f k + f k * 18446744073709551616 ^ k + hv f m (k + 1) * 18446744073709551616 ^ (k + 1) = mv f k + (f k + 18446744073709551616 * hv f m (k + 1)) * 18446744073709551616 ^ k
    rw [Nat.pow_succ, Nat.add_mul, Nat.add_assoc]
    congr 2
    rw [Nat.mul_comm (18446744073709551616 ^ k), ← Nat.mul_assoc, Nat.mul_comm (hv f m (k + 1))]

theorem mv_congr {f g : Nat → Nat} {k : Nat} (h : ∀ j, j < k → f j = g j) : mv f k = mv g k := by
  induction k with
  | zero => rfl
  | succ k ih =>
    show mv f k + f k * _ = mv g k + g k * _
    rw [ih fun j hj => h j (by omega), h k (by omega)]

theorem mv_upd {f : Nat → Nat} {i x k : Nat} (h : k ≤ i) : mv (upd f i x) k = mv f k :=
  mv_congr fun j hj => by unfold upd; rw [if_neg (by omega)]

theorem hv_upd {f : Nat → Nat} {i x : Nat} (m k : Nat) (h : i < k) : hv (upd f i x) m k = hv f m k := by
  induction m generalizing k with
  | zero => rfl
  | succ m ih =>
    show upd f i x k + _ * hv (upd f i x) m (k + 1) = f k + _ * hv f m (k + 1)
    rw [ih (k + 1) (by omega)]
    unfold upd
    rw [if_neg (by omega)]

theorem upd_at (f : Nat → Nat) (i x : Nat) : upd f i x i = x := by unfold upd; rw [if_pos rfl]

theorem upd_lt {f : Nat → Nat} {i x b : Nat} (h : ∀ j, f j < b) (hx : x < b) : ∀ j, upd f i x j < b := fun j => by
  unfold upd
  split
  · exact hx
  · exact h j

/-- the division's inner loop: limbs from k on are divided -/
structure DwAt (V : Nat) (f : Nat → Nat) (k rest any : Nat) : Prop where
  eq : V = mv f k + (rest + 1000000000000000000 * hv f (18 - k) k) * 18446744073709551616 ^ k
  r : rest < 1000000000000000000
  lim : ∀ j, f j < 18446744073709551616
  any0 : any = 0 ↔ hv f (18 - k) k = 0
  anyl : any < 18446744073709551616

theorem DwAt.start {f : Nat → Nat} {k : Nat} (hk : 18 ≤ k) (h : ∀ j, f j < 18446744073709551616) : DwAt (mv f k) f k 0 0 := by
  have h0 : hv f (18 - k) k = 0 := by rw [Nat.sub_eq_zero_of_le hk]; rfl
  refine ⟨?_, by omega, h, ?_, by omega⟩
  · rw [h0, Nat.mul_zero, Nat.add_zero, Nat.zero_mul, Nat.add_zero]
  · rw [h0]

theorem dv_quot {r a : Nat} (hr : r < 1000000000000000000) (ha : a < 18446744073709551616) : (r * 18446744073709551616 + a) / 1000000000000000000 < 18446744073709551616 := by omega

theorem or_lt64 {a b : Nat} (ha : a < 18446744073709551616) (hb : b < 18446744073709551616) : a ||| b < 18446744073709551616 := Nat.or_lt_two_pow (n := 64) ha hb

theorem DwAt.next {V : Nat} {f : Nat → Nat} {i rest any : Nat} (h : DwAt V f (i + 1) rest any) (hi : i < 18) :
    DwAt V (upd f i ((rest * 18446744073709551616 + f i) / 1000000000000000000)) i ((rest * 18446744073709551616 + f i) % 1000000000000000000) (any ||| (rest * 18446744073709551616 + f i) / 1000000000000000000) := by
  have hq := dv_quot h.r (h.lim i)
  have hX := Nat.div_add_mod (rest * 18446744073709551616 + f i) 1000000000000000000
  generalize (rest * 18446744073709551616 + f i) / 1000000000000000000 = q at *
  have hr : (rest * 18446744073709551616 + f i) % 1000000000000000000 < 1000000000000000000 := Nat.mod_lt _ (by omega)
  generalize (rest * 18446744073709551616 + f i) % 1000000000000000000 = r' at *
  have hm : 18 - i = (18 - (i + 1)) + 1 := by omega
  have hH : hv (upd f i q) (18 - i) i = q + 18446744073709551616 * hv f (18 - (i + 1)) (i + 1) := by
    rw [hm]
    show upd f i q i + _ * hv (upd f i q) (18 - (i + 1)) (i + 1) = _
    rw [upd_at, hv_upd _ _ (by omega)]
  refine ⟨?_, hr, upd_lt h.lim hq, ?_, or_lt64 h.anyl hq⟩
  · have h1 := h.eq
    have h2 : mv f (i + 1) = mv f i + f i * 18446744073709551616 ^ i := rfl
    rw [hH, mv_upd (Nat.le_refl _), h1, h2, Nat.pow_succ, Nat.add_assoc]
    congr 1
    generalize hv f (18 - (i + 1)) (i + 1) = H
    rw [Nat.mul_comm (18446744073709551616 ^ i), ← Nat.mul_assoc, ← Nat.add_mul]
    congr 1
    omega
  · rw [hH, Nat.or_eq_zero_iff, h.any0]
    omega

theorem DwAt.done {V : Nat} {f : Nat → Nat} {rest any : Nat} (h : DwAt V f 0 rest any) : V = rest + 1000000000000000000 * mv f 18 ∧ (any = 0 ↔ mv f 18 = 0) := by
  have h1 := h.eq
  have h2 := mv_split f 18 0
  have h3 := h.any0
  rw [Nat.zero_add, Nat.pow_zero, Nat.mul_one] at h2
  have h4 : mv f 0 = 0 := rfl
  rw [h4, Nat.zero_add] at h2
  rw [h4, Nat.pow_zero, Nat.mul_one, Nat.zero_add, Nat.sub_zero, ← h2] at h1
  rw [Nat.sub_zero, ← h2] at h3
  exact ⟨h1, h3⟩

/-- groups of 18 digits, the least first -/
def gv (h : Nat → Nat) : Nat → Nat
  | 0 => 0
  | k + 1 => gv h k + h k * 1000000000000000000 ^ k

theorem gv_upd {f : Nat → Nat} {i x k : Nat} (h : k ≤ i) : gv (upd f i x) k = gv f k := by
  induction k with
  | zero => rfl
  | succ k ih =>
    show gv (upd f i x) k + upd f i x k * _ = gv f k + f k * _
    rw [ih (by omega)]
    unfold upd
    rw [if_neg (by omega)]

structure GvAt (T : Nat) (h : Nat → Nat) (n V : Nat) : Prop where
  eq : T = gv h n + V * 1000000000000000000 ^ n
  lt : ∀ j, h j < 1000000000000000000

theorem GvAt.start (T : Nat) : GvAt T (fun _ => 0) 0 T := ⟨by simp [gv], fun j => by omega⟩

theorem GvAt.next {T : Nat} {h : Nat → Nat} {n V V' r : Nat} (H : GvAt T h n V) (hr : r < 1000000000000000000) (hV : V = r + 1000000000000000000 * V') : GvAt T (upd h n r) (n + 1) V' := by
  refine ⟨?_, upd_lt H.lt hr⟩
  show T = gv (upd h n r) n + upd h n r n * _ + _
  rw [gv_upd (Nat.le_refl _), upd_at, H.eq, Nat.add_assoc, Nat.pow_succ, hV, Nat.add_mul]
  congr 2
  rw [Nat.mul_comm 1000000000000000000 V', Nat.mul_assoc, Nat.mul_comm 1000000000000000000]

theorem GvAt.last {T : Nat} {h : Nat → Nat} {V : Nat} (H : GvAt T h 20 V) (hT : T < 1000000000000000000 ^ 20) : V = 0 := by
  have h1 := H.eq
  generalize 1000000000000000000 ^ 20 = X at *
  cases V with
  | zero => rfl
  | succ V =>
    rw [Nat.add_mul] at h1
    omega

theorem GvAt.full {T : Nat} {h : Nat → Nat} {n : Nat} (H : GvAt T h n 0) : T = gv h n := by
  have := H.eq
  omega

/-- the limbs of man * 2^ex -/
def lay (k lo hi : Nat) : Nat → Nat := upd (upd (fun _ => 0) k lo) (k + 1) hi

theorem mv_zero (n : Nat) : mv (fun _ => 0) n = 0 := by
  induction n with
  | zero => rfl
  | succ n ih => show mv (fun _ => 0) n + 0 * _ = 0; rw [ih]; simp

theorem hv_zero (m k : Nat) : hv (fun _ => 0) m k = 0 := by
  induction m generalizing k with
  | zero => rfl
  | succ m ih => show 0 + _ * hv (fun _ => 0) m (k + 1) = 0; rw [ih]

theorem mv_lay {k lo hi : Nat} (hk : k + 2 ≤ 18) : mv (lay k lo hi) 18 = (lo + hi * 18446744073709551616) * 18446744073709551616 ^ k := by
  have h1 : (18 : Nat) = (k + 2) + (16 - k) := by omega
  unfold lay
  rw [h1, mv_split, hv_upd _ _ (by omega), hv_upd _ _ (by omega), hv_zero, Nat.zero_mul, Nat.add_zero]
  show mv _ k + upd (upd _ k lo) (k + 1) hi k * _ + upd (upd _ k lo) (k + 1) hi (k + 1) * _ = _
  rw [mv_upd (by omega), mv_upd (Nat.le_refl _), mv_zero, upd_at]
  have h2 : upd (upd (fun _ => 0) k lo) (k + 1) hi k = lo := by
    unfold upd
    rw [if_neg (by omega), if_pos rfl]
  rw [h2, Nat.pow_succ, Nat.add_mul, Nat.zero_add]
  congr 1
  rw [Nat.mul_comm (18446744073709551616 ^ k), Nat.mul_assoc]

theorem mv_lay1 {k lo : Nat} (hk : k + 1 ≤ 18) : mv (upd (fun _ => 0) k lo) 18 = lo * 18446744073709551616 ^ k := by
  have h1 : (18 : Nat) = (k + 1) + (17 - k) := by omega
  rw [h1, mv_split, hv_upd _ _ (by omega), hv_zero, Nat.zero_mul, Nat.add_zero]
  show mv _ k + upd _ k lo k * _ = _
  rw [mv_upd (Nat.le_refl _), mv_zero, upd_at, Nat.zero_add]

/-- the shifted word's two limbs -/
theorem two_limbs (man s : Nat) (hs : s < 64) : man * 2 ^ s % 18446744073709551616 + man / 2 ^ (64 - s) * 18446744073709551616 = man * 2 ^ s := by
  have h1 : (18446744073709551616 : Nat) = 2 ^ (64 - s) * 2 ^ s := by
    rw [← Nat.pow_add, show 64 - s + s = 64 by omega]
  have h2 : man * 2 ^ s / 18446744073709551616 = man / 2 ^ (64 - s) := by
    rw [h1, Nat.mul_div_mul_right _ _ (Nat.pow_pos (by omega))]
  have := Nat.div_add_mod (man * 2 ^ s) 18446744073709551616
  rw [h2] at this
  omega

theorem lay_val {man ex k s : Nat} (hk : k = ex / 64) (hs : s = ex % 64) (he : ex ≤ 1087) : mv (lay k (man * 2 ^ s % 18446744073709551616) (man / 2 ^ (64 - s))) 18 = man * 2 ^ ex := by
  rw [mv_lay (by omega), two_limbs man s (by omega), Nat.mul_assoc]
  congr 1
  rw [show (18446744073709551616 : Nat) = 2 ^ 64 from rfl, ← Nat.pow_mul, ← Nat.pow_add]
  congr 1
  omega

theorem lay1_val {man ex k : Nat} (hk : k = ex / 64) (hs : ex % 64 = 0) (he : ex ≤ 1087) : mv (upd (fun _ => 0) k man) 18 = man * 2 ^ ex := by
  rw [mv_lay1 (by omega)]
  congr 1
  rw [show (18446744073709551616 : Nat) = 2 ^ 64 from rfl, ← Nat.pow_mul]
  congr 1
  omega

theorem pow_room {a c d e f : Nat} (h1 : a + c ≤ 13 * d) (h2 : 4 * d ≤ e * f) : 2 ^ a * 2 ^ c ≤ (10 ^ e) ^ f := by
  rw [← Nat.pow_add, ← Nat.pow_mul]
  refine Nat.le_trans (Nat.pow_le_pow_right (by omega) h1) ?_
  rw [Nat.pow_mul]
  refine Nat.le_trans (Nat.pow_le_pow_left (show 2 ^ 13 ≤ 10 ^ 4 by decide) d) ?_
  rw [← Nat.pow_mul]
  exact Nat.pow_le_pow_right (by omega) h2

theorem whole_room {man ex : Nat} (hm : man < 18446744073709551616) (he : ex ≤ 1023) : man * 2 ^ ex < 1000000000000000000 ^ 20 := by
  have h2 := pow_room (a := 64) (c := ex) (d := 84) (e := 18) (f := 20) (by omega) (by omega)
  have h3 : (2 : Nat) ^ 64 = 18446744073709551616 := rfl
  have h4 : (10 : Nat) ^ 18 = 1000000000000000000 := rfl
  rw [h3, h4] at h2
  have h5 : 0 < 2 ^ ex := Nat.pow_pos (by omega)
  generalize 1000000000000000000 ^ 20 = X at *
  generalize 2 ^ ex = Y at *
  exact Nat.lt_of_lt_of_le (Nat.mul_lt_mul_of_pos_right hm h5) h2

end Go.Proofs.Ygcoab
