/- Mul's loops, in plain numbers. -/
import Derived.Test.YgcoabWNat
namespace Go.Proofs.Ygcoab

theorem nv_upd {h : Nat → Nat} {k x n : Nat} (hk : k < n) : nv (upd h k x) n + h k * 2 ^ (32 * k) = nv h n + x * 2 ^ (32 * k) := by
  induction n with
  | zero => omega
  | succ n ih =>
    show nv (upd h k x) n + upd h k x n * 2 ^ (32 * n) + _ = nv h n + h n * 2 ^ (32 * n) + _
    by_cases hc : k = n
    · subst hc
      rw [nv_upd_ge (Nat.le_refl _)]
      have e : upd h k x k = x := by unfold upd; rw [if_pos rfl]
      rw [e]
      omega
    · have e : upd h k x n = h n := by unfold upd; rw [if_neg (by omega)]
      have := ih (by omega)
      rw [e]
      omega

/-- the outer loop at i -/
structure MulAt (f g h : Nat → Nat) (m i : Nat) : Prop where
  top : ∀ j, i + m ≤ j → h j = 0
  val : nv h (i + m) = nv f i * nv g m

/-- the inner loop at (i, j), with the carry q -/
structure MulIn (f g h : Nat → Nat) (m i j q : Nat) : Prop where
  car : q < 4294967296
  top : ∀ k, i + m ≤ k → h k = 0
  val : nv h (i + m) + q * 2 ^ (32 * (i + j)) = nv f i * nv g m + f i * nv g j * 2 ^ (32 * i)

theorem MulAt.start (f g : Nat → Nat) (m : Nat) : MulAt f g (fun _ => 0) m 0 :=
  ⟨fun _ _ => rfl, by rw [nv_all_zero]; simp [nv]⟩

theorem MulAt.enter {f g h : Nat → Nat} {m i : Nat} (H : MulAt f g h m i) : MulIn f g h m i 0 0 :=
  ⟨by omega, H.top, by rw [H.val]; simp [nv]⟩

theorem mul_bound {a b c d : Nat} (ha : a < 4294967296) (hb : b < 4294967296) (hc : c < 4294967296) (hd : d < 4294967296) : c + (a * b + d) < 18446744073709551616 := by
  have := Nat.mul_le_mul (show a ≤ 4294967295 by omega) (show b ≤ 4294967295 by omega)
  omega

theorem MulIn.next {f g h : Nat → Nat} {m i j q : Nat} (H : MulIn f g h m i j q) (hj : j < m) (hf : f i < 4294967296) (hg : g j < 4294967296) (hh : h (i + j) < 4294967296) :
    MulIn f g (upd h (i + j) ((q + (f i * g j + h (i + j))) % 4294967296)) m i (j + 1) ((q + (f i * g j + h (i + j))) / 4294967296) := by
  have hb := mul_bound hf hg H.car hh
  refine ⟨by omega, fun k hk => ?_, ?_⟩
  · unfold upd
    rw [if_neg (by omega)]
    exact H.top k hk
  · have h1 := nv_upd (h := h) (k := i + j) (x := (q + (f i * g j + h (i + j))) % 4294967296) (n := i + m) (by omega)
    have h2 := H.val
    have h3 := split_mul (q + (f i * g j + h (i + j))) (2 ^ (32 * (i + j)))
    rw [Nat.add_mul, Nat.add_mul] at h3
    have e1 : (2 : Nat) ^ (32 * (i + (j + 1))) = 4294967296 * 2 ^ (32 * (i + j)) := by
      rw [show 32 * (i + (j + 1)) = 32 + 32 * (i + j) by omega, Nat.pow_add]
    have e2 : f i * nv g (j + 1) * 2 ^ (32 * i) = f i * nv g j * 2 ^ (32 * i) + f i * g j * 2 ^ (32 * (i + j)) := by
      show f i * (nv g j + g j * 2 ^ (32 * j)) * 2 ^ (32 * i) = _
      rw [Nat.mul_add, Nat.add_mul, ← Nat.mul_assoc (f i), Nat.mul_assoc (f i * g j), ← Nat.pow_add, show 32 * j + 32 * i = 32 * (i + j) by omega]
    rw [e1, e2]
    omega

theorem MulIn.leave {f g h : Nat → Nat} {m i q : Nat} (H : MulIn f g h m i m q) : MulAt f g (upd h (i + m) q) m (i + 1) := by
  refine ⟨fun j hj => ?_, ?_⟩
  · unfold upd
    rw [if_neg (by omega)]
    exact H.top j (by omega)
  · rw [show i + 1 + m = i + m + 1 by omega]
    show nv _ (i + m) + _ * 2 ^ (32 * (i + m)) = (nv f i + f i * 2 ^ (32 * i)) * nv g m
    rw [nv_upd_ge (Nat.le_refl _)]
    have e : upd h (i + m) q (i + m) = q := by unfold upd; rw [if_pos rfl]
    rw [e, H.val, Nat.add_mul, Nat.mul_assoc, Nat.mul_assoc, Nat.mul_comm (nv g m)]

end Go.Proofs.Ygcoab
