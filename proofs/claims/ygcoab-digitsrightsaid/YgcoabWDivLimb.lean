import Derived.Test.YgcoabWGuess
import Derived.Test.YgcoabWMul
namespace Go.Proofs.Ygcoab
open Go.RowKit

/-- divLimb's loop: the limbs from k on are done -/
structure DlAt (f h : Nat → Nat) (n d k r : Nat) : Prop where
  lt : r < d
  low : ∀ j, j < k → h j = 0
  val : nv h n * d + r * 2 ^ (32 * k) + nv f k = nv f n

theorem DlAt.start (f : Nat → Nat) {n d : Nat} (hd : 0 < d) : DlAt f (fun _ => 0) n d n 0 :=
  ⟨hd, fun _ _ => rfl, by rw [nv_all_zero]; omega⟩

theorem DlAt.digit {r d x : Nat} (hr : r < d) (hx : x < 4294967296) : (r * 4294967296 + x) / d < 4294967296 := by
  rw [Nat.div_lt_iff_lt_mul (by omega)]
  have := Nat.mul_le_mul_right 4294967296 (show r + 1 ≤ d by omega)
  rw [Nat.mul_comm 4294967296 d]
  omega

theorem DlAt.next {f h : Nat → Nat} {n d k r : Nat} (H : DlAt f h n d (k + 1) r) (hk : k < n) :
    DlAt f (upd h k ((r * 4294967296 + f k) / d)) n d k ((r * 4294967296 + f k) % d) := by
  have hd : 0 < d := Nat.lt_of_le_of_lt (Nat.zero_le _) H.lt
  refine ⟨Nat.mod_lt _ hd, fun j hj => ?_, ?_⟩
  · unfold upd
    rw [if_neg (by omega)]
    exact H.low j (by omega)
  · have h1 := nv_upd (h := h) (k := k) (x := (r * 4294967296 + f k) / d) (n := n) hk
    rw [H.low k (by omega), Nat.zero_mul, Nat.add_zero] at h1
    rw [h1]
    have h2 := H.val
    have h3 : nv f (k + 1) = nv f k + f k * 2 ^ (32 * k) := rfl
    rw [pow_next, h3] at h2
    have h4 := Nat.div_add_mod (r * 4294967296 + f k) d
    generalize (r * 4294967296 + f k) / d = A at *
    generalize (r * 4294967296 + f k) % d = B at *
    generalize 2 ^ (32 * k) = P at *
    have h5 : A * P * d + B * P = r * (4294967296 * P) + f k * P := by
      rw [Nat.mul_right_comm, ← Nat.add_mul, Nat.mul_comm A d, h4, Nat.add_mul, Nat.mul_assoc]
    rw [Nat.add_mul]
    omega

theorem DlAt.done {f h : Nat → Nat} {n d r : Nat} (H : DlAt f h n d 0 r) : nv h n = nv f n / d ∧ r = nv f n % d := by
  have h1 := H.val
  have h2 := H.lt
  have h3 : nv f 0 = 0 := rfl
  rw [h3] at h1
  simp at h1
  have hd : 0 < d := by omega
  constructor
  · rw [← h1, Nat.mul_comm, Nat.mul_add_div hd, Nat.div_eq_of_lt h2, Nat.add_zero]
  · rw [← h1, Nat.mul_comm, Nat.mul_add_mod, Nat.mod_eq_of_lt h2]

set_option maxHeartbeats 1000000 in
set_option maxRecDepth 100000 in
theorem divLimb_some (b off n c d : Nat) (f : Nat → Nat) (w : World) (hn : 0 < n) (hl : n ≤ 100000) (hd : 0 < d) (hdl : d < 4294967296)
    (hf : ∀ j, j < n → w.cell? ⟨b, off + j, none⟩ = some (.int .u32 (f j : Nat))) (hfl : ∀ j, j < n → f j < 4294967296) (hb : b < w.heap.size) :
    Calls Oabg.prog 145 #[.slice (some ⟨b, off, none⟩) n c, .int .u32 d] w fun e w' => ∃ v, e = .returned (.tuple #[v, .int .u32 (nv f n % d : Nat)]) ∧ IsN w' v (nv f n / d) ∧ Below w.heap.size w w' := by
  have HF : Hid (∀ j, j < n → w.cell? ⟨b, off + j, none⟩ = some (.int .u32 (f j : Nat))) := hf
  have HFL : Hid (∀ j, j < n → f j < 4294967296) := hfl
  have hmk := fun w => make48 w (n : Int) n (by omega) (by omega)
  have hdw : IntKind.u64.wrap (d : Int) = (d : Nat) := w64_nat (by omega)
  have hdz : ((d : Int) == 0) = false := by rw [beq_eq_false_iff_ne]; omega
  have hdz' : ¬ ((d : Int) = 0) := by omega
  clear hf hfl
  go_enter Oabg.func145, Oabg.ntmps145
  go_wp2
  go_loopw [8, 7] (fun i y wr => ∃ (k r : Nat) (C : Array Value) (h : Nat → Nat), i = .int .i64 ((k : Int) - 1) ∧ y = .int .u64 r ∧ wr = w.alloc (.cells C 145) ∧ k ≤ n ∧ RowIs C n h ∧ DlAt f h n d k r) (fun i _ _ => (intOf i + 1).toNat)
  case atStart => exact ⟨n, 0, _, _, rfl, rfl, rfl, Nat.le_refl _, RowIs.zero _, DlAt.start f hd⟩
  case round =>
    obtain ⟨k, r, C, h, rfl, rfl, rfl, hk, hR, hA⟩ := hrel
    have HR : Hid (RowIs C n h) := hR
    have HA : Hid (DlAt f h n d k r) := hA
    have hCs : C.size = n := hR.1
    have hrd : r < d := hA.lt
    clear hR hA hmk
    by_cases h0 : k = 0
    · subst h0
      have hdn := HA.out.done
      have hdd : decide ((0 : Int) ≤ ((0 : Nat) : Int) - 1) = false := by decide
      have hcv : IntKind.u32.wrap (r : Int) = (r : Nat) := u32_cast (by omega)
      have HT : Hid (∀ w', w' = w.alloc (.cells C 145) → Calls Oabg.prog 106 #[.slice (some ⟨w.heap.size, 0, none⟩) n n] w' fun e w'' => ∃ v, e = .returned v ∧ w'' = w' ∧ IsN w' v (nv f n / d)) := fun w' hw => by
        have := trim_made w.heap.size n n _ w' (Nat.le_refl _) (by omega) (by rw [hw]; exact HR.out.cell w) (by rw [hw]; simp [go_sem]) (fun j _ => HR.out.2.2 j)
        rw [hdn.1] at this
        exact this
      have HE : Hid (r = nv f n % d) := hdn.2
      clear hdn
      go_wp2_with (go_at_call 106; refine (HT.out _ rfl).mono ?_; rintro e w' ⟨v, rfl, hq, hv⟩; obtain rfl := hq.symm)
      go_ret2
      exact ⟨v, by rw [← HE.out]; rfl, hv, (Below.refl _ _).alloc (Nat.le_refl _) _⟩
    · obtain ⟨i, rfl⟩ : ∃ i, k = i + 1 := ⟨k - 1, by omega⟩
      have hi : (((i + 1 : Nat) : Int) - 1) = (i : Int) := by omega
      have hdd : decide ((0 : Int) ≤ (i : Int)) = true := decide_eq_true (by omega)
      rw [hi]
      have hcell := HF.out i (by omega)
      have hx := HFL.out i (by omega)
      have hA2 := HA.out.next (by omega)
      have hdg := DlAt.digit hrd hx
      have hmd : (r * 4294967296 + f i) % d < d := Nat.mod_lt _ hd
      have hin : i < n := by omega
      have hC2 : C[i]? = some (.int .u32 (h i : Nat)) := HR.out.2.1 i hin
      obtain ⟨S, hS⟩ : ∃ S, S = r * 4294967296 := ⟨_, rfl⟩
      obtain ⟨Z, hZ⟩ : ∃ Z, Z = S + f i := ⟨_, rfl⟩
      rw [← hS, ← hZ] at hA2 hdg hmd
      have f2 : IntKind.u64.wrap ((r : Int) * 4294967296) = (S : Nat) := by rw [wrap64]; omega
      have f2' : (r : Int) * 4294967296 = (S : Nat) := by omega
      have f3 : bits .or .u64 (S : Int) (f i : Int) = (Z : Nat) := by
        rw [u64_or_nat _ _ (by omega) (by omega), nat_join 32 _ _ (by rw [hS]; simp) hx, hZ]
      have hZl : Z < 18446744073709551616 := by omega
      have hR2 := HR.out.put i _ hdg
      obtain ⟨q, hq⟩ : ∃ q, q = Z / d := ⟨_, rfl⟩
      obtain ⟨t, ht⟩ : ∃ t, t = Z % d := ⟨_, rfl⟩
      rw [← hq] at hA2 hdg hR2
      rw [← ht] at hA2 hmd
      have g1 : (Z : Int) / (d : Int) = (q : Nat) := by rw [← Int.natCast_ediv, ← hq]
      have g2 : (Z : Int) % (d : Int) = (t : Nat) := by rw [← Int.natCast_emod, ← ht]
      have g3 : IntKind.u64.wrap ((Z : Int) / (d : Int)) = (q : Nat) := by rw [g1, w64_nat (by omega)]
      have g4 : IntKind.u32.wrap (q : Int) = (q : Nat) := u32_cast hdg
      have HA2 : Hid (DlAt f (upd h i q) n d i t) := hA2
      have HR2 : Hid (RowIs (C.setIfInBounds i (.int .u32 (q : Int))) n (upd h i q)) := hR2
      clear hA2 hR2 hS hZ hq ht
      go_wp2
      go_roundw
      case rel => exact ⟨i, t, _, _, by go_num, by first | rfl | rw [g2], rfl, by omega, HR2.out, HA2.out⟩
      case measure => simp [intOf]

end Go.Proofs.Ygcoab
