import Derived.Test.YgcoabWIeee
import Derived.Test.YgcoabPlainWidth
import Derived.RegionTactic
import Derived.Deep.RegionWith
namespace Go.Proofs.Ygcoab
open Go.RowKit

theorem nn (z : Int) (h : 0 ≤ z) : z = (z.toNat : Nat) := (Int.toNat_of_nonneg h).symm

set_option maxHeartbeats 800000 in
theorem width_any (x : Nat) (hx : x < 18446744073709551616) (w : World) :
    Calls Oabg.prog 147 #[.int .u64 x] w fun e w' => e = .returned (.int .u8 (blen x)) ∧ w' = w := by
  have hw := width_plain hx
  unfold filA at hw
  have f1 : bits .or .u64 (x : Int) ((x : Int) / 2) = (fil 1 x : Nat) := fil_bits (k := 1) hx
  have l1 := fil_lt (k := 1) hx
  obtain ⟨x1, g1⟩ : ∃ y, y = fil 1 x := ⟨_, rfl⟩
  rw [← g1] at f1 l1 hw
  have f2 : bits .or .u64 (x1 : Int) ((x1 : Int) / 4) = (fil 2 x1 : Nat) := fil_bits (k := 2) l1
  have l2 := fil_lt (k := 2) l1
  obtain ⟨x2, g2⟩ : ∃ y, y = fil 2 x1 := ⟨_, rfl⟩
  rw [← g2] at f2 l2 hw
  have f3 : bits .or .u64 (x2 : Int) ((x2 : Int) / 16) = (fil 4 x2 : Nat) := fil_bits (k := 4) l2
  have l3 := fil_lt (k := 4) l2
  obtain ⟨x3, g3⟩ : ∃ y, y = fil 4 x2 := ⟨_, rfl⟩
  rw [← g3] at f3 l3 hw
  have f4 : bits .or .u64 (x3 : Int) ((x3 : Int) / 256) = (fil 8 x3 : Nat) := fil_bits (k := 8) l3
  have l4 := fil_lt (k := 8) l3
  obtain ⟨x4, g4⟩ : ∃ y, y = fil 8 x3 := ⟨_, rfl⟩
  rw [← g4] at f4 l4 hw
  have f5 : bits .or .u64 (x4 : Int) ((x4 : Int) / 65536) = (fil 16 x4 : Nat) := fil_bits (k := 16) l4
  have l5 := fil_lt (k := 16) l4
  obtain ⟨x5, g5⟩ : ∃ y, y = fil 16 x4 := ⟨_, rfl⟩
  rw [← g5] at f5 l5 hw
  have f6 : bits .or .u64 (x5 : Int) ((x5 : Int) / 4294967296) = (fil 32 x5 : Nat) := fil_bits (k := 32) l5
  have l6 := fil_lt (k := 32) l5
  obtain ⟨x6, g6⟩ : ∃ y, y = fil 32 x5 := ⟨_, rfl⟩
  rw [← g6] at f6 l6 hw
  have f7 : IntKind.u64.wrap ((x6 : Int) - bits .and .u64 ((x6 : Int) / 2) 6148914691236517205) = (sw1 x6 : Nat) := nn _ (wrap_u64_nonneg _)
  obtain ⟨x7, g7⟩ : ∃ y, y = sw1 x6 := ⟨_, rfl⟩
  rw [← g7] at f7 hw
  have f8 : IntKind.u64.wrap (bits .and .u64 (x7 : Int) 3689348814741910323 + bits .and .u64 ((x7 : Int) / 4) 3689348814741910323) = (sw2 x7 : Nat) := nn _ (wrap_u64_nonneg _)
  obtain ⟨x8, g8⟩ : ∃ y, y = sw2 x7 := ⟨_, rfl⟩
  rw [← g8] at f8 hw
  have f9 : bits .and .u64 (IntKind.u64.wrap ((x8 : Int) + (x8 : Int) / 16)) 1085102592571150095 = (sw3 x8 : Nat) := nn _ (bits_nonneg _ _ _)
  obtain ⟨x9, g9⟩ : ∃ y, y = sw3 x8 := ⟨_, rfl⟩
  rw [← g9] at f9 hw
  have f10 : IntKind.u8.wrap (IntKind.u64.wrap ((x9 : Int) * 72340172838076673) / 72057594037927936) = (sw4 x9 : Nat) := nn _ (wrap_u8_nonneg _)
  rw [hw] at f10
  clear g1 g2 g3 g4 g5 g6 g7 g8 g9 hw
  go_enter Oabg.func147, Oabg.ntmps147
  go_wp2
  go_ret
  exact ⟨rfl, rfl⟩

theorem keep_cell {w w' : World} (hb : Below w.heap.size w w') (b o : Nat) (h : b < w.heap.size) : w'.cell? ⟨b, o, none⟩ = w.cell? ⟨b, o, none⟩ := hb.cell (p := ⟨b, o, none⟩) h

theorem keep_frozen {w w' : World} (hb : Below w.heap.size w w') (b o : Nat) (h : b < w.heap.size) : w'.frozen? ⟨b, o, none⟩ = w.frozen? ⟨b, o, none⟩ := hb.frozen (p := ⟨b, o, none⟩) h

/-- a Parts, as a value -/
def partsV (neg : Bool) (c e : Int) (m : Nat) : Value := .agg #[.bool neg, .int .i8 c, .int .i16 e, .int .u64 m]

theorem below_set4 {B b : Nat} {a w : World} {v0 v1 v2 v3 : Value} (h : Below B a w) (hb : B ≤ b) :
    Below B a ((((w.setCell ⟨b, 0, none⟩ v0).setCell ⟨b, 1, none⟩ v1).setCell ⟨b, 2, none⟩ v2).setCell ⟨b, 3, none⟩ v3) :=
  (((h.setCell (p := ⟨b, 0, none⟩) hb v0).setCell (p := ⟨b, 1, none⟩) hb v1).setCell (p := ⟨b, 2, none⟩) hb v2).setCell (p := ⟨b, 3, none⟩) hb v3

theorem wrap_i16 (n : Int) (h1 : -32768 ≤ n) (h2 : n ≤ 32767) : IntKind.i16.wrap n = n := by
  simp [IntKind.wrap, IntKind.bits, IntKind.signed]; split <;> omega

theorem sub_exp {E M u : Nat} (h : FOk E M) (hu : u ≤ 53) : IntKind.i16.wrap (IntKind.i16.wrap (IntKind.i16.wrap (1 - (biasN E : Int)) - IntKind.i16.wrap (M : Int)) - IntKind.i16.wrap (u : Int)) = 1 - biasN E - M - u := by
  have h1 := bias_lt h
  have h2 := h.m2
  rw [wrap_i16 (1 - (biasN E : Int)) (by omega) (by omega), wrap_i16 (M : Int) (by omega) (by omega), wrap_i16 (u : Int) (by omega) (by omega), wrap_i16 (1 - (biasN E : Int) - M) (by omega) (by omega), wrap_i16 _ (by omega) (by omega)]

theorem sub_man {M x : Nat} (hx : x < 2 ^ M) : x * 2 ^ (M + 1 - blen x) < 2 ^ (M + 1) := by
  have h1 := lt_blen x
  have h2 := blen_le hx
  have h3 : (2 : Nat) ^ (M + 1) = 2 ^ blen x * 2 ^ (M + 1 - blen x) := by rw [← Nat.pow_add]; congr 1; omega
  rw [h3]
  exact Nat.mul_lt_mul_of_pos_right h1 (two_pow_pos' _)

set_option maxHeartbeats 800000 in
theorem subnormal_yes {E M : Nat} (h : FOk E M) (neg : Bool) (x : Nat) (h0 : 0 < x) (hx : x < 2 ^ M) (w : World) :
    Calls Oabg.prog 104 #[fmtV E M, .bool neg, .int .u64 x] w fun e w' => e = .returned (partsV neg 1 (1 - biasN E - M - (M + 1 - blen x : Nat)) (x * 2 ^ (M + 1 - blen x))) ∧ Below w.heap.size w w' := by
  have h' := h
  obtain ⟨h1, h2, h3, h4⟩ := h
  have hx' : x < 18446744073709551616 := Nat.lt_trans hx (pow_lt64 (by omega))
  have b1 := blen_pos h0
  have b2 := blen_le hx
  have hm0 := sub_man hx
  obtain ⟨u, hu⟩ : ∃ u, u = M + 1 - blen x := ⟨_, rfl⟩
  rw [← hu] at hm0 ⊢
  have hu1 : IntKind.u8.wrap (IntKind.u8.wrap ((M : Int) + 1) - (blen x : Int)) = (u : Nat) := by rw [IntKind.wrap_u8', IntKind.wrap_u8']; omega
  have hul : u ≤ 53 := by omega
  have he := sub_exp h' hul
  obtain ⟨e, hE⟩ : ∃ e : Int, e = 1 - biasN E - M - u := ⟨_, rfl⟩
  rw [← hE] at he ⊢
  have hm : IntKind.u64.wrap ((x : Int) * 2 ^ u) = ((x * 2 ^ u : Nat) : Int) := by
    have := pow_lt64 (n := M + 1) (by omega)
    have e1 : ((x : Int) * 2 ^ u) = ((x * 2 ^ u : Nat) : Int) := by simp
    rw [e1, w64_nat (by omega)]
  obtain ⟨m, hM⟩ : ∃ m, m = x * 2 ^ u := ⟨_, rfl⟩
  rw [← hM] at hm ⊢
  clear hE hM hm0 hu b1 b2 hx h0
  unfold fmtV
  go_enter Oabg.func104, Oabg.ntmps104
  go_wp2
  go_region_with (first | (go_at_call 147; refine (width_any x hx' _).mono ?_; rintro e w' ⟨rfl, rfl⟩))
  all_goals go_wp2
  all_goals go_region_with (first | (go_at_call 105; refine (bias_yes h' _).mono ?_; rintro e w1 ⟨rfl, hb⟩; have hold := keep_cell hb; have hfro := keep_frozen hb; have hz := hb.size))
  all_goals go_wp2
  all_goals refine bodyPost_ret (v := partsV neg 1 e m) (by simp [results, Oabg.results104, go_sem, hold]; rfl) rfl ⟨rfl, below_set4 ?_ (by omega)⟩
  all_goals exact below_step (((((Below.refl _ _).alloc (Nat.le_refl _) _).alloc (by simp) _).drew).drew) (by simp; omega) hb

end Go.Proofs.Ygcoab
