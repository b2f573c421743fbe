import Derived.Test.YgcoabRows
import Derived.Test.YgcoabPlainItoa
import Derived.WalkKit
import Derived.WalkSpells
import Derived.WalkLawsBesides
import Derived.Laws.BytesArg
namespace Go.Proofs.Ygcoab
open Go.RowKit

theorem wrap_neg {i : Int} (h1 : -9223372036854775808 ≤ i) (h : i < 0) : IntKind.u64.wrap (-IntKind.u64.wrap i) = (i.natAbs : Int) := by
  simp [IntKind.wrap, IntKind.signed, IntKind.bits]; omega

theorem len90 : Oabg.prog.arrayLen 90 = 20 := by kernel_rfl
theorem elem90 : Oabg.prog.elem 90 = 5 := by kernel_rfl
theorem size5 (w : World) : (Go.sizeOf 5).run Oabg.prog w = .ok 1 w := by kernel_rfl
theorem under90 : Oabg.prog.underlying 90 = some (.array (Oabg.prog.arrayLen 90) (Oabg.prog.elem 90)) := by kernel_rfl

theorem slice20 (b k : Nat) (hk : k < 20) (w : World) : (Instr.sliceAt 90 (.pointer (some ⟨b, 0, none⟩)) (some (.int .i64 (k : Int))) none none).run Oabg.prog w = .ok (.slice (some ⟨b, k, none⟩) (20 - k) (20 - k)) w := by
  rw [run_sliceAt_array_l w 90 _ under90 .i64 k (by omega) (by rw [len90]; omega), len90, elem90, size5]
  have hne : ¬ 20 = k := by omega
  simp [Result.andThen, slicedAt, Addr.add, hne]
  exact fun h => h.symm

theorem string_of (b k : Nat) (xs : List Int) (n cap : Nat) (w : World) (hx : xs.length = n) (hc : ∀ i, i < n → w.cell? ⟨b, k + i, none⟩ = some (.int .u8 (xs.getD i 0))) :
    (convert 83 9 (.slice (some ⟨b, k, none⟩) n cap)).run Oabg.prog w = .ok (.string (strOfNums xs)) w :=
  run_convert_bytes_arg (P := Oabg.prog) w 83 5 Oabg.underlying83 Oabg.underlying5 b k n cap xs hx hc 9 Oabg.underlying9

def Holds20 (C : Array Value) (a : Nat) (xs : List Int) : Prop := C.size = 20 ∧ xs.length = 20 - a ∧ ∀ j, j < 20 - a → C[a + j]? = some (.int .u8 (xs.getD j 0))

theorem Holds20.put {C : Array Value} {a : Nat} {xs : List Int} (h : Holds20 C a xs) (ha : 1 ≤ a) (ha2 : a ≤ 20) (x : Int) : Holds20 (C.setIfInBounds (a - 1) (.int .u8 x)) (a - 1) (x :: xs) := by
  obtain ⟨h1, h2, h3⟩ := h
  refine ⟨by simp [h1], by simp [h2]; omega, fun j hj => ?_⟩
  cases j with
  | zero => rw [Nat.add_zero, Array.getElem?_setIfInBounds_self_of_lt (by omega)]; rfl
  | succ j =>
    rw [Array.getElem?_setIfInBounds_ne (by omega), show a - 1 + (j + 1) = a + j from by omega, h3 j (by omega)]
    simp

theorem Holds20.cell {C : Array Value} {a : Nat} {xs : List Int} (h : Holds20 C a xs) (w : World) : ∀ i, i < 20 - a → (w.alloc (.cells C 90)).cell? ⟨w.heap.size, a + i, none⟩ = some (.int .u8 (xs.getD i 0)) := by
  intro i hi
  have := h.2.2 i hi
  simpa using this

/-- the loop's state -/
def ItoaAt (w : World) (U : Nat) (va vu : Value) (wr : World) : Prop :=
  ∃ (a u : Nat) (xs : List Int) (C : Array Value), va = .int .i64 a ∧ vu = .int .u64 u ∧ wr = w.alloc (.cells C 90) ∧ 2 ≤ a ∧ a ≤ 20 ∧ u < 10 ^ (a - 1) ∧ u ≤ 18446744073709551615 ∧ Holds20 C a xs ∧ digsL 20 U = digsL a u ++ xs

theorem itoa_next {w : World} {U a u : Nat} {xs : List Int} {C : Array Value} (ha1 : 2 ≤ a) (ha2 : a ≤ 20) (hup : u < 10 ^ (a - 1)) (hu : u ≤ 18446744073709551615) (hC : Holds20 C a xs) (hD : digsL 20 U = digsL a u ++ xs) (h0 : u / 10 ≠ 0) :
    ItoaAt w U (.int .i64 ((a : Int) - 1)) (.int .u64 ((u : Int) / 10)) (w.alloc (.cells (C.setIfInBounds (a - 1) (.int .u8 (48 + (u : Int) % 10))) 90)) := by
  have hd := div_lt_pow (by omega) hup
  have := one_le_of_pow h0 hd
  refine ⟨a - 1, u / 10, (48 + (u : Int) % 10) :: xs, _, ?_, ?_, rfl, by omega, by omega, hd, by omega, hC.put (by omega) ha2 _, ?_⟩
  · go_num
  · go_num
  · rw [hD, digsL_step (a := a) (by omega), if_neg h0]; simp

theorem itoa_last {U a u : Nat} {xs : List Int} (ha1 : 2 ≤ a) (hD : digsL 20 U = digsL a u ++ xs) (h0 : u / 10 = 0) : digsL 20 U = (48 + (u : Int) % 10) :: xs := by
  rw [hD, digsL_step (a := a) (by omega), if_pos h0]; simp

set_option maxHeartbeats 400000 in
set_option maxRecDepth 100000 in
theorem itoa_any (i : Int) (w : World) (h1 : -9223372036854775808 ≤ i) (h2 : i ≤ 9223372036854775807) :
    Calls Oabg.prog 22 #[.int .i64 i] w fun e w' => e = .returned (.string (itoaB i)) ∧ Below w.heap.size w w' := by
  have hU : i.natAbs ≤ 9223372036854775808 := by omega
  go_enter Oabg.func22, Oabg.ntmps22
  by_cases hneg : i < 0
  · have hwn := wrap_neg h1 hneg
    go_wp2
    go_loopw [4, 5] (fun va vu wr => ItoaAt w i.natAbs va vu wr) (fun va _ _ => (intOf va).toNat)
    case atStart => exact ⟨20, i.natAbs, [], _, rfl, rfl, rfl, by omega, by omega, by omega, by omega, ⟨rfl, rfl, fun j hj => by omega⟩, by simp⟩
    case round =>
      obtain ⟨a, u, xs, C, rfl, rfl, rfl, ha1, ha2, hup, hu, hC, hD⟩ := hrel
      have HC : Hid (Holds20 C a xs) := hC
      have HD : Hid (digsL 20 i.natAbs = digsL a u ++ xs) := hD
      have HU : Hid (u < 10 ^ (a - 1)) := hup
      have hcs : C.size = 20 := hC.1
      obtain ⟨v0, hv0⟩ : ∃ v, C[a - 1]? = some v := ⟨C[a - 1], Array.getElem?_eq_getElem (by omega)⟩
      clear hC hD hwn hup hU h1 h2
      by_cases h0 : u / 10 = 0
      · have h0' : ((u : Int) / 10 == 0) = true := by simp; omega
        have HZ : Hid (u / 10 = 0) := h0
        clear h0
        have hC2 := (HC.out.put (by omega) ha2 (48 + (u : Int) % 10)).put (by omega) (by omega) 45
        have hs2 := slice20 w.heap.size (a - 1 - 1) (by omega)
        rw [show (((a - 1 - 1 : Nat)) : Int) = (a : Int) - 1 - 1 from by omega] at hs2
        have hcv := string_of w.heap.size (a - 1 - 1) _ (20 - (a - 1 - 1)) (20 - (a - 1 - 1)) _ hC2.2.1 (hC2.cell w)
        obtain ⟨v1, hv1⟩ : ∃ v, (C.setIfInBounds (a - 1) (Value.int IntKind.u8 (48 + (u : Int) % 10)))[a - 1 - 1]? = some v := ⟨_, Array.getElem?_eq_getElem (by simp [hcs]; omega)⟩
        clear hC2
        go_wp2
        go_ret
        exact ⟨by rw [itoaB, itoaL, if_pos hneg, itoa_last ha1 HD.out HZ.out]; rfl, (Below.refl _ _).alloc (Nat.le_refl _) _⟩
      · have h0' : ((u : Int) / 10 == 0) = false := by rw [beq_eq_false_iff_ne]; omega
        go_wp2
        go_roundw
        case rel => exact itoa_next ha1 ha2 HU.out hu HC.out HD.out h0
        case measure => simp [intOf]; omega
  · have hwn : i = (i.natAbs : Int) := by omega
    obtain ⟨U, hU'⟩ : ∃ U, i.natAbs = U := ⟨_, rfl⟩
    rw [hU'] at hwn hU
    subst hwn
    clear h1 h2 hU'
    go_wp2
    go_loopw [4, 5] (fun va vu wr => ItoaAt w U va vu wr) (fun va _ _ => (intOf va).toNat)
    case atStart => exact ⟨20, U, [], _, rfl, rfl, rfl, by omega, by omega, by omega, by omega, ⟨rfl, rfl, fun j hj => by omega⟩, by simp⟩
    case round =>
      obtain ⟨a, u, xs, C, rfl, rfl, rfl, ha1, ha2, hup, hu, hC, hD⟩ := hrel
      have HC : Hid (Holds20 C a xs) := hC
      have HD : Hid (digsL 20 U = digsL a u ++ xs) := hD
      have HU : Hid (u < 10 ^ (a - 1)) := hup
      have hcs : C.size = 20 := hC.1
      obtain ⟨v0, hv0⟩ : ∃ v, C[a - 1]? = some v := ⟨C[a - 1], Array.getElem?_eq_getElem (by omega)⟩
      clear hC hD hup hU
      by_cases h0 : u / 10 = 0
      · have h0' : ((u : Int) / 10 == 0) = true := by simp; omega
        have HZ : Hid (u / 10 = 0) := h0
        clear h0
        have hC2 := HC.out.put (by omega) ha2 (48 + (u : Int) % 10)
        have hs2 := slice20 w.heap.size (a - 1) (by omega)
        rw [show (((a - 1 : Nat)) : Int) = (a : Int) - 1 from by omega] at hs2
        have hcv := string_of w.heap.size (a - 1) _ (20 - (a - 1)) (20 - (a - 1)) _ hC2.2.1 (hC2.cell w)
        clear hC2
        go_wp2
        go_ret
        exact ⟨by rw [itoaB, itoaL, if_neg (by omega), Int.natAbs_natCast, itoa_last ha1 HD.out HZ.out]; rfl, (Below.refl _ _).alloc (Nat.le_refl _) _⟩
      · have h0' : ((u : Int) / 10 == 0) = false := by rw [beq_eq_false_iff_ne]; omega
        go_wp2
        go_roundw
        case rel => exact itoa_next ha1 ha2 HU.out hu HC.out HD.out h0
        case measure => simp [intOf]; omega
end Go.Proofs.Ygcoab
