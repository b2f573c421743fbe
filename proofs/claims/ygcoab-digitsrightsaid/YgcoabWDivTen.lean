import Derived.Test.YgcoabWDivHalf
import Derived.Test.YgcoabWBlk
namespace Go.Proofs.Ygcoab
open Go.RowKit

set_option maxHeartbeats 1000000 in
set_option maxRecDepth 100000 in
theorem div_ten (hi lo : Nat) (h1 : hi < 1000000000000000000) (h2 : lo < 18446744073709551616) (w : World) :
    Calls Oabg.prog 148 #[.agg #[.int .u64 hi, .int .u64 lo], .int .u64 1000000000000000000] w fun e w' => e = .returned (.tuple #[.int .u64 (((hi * 18446744073709551616 + lo) / 1000000000000000000 : Nat) : Int), .int .u64 (((hi * 18446744073709551616 + lo) % 1000000000000000000 : Nat) : Int), .bool true]) ∧ Below w.heap.size w w' := by
  obtain ⟨ah, hah⟩ : ∃ a, a = hi * 16 + lo / 1152921504606846976 := ⟨_, rfl⟩
  obtain ⟨al, hal⟩ : ∃ a, a = lo * 16 % 18446744073709551616 := ⟨_, rfl⟩
  have HSh : Hid (∀ w : World, Calls Oabg.prog 157 #[.agg #[.int .u64 hi, .int .u64 lo], .int .u8 4] w fun e w' => e = .returned (.agg #[.int .u64 (ah : Nat), .int .u64 (al : Nat)]) ∧ Below w.heap.size w w') := fun w => by
    rw [hah, hal]
    exact shl_four hi lo h1 h2 w
  obtain ⟨ax, hax⟩ : ∃ a, a = al / 4294967296 := ⟨_, rfl⟩
  obtain ⟨ay, hay⟩ : ∃ a, a = al % 4294967296 := ⟨_, rfl⟩
  have e1 : (al : Int) / 4294967296 = (ax : Nat) := by omega
  have e2 : bits .and .u64 (al : Int) 4294967295 = (ay : Nat) := by rw [low32 al (by omega), hay]
  obtain ⟨q1, hq1⟩ : ∃ a, a = (ah * 4294967296 + ax) / 16000000000000000000 := ⟨_, rfl⟩
  obtain ⟨r1, hr1⟩ : ∃ a, a = (ah * 4294967296 + ax) % 16000000000000000000 := ⟨_, rfl⟩
  have HD1 : Hid (∀ w : World, Calls Oabg.prog 169 #[.int .u64 ah, .int .u64 ax, .int .u64 16000000000000000000] w fun e w' => e = .returned (.tuple #[.int .u64 (q1 : Nat), .int .u64 (r1 : Nat)]) ∧ Below w.heap.size w w') := fun w => by
    rw [hq1, hr1]
    exact divHalf_ten ah ax (by omega) (by omega) w
  obtain ⟨q0, hq0⟩ : ∃ a, a = (r1 * 4294967296 + ay) / 16000000000000000000 := ⟨_, rfl⟩
  obtain ⟨r0, hr0⟩ : ∃ a, a = (r1 * 4294967296 + ay) % 16000000000000000000 := ⟨_, rfl⟩
  have HD2 : Hid (∀ w : World, Calls Oabg.prog 169 #[.int .u64 r1, .int .u64 ay, .int .u64 16000000000000000000] w fun e w' => e = .returned (.tuple #[.int .u64 (q0 : Nat), .int .u64 (r0 : Nat)]) ∧ Below w.heap.size w w') := fun w => by
    rw [hq0, hr0]
    exact divHalf_ten r1 ay (by omega) (by omega) w
  obtain ⟨s1, hs1⟩ : ∃ a, a = q1 * 4294967296 := ⟨_, rfl⟩
  obtain ⟨Q, hQ⟩ : ∃ a, a = s1 + q0 := ⟨_, rfl⟩
  obtain ⟨R, hR⟩ : ∃ a, a = r0 / 16 := ⟨_, rfl⟩
  have f1 : IntKind.u64.wrap ((q1 : Int) * 4294967296) = (s1 : Nat) := by rw [wrap64]; omega
  have f2 : bits .or .u64 (s1 : Int) (q0 : Int) = (Q : Nat) := by
    rw [u64_or_nat _ _ (by omega) (by omega), nat_join 32 _ _ (by rw [hs1]; simp) (by omega), hQ]
  have f3 : (r0 : Int) / 16 = (R : Nat) := by omega
  have HQ : Hid (Q = (hi * 18446744073709551616 + lo) / 1000000000000000000) := by show Q = _; omega
  have HR : Hid (R = (hi * 18446744073709551616 + lo) % 1000000000000000000) := by show R = _; omega
  have hge : decide ((1000000000000000000 : Int) ≤ (hi : Int)) = false := decide_eq_false (by omega)
  clear hah hal hax hay hq1 hr1 hq0 hr0 hs1 hQ hR
  go_enter Oabg.func148, Oabg.ntmps148
  go_wp2_with fail
  go_at_call 156
  refine (clz_ten _).mono ?_
  rintro e w1 ⟨rfl, hb1⟩
  have hB : Blk w.heap.size 115 #[.int .u64 hi, .int .u64 lo] w1 := (Blk.start w _ 115).step hb1 (by simp [go_sem])
  have HW : Hid (Below w.heap.size w w1) := below_step (below_alloc w _) (by simp [go_sem]) hb1
  have c0 := hB.cell 0
  have c1 := hB.cell 1
  have HB : Hid (Blk w.heap.size 115 #[.int .u64 hi, .int .u64 lo] w1) := hB
  clear hB hb1
  simp at c0 c1
  go_wp2_with fail
  go_at_call 157
  refine (HSh.out _).mono ?_
  rintro e w2 ⟨rfl, hb2⟩
  have hB := HB.out.step hb2 HB.out.size
  have c0 := hB.cell 0
  have c1 := hB.cell 1
  have fr0 := hB.frozen 0
  have fr1 := hB.frozen 1
  have HW2 : Hid (Below w.heap.size w w2) := below_step HW.out HW.out.size hb2
  simp at c0 c1
  clear hb2
  go_wp2_with fail
  have hB2 : Blk w.heap.size 115 #[.int .u64 ah, .int .u64 al] ((w2.setCell ⟨w.heap.size, 0, none⟩ (.int .u64 ah)).setCell ⟨w.heap.size, 1, none⟩ (.int .u64 al)) := (hB.put 0 _).put 1 _
  have HW3 : Hid (Below w.heap.size w ((w2.setCell ⟨w.heap.size, 0, none⟩ (.int .u64 ah)).setCell ⟨w.heap.size, 1, none⟩ (.int .u64 al))) := below_set (below_set HW2.out (Nat.le_refl _) _ _) (Nat.le_refl _) _ _
  clear hB HB HW HW2 c0 c1 fr0 fr1
  go_at_call 169
  refine (HD1.out _).mono ?_
  rintro e w3 ⟨rfl, hb3⟩
  have hB := hB2.step hb3 hB2.size
  have HW4 : Hid (Below w.heap.size w w3) := below_step HW3.out HW3.out.size hb3
  have c1 := hB.cell 1
  simp at c1
  clear hb3 hB hB2 HW3
  go_wp2_with fail
  go_at_call 169
  refine (HD2.out _).mono ?_
  rintro e w4 ⟨rfl, hb4⟩
  have HW5 : Hid (Below w.heap.size w w4) := below_step HW4.out HW4.out.size hb4
  clear hb4 HW4 c1
  go_wp2
  exact bodyPost_ret (v := .tuple #[.int .u64 (Q : Nat), .int .u64 (R : Nat), .bool true]) (by simp [results, Oabg.results148, go_sem]) rfl ⟨by rw [← HQ.out, ← HR.out], HW5.out⟩

end Go.Proofs.Ygcoab
