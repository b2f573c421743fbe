import Derived.Test.YgcoabWBits
namespace Go.Proofs.Ygcoab
open Go.RowKit

theorem low32 (x : Nat) (hx : x < 18446744073709551616) : bits .and .u64 (x : Int) 4294967295 = ((x % 4294967296 : Nat) : Int) := by
  have h := and_low (x := x) (n := 32) hx (by omega)
  simpa using h

set_option maxHeartbeats 1000000 in
set_option maxRecDepth 100000 in
theorem mul64_ten (x : Nat) (hx : x < 18446744073709551616) (w : World) :
    Calls Oabg.prog 151 #[.int .u64 x, .int .u64 1000000000000000000] w fun e w' => e = .returned (.agg #[.int .u64 ((x * 1000000000000000000 / 18446744073709551616 : Nat) : Int), .int .u64 ((x * 1000000000000000000 % 18446744073709551616 : Nat) : Int)]) ∧ Below w.heap.size w w' := by
  obtain ⟨a, ha⟩ : ∃ a, a = x / 4294967296 := ⟨_, rfl⟩
  obtain ⟨b, hb⟩ : ∃ b, b = x % 4294967296 := ⟨_, rfl⟩
  have e1 : (x : Int) / 4294967296 = (a : Nat) := by omega
  have e2 : bits .and .u64 (x : Int) 4294967295 = (b : Nat) := by rw [low32 x hx, hb]
  have e3 : bits .and .u64 1000000000000000000 4294967295 = 2808348672 := by
    have := low32 1000000000000000000 (by omega)
    simpa using this
  obtain ⟨m1, hm1⟩ : ∃ m, m = a * 2808348672 := ⟨_, rfl⟩
  obtain ⟨m0, hm0⟩ : ∃ m, m = b * 2808348672 := ⟨_, rfl⟩
  obtain ⟨q0, hq0⟩ : ∃ q, q = m0 / 4294967296 := ⟨_, rfl⟩
  obtain ⟨mid, hmid⟩ : ∃ m, m = m1 + q0 := ⟨_, rfl⟩
  obtain ⟨ml, hml⟩ : ∃ q, q = mid % 4294967296 := ⟨_, rfl⟩
  obtain ⟨mh, hmh⟩ : ∃ q, q = mid / 4294967296 := ⟨_, rfl⟩
  obtain ⟨n0, hn0⟩ : ∃ m, m = b * 232830643 := ⟨_, rfl⟩
  obtain ⟨mid2, hmid2⟩ : ∃ m, m = n0 + ml := ⟨_, rfl⟩
  obtain ⟨mh2, hmh2⟩ : ∃ q, q = mid2 / 4294967296 := ⟨_, rfl⟩
  obtain ⟨n1, hn1⟩ : ∃ m, m = a * 232830643 := ⟨_, rfl⟩
  obtain ⟨t1, ht1⟩ : ∃ m, m = n1 + mh := ⟨_, rfl⟩
  obtain ⟨t2, ht2⟩ : ∃ m, m = t1 + mh2 := ⟨_, rfl⟩
  obtain ⟨lo, hlo⟩ : ∃ m, m = x * 1000000000000000000 % 18446744073709551616 := ⟨_, rfl⟩
  have f1 : IntKind.u64.wrap ((a : Int) * 2808348672) = (m1 : Nat) := by rw [wrap64]; omega
  have f2 : IntKind.u64.wrap ((b : Int) * 2808348672) = (m0 : Nat) := by rw [wrap64]; omega
  have f1' : (a : Int) * 2808348672 = (m1 : Nat) := by omega
  have f2' : (b : Int) * 2808348672 = (m0 : Nat) := by omega
  have f3 : (m0 : Int) / 4294967296 = (q0 : Nat) := by omega
  have f4 : IntKind.u64.wrap ((m1 : Int) + (q0 : Int)) = (mid : Nat) := by rw [wrap64]; omega
  have f4' : (m1 : Int) + (q0 : Int) = (mid : Nat) := by omega
  have f5 : bits .and .u64 (mid : Int) 4294967295 = (ml : Nat) := by rw [low32 mid (by omega), hml]
  have f6 : (mid : Int) / 4294967296 = (mh : Nat) := by omega
  have f7 : IntKind.u64.wrap ((b : Int) * 232830643) = (n0 : Nat) := by rw [wrap64]; omega
  have f7' : (b : Int) * 232830643 = (n0 : Nat) := by omega
  have f8 : IntKind.u64.wrap ((n0 : Int) + (ml : Int)) = (mid2 : Nat) := by rw [wrap64]; omega
  have f8' : (n0 : Int) + (ml : Int) = (mid2 : Nat) := by omega
  have f9 : (mid2 : Int) / 4294967296 = (mh2 : Nat) := by omega
  have g1 : IntKind.u64.wrap ((a : Int) * 232830643) = (n1 : Nat) := by rw [wrap64]; omega
  have g1' : (a : Int) * 232830643 = (n1 : Nat) := by omega
  have g2 : IntKind.u64.wrap ((n1 : Int) + (mh : Int)) = (t1 : Nat) := by rw [wrap64]; omega
  have g2' : (n1 : Int) + (mh : Int) = (t1 : Nat) := by omega
  have g3 : IntKind.u64.wrap ((t1 : Int) + (mh2 : Int)) = (t2 : Nat) := by rw [wrap64]; omega
  have g3' : (t1 : Int) + (mh2 : Int) = (t2 : Nat) := by omega
  have g4 : IntKind.u64.wrap ((x : Int) * 1000000000000000000) = (lo : Nat) := by rw [wrap64]; omega
  have HR : Hid (t2 = x * 1000000000000000000 / 18446744073709551616) := by show t2 = _; omega
  have HL : Hid (lo = x * 1000000000000000000 % 18446744073709551616) := hlo
  have wm1 : IntKind.u64.wrap (m1 : Int) = (m1 : Nat) := w64_nat (by omega)
  have wm0 : IntKind.u64.wrap (m0 : Int) = (m0 : Nat) := w64_nat (by omega)
  have wmid : IntKind.u64.wrap (mid : Int) = (mid : Nat) := w64_nat (by omega)
  have wn0 : IntKind.u64.wrap (n0 : Int) = (n0 : Nat) := w64_nat (by omega)
  have wmid2 : IntKind.u64.wrap (mid2 : Int) = (mid2 : Nat) := w64_nat (by omega)
  have wn1 : IntKind.u64.wrap (n1 : Int) = (n1 : Nat) := w64_nat (by omega)
  have wt1 : IntKind.u64.wrap (t1 : Int) = (t1 : Nat) := w64_nat (by omega)
  have wt2 : IntKind.u64.wrap (t2 : Int) = (t2 : Nat) := w64_nat (by omega)
  clear ha hb hm1 hm0 hq0 hmid hml hmh hn0 hmid2 hmh2 hn1 ht1 ht2 hlo
  go_enter Oabg.func151, Oabg.ntmps151
  go_wp2
  exact bodyPost_ret (v := .agg #[.int .u64 (t2 : Nat), .int .u64 (lo : Nat)]) (by simp [results, Oabg.results151, go_sem]) rfl ⟨by rw [← HR.out, ← HL.out], below_alloc _ _⟩

set_option maxHeartbeats 1000000 in
set_option maxRecDepth 100000 in
theorem clz_ten (w : World) :
    Calls Oabg.prog 156 #[.int .u64 1000000000000000000] w fun e w' => e = .returned (.int .u8 4) ∧ Below w.heap.size w w' := by
  have o1 : bits .or .u64 1000000000000000000 500000000000000000 = 1148699362641444864 := by
    have := u64_or_nat 1000000000000000000 500000000000000000 (by omega) (by omega)
    simpa using this
  have o2 : bits .or .u64 1148699362641444864 287174840660361216 = 1152077079676682240 := by
    have := u64_or_nat 1148699362641444864 287174840660361216 (by omega) (by omega)
    simpa using this
  have o4 : bits .or .u64 1152077079676682240 72004817479792640 = 1152921504606844928 := by
    have := u64_or_nat 1152077079676682240 72004817479792640 (by omega) (by omega)
    simpa using this
  have o8 : bits .or .u64 1152921504606844928 4503599627370488 = 1152921504606846968 := by
    have := u64_or_nat 1152921504606844928 4503599627370488 (by omega) (by omega)
    simpa using this
  have o16 : bits .or .u64 1152921504606846968 17592186044415 = 1152921504606846975 := by
    have := u64_or_nat 1152921504606846968 17592186044415 (by omega) (by omega)
    simpa using this
  have o32 : bits .or .u64 1152921504606846975 268435455 = 1152921504606846975 := by
    have := u64_or_nat 1152921504606846975 268435455 (by omega) (by omega)
    simpa using this
  have ox : bits .xor .u64 1152921504606846975 576460752303423487 = 576460752303423488 := by
    have := u64_xor_nat 1152921504606846975 576460752303423487 (by omega) (by omega)
    simpa using this
  have om : IntKind.u64.wrap (576460752303423488 * 285870213051386505) = 5188146770730811392 := by rw [wrap64]; rfl
  have om2 : IntKind.u64.wrap 164792958076742216474306576583229440 = 5188146770730811392 := by rw [wrap64]; rfl
  go_enter Oabg.func156, Oabg.ntmps156
  go_wp2_with fail
  go_ret
  exact ⟨rfl, Below.refl _ _⟩

set_option maxHeartbeats 1000000 in
set_option maxRecDepth 100000 in
theorem shl_four (hi lo : Nat) (h1 : hi < 1000000000000000000) (h2 : lo < 18446744073709551616) (w : World) :
    Calls Oabg.prog 157 #[.agg #[.int .u64 hi, .int .u64 lo], .int .u8 4] w fun e w' => e = .returned (.agg #[.int .u64 ((hi * 16 + lo / 1152921504606846976 : Nat) : Int), .int .u64 ((lo * 16 % 18446744073709551616 : Nat) : Int)]) ∧ Below w.heap.size w w' := by
  obtain ⟨a, ha⟩ : ∃ a, a = hi * 16 := ⟨_, rfl⟩
  obtain ⟨b, hb⟩ : ∃ b, b = lo / 1152921504606846976 := ⟨_, rfl⟩
  obtain ⟨c, hc⟩ : ∃ b, b = lo * 16 % 18446744073709551616 := ⟨_, rfl⟩
  obtain ⟨d, hd⟩ : ∃ d, d = a + b := ⟨_, rfl⟩
  have e1 : IntKind.u64.wrap ((hi : Int) * 16) = (a : Nat) := by rw [wrap64]; omega
  have e1' : (hi : Int) * 16 = (a : Nat) := by omega
  have e2 : (lo : Int) / 1152921504606846976 = (b : Nat) := by omega
  have e3 : bits .or .u64 (a : Int) (b : Int) = (d : Nat) := by
    rw [u64_or_nat _ _ (by omega) (by omega), nat_join 4 _ _ (by rw [ha]; simp) (by omega)]
    omega
  have e4 : IntKind.u64.wrap ((lo : Int) * 16) = (c : Nat) := by rw [wrap64]; omega
  have HR : Hid (d = hi * 16 + lo / 1152921504606846976) := by show d = _; omega
  have HL : Hid (c = lo * 16 % 18446744073709551616) := hc
  clear ha hb hc hd
  go_enter Oabg.func157, Oabg.ntmps157
  go_wp2
  refine bodyPost_ret (v := .agg #[.int .u64 (d : Nat), .int .u64 (c : Nat)]) (by simp [results, Oabg.results157, go_sem]) rfl ⟨by rw [← HR.out, ← HL.out], ?_⟩
  exact ((Below.refl _ _).alloc (Nat.le_refl _) _).alloc (by simp) _

set_option maxHeartbeats 1000000 in
set_option maxRecDepth 100000 in
theorem add_carry (hi lo c : Nat) (h1 : hi < 1000000000000000000) (h2 : lo < 18446744073709551616) (h3 : c < 18446744073709551616) (w : World) :
    Calls Oabg.prog 150 #[.agg #[.int .u64 hi, .int .u64 lo], .agg #[.int .u64 0, .int .u64 c]] w fun e w' => (∃ o, e = .returned (.tuple #[.agg #[.int .u64 ((hi + (lo + c) / 18446744073709551616 : Nat) : Int), .int .u64 (((lo + c) % 18446744073709551616 : Nat) : Int)], .bool o])) ∧ Below w.heap.size w w' := by
  obtain ⟨l, hl⟩ : ∃ l, l = (lo + c) % 18446744073709551616 := ⟨_, rfl⟩
  have e1 : IntKind.u64.wrap ((lo : Int) + (c : Int)) = (l : Nat) := by rw [wrap64]; omega
  by_cases hc : l < lo
  · have hd : decide ((l : Int) < (lo : Int)) = true := decide_eq_true (by omega)
    obtain ⟨h, hh⟩ : ∃ h, h = hi + 1 := ⟨_, rfl⟩
    have e2 : IntKind.u64.wrap ((hi : Int) + 1) = (h : Nat) := by rw [wrap64]; omega
    have e2' : (hi : Int) + 1 = (h : Nat) := by omega
    have HR : Hid (h = hi + (lo + c) / 18446744073709551616) := by show h = _; omega
    have HL : Hid (l = (lo + c) % 18446744073709551616) := hl
    clear hl hh
    go_enter Oabg.func150, Oabg.ntmps150
    go_wp2
    refine bodyPost_ret (v := .tuple #[.agg #[.int .u64 (h : Nat), .int .u64 (l : Nat)], .bool _]) (by simp [results, Oabg.results150, go_sem]; rfl) rfl ⟨⟨_, by rw [← HR.out, ← HL.out]⟩, ?_⟩
    exact (((Below.refl _ _).alloc (Nat.le_refl _) _).alloc (by simp) _).alloc (by simp; omega) _
  · have hd : decide ((l : Int) < (lo : Int)) = false := decide_eq_false (by omega)
    have HR : Hid (hi = hi + (lo + c) / 18446744073709551616) := by show hi = _; omega
    have HL : Hid (l = (lo + c) % 18446744073709551616) := hl
    clear hl
    go_enter Oabg.func150, Oabg.ntmps150
    go_wp2
    refine bodyPost_ret (v := .tuple #[.agg #[.int .u64 (hi : Nat), .int .u64 (l : Nat)], .bool _]) (by simp [results, Oabg.results150, go_sem]; rfl) rfl ⟨⟨_, by rw [← HR.out, ← HL.out]⟩, ?_⟩
    exact (((Below.refl _ _).alloc (Nat.le_refl _) _).alloc (by simp) _).alloc (by simp; omega) _

end Go.Proofs.Ygcoab
