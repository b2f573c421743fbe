import Derived.Test.YgcoabWWord
namespace Go.Proofs.Ygcoab
open Go.RowKit

set_option maxHeartbeats 400000 in
set_option maxRecDepth 100000 in
theorem mscan_ni3 (T : ByteArray) (w : World) (hT : T.size ≤ 1024) (q0 : 0 < T.size) (q1 : bAt T 0 ≠ 43) (q2 : bAt T 0 ≠ 45)  (m1 : IsMatch T ⟨#[105]⟩ 1) (n : Nat) (m2 : IsMatch T ⟨#[105, 110, 102, 105, 110, 105, 116, 121]⟩ n) (q5 : (T).size = 3) (q6 : n = 3) :
    Calls Oabg.prog 19 #[.string T] w fun r w' => r = .returned (scV (⟨1, false, ⟨#[]⟩, 0, 0, 0⟩)) ∧ Below w.heap.size w w' := by
  have hez := isEmpty_false q0
  have hx0 := bAt_eq T 0 q0
  have hx43 : ((bAt T 0 : Int) == 43) = false := by rw [beq_eq_false_iff_ne]; omega
  have hx45 : ((bAt T 0 : Int) == 45) = false := by rw [beq_eq_false_iff_ne]; omega
  clear q1 q2
  have M1 : Hid (IsMatch T ⟨#[105]⟩ 1) := m1
  have M2 : Hid (IsMatch T ⟨#[105, 110, 102, 105, 110, 105, 116, 121]⟩ n) := m2
  have hn : n ≤ (T).size := m2.1
  clear m1 m2
  subst q6
  have q5a : (T).size ≤ 3 := by omega
  have q5b : 3 ≤ (T).size := by omega
  clear q5
  obtain ⟨W, hW⟩ : ∃ W, W = NW w := ⟨_, rfl⟩
  have hN := nat_nw0 w
  rw [← hW] at hN
  go_enter Oabg.func19, Oabg.ntmps19
  go_wp2_with fail
  go_at_call 56
  rw [show (w.alloc (Obj.cells #[Value.int IntKind.u8 0, Value.bool false, Value.string ⟨#[]⟩, Value.int IntKind.i16 0, Value.int IntKind.i64 0, Value.int IntKind.i32 0] 32)) = W from hW.symm]
  refine (matched_eq M1.out _ (by omega) (by decide)).mono ?_
  rintro r w1 ⟨rfl, hb⟩
  obtain ⟨c0, c1, c2, c3, c4, c5, cf, hWz, HN⟩ := nat_all (nat_step hN hb)
  clear hb hN hW
  go_wp2_with (first | (go_at_call 56; refine (matched_eq M2.out _ (by omega) (by decide)).mono ?_; rintro r w1 ⟨rfl, hb⟩; obtain ⟨c0, c1, c2, c3, c4, c5, cf, hWz, HN⟩ := nat_all (nat_step HN.out hb); clear hb))
  refine bodyPost_ret (v := scV ⟨1, false, ⟨#[]⟩, 0, 0, 0⟩) (by simp [results, Oabg.results19, go_sem, c0, c1, c2, c3, c4, c5]; rfl) rfl ⟨rfl, nat_set HN.out⟩

set_option maxHeartbeats 400000 in
set_option maxRecDepth 100000 in
theorem mscan_ni8 (T : ByteArray) (w : World) (hT : T.size ≤ 1024) (q0 : 0 < T.size) (q1 : bAt T 0 ≠ 43) (q2 : bAt T 0 ≠ 45)  (m1 : IsMatch T ⟨#[105]⟩ 1) (n : Nat) (m2 : IsMatch T ⟨#[105, 110, 102, 105, 110, 105, 116, 121]⟩ n) (q5 : (T).size = 8) (q6 : n = 8) :
    Calls Oabg.prog 19 #[.string T] w fun r w' => r = .returned (scV (⟨1, false, ⟨#[]⟩, 0, 0, 0⟩)) ∧ Below w.heap.size w w' := by
  have hez := isEmpty_false q0
  have hx0 := bAt_eq T 0 q0
  have hx43 : ((bAt T 0 : Int) == 43) = false := by rw [beq_eq_false_iff_ne]; omega
  have hx45 : ((bAt T 0 : Int) == 45) = false := by rw [beq_eq_false_iff_ne]; omega
  clear q1 q2
  have M1 : Hid (IsMatch T ⟨#[105]⟩ 1) := m1
  have M2 : Hid (IsMatch T ⟨#[105, 110, 102, 105, 110, 105, 116, 121]⟩ n) := m2
  have hn : n ≤ (T).size := m2.1
  clear m1 m2
  subst q6
  have q5a : (T).size ≤ 8 := by omega
  have q5b : 8 ≤ (T).size := by omega
  clear q5
  obtain ⟨W, hW⟩ : ∃ W, W = NW w := ⟨_, rfl⟩
  have hN := nat_nw0 w
  rw [← hW] at hN
  go_enter Oabg.func19, Oabg.ntmps19
  go_wp2_with fail
  go_at_call 56
  rw [show (w.alloc (Obj.cells #[Value.int IntKind.u8 0, Value.bool false, Value.string ⟨#[]⟩, Value.int IntKind.i16 0, Value.int IntKind.i64 0, Value.int IntKind.i32 0] 32)) = W from hW.symm]
  refine (matched_eq M1.out _ (by omega) (by decide)).mono ?_
  rintro r w1 ⟨rfl, hb⟩
  obtain ⟨c0, c1, c2, c3, c4, c5, cf, hWz, HN⟩ := nat_all (nat_step hN hb)
  clear hb hN hW
  go_wp2_with (first | (go_at_call 56; refine (matched_eq M2.out _ (by omega) (by decide)).mono ?_; rintro r w1 ⟨rfl, hb⟩; obtain ⟨c0, c1, c2, c3, c4, c5, cf, hWz, HN⟩ := nat_all (nat_step HN.out hb); clear hb))
  refine bodyPost_ret (v := scV ⟨1, false, ⟨#[]⟩, 0, 0, 0⟩) (by simp [results, Oabg.results19, go_sem, c0, c1, c2, c3, c4, c5]; rfl) rfl ⟨rfl, nat_set HN.out⟩

set_option maxHeartbeats 400000 in
set_option maxRecDepth 100000 in
theorem mscan_nib (T : ByteArray) (w : World) (hT : T.size ≤ 1024) (q0 : 0 < T.size) (q1 : bAt T 0 ≠ 43) (q2 : bAt T 0 ≠ 45)  (m1 : IsMatch T ⟨#[105]⟩ 1) (n : Nat) (m2 : IsMatch T ⟨#[105, 110, 102, 105, 110, 105, 116, 121]⟩ n) (q5 : n < (T).size) :
    Calls Oabg.prog 19 #[.string T] w fun r w' => r = .returned (scV (wrongAt T (0 + n))) ∧ Below w.heap.size w w' := by
  have hez := isEmpty_false q0
  have hx0 := bAt_eq T 0 q0
  have hx43 : ((bAt T 0 : Int) == 43) = false := by rw [beq_eq_false_iff_ne]; omega
  have hx45 : ((bAt T 0 : Int) == 45) = false := by rw [beq_eq_false_iff_ne]; omega
  clear q1 q2
  have M1 : Hid (IsMatch T ⟨#[105]⟩ 1) := m1
  have M2 : Hid (IsMatch T ⟨#[105, 110, 102, 105, 110, 105, 116, 121]⟩ n) := m2
  have hn : n ≤ (T).size := m2.1
  clear m1 m2
  obtain ⟨R, hR⟩ : ∃ R, R = wrongAt T (0 + n) := ⟨_, rfl⟩
  rw [Nat.zero_add] at hR
  have HR : Hid (R = wrongAt T n) := hR
  clear hR
  have hq : ((n : Int) == ((T).size : Int)) = false := by rw [beq_eq_false_iff_ne]; omega
  obtain ⟨W, hW⟩ : ∃ W, W = NW w := ⟨_, rfl⟩
  have hN := nat_nw0 w
  rw [← hW] at hN
  go_enter Oabg.func19, Oabg.ntmps19
  go_wp2_with fail
  go_at_call 56
  rw [show (w.alloc (Obj.cells #[Value.int IntKind.u8 0, Value.bool false, Value.string ⟨#[]⟩, Value.int IntKind.i16 0, Value.int IntKind.i64 0, Value.int IntKind.i32 0] 32)) = W from hW.symm]
  refine (matched_eq M1.out _ (by omega) (by decide)).mono ?_
  rintro r w1 ⟨rfl, hb⟩
  obtain ⟨c0, c1, c2, c3, c4, c5, cf, hWz, HN⟩ := nat_all (nat_step hN hb)
  clear hb hN hW
  go_wp2_with (first | (go_at_call 56; refine (matched_eq M2.out _ (by omega) (by decide)).mono ?_; rintro r w1 ⟨rfl, hb⟩; obtain ⟨c0, c1, c2, c3, c4, c5, cf, hWz, HN⟩ := nat_all (nat_step HN.out hb); clear hb) | (go_at_call 57; refine (wrong_agg T n R HR.out _ (by omega) (by omega) (n : Int) (by omega)).mono ?_; rintro r w1 ⟨rfl, hb⟩; obtain ⟨c0, c1, c2, c3, c4, c5, cf, hWz, HN⟩ := nat_all (nat_step HN.out hb); clear hb))
  refine bodyPost_ret (v := scV R) (by simp [results, Oabg.results19, go_sem, c0, c1, c2, c3, c4, c5]; rfl) rfl ⟨by rw [Nat.zero_add, HR.out], nat_set HN.out⟩

set_option maxHeartbeats 400000 in
set_option maxRecDepth 100000 in
theorem mscan_nic (T : ByteArray) (w : World) (hT : T.size ≤ 1024) (q0 : 0 < T.size) (q1 : bAt T 0 ≠ 43) (q2 : bAt T 0 ≠ 45)  (m1 : IsMatch T ⟨#[105]⟩ 1) (n : Nat) (m2 : IsMatch T ⟨#[105, 110, 102, 105, 110, 105, 116, 121]⟩ n) (q5 : n = (T).size) (q3 : n ≠ 3) (q8 : n ≠ 8) :
    Calls Oabg.prog 19 #[.string T] w fun r w' => r = .returned (scV (wrongAt T (0 + n))) ∧ Below w.heap.size w w' := by
  have hez := isEmpty_false q0
  have hx0 := bAt_eq T 0 q0
  have hx43 : ((bAt T 0 : Int) == 43) = false := by rw [beq_eq_false_iff_ne]; omega
  have hx45 : ((bAt T 0 : Int) == 45) = false := by rw [beq_eq_false_iff_ne]; omega
  clear q1 q2
  have M1 : Hid (IsMatch T ⟨#[105]⟩ 1) := m1
  have M2 : Hid (IsMatch T ⟨#[105, 110, 102, 105, 110, 105, 116, 121]⟩ n) := m2
  have hn : n ≤ (T).size := m2.1
  clear m1 m2
  obtain ⟨R, hR⟩ : ∃ R, R = wrongAt T (0 + n) := ⟨_, rfl⟩
  rw [Nat.zero_add] at hR
  have HR : Hid (R = wrongAt T n) := hR
  clear hR
  have hq3 : ((n : Int) == 3) = false := by rw [beq_eq_false_iff_ne]; omega
  have hq8 : ((n : Int) == 8) = false := by rw [beq_eq_false_iff_ne]; omega
  have hq : ((n : Int) == ((T).size : Int)) = true := by rw [beq_iff_eq]; omega
  have q5a : n ≤ (T).size := by omega
  have q5b : (T).size ≤ n := by omega
  clear q5
  obtain ⟨W, hW⟩ : ∃ W, W = NW w := ⟨_, rfl⟩
  have hN := nat_nw0 w
  rw [← hW] at hN
  go_enter Oabg.func19, Oabg.ntmps19
  go_wp2_with fail
  go_at_call 56
  rw [show (w.alloc (Obj.cells #[Value.int IntKind.u8 0, Value.bool false, Value.string ⟨#[]⟩, Value.int IntKind.i16 0, Value.int IntKind.i64 0, Value.int IntKind.i32 0] 32)) = W from hW.symm]
  refine (matched_eq M1.out _ (by omega) (by decide)).mono ?_
  rintro r w1 ⟨rfl, hb⟩
  obtain ⟨c0, c1, c2, c3, c4, c5, cf, hWz, HN⟩ := nat_all (nat_step hN hb)
  clear hb hN hW
  go_wp2_with (first | (go_at_call 56; refine (matched_eq M2.out _ (by omega) (by decide)).mono ?_; rintro r w1 ⟨rfl, hb⟩; obtain ⟨c0, c1, c2, c3, c4, c5, cf, hWz, HN⟩ := nat_all (nat_step HN.out hb); clear hb) | (go_at_call 57; refine (wrong_agg T n R HR.out _ (by omega) (by omega) (n : Int) (by omega)).mono ?_; rintro r w1 ⟨rfl, hb⟩; obtain ⟨c0, c1, c2, c3, c4, c5, cf, hWz, HN⟩ := nat_all (nat_step HN.out hb); clear hb))
  refine bodyPost_ret (v := scV R) (by simp [results, Oabg.results19, go_sem, c0, c1, c2, c3, c4, c5]; rfl) rfl ⟨by rw [Nat.zero_add, HR.out], nat_set HN.out⟩

set_option maxHeartbeats 400000 in
set_option maxRecDepth 100000 in
theorem mscan_nn3 (T : ByteArray) (w : World) (hT : T.size ≤ 1024) (q0 : 0 < T.size) (q1 : bAt T 0 ≠ 43) (q2 : bAt T 0 ≠ 45)  (m0 : IsMatch T ⟨#[105]⟩ 0) (m1 : IsMatch T ⟨#[110]⟩ 1) (n : Nat) (m2 : IsMatch T ⟨#[110, 97, 110]⟩ n) (q5 : (T).size = 3) (q6 : n = 3) :
    Calls Oabg.prog 19 #[.string T] w fun r w' => r = .returned (scV (⟨2, false, ⟨#[]⟩, 0, 0, 0⟩)) ∧ Below w.heap.size w w' := by
  have hez := isEmpty_false q0
  have hx0 := bAt_eq T 0 q0
  have hx43 : ((bAt T 0 : Int) == 43) = false := by rw [beq_eq_false_iff_ne]; omega
  have hx45 : ((bAt T 0 : Int) == 45) = false := by rw [beq_eq_false_iff_ne]; omega
  clear q1 q2
  have M0 : Hid (IsMatch T ⟨#[105]⟩ 0) := m0
  clear m0
  have M1 : Hid (IsMatch T ⟨#[110]⟩ 1) := m1
  have M2 : Hid (IsMatch T ⟨#[110, 97, 110]⟩ n) := m2
  have hn : n ≤ (T).size := m2.1
  clear m1 m2
  subst q6
  have q5a : (T).size ≤ 3 := by omega
  have q5b : 3 ≤ (T).size := by omega
  clear q5
  obtain ⟨W, hW⟩ : ∃ W, W = NW w := ⟨_, rfl⟩
  have hN := nat_nw0 w
  rw [← hW] at hN
  go_enter Oabg.func19, Oabg.ntmps19
  go_wp2_with fail
  go_at_call 56
  rw [show (w.alloc (Obj.cells #[Value.int IntKind.u8 0, Value.bool false, Value.string ⟨#[]⟩, Value.int IntKind.i16 0, Value.int IntKind.i64 0, Value.int IntKind.i32 0] 32)) = W from hW.symm]
  refine (matched_eq M0.out _ (by omega) (by decide)).mono ?_
  rintro r w1 ⟨rfl, hb⟩
  obtain ⟨c0, c1, c2, c3, c4, c5, cf, hWz, HN⟩ := nat_all (nat_step hN hb)
  clear hb hN hW
  go_wp2_with fail
  go_at_call 56
  refine (matched_eq M1.out _ (by omega) (by decide)).mono ?_
  rintro r w1 ⟨rfl, hb⟩
  obtain ⟨c0, c1, c2, c3, c4, c5, cf, hWz, HN⟩ := nat_all (nat_step HN.out hb)
  clear hb
  go_wp2_with fail
  go_at_call 56
  refine (matched_eq M2.out _ (by omega) (by decide)).mono ?_
  rintro r w1 ⟨rfl, hb⟩
  obtain ⟨c0, c1, c2, c3, c4, c5, cf, hWz, HN⟩ := nat_all (nat_step HN.out hb)
  clear hb
  go_wp2
  refine bodyPost_ret (v := scV ⟨2, false, ⟨#[]⟩, 0, 0, 0⟩) (by simp [results, Oabg.results19, go_sem, c0, c1, c2, c3, c4, c5]; rfl) rfl ⟨rfl, nat_set HN.out⟩

set_option maxHeartbeats 400000 in
set_option maxRecDepth 100000 in
theorem mscan_nnb (T : ByteArray) (w : World) (hT : T.size ≤ 1024) (q0 : 0 < T.size) (q1 : bAt T 0 ≠ 43) (q2 : bAt T 0 ≠ 45)  (m0 : IsMatch T ⟨#[105]⟩ 0) (m1 : IsMatch T ⟨#[110]⟩ 1) (n : Nat) (m2 : IsMatch T ⟨#[110, 97, 110]⟩ n) (q5 : n < (T).size) :
    Calls Oabg.prog 19 #[.string T] w fun r w' => r = .returned (scV (wrongAt T (0 + n))) ∧ Below w.heap.size w w' := by
  have hez := isEmpty_false q0
  have hx0 := bAt_eq T 0 q0
  have hx43 : ((bAt T 0 : Int) == 43) = false := by rw [beq_eq_false_iff_ne]; omega
  have hx45 : ((bAt T 0 : Int) == 45) = false := by rw [beq_eq_false_iff_ne]; omega
  clear q1 q2
  have M0 : Hid (IsMatch T ⟨#[105]⟩ 0) := m0
  clear m0
  have M1 : Hid (IsMatch T ⟨#[110]⟩ 1) := m1
  have M2 : Hid (IsMatch T ⟨#[110, 97, 110]⟩ n) := m2
  have hn : n ≤ (T).size := m2.1
  clear m1 m2
  obtain ⟨R, hR⟩ : ∃ R, R = wrongAt T (0 + n) := ⟨_, rfl⟩
  rw [Nat.zero_add] at hR
  have HR : Hid (R = wrongAt T n) := hR
  clear hR
  have hq : ((n : Int) == ((T).size : Int)) = false := by rw [beq_eq_false_iff_ne]; omega
  obtain ⟨W, hW⟩ : ∃ W, W = NW w := ⟨_, rfl⟩
  have hN := nat_nw0 w
  rw [← hW] at hN
  go_enter Oabg.func19, Oabg.ntmps19
  go_wp2_with fail
  go_at_call 56
  rw [show (w.alloc (Obj.cells #[Value.int IntKind.u8 0, Value.bool false, Value.string ⟨#[]⟩, Value.int IntKind.i16 0, Value.int IntKind.i64 0, Value.int IntKind.i32 0] 32)) = W from hW.symm]
  refine (matched_eq M0.out _ (by omega) (by decide)).mono ?_
  rintro r w1 ⟨rfl, hb⟩
  obtain ⟨c0, c1, c2, c3, c4, c5, cf, hWz, HN⟩ := nat_all (nat_step hN hb)
  clear hb hN hW
  go_wp2_with fail
  go_at_call 56
  refine (matched_eq M1.out _ (by omega) (by decide)).mono ?_
  rintro r w1 ⟨rfl, hb⟩
  obtain ⟨c0, c1, c2, c3, c4, c5, cf, hWz, HN⟩ := nat_all (nat_step HN.out hb)
  clear hb
  go_wp2_with fail
  go_at_call 56
  refine (matched_eq M2.out _ (by omega) (by decide)).mono ?_
  rintro r w1 ⟨rfl, hb⟩
  obtain ⟨c0, c1, c2, c3, c4, c5, cf, hWz, HN⟩ := nat_all (nat_step HN.out hb)
  clear hb
  go_wp2_with (go_at_call 57; refine (wrong_agg T n R HR.out _ (by omega) (by omega) (n : Int) (by omega)).mono ?_; rintro r w1 ⟨rfl, hb⟩; obtain ⟨c0, c1, c2, c3, c4, c5, cf, hWz, HN⟩ := nat_all (nat_step HN.out hb); clear hb)
  refine bodyPost_ret (v := scV R) (by simp [results, Oabg.results19, go_sem, c0, c1, c2, c3, c4, c5]; rfl) rfl ⟨by rw [Nat.zero_add, HR.out], nat_set HN.out⟩

set_option maxHeartbeats 400000 in
set_option maxRecDepth 100000 in
theorem mscan_nnc (T : ByteArray) (w : World) (hT : T.size ≤ 1024) (q0 : 0 < T.size) (q1 : bAt T 0 ≠ 43) (q2 : bAt T 0 ≠ 45)  (m0 : IsMatch T ⟨#[105]⟩ 0) (m1 : IsMatch T ⟨#[110]⟩ 1) (n : Nat) (m2 : IsMatch T ⟨#[110, 97, 110]⟩ n) (q5 : n = (T).size) (q3 : n ≠ 3) :
    Calls Oabg.prog 19 #[.string T] w fun r w' => r = .returned (scV (wrongAt T (0 + n))) ∧ Below w.heap.size w w' := by
  have hez := isEmpty_false q0
  have hx0 := bAt_eq T 0 q0
  have hx43 : ((bAt T 0 : Int) == 43) = false := by rw [beq_eq_false_iff_ne]; omega
  have hx45 : ((bAt T 0 : Int) == 45) = false := by rw [beq_eq_false_iff_ne]; omega
  clear q1 q2
  have M0 : Hid (IsMatch T ⟨#[105]⟩ 0) := m0
  clear m0
  have M1 : Hid (IsMatch T ⟨#[110]⟩ 1) := m1
  have M2 : Hid (IsMatch T ⟨#[110, 97, 110]⟩ n) := m2
  have hn : n ≤ (T).size := m2.1
  clear m1 m2
  obtain ⟨R, hR⟩ : ∃ R, R = wrongAt T (0 + n) := ⟨_, rfl⟩
  rw [Nat.zero_add] at hR
  have HR : Hid (R = wrongAt T n) := hR
  clear hR
  have hq3 : ((n : Int) == 3) = false := by rw [beq_eq_false_iff_ne]; omega
  have hq : ((n : Int) == ((T).size : Int)) = true := by rw [beq_iff_eq]; omega
  have q5a : n ≤ (T).size := by omega
  have q5b : (T).size ≤ n := by omega
  clear q5
  obtain ⟨W, hW⟩ : ∃ W, W = NW w := ⟨_, rfl⟩
  have hN := nat_nw0 w
  rw [← hW] at hN
  go_enter Oabg.func19, Oabg.ntmps19
  go_wp2_with fail
  go_at_call 56
  rw [show (w.alloc (Obj.cells #[Value.int IntKind.u8 0, Value.bool false, Value.string ⟨#[]⟩, Value.int IntKind.i16 0, Value.int IntKind.i64 0, Value.int IntKind.i32 0] 32)) = W from hW.symm]
  refine (matched_eq M0.out _ (by omega) (by decide)).mono ?_
  rintro r w1 ⟨rfl, hb⟩
  obtain ⟨c0, c1, c2, c3, c4, c5, cf, hWz, HN⟩ := nat_all (nat_step hN hb)
  clear hb hN hW
  go_wp2_with fail
  go_at_call 56
  refine (matched_eq M1.out _ (by omega) (by decide)).mono ?_
  rintro r w1 ⟨rfl, hb⟩
  obtain ⟨c0, c1, c2, c3, c4, c5, cf, hWz, HN⟩ := nat_all (nat_step HN.out hb)
  clear hb
  go_wp2_with fail
  go_at_call 56
  refine (matched_eq M2.out _ (by omega) (by decide)).mono ?_
  rintro r w1 ⟨rfl, hb⟩
  obtain ⟨c0, c1, c2, c3, c4, c5, cf, hWz, HN⟩ := nat_all (nat_step HN.out hb)
  clear hb
  go_wp2_with (go_at_call 57; refine (wrong_agg T n R HR.out _ (by omega) (by omega) (n : Int) (by omega)).mono ?_; rintro r w1 ⟨rfl, hb⟩; obtain ⟨c0, c1, c2, c3, c4, c5, cf, hWz, HN⟩ := nat_all (nat_step HN.out hb); clear hb)
  refine bodyPost_ret (v := scV R) (by simp [results, Oabg.results19, go_sem, c0, c1, c2, c3, c4, c5]; rfl) rfl ⟨by rw [Nat.zero_add, HR.out], nat_set HN.out⟩

end Go.Proofs.Ygcoab
