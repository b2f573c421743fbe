import Derived.Test.YgcoabWWord
namespace Go.Proofs.Ygcoab
open Go.RowKit

set_option maxHeartbeats 400000 in
set_option maxRecDepth 100000 in
theorem mscan_mi3 (T : ByteArray) (w : World) (hT : T.size ≤ 1024) (q0 : 0 < T.size) (q1 : bAt T 0 = 45)  (m1 : IsMatch (T.extract 1 T.size) ⟨#[105]⟩ 1) (n : Nat) (m2 : IsMatch (T.extract 1 T.size) ⟨#[105, 110, 102, 105, 110, 105, 116, 121]⟩ n) (q5 : ((T.extract 1 T.size)).size = 3) (q6 : n = 3) :
    Calls Oabg.prog 19 #[.string T] w fun r w' => r = .returned (scV (⟨1, true, ⟨#[]⟩, 0, 0, 0⟩)) ∧ Below w.heap.size w w' := by
  have hez := isEmpty_false q0
  have hx0 := bAt_eq T 0 q0
  have hx43 : ((bAt T 0 : Int) == 43) = false := by rw [q1]; rfl
  have hx45 : ((bAt T 0 : Int) == 45) = true := by rw [q1]; rfl
  clear q1
  have hsz : ((T.extract 1 T.size)).size = T.size - 1 := size_extract T 1 T.size (Nat.le_refl _)
  have M1 : Hid (IsMatch (T.extract 1 T.size) ⟨#[105]⟩ 1) := m1
  have M2 : Hid (IsMatch (T.extract 1 T.size) ⟨#[105, 110, 102, 105, 110, 105, 116, 121]⟩ n) := m2
  have hn : n ≤ ((T.extract 1 T.size)).size := m2.1
  clear m1 m2
  subst q6
  have q5a : ((T.extract 1 T.size)).size ≤ 3 := by omega
  have q5b : 3 ≤ ((T.extract 1 T.size)).size := by omega
  clear q5
  obtain ⟨W, hW⟩ : ∃ W, W = NW w := ⟨_, rfl⟩
  have hN := nat_nw0 w
  rw [← hW] at hN
  go_enter Oabg.func19, Oabg.ntmps19
  go_wp2_with fail
  go_at_call 56
  rw [show (w.alloc (Obj.cells #[Value.int IntKind.u8 0, Value.bool false, Value.string ⟨#[]⟩, Value.int IntKind.i16 0, Value.int IntKind.i64 0, Value.int IntKind.i32 0] 32)) = W from hW.symm]
  refine (matched_eq M1.out _ (by omega) (by decide)).mono ?_
  rintro r w1 ⟨rfl, hb⟩
  obtain ⟨c0, c1, c2, c3, c4, c5, cf, hWz, HN⟩ := nat_all (nat_step hN hb)
  clear hb hN hW
  go_wp2_with (first | (go_at_call 56; refine (matched_eq M2.out _ (by omega) (by decide)).mono ?_; rintro r w1 ⟨rfl, hb⟩; obtain ⟨c0, c1, c2, c3, c4, c5, cf, hWz, HN⟩ := nat_all (nat_step HN.out hb); clear hb))
  refine bodyPost_ret (v := scV ⟨1, true, ⟨#[]⟩, 0, 0, 0⟩) (by simp [results, Oabg.results19, go_sem, c0, c1, c2, c3, c4, c5]; rfl) rfl ⟨rfl, nat_set HN.out⟩

set_option maxHeartbeats 400000 in
set_option maxRecDepth 100000 in
theorem mscan_mi8 (T : ByteArray) (w : World) (hT : T.size ≤ 1024) (q0 : 0 < T.size) (q1 : bAt T 0 = 45)  (m1 : IsMatch (T.extract 1 T.size) ⟨#[105]⟩ 1) (n : Nat) (m2 : IsMatch (T.extract 1 T.size) ⟨#[105, 110, 102, 105, 110, 105, 116, 121]⟩ n) (q5 : ((T.extract 1 T.size)).size = 8) (q6 : n = 8) :
    Calls Oabg.prog 19 #[.string T] w fun r w' => r = .returned (scV (⟨1, true, ⟨#[]⟩, 0, 0, 0⟩)) ∧ Below w.heap.size w w' := by
  have hez := isEmpty_false q0
  have hx0 := bAt_eq T 0 q0
  have hx43 : ((bAt T 0 : Int) == 43) = false := by rw [q1]; rfl
  have hx45 : ((bAt T 0 : Int) == 45) = true := by rw [q1]; rfl
  clear q1
  have hsz : ((T.extract 1 T.size)).size = T.size - 1 := size_extract T 1 T.size (Nat.le_refl _)
  have M1 : Hid (IsMatch (T.extract 1 T.size) ⟨#[105]⟩ 1) := m1
  have M2 : Hid (IsMatch (T.extract 1 T.size) ⟨#[105, 110, 102, 105, 110, 105, 116, 121]⟩ n) := m2
  have hn : n ≤ ((T.extract 1 T.size)).size := m2.1
  clear m1 m2
  subst q6
  have q5a : ((T.extract 1 T.size)).size ≤ 8 := by omega
  have q5b : 8 ≤ ((T.extract 1 T.size)).size := by omega
  clear q5
  obtain ⟨W, hW⟩ : ∃ W, W = NW w := ⟨_, rfl⟩
  have hN := nat_nw0 w
  rw [← hW] at hN
  go_enter Oabg.func19, Oabg.ntmps19
  go_wp2_with fail
  go_at_call 56
  rw [show (w.alloc (Obj.cells #[Value.int IntKind.u8 0, Value.bool false, Value.string ⟨#[]⟩, Value.int IntKind.i16 0, Value.int IntKind.i64 0, Value.int IntKind.i32 0] 32)) = W from hW.symm]
  refine (matched_eq M1.out _ (by omega) (by decide)).mono ?_
  rintro r w1 ⟨rfl, hb⟩
  obtain ⟨c0, c1, c2, c3, c4, c5, cf, hWz, HN⟩ := nat_all (nat_step hN hb)
  clear hb hN hW
  go_wp2_with (first | (go_at_call 56; refine (matched_eq M2.out _ (by omega) (by decide)).mono ?_; rintro r w1 ⟨rfl, hb⟩; obtain ⟨c0, c1, c2, c3, c4, c5, cf, hWz, HN⟩ := nat_all (nat_step HN.out hb); clear hb))
  refine bodyPost_ret (v := scV ⟨1, true, ⟨#[]⟩, 0, 0, 0⟩) (by simp [results, Oabg.results19, go_sem, c0, c1, c2, c3, c4, c5]; rfl) rfl ⟨rfl, nat_set HN.out⟩

set_option maxHeartbeats 400000 in
set_option maxRecDepth 100000 in
theorem mscan_mib (T : ByteArray) (w : World) (hT : T.size ≤ 1024) (q0 : 0 < T.size) (q1 : bAt T 0 = 45)  (m1 : IsMatch (T.extract 1 T.size) ⟨#[105]⟩ 1) (n : Nat) (m2 : IsMatch (T.extract 1 T.size) ⟨#[105, 110, 102, 105, 110, 105, 116, 121]⟩ n) (q5 : n < ((T.extract 1 T.size)).size) :
    Calls Oabg.prog 19 #[.string T] w fun r w' => r = .returned (scV (wrongAt T (1 + n))) ∧ Below w.heap.size w w' := by
  have hez := isEmpty_false q0
  have hx0 := bAt_eq T 0 q0
  have hx43 : ((bAt T 0 : Int) == 43) = false := by rw [q1]; rfl
  have hx45 : ((bAt T 0 : Int) == 45) = true := by rw [q1]; rfl
  clear q1
  have hsz : ((T.extract 1 T.size)).size = T.size - 1 := size_extract T 1 T.size (Nat.le_refl _)
  have M1 : Hid (IsMatch (T.extract 1 T.size) ⟨#[105]⟩ 1) := m1
  have M2 : Hid (IsMatch (T.extract 1 T.size) ⟨#[105, 110, 102, 105, 110, 105, 116, 121]⟩ n) := m2
  have hn : n ≤ ((T.extract 1 T.size)).size := m2.1
  clear m1 m2
  obtain ⟨R, hR⟩ : ∃ R, R = wrongAt T (1 + n) := ⟨_, rfl⟩
  have HR : Hid (R = wrongAt T (1 + n)) := hR
  clear hR
  have hq : ((n : Int) == (((T.extract 1 T.size)).size : Int)) = false := by rw [beq_eq_false_iff_ne]; omega
  obtain ⟨W, hW⟩ : ∃ W, W = NW w := ⟨_, rfl⟩
  have hN := nat_nw0 w
  rw [← hW] at hN
  go_enter Oabg.func19, Oabg.ntmps19
  go_wp2_with fail
  go_at_call 56
  rw [show (w.alloc (Obj.cells #[Value.int IntKind.u8 0, Value.bool false, Value.string ⟨#[]⟩, Value.int IntKind.i16 0, Value.int IntKind.i64 0, Value.int IntKind.i32 0] 32)) = W from hW.symm]
  refine (matched_eq M1.out _ (by omega) (by decide)).mono ?_
  rintro r w1 ⟨rfl, hb⟩
  obtain ⟨c0, c1, c2, c3, c4, c5, cf, hWz, HN⟩ := nat_all (nat_step hN hb)
  clear hb hN hW
  go_wp2_with (first | (go_at_call 56; refine (matched_eq M2.out _ (by omega) (by decide)).mono ?_; rintro r w1 ⟨rfl, hb⟩; obtain ⟨c0, c1, c2, c3, c4, c5, cf, hWz, HN⟩ := nat_all (nat_step HN.out hb); clear hb) | (go_at_call 57; refine (wrong_agg T (1 + n) R HR.out _ (by omega) (by omega) ((1 : Int) + (n : Int)) (by omega)).mono ?_; rintro r w1 ⟨rfl, hb⟩; obtain ⟨c0, c1, c2, c3, c4, c5, cf, hWz, HN⟩ := nat_all (nat_step HN.out hb); clear hb))
  refine bodyPost_ret (v := scV R) (by simp [results, Oabg.results19, go_sem, c0, c1, c2, c3, c4, c5]; rfl) rfl ⟨by rw [HR.out], nat_set HN.out⟩

set_option maxHeartbeats 400000 in
set_option maxRecDepth 100000 in
theorem mscan_mic (T : ByteArray) (w : World) (hT : T.size ≤ 1024) (q0 : 0 < T.size) (q1 : bAt T 0 = 45)  (m1 : IsMatch (T.extract 1 T.size) ⟨#[105]⟩ 1) (n : Nat) (m2 : IsMatch (T.extract 1 T.size) ⟨#[105, 110, 102, 105, 110, 105, 116, 121]⟩ n) (q5 : n = ((T.extract 1 T.size)).size) (q3 : n ≠ 3) (q8 : n ≠ 8) :
    Calls Oabg.prog 19 #[.string T] w fun r w' => r = .returned (scV (wrongAt T (1 + n))) ∧ Below w.heap.size w w' := by
  have hez := isEmpty_false q0
  have hx0 := bAt_eq T 0 q0
  have hx43 : ((bAt T 0 : Int) == 43) = false := by rw [q1]; rfl
  have hx45 : ((bAt T 0 : Int) == 45) = true := by rw [q1]; rfl
  clear q1
  have hsz : ((T.extract 1 T.size)).size = T.size - 1 := size_extract T 1 T.size (Nat.le_refl _)
  have M1 : Hid (IsMatch (T.extract 1 T.size) ⟨#[105]⟩ 1) := m1
  have M2 : Hid (IsMatch (T.extract 1 T.size) ⟨#[105, 110, 102, 105, 110, 105, 116, 121]⟩ n) := m2
  have hn : n ≤ ((T.extract 1 T.size)).size := m2.1
  clear m1 m2
  obtain ⟨R, hR⟩ : ∃ R, R = wrongAt T (1 + n) := ⟨_, rfl⟩
  have HR : Hid (R = wrongAt T (1 + n)) := hR
  clear hR
  have hq3 : ((n : Int) == 3) = false := by rw [beq_eq_false_iff_ne]; omega
  have hq8 : ((n : Int) == 8) = false := by rw [beq_eq_false_iff_ne]; omega
  have hq : ((n : Int) == (((T.extract 1 T.size)).size : Int)) = true := by rw [beq_iff_eq]; omega
  have q5a : n ≤ ((T.extract 1 T.size)).size := by omega
  have q5b : ((T.extract 1 T.size)).size ≤ n := by omega
  clear q5
  have hs3 : (((T.size - 1 : Nat) : Int) == 3) = false := by rw [beq_eq_false_iff_ne]; omega
  have hs8 : (((T.size - 1 : Nat) : Int) == 8) = false := by rw [beq_eq_false_iff_ne]; omega
  obtain ⟨W, hW⟩ : ∃ W, W = NW w := ⟨_, rfl⟩
  have hN := nat_nw0 w
  rw [← hW] at hN
  go_enter Oabg.func19, Oabg.ntmps19
  go_wp2_with fail
  go_at_call 56
  rw [show (w.alloc (Obj.cells #[Value.int IntKind.u8 0, Value.bool false, Value.string ⟨#[]⟩, Value.int IntKind.i16 0, Value.int IntKind.i64 0, Value.int IntKind.i32 0] 32)) = W from hW.symm]
  refine (matched_eq M1.out _ (by omega) (by decide)).mono ?_
  rintro r w1 ⟨rfl, hb⟩
  obtain ⟨c0, c1, c2, c3, c4, c5, cf, hWz, HN⟩ := nat_all (nat_step hN hb)
  clear hb hN hW
  go_wp2_with (first | (go_at_call 56; refine (matched_eq M2.out _ (by omega) (by decide)).mono ?_; rintro r w1 ⟨rfl, hb⟩; obtain ⟨c0, c1, c2, c3, c4, c5, cf, hWz, HN⟩ := nat_all (nat_step HN.out hb); clear hb) | (go_at_call 57; refine (wrong_agg T (1 + n) R HR.out _ (by omega) (by omega) _ (by omega)).mono ?_; rintro r w1 ⟨rfl, hb⟩; obtain ⟨c0, c1, c2, c3, c4, c5, cf, hWz, HN⟩ := nat_all (nat_step HN.out hb); clear hb))
  refine bodyPost_ret (v := scV R) (by simp [results, Oabg.results19, go_sem, c0, c1, c2, c3, c4, c5]; rfl) rfl ⟨by rw [HR.out], nat_set HN.out⟩

set_option maxHeartbeats 400000 in
set_option maxRecDepth 100000 in
theorem mscan_mn3 (T : ByteArray) (w : World) (hT : T.size ≤ 1024) (q0 : 0 < T.size) (q1 : bAt T 0 = 45)  (m0 : IsMatch (T.extract 1 T.size) ⟨#[105]⟩ 0) (m1 : IsMatch (T.extract 1 T.size) ⟨#[110]⟩ 1) (n : Nat) (m2 : IsMatch (T.extract 1 T.size) ⟨#[110, 97, 110]⟩ n) (q5 : ((T.extract 1 T.size)).size = 3) (q6 : n = 3) :
    Calls Oabg.prog 19 #[.string T] w fun r w' => r = .returned (scV (⟨2, false, ⟨#[]⟩, 0, 0, 0⟩)) ∧ Below w.heap.size w w' := by
  have hez := isEmpty_false q0
  have hx0 := bAt_eq T 0 q0
  have hx43 : ((bAt T 0 : Int) == 43) = false := by rw [q1]; rfl
  have hx45 : ((bAt T 0 : Int) == 45) = true := by rw [q1]; rfl
  clear q1
  have hsz : ((T.extract 1 T.size)).size = T.size - 1 := size_extract T 1 T.size (Nat.le_refl _)
  have M0 : Hid (IsMatch (T.extract 1 T.size) ⟨#[105]⟩ 0) := m0
  clear m0
  have M1 : Hid (IsMatch (T.extract 1 T.size) ⟨#[110]⟩ 1) := m1
  have M2 : Hid (IsMatch (T.extract 1 T.size) ⟨#[110, 97, 110]⟩ n) := m2
  have hn : n ≤ ((T.extract 1 T.size)).size := m2.1
  clear m1 m2
  subst q6
  have q5a : ((T.extract 1 T.size)).size ≤ 3 := by omega
  have q5b : 3 ≤ ((T.extract 1 T.size)).size := by omega
  clear q5
  obtain ⟨W, hW⟩ : ∃ W, W = NW w := ⟨_, rfl⟩
  have hN := nat_nw0 w
  rw [← hW] at hN
  go_enter Oabg.func19, Oabg.ntmps19
  go_wp2_with fail
  go_at_call 56
  rw [show (w.alloc (Obj.cells #[Value.int IntKind.u8 0, Value.bool false, Value.string ⟨#[]⟩, Value.int IntKind.i16 0, Value.int IntKind.i64 0, Value.int IntKind.i32 0] 32)) = W from hW.symm]
  refine (matched_eq M0.out _ (by omega) (by decide)).mono ?_
  rintro r w1 ⟨rfl, hb⟩
  obtain ⟨c0, c1, c2, c3, c4, c5, cf, hWz, HN⟩ := nat_all (nat_step hN hb)
  clear hb hN hW
  go_wp2_with fail
  go_at_call 56
  refine (matched_eq M1.out _ (by omega) (by decide)).mono ?_
  rintro r w1 ⟨rfl, hb⟩
  obtain ⟨c0, c1, c2, c3, c4, c5, cf, hWz, HN⟩ := nat_all (nat_step HN.out hb)
  clear hb
  go_wp2_with fail
  go_at_call 56
  refine (matched_eq M2.out _ (by omega) (by decide)).mono ?_
  rintro r w1 ⟨rfl, hb⟩
  obtain ⟨c0, c1, c2, c3, c4, c5, cf, hWz, HN⟩ := nat_all (nat_step HN.out hb)
  clear hb
  go_wp2
  refine bodyPost_ret (v := scV ⟨2, false, ⟨#[]⟩, 0, 0, 0⟩) (by simp [results, Oabg.results19, go_sem, c0, c1, c2, c3, c4, c5]; rfl) rfl ⟨rfl, nat_set HN.out⟩

set_option maxHeartbeats 400000 in
set_option maxRecDepth 100000 in
theorem mscan_mnb (T : ByteArray) (w : World) (hT : T.size ≤ 1024) (q0 : 0 < T.size) (q1 : bAt T 0 = 45)  (m0 : IsMatch (T.extract 1 T.size) ⟨#[105]⟩ 0) (m1 : IsMatch (T.extract 1 T.size) ⟨#[110]⟩ 1) (n : Nat) (m2 : IsMatch (T.extract 1 T.size) ⟨#[110, 97, 110]⟩ n) (q5 : n < ((T.extract 1 T.size)).size) :
    Calls Oabg.prog 19 #[.string T] w fun r w' => r = .returned (scV (wrongAt T (1 + n))) ∧ Below w.heap.size w w' := by
  have hez := isEmpty_false q0
  have hx0 := bAt_eq T 0 q0
  have hx43 : ((bAt T 0 : Int) == 43) = false := by rw [q1]; rfl
  have hx45 : ((bAt T 0 : Int) == 45) = true := by rw [q1]; rfl
  clear q1
  have hsz : ((T.extract 1 T.size)).size = T.size - 1 := size_extract T 1 T.size (Nat.le_refl _)
  have M0 : Hid (IsMatch (T.extract 1 T.size) ⟨#[105]⟩ 0) := m0
  clear m0
  have M1 : Hid (IsMatch (T.extract 1 T.size) ⟨#[110]⟩ 1) := m1
  have M2 : Hid (IsMatch (T.extract 1 T.size) ⟨#[110, 97, 110]⟩ n) := m2
  have hn : n ≤ ((T.extract 1 T.size)).size := m2.1
  clear m1 m2
  obtain ⟨R, hR⟩ : ∃ R, R = wrongAt T (1 + n) := ⟨_, rfl⟩
  have HR : Hid (R = wrongAt T (1 + n)) := hR
  clear hR
  have hq : ((n : Int) == (((T.extract 1 T.size)).size : Int)) = false := by rw [beq_eq_false_iff_ne]; omega
  obtain ⟨W, hW⟩ : ∃ W, W = NW w := ⟨_, rfl⟩
  have hN := nat_nw0 w
  rw [← hW] at hN
  go_enter Oabg.func19, Oabg.ntmps19
  go_wp2_with fail
  go_at_call 56
  rw [show (w.alloc (Obj.cells #[Value.int IntKind.u8 0, Value.bool false, Value.string ⟨#[]⟩, Value.int IntKind.i16 0, Value.int IntKind.i64 0, Value.int IntKind.i32 0] 32)) = W from hW.symm]
  refine (matched_eq M0.out _ (by omega) (by decide)).mono ?_
  rintro r w1 ⟨rfl, hb⟩
  obtain ⟨c0, c1, c2, c3, c4, c5, cf, hWz, HN⟩ := nat_all (nat_step hN hb)
  clear hb hN hW
  go_wp2_with fail
  go_at_call 56
  refine (matched_eq M1.out _ (by omega) (by decide)).mono ?_
  rintro r w1 ⟨rfl, hb⟩
  obtain ⟨c0, c1, c2, c3, c4, c5, cf, hWz, HN⟩ := nat_all (nat_step HN.out hb)
  clear hb
  go_wp2_with fail
  go_at_call 56
  refine (matched_eq M2.out _ (by omega) (by decide)).mono ?_
  rintro r w1 ⟨rfl, hb⟩
  obtain ⟨c0, c1, c2, c3, c4, c5, cf, hWz, HN⟩ := nat_all (nat_step HN.out hb)
  clear hb
  go_wp2_with (go_at_call 57; refine (wrong_agg T (1 + n) R HR.out _ (by omega) (by omega) ((1 : Int) + (n : Int)) (by omega)).mono ?_; rintro r w1 ⟨rfl, hb⟩; obtain ⟨c0, c1, c2, c3, c4, c5, cf, hWz, HN⟩ := nat_all (nat_step HN.out hb); clear hb)
  refine bodyPost_ret (v := scV R) (by simp [results, Oabg.results19, go_sem, c0, c1, c2, c3, c4, c5]; rfl) rfl ⟨by rw [HR.out], nat_set HN.out⟩

set_option maxHeartbeats 400000 in
set_option maxRecDepth 100000 in
theorem mscan_mnc (T : ByteArray) (w : World) (hT : T.size ≤ 1024) (q0 : 0 < T.size) (q1 : bAt T 0 = 45)  (m0 : IsMatch (T.extract 1 T.size) ⟨#[105]⟩ 0) (m1 : IsMatch (T.extract 1 T.size) ⟨#[110]⟩ 1) (n : Nat) (m2 : IsMatch (T.extract 1 T.size) ⟨#[110, 97, 110]⟩ n) (q5 : n = ((T.extract 1 T.size)).size) (q3 : n ≠ 3) :
    Calls Oabg.prog 19 #[.string T] w fun r w' => r = .returned (scV (wrongAt T (1 + n))) ∧ Below w.heap.size w w' := by
  have hez := isEmpty_false q0
  have hx0 := bAt_eq T 0 q0
  have hx43 : ((bAt T 0 : Int) == 43) = false := by rw [q1]; rfl
  have hx45 : ((bAt T 0 : Int) == 45) = true := by rw [q1]; rfl
  clear q1
  have hsz : ((T.extract 1 T.size)).size = T.size - 1 := size_extract T 1 T.size (Nat.le_refl _)
  have M0 : Hid (IsMatch (T.extract 1 T.size) ⟨#[105]⟩ 0) := m0
  clear m0
  have M1 : Hid (IsMatch (T.extract 1 T.size) ⟨#[110]⟩ 1) := m1
  have M2 : Hid (IsMatch (T.extract 1 T.size) ⟨#[110, 97, 110]⟩ n) := m2
  have hn : n ≤ ((T.extract 1 T.size)).size := m2.1
  clear m1 m2
  obtain ⟨R, hR⟩ : ∃ R, R = wrongAt T (1 + n) := ⟨_, rfl⟩
  have HR : Hid (R = wrongAt T (1 + n)) := hR
  clear hR
  have hq3 : ((n : Int) == 3) = false := by rw [beq_eq_false_iff_ne]; omega
  have hq : ((n : Int) == (((T.extract 1 T.size)).size : Int)) = true := by rw [beq_iff_eq]; omega
  have q5a : n ≤ ((T.extract 1 T.size)).size := by omega
  have q5b : ((T.extract 1 T.size)).size ≤ n := by omega
  clear q5
  have hs3 : (((T.size - 1 : Nat) : Int) == 3) = false := by rw [beq_eq_false_iff_ne]; omega
  obtain ⟨W, hW⟩ : ∃ W, W = NW w := ⟨_, rfl⟩
  have hN := nat_nw0 w
  rw [← hW] at hN
  go_enter Oabg.func19, Oabg.ntmps19
  go_wp2_with fail
  go_at_call 56
  rw [show (w.alloc (Obj.cells #[Value.int IntKind.u8 0, Value.bool false, Value.string ⟨#[]⟩, Value.int IntKind.i16 0, Value.int IntKind.i64 0, Value.int IntKind.i32 0] 32)) = W from hW.symm]
  refine (matched_eq M0.out _ (by omega) (by decide)).mono ?_
  rintro r w1 ⟨rfl, hb⟩
  obtain ⟨c0, c1, c2, c3, c4, c5, cf, hWz, HN⟩ := nat_all (nat_step hN hb)
  clear hb hN hW
  go_wp2_with fail
  go_at_call 56
  refine (matched_eq M1.out _ (by omega) (by decide)).mono ?_
  rintro r w1 ⟨rfl, hb⟩
  obtain ⟨c0, c1, c2, c3, c4, c5, cf, hWz, HN⟩ := nat_all (nat_step HN.out hb)
  clear hb
  go_wp2_with fail
  go_at_call 56
  refine (matched_eq M2.out _ (by omega) (by decide)).mono ?_
  rintro r w1 ⟨rfl, hb⟩
  obtain ⟨c0, c1, c2, c3, c4, c5, cf, hWz, HN⟩ := nat_all (nat_step HN.out hb)
  clear hb
  go_wp2_with (go_at_call 57; refine (wrong_agg T (1 + n) R HR.out _ (by omega) (by omega) _ (by omega)).mono ?_; rintro r w1 ⟨rfl, hb⟩; obtain ⟨c0, c1, c2, c3, c4, c5, cf, hWz, HN⟩ := nat_all (nat_step HN.out hb); clear hb)
  refine bodyPost_ret (v := scV R) (by simp [results, Oabg.results19, go_sem, c0, c1, c2, c3, c4, c5]; rfl) rfl ⟨by rw [HR.out], nat_set HN.out⟩

end Go.Proofs.Ygcoab
