import Derived.Test.YgcoabWWord
namespace Go.Proofs.Ygcoab
open Go.RowKit

set_option maxHeartbeats 400000 in
set_option maxRecDepth 100000 in
theorem mscan_zu (T : ByteArray) (w : World) (hT : T.size ≤ 1024) (q0 : T.size = 0) (m1 : IsMatch T ⟨#[105]⟩ 0) (m2 : IsMatch T ⟨#[110]⟩ 0)
    (hk : ∀ w, Calls Oabg.prog 58 #[.string T, .string T, .int .i64 0, .bool false] w fun r w' => ∃ R, r = .returned (scV R) ∧ ScanIs T R ∧ Below w.heap.size w w') :
    Calls Oabg.prog 19 #[.string T] w fun r w' => ∃ R, r = .returned (scV R) ∧ ScanIs T R ∧ Below w.heap.size w w' := by
  have hez := isEmpty_true q0
  have M1 : Hid (IsMatch T ⟨#[105]⟩ 0) := m1
  have M2 : Hid (IsMatch T ⟨#[110]⟩ 0) := m2
  have HK : Hid (∀ w, Calls Oabg.prog 58 #[.string T, .string T, .int .i64 0, .bool false] w fun r w' => ∃ R : Sd, r = .returned (.agg #[.int .u8 R.kind, .bool R.neg, .string R.dig, .int .i16 R.exp, .int .i64 R.pos, .int .i32 R.got]) ∧ ScanIs T R ∧ Below w.heap.size w w') := hk
  have q0a : T.size ≤ 0 := by omega
  clear m1 m2 hk q0
  obtain ⟨W, hW⟩ : ∃ W, W = NW w := ⟨_, rfl⟩
  have hN := nat_nw0 w
  rw [← hW] at hN
  go_enter Oabg.func19, Oabg.ntmps19
  go_wp2_with fail
  go_at_call 56
  rw [show (w.alloc (Obj.cells #[Value.int IntKind.u8 0, Value.bool false, Value.string ⟨#[]⟩, Value.int IntKind.i16 0, Value.int IntKind.i64 0, Value.int IntKind.i32 0] 32)) = W from hW.symm]
  refine (matched_eq M1.out _ (by omega) (by decide)).mono ?_
  rintro r w1 ⟨rfl, hb⟩
  obtain ⟨c0, c1, c2, c3, c4, c5, cf, hWz, HN⟩ := nat_all (nat_step hN hb)
  clear hb hN hW
  go_wp2_with (first | (go_at_call 56; refine (matched_eq M2.out _ (by omega) (by decide)).mono ?_; rintro r w1 ⟨rfl, hb⟩; obtain ⟨c0, c1, c2, c3, c4, c5, cf, hWz, HN⟩ := nat_all (nat_step HN.out hb); clear hb) | (go_at_call 58; refine (HK.out _).mono ?_; rintro r w1 ⟨R, rfl, hR, hb⟩; have HR : Hid (ScanIs T R) := hR; clear hR; obtain ⟨c0, c1, c2, c3, c4, c5, cf, hWz, HN⟩ := nat_all (nat_step HN.out hb); clear hb))
  refine bodyPost_ret (v := scV R) (by simp [results, Oabg.results19, go_sem, c0, c1, c2, c3, c4, c5]; rfl) rfl ⟨R, rfl, HR.out, nat_set HN.out⟩

set_option maxHeartbeats 400000 in
set_option maxRecDepth 100000 in
theorem mscan_nu (T : ByteArray) (w : World) (hT : T.size ≤ 1024) (q0 : 0 < T.size) (q1 : bAt T 0 ≠ 43) (q2 : bAt T 0 ≠ 45) (m1 : IsMatch T ⟨#[105]⟩ 0) (m2 : IsMatch T ⟨#[110]⟩ 0)
    (hk : ∀ w, Calls Oabg.prog 58 #[.string T, .string T, .int .i64 0, .bool false] w fun r w' => ∃ R, r = .returned (scV R) ∧ ScanIs T R ∧ Below w.heap.size w w') :
    Calls Oabg.prog 19 #[.string T] w fun r w' => ∃ R, r = .returned (scV R) ∧ ScanIs T R ∧ Below w.heap.size w w' := by
  have hez := isEmpty_false q0
  have hx0 := bAt_eq T 0 q0
  have hx43 : ((bAt T 0 : Int) == 43) = false := by rw [beq_eq_false_iff_ne]; omega
  have hx45 : ((bAt T 0 : Int) == 45) = false := by rw [beq_eq_false_iff_ne]; omega
  clear q1 q2
  have M1 : Hid (IsMatch T ⟨#[105]⟩ 0) := m1
  have M2 : Hid (IsMatch T ⟨#[110]⟩ 0) := m2
  have HK : Hid (∀ w, Calls Oabg.prog 58 #[.string T, .string T, .int .i64 0, .bool false] w fun r w' => ∃ R : Sd, r = .returned (.agg #[.int .u8 R.kind, .bool R.neg, .string R.dig, .int .i16 R.exp, .int .i64 R.pos, .int .i32 R.got]) ∧ ScanIs T R ∧ Below w.heap.size w w') := hk
  clear m1 m2 hk
  obtain ⟨W, hW⟩ : ∃ W, W = NW w := ⟨_, rfl⟩
  have hN := nat_nw0 w
  rw [← hW] at hN
  go_enter Oabg.func19, Oabg.ntmps19
  go_wp2_with fail
  go_at_call 56
  rw [show (w.alloc (Obj.cells #[Value.int IntKind.u8 0, Value.bool false, Value.string ⟨#[]⟩, Value.int IntKind.i16 0, Value.int IntKind.i64 0, Value.int IntKind.i32 0] 32)) = W from hW.symm]
  refine (matched_eq M1.out _ (by omega) (by decide)).mono ?_
  rintro r w1 ⟨rfl, hb⟩
  obtain ⟨c0, c1, c2, c3, c4, c5, cf, hWz, HN⟩ := nat_all (nat_step hN hb)
  clear hb hN hW
  go_wp2_with (first | (go_at_call 56; refine (matched_eq M2.out _ (by omega) (by decide)).mono ?_; rintro r w1 ⟨rfl, hb⟩; obtain ⟨c0, c1, c2, c3, c4, c5, cf, hWz, HN⟩ := nat_all (nat_step HN.out hb); clear hb) | (go_at_call 58; refine (HK.out _).mono ?_; rintro r w1 ⟨R, rfl, hR, hb⟩; have HR : Hid (ScanIs T R) := hR; clear hR; obtain ⟨c0, c1, c2, c3, c4, c5, cf, hWz, HN⟩ := nat_all (nat_step HN.out hb); clear hb))
  refine bodyPost_ret (v := scV R) (by simp [results, Oabg.results19, go_sem, c0, c1, c2, c3, c4, c5]; rfl) rfl ⟨R, rfl, HR.out, nat_set HN.out⟩

set_option maxHeartbeats 400000 in
set_option maxRecDepth 100000 in
theorem mscan_pu (T : ByteArray) (w : World) (hT : T.size ≤ 1024) (q0 : 0 < T.size) (q1 : bAt T 0 = 43) (m1 : IsMatch (T.extract 1 T.size) ⟨#[105]⟩ 0) (m2 : IsMatch (T.extract 1 T.size) ⟨#[110]⟩ 0)
    (hk : ∀ w, Calls Oabg.prog 58 #[.string T, .string (T.extract 1 T.size), .int .i64 1, .bool false] w fun r w' => ∃ R, r = .returned (scV R) ∧ ScanIs T R ∧ Below w.heap.size w w') :
    Calls Oabg.prog 19 #[.string T] w fun r w' => ∃ R, r = .returned (scV R) ∧ ScanIs T R ∧ Below w.heap.size w w' := by
  have hez := isEmpty_false q0
  have hx0 := bAt_eq T 0 q0
  have hx43 : ((bAt T 0 : Int) == 43) = true := by rw [q1]; rfl
  have hx45 : ((bAt T 0 : Int) == 45) = false := by rw [q1]; rfl
  clear q1
  have hsz : ((T.extract 1 T.size)).size = T.size - 1 := size_extract T 1 T.size (Nat.le_refl _)
  have M1 : Hid (IsMatch (T.extract 1 T.size) ⟨#[105]⟩ 0) := m1
  have M2 : Hid (IsMatch (T.extract 1 T.size) ⟨#[110]⟩ 0) := m2
  have HK : Hid (∀ w, Calls Oabg.prog 58 #[.string T, .string (T.extract 1 T.size), .int .i64 1, .bool false] w fun r w' => ∃ R : Sd, r = .returned (.agg #[.int .u8 R.kind, .bool R.neg, .string R.dig, .int .i16 R.exp, .int .i64 R.pos, .int .i32 R.got]) ∧ ScanIs T R ∧ Below w.heap.size w w') := hk
  clear m1 m2 hk
  obtain ⟨W, hW⟩ : ∃ W, W = NW w := ⟨_, rfl⟩
  have hN := nat_nw0 w
  rw [← hW] at hN
  go_enter Oabg.func19, Oabg.ntmps19
  go_wp2_with fail
  go_at_call 56
  rw [show (w.alloc (Obj.cells #[Value.int IntKind.u8 0, Value.bool false, Value.string ⟨#[]⟩, Value.int IntKind.i16 0, Value.int IntKind.i64 0, Value.int IntKind.i32 0] 32)) = W from hW.symm]
  refine (matched_eq M1.out _ (by omega) (by decide)).mono ?_
  rintro r w1 ⟨rfl, hb⟩
  obtain ⟨c0, c1, c2, c3, c4, c5, cf, hWz, HN⟩ := nat_all (nat_step hN hb)
  clear hb hN hW
  go_wp2_with (first | (go_at_call 56; refine (matched_eq M2.out _ (by omega) (by decide)).mono ?_; rintro r w1 ⟨rfl, hb⟩; obtain ⟨c0, c1, c2, c3, c4, c5, cf, hWz, HN⟩ := nat_all (nat_step HN.out hb); clear hb) | (go_at_call 58; refine (HK.out _).mono ?_; rintro r w1 ⟨R, rfl, hR, hb⟩; have HR : Hid (ScanIs T R) := hR; clear hR; obtain ⟨c0, c1, c2, c3, c4, c5, cf, hWz, HN⟩ := nat_all (nat_step HN.out hb); clear hb))
  refine bodyPost_ret (v := scV R) (by simp [results, Oabg.results19, go_sem, c0, c1, c2, c3, c4, c5]; rfl) rfl ⟨R, rfl, HR.out, nat_set HN.out⟩

set_option maxHeartbeats 400000 in
set_option maxRecDepth 100000 in
theorem mscan_mu (T : ByteArray) (w : World) (hT : T.size ≤ 1024) (q0 : 0 < T.size) (q1 : bAt T 0 = 45) (m1 : IsMatch (T.extract 1 T.size) ⟨#[105]⟩ 0) (m2 : IsMatch (T.extract 1 T.size) ⟨#[110]⟩ 0)
    (hk : ∀ w, Calls Oabg.prog 58 #[.string T, .string (T.extract 1 T.size), .int .i64 1, .bool true] w fun r w' => ∃ R, r = .returned (scV R) ∧ ScanIs T R ∧ Below w.heap.size w w') :
    Calls Oabg.prog 19 #[.string T] w fun r w' => ∃ R, r = .returned (scV R) ∧ ScanIs T R ∧ Below w.heap.size w w' := by
  have hez := isEmpty_false q0
  have hx0 := bAt_eq T 0 q0
  have hx43 : ((bAt T 0 : Int) == 43) = false := by rw [q1]; rfl
  have hx45 : ((bAt T 0 : Int) == 45) = true := by rw [q1]; rfl
  clear q1
  have hsz : ((T.extract 1 T.size)).size = T.size - 1 := size_extract T 1 T.size (Nat.le_refl _)
  have M1 : Hid (IsMatch (T.extract 1 T.size) ⟨#[105]⟩ 0) := m1
  have M2 : Hid (IsMatch (T.extract 1 T.size) ⟨#[110]⟩ 0) := m2
  have HK : Hid (∀ w, Calls Oabg.prog 58 #[.string T, .string (T.extract 1 T.size), .int .i64 1, .bool true] w fun r w' => ∃ R : Sd, r = .returned (.agg #[.int .u8 R.kind, .bool R.neg, .string R.dig, .int .i16 R.exp, .int .i64 R.pos, .int .i32 R.got]) ∧ ScanIs T R ∧ Below w.heap.size w w') := hk
  clear m1 m2 hk
  obtain ⟨W, hW⟩ : ∃ W, W = NW w := ⟨_, rfl⟩
  have hN := nat_nw0 w
  rw [← hW] at hN
  go_enter Oabg.func19, Oabg.ntmps19
  go_wp2_with fail
  go_at_call 56
  rw [show (w.alloc (Obj.cells #[Value.int IntKind.u8 0, Value.bool false, Value.string ⟨#[]⟩, Value.int IntKind.i16 0, Value.int IntKind.i64 0, Value.int IntKind.i32 0] 32)) = W from hW.symm]
  refine (matched_eq M1.out _ (by omega) (by decide)).mono ?_
  rintro r w1 ⟨rfl, hb⟩
  obtain ⟨c0, c1, c2, c3, c4, c5, cf, hWz, HN⟩ := nat_all (nat_step hN hb)
  clear hb hN hW
  go_wp2_with (first | (go_at_call 56; refine (matched_eq M2.out _ (by omega) (by decide)).mono ?_; rintro r w1 ⟨rfl, hb⟩; obtain ⟨c0, c1, c2, c3, c4, c5, cf, hWz, HN⟩ := nat_all (nat_step HN.out hb); clear hb) | (go_at_call 58; refine (HK.out _).mono ?_; rintro r w1 ⟨R, rfl, hR, hb⟩; have HR : Hid (ScanIs T R) := hR; clear hR; obtain ⟨c0, c1, c2, c3, c4, c5, cf, hWz, HN⟩ := nat_all (nat_step HN.out hb); clear hb))
  refine bodyPost_ret (v := scV R) (by simp [results, Oabg.results19, go_sem, c0, c1, c2, c3, c4, c5]; rfl) rfl ⟨R, rfl, HR.out, nat_set HN.out⟩

set_option maxHeartbeats 400000 in
theorem mscan_big (T : ByteArray) (w : World) (hs : T.size ≤ 140737488351232) (hT : 1024 < T.size) :
    Calls Oabg.prog 19 #[.string T] w fun r w' => r = .returned (scV Sd.tooBig) ∧ Below w.heap.size w w' := by
  go_enter Oabg.func19, Oabg.ntmps19
  go_wp2
  refine bodyPost_ret (v := scV Sd.tooBig) (by simp [results, Oabg.results19, go_sem]; rfl) rfl ⟨rfl, ?_⟩
  exact (Below.refl _ _).alloc (Nat.le_refl _) _

end Go.Proofs.Ygcoab
