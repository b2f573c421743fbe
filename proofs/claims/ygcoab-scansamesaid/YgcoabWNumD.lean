import Derived.Test.YgcoabWNumber
namespace Go.Proofs.Ygcoab
open Go.RowKit

set_option maxHeartbeats 2000000 in
set_option maxRecDepth 100000 in
theorem number_xpb1 (T body mant ex ip fp : ByteArray) (hasE : Bool) (h : Nat) (neg : Bool) (e p : Int) (w : World) (P : Parts T body mant ex ip fp hasE h e p) (n1 n2 n3 : Nat) (h1 : IsDigN ip n1) (h2 : IsDigN fp n2) (h3 : IsDigN (exTail ex) n3) (q1 : n1 = ip.size) (q2 : n2 = fp.size) (q3 : 0 < ip.size) (q5 : hasE = true) (q6 : 0 < ex.size) (q7 : bAt ex 0 = 43) (q9 : n3 = 0) (q10 : (ex.extract 1 ex.size).size = 0) :
    Calls Oabg.prog 58 #[.string T, .string body, .int .i64 h, .bool neg] w fun r w' => r = .returned (scV (wrongAt T (T.size - ex.size + 1))) ∧ Below w.heap.size w w' := by
  have H1 : Hid (IsDigN ip n1) := h1
  have H2 : Hid (IsDigN fp n2) := h2
  have hi1 := h1.1
  have hi2 := h2.1
  have hsz := P.sizes
  obtain ⟨hs1, hs2, hs3⟩ := hsz
  have H3 : Hid (IsDigN (exTail ex) n3) := h3

  obtain ⟨R, hR⟩ : ∃ R, R = wrongAt T (T.size - ex.size + 1) := ⟨_, rfl⟩
  have HR : Hid (R = wrongAt T (T.size - ex.size + 1)) := hR
  clear hR h1 h2 h3
  subst q1 q2
  have hei := isEmpty_false q3
  have HX : Hid ((0 < ex.size) ∧ (bAt ex 0 = 43) ∧ (n3 = 0) ∧ ((ex.extract 1 ex.size).size = 0)) := ⟨q6, q7, q9, q10⟩
  clear q6 q7 q9 q10
  have hT := P.hT
  have hh := P.hh
  have HE : Hid (∀ w, Calls Oabg.prog 94 #[.string body, .int .u8 101, .int .u8 69] w fun r w' => r = .returned (.int .i64 e) ∧ w' = w) := fun w => cut_eq P.he w (by omega)
  have hml : mant.size ≤ body.size := by
    rcases P.hE with ⟨_, _, rfl, _⟩ | ⟨_, _, rfl, _⟩
    · rw [ByteArray.size_extract]; omega
    · omega
  have HP : Hid (∀ w, Calls Oabg.prog 94 #[.string mant, .int .u8 46, .int .u8 46] w fun r w' => r = .returned (.int .i64 p) ∧ w' = w) := fun w => cut_eq P.hp w (by omega)
  have HPE : Hid ((0 ≤ e ∧ hasE = true ∧ mant = body.extract 0 e.toNat ∧ ex = body.extract (e.toNat + 1) body.size) ∨ (e = -1 ∧ hasE = false ∧ mant = body ∧ ex = ⟨#[]⟩)) := P.hE
  have HPP : Hid ((0 ≤ p ∧ ip = mant.extract 0 p.toNat ∧ fp = mant.extract (p.toNat + 1) mant.size) ∨ (p = -1 ∧ ip = mant ∧ fp = ⟨#[]⟩)) := P.hP
  have hel : e < body.size := by rcases P.he with ⟨k, rfl, hk, _⟩ | ⟨rfl, _⟩ <;> omega
  have hpl : p < mant.size := by rcases P.hp with ⟨k, rfl, hk, _⟩ | ⟨rfl, _⟩ <;> omega
  clear P
  go_enter Oabg.func58, Oabg.ntmps58
  go_upto_if 29 with (go_at_call 94; refine (HE.out _).mono ?_; rintro r w' ⟨rfl, rfl⟩)
  go_cut [9, 10, 11] (fun s9 s10 s11 wx => s9 = .string mant ∧ s10 = .string ex ∧ s11 = .bool hasE ∧ ∃ n, wx = (NW w).drewN n)
  case first =>
    rcases HPE.out with ⟨h0, rfl, rfl, rfl⟩ | ⟨rfl, rfl, rfl, rfl⟩
    · obtain ⟨k, rfl⟩ : ∃ k : Nat, e = (k : Int) := ⟨e.toNat, by omega⟩
      clear HPP HP hpl hml HPE HE
      try clear HX
      try clear HE2
      try clear H3
      try clear HM
      try clear HR
      go_wp2
      all_goals go_quiet (fail)
      all_goals go_wp2
      all_goals (go_meet; exact ⟨rfl, rfl, rfl, _, rfl⟩)
    · clear HPP HP hpl hml HPE HE
      try clear HX
      try clear HE2
      try clear H3
      try clear HM
      try clear HR
      go_wp2
      all_goals (go_meet; exact ⟨rfl, rfl, rfl, 0, rfl⟩)
  case rest =>
  obtain ⟨rfl, rfl, rfl, n, rfl⟩ := hcut
  clear HPE HE hel
  go_upto_if 41 with (go_at_call 94; refine (HP.out _).mono ?_; rintro r w' ⟨rfl, rfl⟩)
  go_cut [13, 14] (fun s13 s14 wx => s13 = .string ip ∧ s14 = .string fp ∧ ∃ n, wx = (NW w).drewN n)
  case first =>
    rcases HPP.out with ⟨h0, rfl, rfl⟩ | ⟨rfl, rfl, rfl⟩
    · obtain ⟨k, rfl⟩ : ∃ k : Nat, p = (k : Int) := ⟨p.toNat, by omega⟩
      clear HPP HP
      try clear HX
      try clear HE2
      try clear H3
      try clear HM
      go_wp2
      all_goals go_quiet (fail)
      all_goals go_wp2
      all_goals (go_meet; exact ⟨rfl, rfl, n + nq, World.drewN_drewN ..⟩)
    · clear HPP HP
      try clear HX
      try clear HE2
      try clear H3
      try clear HM
      go_wp2
      all_goals (go_meet; exact ⟨rfl, rfl, n, rfl⟩)
  case rest =>
  obtain ⟨rfl, rfl, m, rfl⟩ := hcut
  clear HPP HP hpl
  obtain ⟨W, hW⟩ : ∃ W, W = (NW w).drewN m := ⟨_, rfl⟩
  have hN := nat_nw w m
  rw [← hW] at hN ⊢
  obtain ⟨c0, c1, c2, c3, c4, c5, cf⟩ : _ ∧ _ ∧ _ ∧ _ ∧ _ ∧ _ ∧ _ := ⟨hN.c0, hN.c1, hN.c2, hN.c3, hN.c4, hN.c5, hN.cf⟩
  have hWz := hN.size
  have HN : Hid (NAt w W) := hN
  clear hW hN
  obtain ⟨q6, q7, q9, q10⟩ := HX.out
  have hee := isEmpty_false q6
  have hx0 := bAt_eq ex 0 q6
  have hx43 : ((bAt ex 0 : Int) == 43) = true := by rw [q7]; rfl
  have hx45 : ((bAt ex 0 : Int) == 45) = false := by rw [q7]; rfl
  have hxt : exTail ex = ex.extract 1 ex.size := by unfold exTail exSig; rw [if_pos (by simp [q7]; omega)]
  clear q7
  have H3' : Hid (IsDigN (ex.extract 1 ex.size) n3) := by rw [← hxt]; exact H3.out
  have hi3 : n3 ≤ (ex.extract 1 ex.size).size := H3'.out.1
  have hes : (ex.extract 1 ex.size).size = ex.size - 1 := size_extract ex 1 ex.size (Nat.le_refl _)
  clear hxt H3
  subst q9
  have q10' : ex.size ≤ 1 := by omega
  clear q10
  go_wp2_with (first | (go_at_call_of 95 (Value.string ip); refine (digits_eq H1.out _ (by omega)).mono ?_; rintro r w' ⟨rfl, rfl⟩) | (go_at_call_of 95 (Value.string fp); refine (digits_eq H2.out _ (by omega)).mono ?_; rintro r w' ⟨rfl, rfl⟩) | (go_at_call_of 95 (Value.string (ex.extract 1 ex.size)); refine (digits_eq H3'.out _ (by omega)).mono ?_; rintro r w' ⟨rfl, rfl⟩) | (go_at_call 57; refine (wrong_agg T (T.size - ex.size + 1) R HR.out _ (by omega) (by omega) ((T.size : Int) - (ex.size : Int) + 1) (by omega)).mono ?_; rintro r w1 ⟨rfl, hb⟩; have hold := old_cells hb; have holf := old_frozen hb; have hz : w.heap.size < w1.heap.size := (by have := hb.size; omega)))
  refine bodyPost_ret (v := scV R) (by simp [results, Oabg.results58, go_sem, hold, hWz, c0, c1, c2, c3, c4, c5]; rfl) rfl ⟨by rw [HR.out], nat_below HN.out hb⟩

set_option maxHeartbeats 2000000 in
set_option maxRecDepth 100000 in
theorem number_xpa2 (T body mant ex ip fp : ByteArray) (hasE : Bool) (h : Nat) (neg : Bool) (e p : Int) (w : World) (P : Parts T body mant ex ip fp hasE h e p) (n1 n2 n3 : Nat) (h1 : IsDigN ip n1) (h2 : IsDigN fp n2) (h3 : IsDigN (exTail ex) n3) (q1 : n1 = ip.size) (q2 : n2 = fp.size) (q3 : ip.size = 0) (q4 : 0 < fp.size) (q5 : hasE = true) (q6 : 0 < ex.size) (q7 : bAt ex 0 = 43) (q9 : n3 < (ex.extract 1 ex.size).size) :
    Calls Oabg.prog 58 #[.string T, .string body, .int .i64 h, .bool neg] w fun r w' => r = .returned (scV (wrongAt T (T.size - ex.size + 1 + n3))) ∧ Below w.heap.size w w' := by
  have H1 : Hid (IsDigN ip n1) := h1
  have H2 : Hid (IsDigN fp n2) := h2
  have hi1 := h1.1
  have hi2 := h2.1
  have hsz := P.sizes
  obtain ⟨hs1, hs2, hs3⟩ := hsz
  have H3 : Hid (IsDigN (exTail ex) n3) := h3

  obtain ⟨R, hR⟩ : ∃ R, R = wrongAt T (T.size - ex.size + 1 + n3) := ⟨_, rfl⟩
  have HR : Hid (R = wrongAt T (T.size - ex.size + 1 + n3)) := hR
  clear hR h1 h2 h3
  subst q1 q2
  have hei := isEmpty_true q3
  have hef := isEmpty_false q4
  have HX : Hid ((0 < ex.size) ∧ (bAt ex 0 = 43) ∧ (n3 < (ex.extract 1 ex.size).size)) := ⟨q6, q7, q9⟩
  clear q6 q7 q9
  have hT := P.hT
  have hh := P.hh
  have HE : Hid (∀ w, Calls Oabg.prog 94 #[.string body, .int .u8 101, .int .u8 69] w fun r w' => r = .returned (.int .i64 e) ∧ w' = w) := fun w => cut_eq P.he w (by omega)
  have hml : mant.size ≤ body.size := by
    rcases P.hE with ⟨_, _, rfl, _⟩ | ⟨_, _, rfl, _⟩
    · rw [ByteArray.size_extract]; omega
    · omega
  have HP : Hid (∀ w, Calls Oabg.prog 94 #[.string mant, .int .u8 46, .int .u8 46] w fun r w' => r = .returned (.int .i64 p) ∧ w' = w) := fun w => cut_eq P.hp w (by omega)
  have HPE : Hid ((0 ≤ e ∧ hasE = true ∧ mant = body.extract 0 e.toNat ∧ ex = body.extract (e.toNat + 1) body.size) ∨ (e = -1 ∧ hasE = false ∧ mant = body ∧ ex = ⟨#[]⟩)) := P.hE
  have HPP : Hid ((0 ≤ p ∧ ip = mant.extract 0 p.toNat ∧ fp = mant.extract (p.toNat + 1) mant.size) ∨ (p = -1 ∧ ip = mant ∧ fp = ⟨#[]⟩)) := P.hP
  have hel : e < body.size := by rcases P.he with ⟨k, rfl, hk, _⟩ | ⟨rfl, _⟩ <;> omega
  have hpl : p < mant.size := by rcases P.hp with ⟨k, rfl, hk, _⟩ | ⟨rfl, _⟩ <;> omega
  clear P
  go_enter Oabg.func58, Oabg.ntmps58
  go_upto_if 29 with (go_at_call 94; refine (HE.out _).mono ?_; rintro r w' ⟨rfl, rfl⟩)
  go_cut [9, 10, 11] (fun s9 s10 s11 wx => s9 = .string mant ∧ s10 = .string ex ∧ s11 = .bool hasE ∧ ∃ n, wx = (NW w).drewN n)
  case first =>
    rcases HPE.out with ⟨h0, rfl, rfl, rfl⟩ | ⟨rfl, rfl, rfl, rfl⟩
    · obtain ⟨k, rfl⟩ : ∃ k : Nat, e = (k : Int) := ⟨e.toNat, by omega⟩
      clear HPP HP hpl hml HPE HE
      try clear HX
      try clear HE2
      try clear H3
      try clear HM
      try clear HR
      go_wp2
      all_goals go_quiet (fail)
      all_goals go_wp2
      all_goals (go_meet; exact ⟨rfl, rfl, rfl, _, rfl⟩)
    · clear HPP HP hpl hml HPE HE
      try clear HX
      try clear HE2
      try clear H3
      try clear HM
      try clear HR
      go_wp2
      all_goals (go_meet; exact ⟨rfl, rfl, rfl, 0, rfl⟩)
  case rest =>
  obtain ⟨rfl, rfl, rfl, n, rfl⟩ := hcut
  clear HPE HE hel
  go_upto_if 41 with (go_at_call 94; refine (HP.out _).mono ?_; rintro r w' ⟨rfl, rfl⟩)
  go_cut [13, 14] (fun s13 s14 wx => s13 = .string ip ∧ s14 = .string fp ∧ ∃ n, wx = (NW w).drewN n)
  case first =>
    rcases HPP.out with ⟨h0, rfl, rfl⟩ | ⟨rfl, rfl, rfl⟩
    · obtain ⟨k, rfl⟩ : ∃ k : Nat, p = (k : Int) := ⟨p.toNat, by omega⟩
      clear HPP HP
      try clear HX
      try clear HE2
      try clear H3
      try clear HM
      go_wp2
      all_goals go_quiet (fail)
      all_goals go_wp2
      all_goals (go_meet; exact ⟨rfl, rfl, n + nq, World.drewN_drewN ..⟩)
    · clear HPP HP
      try clear HX
      try clear HE2
      try clear H3
      try clear HM
      go_wp2
      all_goals (go_meet; exact ⟨rfl, rfl, n, rfl⟩)
  case rest =>
  obtain ⟨rfl, rfl, m, rfl⟩ := hcut
  clear HPP HP hpl
  obtain ⟨W, hW⟩ : ∃ W, W = (NW w).drewN m := ⟨_, rfl⟩
  have hN := nat_nw w m
  rw [← hW] at hN ⊢
  obtain ⟨c0, c1, c2, c3, c4, c5, cf⟩ : _ ∧ _ ∧ _ ∧ _ ∧ _ ∧ _ ∧ _ := ⟨hN.c0, hN.c1, hN.c2, hN.c3, hN.c4, hN.c5, hN.cf⟩
  have hWz := hN.size
  have HN : Hid (NAt w W) := hN
  clear hW hN
  obtain ⟨q6, q7, q9⟩ := HX.out
  have hee := isEmpty_false q6
  have hx0 := bAt_eq ex 0 q6
  have hx43 : ((bAt ex 0 : Int) == 43) = true := by rw [q7]; rfl
  have hx45 : ((bAt ex 0 : Int) == 45) = false := by rw [q7]; rfl
  have hxt : exTail ex = ex.extract 1 ex.size := by unfold exTail exSig; rw [if_pos (by simp [q7]; omega)]
  clear q7
  have H3' : Hid (IsDigN (ex.extract 1 ex.size) n3) := by rw [← hxt]; exact H3.out
  have hi3 : n3 ≤ (ex.extract 1 ex.size).size := H3'.out.1
  have hes : (ex.extract 1 ex.size).size = ex.size - 1 := size_extract ex 1 ex.size (Nat.le_refl _)
  clear hxt H3
  go_wp2_with (first | (go_at_call_of 95 (Value.string ip); refine (digits_eq H1.out _ (by omega)).mono ?_; rintro r w' ⟨rfl, rfl⟩) | (go_at_call_of 95 (Value.string fp); refine (digits_eq H2.out _ (by omega)).mono ?_; rintro r w' ⟨rfl, rfl⟩) | (go_at_call_of 95 (Value.string (ex.extract 1 ex.size)); refine (digits_eq H3'.out _ (by omega)).mono ?_; rintro r w' ⟨rfl, rfl⟩) | (go_at_call 57; refine (wrong_agg T (T.size - ex.size + 1 + n3) R HR.out _ (by omega) (by omega) ((T.size : Int) - (ex.size : Int) + 1 + (n3 : Int)) (by omega)).mono ?_; rintro r w1 ⟨rfl, hb⟩; have hold := old_cells hb; have holf := old_frozen hb; have hz : w.heap.size < w1.heap.size := (by have := hb.size; omega)))
  refine bodyPost_ret (v := scV R) (by simp [results, Oabg.results58, go_sem, hold, hWz, c0, c1, c2, c3, c4, c5]; rfl) rfl ⟨by rw [HR.out], nat_below HN.out hb⟩

set_option maxHeartbeats 2000000 in
set_option maxRecDepth 100000 in
theorem number_xpb2 (T body mant ex ip fp : ByteArray) (hasE : Bool) (h : Nat) (neg : Bool) (e p : Int) (w : World) (P : Parts T body mant ex ip fp hasE h e p) (n1 n2 n3 : Nat) (h1 : IsDigN ip n1) (h2 : IsDigN fp n2) (h3 : IsDigN (exTail ex) n3) (q1 : n1 = ip.size) (q2 : n2 = fp.size) (q3 : ip.size = 0) (q4 : 0 < fp.size) (q5 : hasE = true) (q6 : 0 < ex.size) (q7 : bAt ex 0 = 43) (q9 : n3 = 0) (q10 : (ex.extract 1 ex.size).size = 0) :
    Calls Oabg.prog 58 #[.string T, .string body, .int .i64 h, .bool neg] w fun r w' => r = .returned (scV (wrongAt T (T.size - ex.size + 1))) ∧ Below w.heap.size w w' := by
  have H1 : Hid (IsDigN ip n1) := h1
  have H2 : Hid (IsDigN fp n2) := h2
  have hi1 := h1.1
  have hi2 := h2.1
  have hsz := P.sizes
  obtain ⟨hs1, hs2, hs3⟩ := hsz
  have H3 : Hid (IsDigN (exTail ex) n3) := h3

  obtain ⟨R, hR⟩ : ∃ R, R = wrongAt T (T.size - ex.size + 1) := ⟨_, rfl⟩
  have HR : Hid (R = wrongAt T (T.size - ex.size + 1)) := hR
  clear hR h1 h2 h3
  subst q1 q2
  have hei := isEmpty_true q3
  have hef := isEmpty_false q4
  have HX : Hid ((0 < ex.size) ∧ (bAt ex 0 = 43) ∧ (n3 = 0) ∧ ((ex.extract 1 ex.size).size = 0)) := ⟨q6, q7, q9, q10⟩
  clear q6 q7 q9 q10
  have hT := P.hT
  have hh := P.hh
  have HE : Hid (∀ w, Calls Oabg.prog 94 #[.string body, .int .u8 101, .int .u8 69] w fun r w' => r = .returned (.int .i64 e) ∧ w' = w) := fun w => cut_eq P.he w (by omega)
  have hml : mant.size ≤ body.size := by
    rcases P.hE with ⟨_, _, rfl, _⟩ | ⟨_, _, rfl, _⟩
    · rw [ByteArray.size_extract]; omega
    · omega
  have HP : Hid (∀ w, Calls Oabg.prog 94 #[.string mant, .int .u8 46, .int .u8 46] w fun r w' => r = .returned (.int .i64 p) ∧ w' = w) := fun w => cut_eq P.hp w (by omega)
  have HPE : Hid ((0 ≤ e ∧ hasE = true ∧ mant = body.extract 0 e.toNat ∧ ex = body.extract (e.toNat + 1) body.size) ∨ (e = -1 ∧ hasE = false ∧ mant = body ∧ ex = ⟨#[]⟩)) := P.hE
  have HPP : Hid ((0 ≤ p ∧ ip = mant.extract 0 p.toNat ∧ fp = mant.extract (p.toNat + 1) mant.size) ∨ (p = -1 ∧ ip = mant ∧ fp = ⟨#[]⟩)) := P.hP
  have hel : e < body.size := by rcases P.he with ⟨k, rfl, hk, _⟩ | ⟨rfl, _⟩ <;> omega
  have hpl : p < mant.size := by rcases P.hp with ⟨k, rfl, hk, _⟩ | ⟨rfl, _⟩ <;> omega
  clear P
  go_enter Oabg.func58, Oabg.ntmps58
  go_upto_if 29 with (go_at_call 94; refine (HE.out _).mono ?_; rintro r w' ⟨rfl, rfl⟩)
  go_cut [9, 10, 11] (fun s9 s10 s11 wx => s9 = .string mant ∧ s10 = .string ex ∧ s11 = .bool hasE ∧ ∃ n, wx = (NW w).drewN n)
  case first =>
    rcases HPE.out with ⟨h0, rfl, rfl, rfl⟩ | ⟨rfl, rfl, rfl, rfl⟩
    · obtain ⟨k, rfl⟩ : ∃ k : Nat, e = (k : Int) := ⟨e.toNat, by omega⟩
      clear HPP HP hpl hml HPE HE
      try clear HX
      try clear HE2
      try clear H3
      try clear HM
      try clear HR
      go_wp2
      all_goals go_quiet (fail)
      all_goals go_wp2
      all_goals (go_meet; exact ⟨rfl, rfl, rfl, _, rfl⟩)
    · clear HPP HP hpl hml HPE HE
      try clear HX
      try clear HE2
      try clear H3
      try clear HM
      try clear HR
      go_wp2
      all_goals (go_meet; exact ⟨rfl, rfl, rfl, 0, rfl⟩)
  case rest =>
  obtain ⟨rfl, rfl, rfl, n, rfl⟩ := hcut
  clear HPE HE hel
  go_upto_if 41 with (go_at_call 94; refine (HP.out _).mono ?_; rintro r w' ⟨rfl, rfl⟩)
  go_cut [13, 14] (fun s13 s14 wx => s13 = .string ip ∧ s14 = .string fp ∧ ∃ n, wx = (NW w).drewN n)
  case first =>
    rcases HPP.out with ⟨h0, rfl, rfl⟩ | ⟨rfl, rfl, rfl⟩
    · obtain ⟨k, rfl⟩ : ∃ k : Nat, p = (k : Int) := ⟨p.toNat, by omega⟩
      clear HPP HP
      try clear HX
      try clear HE2
      try clear H3
      try clear HM
      go_wp2
      all_goals go_quiet (fail)
      all_goals go_wp2
      all_goals (go_meet; exact ⟨rfl, rfl, n + nq, World.drewN_drewN ..⟩)
    · clear HPP HP
      try clear HX
      try clear HE2
      try clear H3
      try clear HM
      go_wp2
      all_goals (go_meet; exact ⟨rfl, rfl, n, rfl⟩)
  case rest =>
  obtain ⟨rfl, rfl, m, rfl⟩ := hcut
  clear HPP HP hpl
  obtain ⟨W, hW⟩ : ∃ W, W = (NW w).drewN m := ⟨_, rfl⟩
  have hN := nat_nw w m
  rw [← hW] at hN ⊢
  obtain ⟨c0, c1, c2, c3, c4, c5, cf⟩ : _ ∧ _ ∧ _ ∧ _ ∧ _ ∧ _ ∧ _ := ⟨hN.c0, hN.c1, hN.c2, hN.c3, hN.c4, hN.c5, hN.cf⟩
  have hWz := hN.size
  have HN : Hid (NAt w W) := hN
  clear hW hN
  obtain ⟨q6, q7, q9, q10⟩ := HX.out
  have hee := isEmpty_false q6
  have hx0 := bAt_eq ex 0 q6
  have hx43 : ((bAt ex 0 : Int) == 43) = true := by rw [q7]; rfl
  have hx45 : ((bAt ex 0 : Int) == 45) = false := by rw [q7]; rfl
  have hxt : exTail ex = ex.extract 1 ex.size := by unfold exTail exSig; rw [if_pos (by simp [q7]; omega)]
  clear q7
  have H3' : Hid (IsDigN (ex.extract 1 ex.size) n3) := by rw [← hxt]; exact H3.out
  have hi3 : n3 ≤ (ex.extract 1 ex.size).size := H3'.out.1
  have hes : (ex.extract 1 ex.size).size = ex.size - 1 := size_extract ex 1 ex.size (Nat.le_refl _)
  clear hxt H3
  subst q9
  have q10' : ex.size ≤ 1 := by omega
  clear q10
  go_wp2_with (first | (go_at_call_of 95 (Value.string ip); refine (digits_eq H1.out _ (by omega)).mono ?_; rintro r w' ⟨rfl, rfl⟩) | (go_at_call_of 95 (Value.string fp); refine (digits_eq H2.out _ (by omega)).mono ?_; rintro r w' ⟨rfl, rfl⟩) | (go_at_call_of 95 (Value.string (ex.extract 1 ex.size)); refine (digits_eq H3'.out _ (by omega)).mono ?_; rintro r w' ⟨rfl, rfl⟩) | (go_at_call 57; refine (wrong_agg T (T.size - ex.size + 1) R HR.out _ (by omega) (by omega) ((T.size : Int) - (ex.size : Int) + 1) (by omega)).mono ?_; rintro r w1 ⟨rfl, hb⟩; have hold := old_cells hb; have holf := old_frozen hb; have hz : w.heap.size < w1.heap.size := (by have := hb.size; omega)))
  refine bodyPost_ret (v := scV R) (by simp [results, Oabg.results58, go_sem, hold, hWz, c0, c1, c2, c3, c4, c5]; rfl) rfl ⟨by rw [HR.out], nat_below HN.out hb⟩

set_option maxHeartbeats 2000000 in
set_option maxRecDepth 100000 in
theorem number_xma1 (T body mant ex ip fp : ByteArray) (hasE : Bool) (h : Nat) (neg : Bool) (e p : Int) (w : World) (P : Parts T body mant ex ip fp hasE h e p) (n1 n2 n3 : Nat) (h1 : IsDigN ip n1) (h2 : IsDigN fp n2) (h3 : IsDigN (exTail ex) n3) (q1 : n1 = ip.size) (q2 : n2 = fp.size) (q3 : 0 < ip.size) (q5 : hasE = true) (q6 : 0 < ex.size) (q7 : bAt ex 0 = 45) (q9 : n3 < (ex.extract 1 ex.size).size) :
    Calls Oabg.prog 58 #[.string T, .string body, .int .i64 h, .bool neg] w fun r w' => r = .returned (scV (wrongAt T (T.size - ex.size + 1 + n3))) ∧ Below w.heap.size w w' := by
  have H1 : Hid (IsDigN ip n1) := h1
  have H2 : Hid (IsDigN fp n2) := h2
  have hi1 := h1.1
  have hi2 := h2.1
  have hsz := P.sizes
  obtain ⟨hs1, hs2, hs3⟩ := hsz
  have H3 : Hid (IsDigN (exTail ex) n3) := h3

  obtain ⟨R, hR⟩ : ∃ R, R = wrongAt T (T.size - ex.size + 1 + n3) := ⟨_, rfl⟩
  have HR : Hid (R = wrongAt T (T.size - ex.size + 1 + n3)) := hR
  clear hR h1 h2 h3
  subst q1 q2
  have hei := isEmpty_false q3
  have HX : Hid ((0 < ex.size) ∧ (bAt ex 0 = 45) ∧ (n3 < (ex.extract 1 ex.size).size)) := ⟨q6, q7, q9⟩
  clear q6 q7 q9
  have hT := P.hT
  have hh := P.hh
  have HE : Hid (∀ w, Calls Oabg.prog 94 #[.string body, .int .u8 101, .int .u8 69] w fun r w' => r = .returned (.int .i64 e) ∧ w' = w) := fun w => cut_eq P.he w (by omega)
  have hml : mant.size ≤ body.size := by
    rcases P.hE with ⟨_, _, rfl, _⟩ | ⟨_, _, rfl, _⟩
    · rw [ByteArray.size_extract]; omega
    · omega
  have HP : Hid (∀ w, Calls Oabg.prog 94 #[.string mant, .int .u8 46, .int .u8 46] w fun r w' => r = .returned (.int .i64 p) ∧ w' = w) := fun w => cut_eq P.hp w (by omega)
  have HPE : Hid ((0 ≤ e ∧ hasE = true ∧ mant = body.extract 0 e.toNat ∧ ex = body.extract (e.toNat + 1) body.size) ∨ (e = -1 ∧ hasE = false ∧ mant = body ∧ ex = ⟨#[]⟩)) := P.hE
  have HPP : Hid ((0 ≤ p ∧ ip = mant.extract 0 p.toNat ∧ fp = mant.extract (p.toNat + 1) mant.size) ∨ (p = -1 ∧ ip = mant ∧ fp = ⟨#[]⟩)) := P.hP
  have hel : e < body.size := by rcases P.he with ⟨k, rfl, hk, _⟩ | ⟨rfl, _⟩ <;> omega
  have hpl : p < mant.size := by rcases P.hp with ⟨k, rfl, hk, _⟩ | ⟨rfl, _⟩ <;> omega
  clear P
  go_enter Oabg.func58, Oabg.ntmps58
  go_upto_if 29 with (go_at_call 94; refine (HE.out _).mono ?_; rintro r w' ⟨rfl, rfl⟩)
  go_cut [9, 10, 11] (fun s9 s10 s11 wx => s9 = .string mant ∧ s10 = .string ex ∧ s11 = .bool hasE ∧ ∃ n, wx = (NW w).drewN n)
  case first =>
    rcases HPE.out with ⟨h0, rfl, rfl, rfl⟩ | ⟨rfl, rfl, rfl, rfl⟩
    · obtain ⟨k, rfl⟩ : ∃ k : Nat, e = (k : Int) := ⟨e.toNat, by omega⟩
      clear HPP HP hpl hml HPE HE
      try clear HX
      try clear HE2
      try clear H3
      try clear HM
      try clear HR
      go_wp2
      all_goals go_quiet (fail)
      all_goals go_wp2
      all_goals (go_meet; exact ⟨rfl, rfl, rfl, _, rfl⟩)
    · clear HPP HP hpl hml HPE HE
      try clear HX
      try clear HE2
      try clear H3
      try clear HM
      try clear HR
      go_wp2
      all_goals (go_meet; exact ⟨rfl, rfl, rfl, 0, rfl⟩)
  case rest =>
  obtain ⟨rfl, rfl, rfl, n, rfl⟩ := hcut
  clear HPE HE hel
  go_upto_if 41 with (go_at_call 94; refine (HP.out _).mono ?_; rintro r w' ⟨rfl, rfl⟩)
  go_cut [13, 14] (fun s13 s14 wx => s13 = .string ip ∧ s14 = .string fp ∧ ∃ n, wx = (NW w).drewN n)
  case first =>
    rcases HPP.out with ⟨h0, rfl, rfl⟩ | ⟨rfl, rfl, rfl⟩
    · obtain ⟨k, rfl⟩ : ∃ k : Nat, p = (k : Int) := ⟨p.toNat, by omega⟩
      clear HPP HP
      try clear HX
      try clear HE2
      try clear H3
      try clear HM
      go_wp2
      all_goals go_quiet (fail)
      all_goals go_wp2
      all_goals (go_meet; exact ⟨rfl, rfl, n + nq, World.drewN_drewN ..⟩)
    · clear HPP HP
      try clear HX
      try clear HE2
      try clear H3
      try clear HM
      go_wp2
      all_goals (go_meet; exact ⟨rfl, rfl, n, rfl⟩)
  case rest =>
  obtain ⟨rfl, rfl, m, rfl⟩ := hcut
  clear HPP HP hpl
  obtain ⟨W, hW⟩ : ∃ W, W = (NW w).drewN m := ⟨_, rfl⟩
  have hN := nat_nw w m
  rw [← hW] at hN ⊢
  obtain ⟨c0, c1, c2, c3, c4, c5, cf⟩ : _ ∧ _ ∧ _ ∧ _ ∧ _ ∧ _ ∧ _ := ⟨hN.c0, hN.c1, hN.c2, hN.c3, hN.c4, hN.c5, hN.cf⟩
  have hWz := hN.size
  have HN : Hid (NAt w W) := hN
  clear hW hN
  obtain ⟨q6, q7, q9⟩ := HX.out
  have hee := isEmpty_false q6
  have hx0 := bAt_eq ex 0 q6
  have hx43 : ((bAt ex 0 : Int) == 43) = false := by rw [q7]; rfl
  have hx45 : ((bAt ex 0 : Int) == 45) = true := by rw [q7]; rfl
  have hxt : exTail ex = ex.extract 1 ex.size := by unfold exTail exSig; rw [if_pos (by simp [q7]; omega)]
  clear q7
  have H3' : Hid (IsDigN (ex.extract 1 ex.size) n3) := by rw [← hxt]; exact H3.out
  have hi3 : n3 ≤ (ex.extract 1 ex.size).size := H3'.out.1
  have hes : (ex.extract 1 ex.size).size = ex.size - 1 := size_extract ex 1 ex.size (Nat.le_refl _)
  clear hxt H3
  go_wp2_with (first | (go_at_call_of 95 (Value.string ip); refine (digits_eq H1.out _ (by omega)).mono ?_; rintro r w' ⟨rfl, rfl⟩) | (go_at_call_of 95 (Value.string fp); refine (digits_eq H2.out _ (by omega)).mono ?_; rintro r w' ⟨rfl, rfl⟩) | (go_at_call_of 95 (Value.string (ex.extract 1 ex.size)); refine (digits_eq H3'.out _ (by omega)).mono ?_; rintro r w' ⟨rfl, rfl⟩) | (go_at_call 57; refine (wrong_agg T (T.size - ex.size + 1 + n3) R HR.out _ (by omega) (by omega) ((T.size : Int) - (ex.size : Int) + 1 + (n3 : Int)) (by omega)).mono ?_; rintro r w1 ⟨rfl, hb⟩; have hold := old_cells hb; have holf := old_frozen hb; have hz : w.heap.size < w1.heap.size := (by have := hb.size; omega)))
  refine bodyPost_ret (v := scV R) (by simp [results, Oabg.results58, go_sem, hold, hWz, c0, c1, c2, c3, c4, c5]; rfl) rfl ⟨by rw [HR.out], nat_below HN.out hb⟩

set_option maxHeartbeats 2000000 in
set_option maxRecDepth 100000 in
theorem number_xmb1 (T body mant ex ip fp : ByteArray) (hasE : Bool) (h : Nat) (neg : Bool) (e p : Int) (w : World) (P : Parts T body mant ex ip fp hasE h e p) (n1 n2 n3 : Nat) (h1 : IsDigN ip n1) (h2 : IsDigN fp n2) (h3 : IsDigN (exTail ex) n3) (q1 : n1 = ip.size) (q2 : n2 = fp.size) (q3 : 0 < ip.size) (q5 : hasE = true) (q6 : 0 < ex.size) (q7 : bAt ex 0 = 45) (q9 : n3 = 0) (q10 : (ex.extract 1 ex.size).size = 0) :
    Calls Oabg.prog 58 #[.string T, .string body, .int .i64 h, .bool neg] w fun r w' => r = .returned (scV (wrongAt T (T.size - ex.size + 1))) ∧ Below w.heap.size w w' := by
  have H1 : Hid (IsDigN ip n1) := h1
  have H2 : Hid (IsDigN fp n2) := h2
  have hi1 := h1.1
  have hi2 := h2.1
  have hsz := P.sizes
  obtain ⟨hs1, hs2, hs3⟩ := hsz
  have H3 : Hid (IsDigN (exTail ex) n3) := h3

  obtain ⟨R, hR⟩ : ∃ R, R = wrongAt T (T.size - ex.size + 1) := ⟨_, rfl⟩
  have HR : Hid (R = wrongAt T (T.size - ex.size + 1)) := hR
  clear hR h1 h2 h3
  subst q1 q2
  have hei := isEmpty_false q3
  have HX : Hid ((0 < ex.size) ∧ (bAt ex 0 = 45) ∧ (n3 = 0) ∧ ((ex.extract 1 ex.size).size = 0)) := ⟨q6, q7, q9, q10⟩
  clear q6 q7 q9 q10
  have hT := P.hT
  have hh := P.hh
  have HE : Hid (∀ w, Calls Oabg.prog 94 #[.string body, .int .u8 101, .int .u8 69] w fun r w' => r = .returned (.int .i64 e) ∧ w' = w) := fun w => cut_eq P.he w (by omega)
  have hml : mant.size ≤ body.size := by
    rcases P.hE with ⟨_, _, rfl, _⟩ | ⟨_, _, rfl, _⟩
    · rw [ByteArray.size_extract]; omega
    · omega
  have HP : Hid (∀ w, Calls Oabg.prog 94 #[.string mant, .int .u8 46, .int .u8 46] w fun r w' => r = .returned (.int .i64 p) ∧ w' = w) := fun w => cut_eq P.hp w (by omega)
  have HPE : Hid ((0 ≤ e ∧ hasE = true ∧ mant = body.extract 0 e.toNat ∧ ex = body.extract (e.toNat + 1) body.size) ∨ (e = -1 ∧ hasE = false ∧ mant = body ∧ ex = ⟨#[]⟩)) := P.hE
  have HPP : Hid ((0 ≤ p ∧ ip = mant.extract 0 p.toNat ∧ fp = mant.extract (p.toNat + 1) mant.size) ∨ (p = -1 ∧ ip = mant ∧ fp = ⟨#[]⟩)) := P.hP
  have hel : e < body.size := by rcases P.he with ⟨k, rfl, hk, _⟩ | ⟨rfl, _⟩ <;> omega
  have hpl : p < mant.size := by rcases P.hp with ⟨k, rfl, hk, _⟩ | ⟨rfl, _⟩ <;> omega
  clear P
  go_enter Oabg.func58, Oabg.ntmps58
  go_upto_if 29 with (go_at_call 94; refine (HE.out _).mono ?_; rintro r w' ⟨rfl, rfl⟩)
  go_cut [9, 10, 11] (fun s9 s10 s11 wx => s9 = .string mant ∧ s10 = .string ex ∧ s11 = .bool hasE ∧ ∃ n, wx = (NW w).drewN n)
  case first =>
    rcases HPE.out with ⟨h0, rfl, rfl, rfl⟩ | ⟨rfl, rfl, rfl, rfl⟩
    · obtain ⟨k, rfl⟩ : ∃ k : Nat, e = (k : Int) := ⟨e.toNat, by omega⟩
      clear HPP HP hpl hml HPE HE
      try clear HX
      try clear HE2
      try clear H3
      try clear HM
      try clear HR
      go_wp2
      all_goals go_quiet (fail)
      all_goals go_wp2
      all_goals (go_meet; exact ⟨rfl, rfl, rfl, _, rfl⟩)
    · clear HPP HP hpl hml HPE HE
      try clear HX
      try clear HE2
      try clear H3
      try clear HM
      try clear HR
      go_wp2
      all_goals (go_meet; exact ⟨rfl, rfl, rfl, 0, rfl⟩)
  case rest =>
  obtain ⟨rfl, rfl, rfl, n, rfl⟩ := hcut
  clear HPE HE hel
  go_upto_if 41 with (go_at_call 94; refine (HP.out _).mono ?_; rintro r w' ⟨rfl, rfl⟩)
  go_cut [13, 14] (fun s13 s14 wx => s13 = .string ip ∧ s14 = .string fp ∧ ∃ n, wx = (NW w).drewN n)
  case first =>
    rcases HPP.out with ⟨h0, rfl, rfl⟩ | ⟨rfl, rfl, rfl⟩
    · obtain ⟨k, rfl⟩ : ∃ k : Nat, p = (k : Int) := ⟨p.toNat, by omega⟩
      clear HPP HP
      try clear HX
      try clear HE2
      try clear H3
      try clear HM
      go_wp2
      all_goals go_quiet (fail)
      all_goals go_wp2
      all_goals (go_meet; exact ⟨rfl, rfl, n + nq, World.drewN_drewN ..⟩)
    · clear HPP HP
      try clear HX
      try clear HE2
      try clear H3
      try clear HM
      go_wp2
      all_goals (go_meet; exact ⟨rfl, rfl, n, rfl⟩)
  case rest =>
  obtain ⟨rfl, rfl, m, rfl⟩ := hcut
  clear HPP HP hpl
  obtain ⟨W, hW⟩ : ∃ W, W = (NW w).drewN m := ⟨_, rfl⟩
  have hN := nat_nw w m
  rw [← hW] at hN ⊢
  obtain ⟨c0, c1, c2, c3, c4, c5, cf⟩ : _ ∧ _ ∧ _ ∧ _ ∧ _ ∧ _ ∧ _ := ⟨hN.c0, hN.c1, hN.c2, hN.c3, hN.c4, hN.c5, hN.cf⟩
  have hWz := hN.size
  have HN : Hid (NAt w W) := hN
  clear hW hN
  obtain ⟨q6, q7, q9, q10⟩ := HX.out
  have hee := isEmpty_false q6
  have hx0 := bAt_eq ex 0 q6
  have hx43 : ((bAt ex 0 : Int) == 43) = false := by rw [q7]; rfl
  have hx45 : ((bAt ex 0 : Int) == 45) = true := by rw [q7]; rfl
  have hxt : exTail ex = ex.extract 1 ex.size := by unfold exTail exSig; rw [if_pos (by simp [q7]; omega)]
  clear q7
  have H3' : Hid (IsDigN (ex.extract 1 ex.size) n3) := by rw [← hxt]; exact H3.out
  have hi3 : n3 ≤ (ex.extract 1 ex.size).size := H3'.out.1
  have hes : (ex.extract 1 ex.size).size = ex.size - 1 := size_extract ex 1 ex.size (Nat.le_refl _)
  clear hxt H3
  subst q9
  have q10' : ex.size ≤ 1 := by omega
  clear q10
  go_wp2_with (first | (go_at_call_of 95 (Value.string ip); refine (digits_eq H1.out _ (by omega)).mono ?_; rintro r w' ⟨rfl, rfl⟩) | (go_at_call_of 95 (Value.string fp); refine (digits_eq H2.out _ (by omega)).mono ?_; rintro r w' ⟨rfl, rfl⟩) | (go_at_call_of 95 (Value.string (ex.extract 1 ex.size)); refine (digits_eq H3'.out _ (by omega)).mono ?_; rintro r w' ⟨rfl, rfl⟩) | (go_at_call 57; refine (wrong_agg T (T.size - ex.size + 1) R HR.out _ (by omega) (by omega) ((T.size : Int) - (ex.size : Int) + 1) (by omega)).mono ?_; rintro r w1 ⟨rfl, hb⟩; have hold := old_cells hb; have holf := old_frozen hb; have hz : w.heap.size < w1.heap.size := (by have := hb.size; omega)))
  refine bodyPost_ret (v := scV R) (by simp [results, Oabg.results58, go_sem, hold, hWz, c0, c1, c2, c3, c4, c5]; rfl) rfl ⟨by rw [HR.out], nat_below HN.out hb⟩

set_option maxHeartbeats 2000000 in
set_option maxRecDepth 100000 in
theorem number_xma2 (T body mant ex ip fp : ByteArray) (hasE : Bool) (h : Nat) (neg : Bool) (e p : Int) (w : World) (P : Parts T body mant ex ip fp hasE h e p) (n1 n2 n3 : Nat) (h1 : IsDigN ip n1) (h2 : IsDigN fp n2) (h3 : IsDigN (exTail ex) n3) (q1 : n1 = ip.size) (q2 : n2 = fp.size) (q3 : ip.size = 0) (q4 : 0 < fp.size) (q5 : hasE = true) (q6 : 0 < ex.size) (q7 : bAt ex 0 = 45) (q9 : n3 < (ex.extract 1 ex.size).size) :
    Calls Oabg.prog 58 #[.string T, .string body, .int .i64 h, .bool neg] w fun r w' => r = .returned (scV (wrongAt T (T.size - ex.size + 1 + n3))) ∧ Below w.heap.size w w' := by
  have H1 : Hid (IsDigN ip n1) := h1
  have H2 : Hid (IsDigN fp n2) := h2
  have hi1 := h1.1
  have hi2 := h2.1
  have hsz := P.sizes
  obtain ⟨hs1, hs2, hs3⟩ := hsz
  have H3 : Hid (IsDigN (exTail ex) n3) := h3

  obtain ⟨R, hR⟩ : ∃ R, R = wrongAt T (T.size - ex.size + 1 + n3) := ⟨_, rfl⟩
  have HR : Hid (R = wrongAt T (T.size - ex.size + 1 + n3)) := hR
  clear hR h1 h2 h3
  subst q1 q2
  have hei := isEmpty_true q3
  have hef := isEmpty_false q4
  have HX : Hid ((0 < ex.size) ∧ (bAt ex 0 = 45) ∧ (n3 < (ex.extract 1 ex.size).size)) := ⟨q6, q7, q9⟩
  clear q6 q7 q9
  have hT := P.hT
  have hh := P.hh
  have HE : Hid (∀ w, Calls Oabg.prog 94 #[.string body, .int .u8 101, .int .u8 69] w fun r w' => r = .returned (.int .i64 e) ∧ w' = w) := fun w => cut_eq P.he w (by omega)
  have hml : mant.size ≤ body.size := by
    rcases P.hE with ⟨_, _, rfl, _⟩ | ⟨_, _, rfl, _⟩
    · rw [ByteArray.size_extract]; omega
    · omega
  have HP : Hid (∀ w, Calls Oabg.prog 94 #[.string mant, .int .u8 46, .int .u8 46] w fun r w' => r = .returned (.int .i64 p) ∧ w' = w) := fun w => cut_eq P.hp w (by omega)
  have HPE : Hid ((0 ≤ e ∧ hasE = true ∧ mant = body.extract 0 e.toNat ∧ ex = body.extract (e.toNat + 1) body.size) ∨ (e = -1 ∧ hasE = false ∧ mant = body ∧ ex = ⟨#[]⟩)) := P.hE
  have HPP : Hid ((0 ≤ p ∧ ip = mant.extract 0 p.toNat ∧ fp = mant.extract (p.toNat + 1) mant.size) ∨ (p = -1 ∧ ip = mant ∧ fp = ⟨#[]⟩)) := P.hP
  have hel : e < body.size := by rcases P.he with ⟨k, rfl, hk, _⟩ | ⟨rfl, _⟩ <;> omega
  have hpl : p < mant.size := by rcases P.hp with ⟨k, rfl, hk, _⟩ | ⟨rfl, _⟩ <;> omega
  clear P
  go_enter Oabg.func58, Oabg.ntmps58
  go_upto_if 29 with (go_at_call 94; refine (HE.out _).mono ?_; rintro r w' ⟨rfl, rfl⟩)
  go_cut [9, 10, 11] (fun s9 s10 s11 wx => s9 = .string mant ∧ s10 = .string ex ∧ s11 = .bool hasE ∧ ∃ n, wx = (NW w).drewN n)
  case first =>
    rcases HPE.out with ⟨h0, rfl, rfl, rfl⟩ | ⟨rfl, rfl, rfl, rfl⟩
    · obtain ⟨k, rfl⟩ : ∃ k : Nat, e = (k : Int) := ⟨e.toNat, by omega⟩
      clear HPP HP hpl hml HPE HE
      try clear HX
      try clear HE2
      try clear H3
      try clear HM
      try clear HR
      go_wp2
      all_goals go_quiet (fail)
      all_goals go_wp2
      all_goals (go_meet; exact ⟨rfl, rfl, rfl, _, rfl⟩)
    · clear HPP HP hpl hml HPE HE
      try clear HX
      try clear HE2
      try clear H3
      try clear HM
      try clear HR
      go_wp2
      all_goals (go_meet; exact ⟨rfl, rfl, rfl, 0, rfl⟩)
  case rest =>
  obtain ⟨rfl, rfl, rfl, n, rfl⟩ := hcut
  clear HPE HE hel
  go_upto_if 41 with (go_at_call 94; refine (HP.out _).mono ?_; rintro r w' ⟨rfl, rfl⟩)
  go_cut [13, 14] (fun s13 s14 wx => s13 = .string ip ∧ s14 = .string fp ∧ ∃ n, wx = (NW w).drewN n)
  case first =>
    rcases HPP.out with ⟨h0, rfl, rfl⟩ | ⟨rfl, rfl, rfl⟩
    · obtain ⟨k, rfl⟩ : ∃ k : Nat, p = (k : Int) := ⟨p.toNat, by omega⟩
      clear HPP HP
      try clear HX
      try clear HE2
      try clear H3
      try clear HM
      go_wp2
      all_goals go_quiet (fail)
      all_goals go_wp2
      all_goals (go_meet; exact ⟨rfl, rfl, n + nq, World.drewN_drewN ..⟩)
    · clear HPP HP
      try clear HX
      try clear HE2
      try clear H3
      try clear HM
      go_wp2
      all_goals (go_meet; exact ⟨rfl, rfl, n, rfl⟩)
  case rest =>
  obtain ⟨rfl, rfl, m, rfl⟩ := hcut
  clear HPP HP hpl
  obtain ⟨W, hW⟩ : ∃ W, W = (NW w).drewN m := ⟨_, rfl⟩
  have hN := nat_nw w m
  rw [← hW] at hN ⊢
  obtain ⟨c0, c1, c2, c3, c4, c5, cf⟩ : _ ∧ _ ∧ _ ∧ _ ∧ _ ∧ _ ∧ _ := ⟨hN.c0, hN.c1, hN.c2, hN.c3, hN.c4, hN.c5, hN.cf⟩
  have hWz := hN.size
  have HN : Hid (NAt w W) := hN
  clear hW hN
  obtain ⟨q6, q7, q9⟩ := HX.out
  have hee := isEmpty_false q6
  have hx0 := bAt_eq ex 0 q6
  have hx43 : ((bAt ex 0 : Int) == 43) = false := by rw [q7]; rfl
  have hx45 : ((bAt ex 0 : Int) == 45) = true := by rw [q7]; rfl
  have hxt : exTail ex = ex.extract 1 ex.size := by unfold exTail exSig; rw [if_pos (by simp [q7]; omega)]
  clear q7
  have H3' : Hid (IsDigN (ex.extract 1 ex.size) n3) := by rw [← hxt]; exact H3.out
  have hi3 : n3 ≤ (ex.extract 1 ex.size).size := H3'.out.1
  have hes : (ex.extract 1 ex.size).size = ex.size - 1 := size_extract ex 1 ex.size (Nat.le_refl _)
  clear hxt H3
  go_wp2_with (first | (go_at_call_of 95 (Value.string ip); refine (digits_eq H1.out _ (by omega)).mono ?_; rintro r w' ⟨rfl, rfl⟩) | (go_at_call_of 95 (Value.string fp); refine (digits_eq H2.out _ (by omega)).mono ?_; rintro r w' ⟨rfl, rfl⟩) | (go_at_call_of 95 (Value.string (ex.extract 1 ex.size)); refine (digits_eq H3'.out _ (by omega)).mono ?_; rintro r w' ⟨rfl, rfl⟩) | (go_at_call 57; refine (wrong_agg T (T.size - ex.size + 1 + n3) R HR.out _ (by omega) (by omega) ((T.size : Int) - (ex.size : Int) + 1 + (n3 : Int)) (by omega)).mono ?_; rintro r w1 ⟨rfl, hb⟩; have hold := old_cells hb; have holf := old_frozen hb; have hz : w.heap.size < w1.heap.size := (by have := hb.size; omega)))
  refine bodyPost_ret (v := scV R) (by simp [results, Oabg.results58, go_sem, hold, hWz, c0, c1, c2, c3, c4, c5]; rfl) rfl ⟨by rw [HR.out], nat_below HN.out hb⟩

set_option maxHeartbeats 2000000 in
set_option maxRecDepth 100000 in
theorem number_xmb2 (T body mant ex ip fp : ByteArray) (hasE : Bool) (h : Nat) (neg : Bool) (e p : Int) (w : World) (P : Parts T body mant ex ip fp hasE h e p) (n1 n2 n3 : Nat) (h1 : IsDigN ip n1) (h2 : IsDigN fp n2) (h3 : IsDigN (exTail ex) n3) (q1 : n1 = ip.size) (q2 : n2 = fp.size) (q3 : ip.size = 0) (q4 : 0 < fp.size) (q5 : hasE = true) (q6 : 0 < ex.size) (q7 : bAt ex 0 = 45) (q9 : n3 = 0) (q10 : (ex.extract 1 ex.size).size = 0) :
    Calls Oabg.prog 58 #[.string T, .string body, .int .i64 h, .bool neg] w fun r w' => r = .returned (scV (wrongAt T (T.size - ex.size + 1))) ∧ Below w.heap.size w w' := by
  have H1 : Hid (IsDigN ip n1) := h1
  have H2 : Hid (IsDigN fp n2) := h2
  have hi1 := h1.1
  have hi2 := h2.1
  have hsz := P.sizes
  obtain ⟨hs1, hs2, hs3⟩ := hsz
  have H3 : Hid (IsDigN (exTail ex) n3) := h3

  obtain ⟨R, hR⟩ : ∃ R, R = wrongAt T (T.size - ex.size + 1) := ⟨_, rfl⟩
  have HR : Hid (R = wrongAt T (T.size - ex.size + 1)) := hR
  clear hR h1 h2 h3
  subst q1 q2
  have hei := isEmpty_true q3
  have hef := isEmpty_false q4
  have HX : Hid ((0 < ex.size) ∧ (bAt ex 0 = 45) ∧ (n3 = 0) ∧ ((ex.extract 1 ex.size).size = 0)) := ⟨q6, q7, q9, q10⟩
  clear q6 q7 q9 q10
  have hT := P.hT
  have hh := P.hh
  have HE : Hid (∀ w, Calls Oabg.prog 94 #[.string body, .int .u8 101, .int .u8 69] w fun r w' => r = .returned (.int .i64 e) ∧ w' = w) := fun w => cut_eq P.he w (by omega)
  have hml : mant.size ≤ body.size := by
    rcases P.hE with ⟨_, _, rfl, _⟩ | ⟨_, _, rfl, _⟩
    · rw [ByteArray.size_extract]; omega
    · omega
  have HP : Hid (∀ w, Calls Oabg.prog 94 #[.string mant, .int .u8 46, .int .u8 46] w fun r w' => r = .returned (.int .i64 p) ∧ w' = w) := fun w => cut_eq P.hp w (by omega)
  have HPE : Hid ((0 ≤ e ∧ hasE = true ∧ mant = body.extract 0 e.toNat ∧ ex = body.extract (e.toNat + 1) body.size) ∨ (e = -1 ∧ hasE = false ∧ mant = body ∧ ex = ⟨#[]⟩)) := P.hE
  have HPP : Hid ((0 ≤ p ∧ ip = mant.extract 0 p.toNat ∧ fp = mant.extract (p.toNat + 1) mant.size) ∨ (p = -1 ∧ ip = mant ∧ fp = ⟨#[]⟩)) := P.hP
  have hel : e < body.size := by rcases P.he with ⟨k, rfl, hk, _⟩ | ⟨rfl, _⟩ <;> omega
  have hpl : p < mant.size := by rcases P.hp with ⟨k, rfl, hk, _⟩ | ⟨rfl, _⟩ <;> omega
  clear P
  go_enter Oabg.func58, Oabg.ntmps58
  go_upto_if 29 with (go_at_call 94; refine (HE.out _).mono ?_; rintro r w' ⟨rfl, rfl⟩)
  go_cut [9, 10, 11] (fun s9 s10 s11 wx => s9 = .string mant ∧ s10 = .string ex ∧ s11 = .bool hasE ∧ ∃ n, wx = (NW w).drewN n)
  case first =>
    rcases HPE.out with ⟨h0, rfl, rfl, rfl⟩ | ⟨rfl, rfl, rfl, rfl⟩
    · obtain ⟨k, rfl⟩ : ∃ k : Nat, e = (k : Int) := ⟨e.toNat, by omega⟩
      clear HPP HP hpl hml HPE HE
      try clear HX
      try clear HE2
      try clear H3
      try clear HM
      try clear HR
      go_wp2
      all_goals go_quiet (fail)
      all_goals go_wp2
      all_goals (go_meet; exact ⟨rfl, rfl, rfl, _, rfl⟩)
    · clear HPP HP hpl hml HPE HE
      try clear HX
      try clear HE2
      try clear H3
      try clear HM
      try clear HR
      go_wp2
      all_goals (go_meet; exact ⟨rfl, rfl, rfl, 0, rfl⟩)
  case rest =>
  obtain ⟨rfl, rfl, rfl, n, rfl⟩ := hcut
  clear HPE HE hel
  go_upto_if 41 with (go_at_call 94; refine (HP.out _).mono ?_; rintro r w' ⟨rfl, rfl⟩)
  go_cut [13, 14] (fun s13 s14 wx => s13 = .string ip ∧ s14 = .string fp ∧ ∃ n, wx = (NW w).drewN n)
  case first =>
    rcases HPP.out with ⟨h0, rfl, rfl⟩ | ⟨rfl, rfl, rfl⟩
    · obtain ⟨k, rfl⟩ : ∃ k : Nat, p = (k : Int) := ⟨p.toNat, by omega⟩
      clear HPP HP
      try clear HX
      try clear HE2
      try clear H3
      try clear HM
      go_wp2
      all_goals go_quiet (fail)
      all_goals go_wp2
      all_goals (go_meet; exact ⟨rfl, rfl, n + nq, World.drewN_drewN ..⟩)
    · clear HPP HP
      try clear HX
      try clear HE2
      try clear H3
      try clear HM
      go_wp2
      all_goals (go_meet; exact ⟨rfl, rfl, n, rfl⟩)
  case rest =>
  obtain ⟨rfl, rfl, m, rfl⟩ := hcut
  clear HPP HP hpl
  obtain ⟨W, hW⟩ : ∃ W, W = (NW w).drewN m := ⟨_, rfl⟩
  have hN := nat_nw w m
  rw [← hW] at hN ⊢
  obtain ⟨c0, c1, c2, c3, c4, c5, cf⟩ : _ ∧ _ ∧ _ ∧ _ ∧ _ ∧ _ ∧ _ := ⟨hN.c0, hN.c1, hN.c2, hN.c3, hN.c4, hN.c5, hN.cf⟩
  have hWz := hN.size
  have HN : Hid (NAt w W) := hN
  clear hW hN
  obtain ⟨q6, q7, q9, q10⟩ := HX.out
  have hee := isEmpty_false q6
  have hx0 := bAt_eq ex 0 q6
  have hx43 : ((bAt ex 0 : Int) == 43) = false := by rw [q7]; rfl
  have hx45 : ((bAt ex 0 : Int) == 45) = true := by rw [q7]; rfl
  have hxt : exTail ex = ex.extract 1 ex.size := by unfold exTail exSig; rw [if_pos (by simp [q7]; omega)]
  clear q7
  have H3' : Hid (IsDigN (ex.extract 1 ex.size) n3) := by rw [← hxt]; exact H3.out
  have hi3 : n3 ≤ (ex.extract 1 ex.size).size := H3'.out.1
  have hes : (ex.extract 1 ex.size).size = ex.size - 1 := size_extract ex 1 ex.size (Nat.le_refl _)
  clear hxt H3
  subst q9
  have q10' : ex.size ≤ 1 := by omega
  clear q10
  go_wp2_with (first | (go_at_call_of 95 (Value.string ip); refine (digits_eq H1.out _ (by omega)).mono ?_; rintro r w' ⟨rfl, rfl⟩) | (go_at_call_of 95 (Value.string fp); refine (digits_eq H2.out _ (by omega)).mono ?_; rintro r w' ⟨rfl, rfl⟩) | (go_at_call_of 95 (Value.string (ex.extract 1 ex.size)); refine (digits_eq H3'.out _ (by omega)).mono ?_; rintro r w' ⟨rfl, rfl⟩) | (go_at_call 57; refine (wrong_agg T (T.size - ex.size + 1) R HR.out _ (by omega) (by omega) ((T.size : Int) - (ex.size : Int) + 1) (by omega)).mono ?_; rintro r w1 ⟨rfl, hb⟩; have hold := old_cells hb; have holf := old_frozen hb; have hz : w.heap.size < w1.heap.size := (by have := hb.size; omega)))
  refine bodyPost_ret (v := scV R) (by simp [results, Oabg.results58, go_sem, hold, hWz, c0, c1, c2, c3, c4, c5]; rfl) rfl ⟨by rw [HR.out], nat_below HN.out hb⟩

end Go.Proofs.Ygcoab
