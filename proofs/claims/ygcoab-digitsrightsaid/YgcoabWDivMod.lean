import Derived.Test.YgcoabWDivRun
import Derived.Test.YgcoabWCmp
import Derived.Test.YgcoabWTake
import Derived.OwnWalk
namespace Go.Proofs.Ygcoab
open Go.RowKit

theorem IsN.pos {w : World} {v : Value} {B : Nat} (h : IsN w v B) (h0 : 0 < B) :
    ∃ b off n cap f, v = .slice (some ⟨b, off, none⟩) n cap ∧ 0 < n ∧ n ≤ cap ∧ cap ≤ 1000000000 ∧ f (n - 1) ≠ 0 ∧ (∀ j, j < n → f j < 4294967296) ∧
    (∀ j, j < n → w.cell? ⟨b, off + j, none⟩ = some (.int .u32 (f j : Nat))) ∧ b < w.heap.size ∧ nv f n = B := by
  rcases h with ⟨h1, _⟩ | h
  · omega
  · exact h

def DmPost (w : World) (A B : Nat) (e : Ending) (w' : World) : Prop := ∃ q r, e = .returned (.tuple #[q, r, .bool true]) ∧ IsN w' q (A / B) ∧ IsN w' r (A % B) ∧ Below w.heap.size w w'

set_option maxRecDepth 100000 in
theorem divMod_less {w : World} {u : Value} {A B b off n c : Nat} (hA : IsN w u A) (hB : IsN w (.slice (some ⟨b, off, none⟩) n c) B) (fA : FitsN A) (hlt : A < B) :
    Calls Oabg.prog 102 #[u, .slice (some ⟨b, off, none⟩) n c] w (DmPost w A B) := by
  have T1 : Hid (∀ w', Below w.heap.size w w' → Calls Oabg.prog 106 #[u] w' fun e w'' => e = .returned u ∧ w'' = w') := fun w' hw => trim_same (hA.step hw)
  have T2 : Hid (∀ w', Below w.heap.size w w' → Calls Oabg.prog 106 #[.slice (some ⟨b, off, none⟩) n c] w' fun e w'' => e = .returned (.slice (some ⟨b, off, none⟩) n c) ∧ w'' = w') := fun w' hw => trim_same (hB.step hw)
  have hz : cmpZ A B = -1 := by unfold cmpZ; rw [if_pos hlt]
  have T3 : Hid (Calls Oabg.prog 77 #[u, .slice (some ⟨b, off, none⟩) n c] w fun e w' => e = .returned (.int .i8 (-1)) ∧ Below w.heap.size w w') := by rw [← hz]; exact cmp_any hA hB
  have T4 : Hid (∀ w', Below w.heap.size w w' → Calls Oabg.prog 144 #[u] w' fun e w'' => ∃ r, e = .returned r ∧ IsN w'' r A ∧ Below w'.heap.size w' w'') := fun w' hw => take_any (hA.step hw) fA
  have HL : Hid (A < B) := hlt
  have hnil := fun w' => nil48 w' (some ⟨b, off, none⟩) n c
  clear hA hB fA hlt hz
  go_enter Oabg.func102, Oabg.ntmps102
  go_wp2_with fail
  go_at_call 106
  refine (T1.out _ (Below.refl _ _)).mono ?_
  rintro e w' ⟨rfl, hq⟩
  obtain rfl := hq.symm
  go_wp2_with fail
  go_at_call 106
  refine (T2.out _ (Below.refl _ _)).mono ?_
  rintro e w' ⟨rfl, hq⟩
  obtain rfl := hq.symm
  go_wp2_with fail
  go_at_call 77
  refine T3.out.mono ?_
  rintro e w1 ⟨rfl, hb1⟩
  go_wp2_with fail
  go_at_call 144
  refine (T4.out _ hb1).mono ?_
  rintro e w2 ⟨r, rfl, hr, hb2⟩
  go_wp2
  go_ret3
  refine ⟨_, _, rfl, .inl ⟨Nat.div_eq_of_lt HL.out, rfl⟩, ?_, below_step hb1 hb1.size hb2⟩
  rw [Nat.mod_eq_of_lt HL.out]
  exact hr

set_option maxRecDepth 100000 in
theorem divMod_one {w : World} {A B b off n c b' off' c' : Nat} (hA : IsN w (.slice (some ⟨b, off, none⟩) n c) A) (hB : IsN w (.slice (some ⟨b', off', none⟩) 1 c') B) (d : Nat) (f : Nat → Nat) (hn : 0 < n) (hl : n ≤ 100000) (hd : w.cell? ⟨b', off', none⟩ = some (.int .u32 (d : Nat))) (hd0 : 0 < d) (hdl : d < 4294967296)
    (hf : ∀ j, j < n → w.cell? ⟨b, off + j, none⟩ = some (.int .u32 (f j : Nat))) (hfl : ∀ j, j < n → f j < 4294967296) (hb : b < w.heap.size) (hb' : b' < w.heap.size) (hAv : nv f n = A) (hBd : B = d) (hge : B ≤ A) :
    Calls Oabg.prog 102 #[.slice (some ⟨b, off, none⟩) n c, .slice (some ⟨b', off', none⟩) 1 c'] w (DmPost w A B) := by
  subst hBd
  have T1 : Hid (∀ w', Below w.heap.size w w' → Calls Oabg.prog 106 #[.slice (some ⟨b, off, none⟩) n c] w' fun e w'' => e = .returned (.slice (some ⟨b, off, none⟩) n c) ∧ w'' = w') := fun w' hw => trim_same (hA.step hw)
  have T2 : Hid (∀ w', Below w.heap.size w w' → Calls Oabg.prog 106 #[.slice (some ⟨b', off', none⟩) 1 c'] w' fun e w'' => e = .returned (.slice (some ⟨b', off', none⟩) 1 c') ∧ w'' = w') := fun w' hw => trim_same (hB.step hw)
  have T3 : Hid (Calls Oabg.prog 77 #[.slice (some ⟨b, off, none⟩) n c, .slice (some ⟨b', off', none⟩) 1 c'] w fun e w' => e = .returned (.int .i8 (cmpZ A B)) ∧ Below w.heap.size w w') := cmp_any hA hB
  have T4 : Hid (∀ w', Below w.heap.size w w' → Calls Oabg.prog 145 #[.slice (some ⟨b, off, none⟩) n c, .int .u32 B] w' fun e w'' => ∃ v, e = .returned (.tuple #[v, .int .u32 (A % B : Nat)]) ∧ IsN w'' v (A / B) ∧ Below w'.heap.size w' w'') := fun w' hw => by
    rw [← hAv]
    exact divLimb_some b off n c B f w' hn hl hd0 hdl (fun j hj => (hw.cell (p := ⟨b, off + j, none⟩) hb).trans (hf j hj)) hfl (Nat.lt_of_lt_of_le hb hw.size)
  have hcz : 0 ≤ cmpZ A B := by unfold cmpZ; rw [if_neg (by omega)]; split <;> omega
  obtain ⟨z, hz⟩ : ∃ z, z = cmpZ A B := ⟨_, rfl⟩
  rw [← hz] at hcz T3
  have hzd : decide (z < 0) = false := decide_eq_false (by omega)
  have HC : Hid (∀ w', Below w.heap.size w w' → w'.cell? ⟨b', off', none⟩ = some (.int .u32 (B : Nat))) := fun w' hw => (hw.cell (p := ⟨b', off', none⟩) hb').trans hd
  have hml : A % B < 4294967296 := Nat.lt_trans (Nat.mod_lt _ hd0) hdl
  obtain ⟨r, hr⟩ : ∃ r, r = A % B := ⟨_, rfl⟩
  rw [← hr] at T4 hml
  have HRM : Hid (r = A % B) := hr
  have hrw : IntKind.u64.wrap (r : Int) = (r : Nat) := w64_nat (by omega)
  have hnil := fun w' => nil48 w' (some ⟨b', off', none⟩) 1 c'
  clear hA hB hf hfl hAv hge hz hcz hd hr
  go_enter Oabg.func102, Oabg.ntmps102
  go_wp2_with fail
  go_at_call 106
  refine (T1.out _ (Below.refl _ _)).mono ?_
  rintro e w' ⟨rfl, hq⟩
  obtain rfl := hq.symm
  go_wp2_with fail
  go_at_call 106
  refine (T2.out _ (Below.refl _ _)).mono ?_
  rintro e w' ⟨rfl, hq⟩
  obtain rfl := hq.symm
  go_wp2_with fail
  go_at_call 77
  refine T3.out.mono ?_
  rintro e w1 ⟨rfl, hb1⟩
  have hcl := HC.out _ hb1
  go_wp2_with fail
  go_at_call 145
  refine (T4.out _ hb1).mono ?_
  rintro e w2 ⟨v, rfl, hv, hb2⟩
  go_wp2_with fail
  go_at_call 69
  refine (fromU64_any r (by omega) _).mono ?_
  rintro e w3 ⟨x, rfl, hx, hb3⟩
  go_wp2
  go_ret3
  refine ⟨_, _, rfl, hv.step hb3, ?_, below_step (below_step hb1 hb1.size hb2) (Nat.le_trans hb1.size hb2.size) hb3⟩
  rw [← HRM.out]
  exact hx

set_option maxRecDepth 100000 in
theorem divMod_long {w : World} {A B b off n c b' off' n' c' : Nat} (hA : IsN w (.slice (some ⟨b, off, none⟩) n c) A) (hB : IsN w (.slice (some ⟨b', off', none⟩) n' c') B) (hn' : 2 ≤ n') (hge : B ≤ A)
    (hL : ∀ w', Below w.heap.size w w' → Calls Oabg.prog 146 #[.slice (some ⟨b, off, none⟩) n c, .slice (some ⟨b', off', none⟩) n' c'] w' fun e w'' => ∃ v r, e = .returned (.tuple #[v, r]) ∧ IsN w'' v (A / B) ∧ IsN w'' r (A % B) ∧ Below w'.heap.size w' w'') :
    Calls Oabg.prog 102 #[.slice (some ⟨b, off, none⟩) n c, .slice (some ⟨b', off', none⟩) n' c'] w (DmPost w A B) := by
  have T1 : Hid (∀ w', Below w.heap.size w w' → Calls Oabg.prog 106 #[.slice (some ⟨b, off, none⟩) n c] w' fun e w'' => e = .returned (.slice (some ⟨b, off, none⟩) n c) ∧ w'' = w') := fun w' hw => trim_same (hA.step hw)
  have T2 : Hid (∀ w', Below w.heap.size w w' → Calls Oabg.prog 106 #[.slice (some ⟨b', off', none⟩) n' c'] w' fun e w'' => e = .returned (.slice (some ⟨b', off', none⟩) n' c') ∧ w'' = w') := fun w' hw => trim_same (hB.step hw)
  have T3 : Hid (Calls Oabg.prog 77 #[.slice (some ⟨b, off, none⟩) n c, .slice (some ⟨b', off', none⟩) n' c'] w fun e w' => e = .returned (.int .i8 (cmpZ A B)) ∧ Below w.heap.size w w') := cmp_any hA hB
  have T4 : Hid _ := hL
  have hcz : 0 ≤ cmpZ A B := by unfold cmpZ; rw [if_neg (by omega)]; split <;> omega
  obtain ⟨z, hz⟩ : ∃ z, z = cmpZ A B := ⟨_, rfl⟩
  rw [← hz] at hcz T3
  have hzd : decide (z < 0) = false := decide_eq_false (by omega)
  have hn1 : ((n' : Int) == 1) = false := by rw [beq_eq_false_iff_ne]; omega
  have hnil := fun w' => nil48 w' (some ⟨b', off', none⟩) n' c'
  clear hA hB hge hz hcz hL
  go_enter Oabg.func102, Oabg.ntmps102
  go_wp2_with fail
  go_at_call 106
  refine (T1.out _ (Below.refl _ _)).mono ?_
  rintro e w' ⟨rfl, hq⟩
  obtain rfl := hq.symm
  go_wp2_with fail
  go_at_call 106
  refine (T2.out _ (Below.refl _ _)).mono ?_
  rintro e w' ⟨rfl, hq⟩
  obtain rfl := hq.symm
  go_wp2_with fail
  go_at_call 77
  refine T3.out.mono ?_
  rintro e w1 ⟨rfl, hb1⟩
  go_wp2_with fail
  go_at_call 146
  refine (T4.out _ hb1).mono ?_
  rintro e w2 ⟨v, r, rfl, hv, hr, hb2⟩
  go_wp2
  go_ret3
  exact ⟨_, _, rfl, hv, hr, below_step hb1 hb1.size hb2⟩

/-- DivMod by value -/
theorem divMod_any {w : World} {u v : Value} {A B : Nat} (hA : IsN w u A) (hB : IsN w v B) (fA : FitsN A) (fB : FitsN B) (h0 : 0 < B) :
    Calls Oabg.prog 102 #[u, v] w (DmPost w A B) := by
  obtain ⟨b', off', n', c', g, rfl, k2, k3, k4, k5, k6, k7, k8, k9⟩ := hB.pos h0
  by_cases hlt : A < B
  · exact divMod_less hA hB fA hlt
  · obtain ⟨b, off, n, c, f, rfl, l2, l3, l4, l5, l6, l7, l8, l9⟩ := hA.pos (by omega)
    have hn : n ≤ 100000 := nv_len (k := limbMax) l2 l5 (by rw [l9]; exact fA)
    by_cases h1 : n' = 1
    · subst h1
      have e1 : B = g 0 := by rw [← k9]; show 0 + g 0 * 2 ^ (32 * 0) = g 0; omega
      refine divMod_one hA hB B f l2 hn ?_ h0 (by rw [e1]; exact k6 0 (by omega)) l7 l6 l8 k8 l9 rfl (by omega)
      rw [e1]
      exact k7 0 (by omega)
    · refine divMod_long hA hB (by omega) (by omega) fun w' hw => ?_
      have hAl : A < 2 ^ (32 * n) := by rw [← l9]; exact nv_lt l6
      exact divLong_some b off n c b' off' n' c' g w' (by omega) (nv_len k2 k5 (by rw [k9]; exact Nat.lt_of_le_of_lt (by omega) hAl)) hn A B (hA.step hw) (hB.step hw) fA fB (fun j hj => (hw.cell (p := ⟨b', off' + j, none⟩) k8).trans (k7 j hj)) k6 k5 k9 hAl (by omega)

end Go.Proofs.Ygcoab
