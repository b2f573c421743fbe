import Derived.Test.YgcoabWTakeAway
namespace Go.Proofs.Ygcoab
open Go.RowKit

set_option maxHeartbeats 1000000 in
set_option maxRecDepth 100000 in
theorem putBack_any (ub j n cu db doff cd L : Nat) (C : Array Value) (h g : Nat → Nat) (w : World) (hL : L ≤ 1000000) (hn : j + n < L) (hne : db ≠ ub) (hrow : w.heap[ub]? = some (.cells C 145 (0, 0))) (hR0 : RowIs C L h)
    (hg : ∀ i, i < n → w.cell? ⟨db, doff + i, none⟩ = some (.int .u32 (g i : Nat))) (hgl : ∀ i, i < n → g i < 4294967296) :
    Calls Oabg.prog 168 #[.slice (some ⟨ub, j, none⟩) (n + 1) cu, .slice (some ⟨db, doff, none⟩) n cd] w fun e w' => ∃ (o : Nat) (C' : Array Value) (h' : Nat → Nat), e = .returned (.tuple #[]) ∧ Own w ub C' w' ∧ RowIs C' L h' ∧
      Outside h h' j (n + 1) ∧ o ≤ 1 ∧ nv (win h' j) (n + 1) + o * 2 ^ (32 * (n + 1)) = nv (win h j) (n + 1) + nv g n := by
  have HG : Hid (∀ i, i < n → w.cell? ⟨db, doff + i, none⟩ = some (.int .u32 (g i : Nat))) := hg
  have HGL : Hid (∀ i, i < n → g i < 4294967296) := hgl
  have HHL : Hid (∀ k, h k < 4294967296) := hR0.2.2
  have HR0 : Hid (RowIs C L h) := hR0
  have HRW : Hid (w.heap[ub]? = some (.cells C 145 (0, 0))) := hrow
  have HNE : Hid (db ≠ ub) := hne
  clear hg hgl hR0 hrow hne
  go_enter Oabg.func168, Oabg.ntmps168
  go_wp2
  go_loopw [8, 4] (fun a b wr => ∃ (i c : Nat) (C' : Array Value) (h' : Nat → Nat), a = .int .i64 i ∧ b = .int .u64 c ∧ Own w ub C' wr ∧ RowIs C' L h' ∧ i ≤ n + 1 ∧ Outside h h' j i ∧ (∀ k, j + i ≤ k → h' k = h k) ∧ AddAt (win h j) (padL g n) (win h' j) i c) (fun a _ _ => n + 1 - (intOf a).toNat)
  case atStart => exact ⟨0, 0, C, h, rfl, rfl, Own.refl HRW.out, HR0.out, Nat.zero_le _, fun _ _ => rfl, fun _ _ => rfl, AddAt.start _ _ _⟩
  case round =>
    obtain ⟨i, c, C', h', rfl, rfl, hO, hR, hi, hOut, hUp, hT⟩ := hrel
    have HO : Hid (Own w ub C' _) := hO
    have HR : Hid (RowIs C' L h') := hR
    have HOut : Hid (Outside h h' j i) := hOut
    have HUp : Hid (∀ k, j + i ≤ k → h' k = h k) := hUp
    have HT : Hid (AddAt (win h j) (padL g n) (win h' j) i c) := hT
    have hcl : c ≤ 1 := hT.car
    have hfz := hO.frozen
    clear hO hR hOut hUp hT HRW HR0
    by_cases hlt : i < n + 1
    · have hC2 : C'[j + i]? = some (.int .u32 (h (j + i) : Nat)) := by rw [HR.out.2.1 (j + i) (by omega), HUp.out (j + i) (Nat.le_refl _)]
      have hcu := HO.out.cell (j + i)
      rw [hC2] at hcu
      have hx := HHL.out (j + i)
      have hT2 := HT.out.next (show win h j i < 4294967296 from hx) (pad_lt HGL.out i)
      have ewin : win h j i = h (j + i) := rfl
      rw [ewin] at hT2
      clear ewin hC2
      by_cases hb2 : i < n
      · have hp : padL g n i = g i := by unfold padL; rw [if_pos hb2]
        rw [hp] at hT2
        have hcg := (HO.out.other db (doff + i) HNE.out).trans (HG.out i hb2)
        have hgx := HGL.out i hb2
        have hdl : decide ((i : Int) < (n : Int)) = true := decide_eq_true (by omega)
        obtain ⟨T, hTT⟩ : ∃ T, T = c + h (j + i) + g i := ⟨_, rfl⟩
        rw [← hTT] at hT2
        have hTl : T < 18446744073709551616 := by omega
        have a2 : (c : Int) + (h (j + i) : Int) + (g i : Int) = (T : Nat) := by omega
        have hlo : T % 4294967296 < 4294967296 := Nat.mod_lt _ (by omega)
        have c1 : IntKind.u32.wrap (T : Int) = ((T % 4294967296 : Nat) : Int) := by rw [IntKind.wrap_u32']; omega
        have c1' : (T : Int) % 4294967296 = ((T % 4294967296 : Nat) : Int) := by omega
        have c3 : (T : Int) / 4294967296 = ((T / 4294967296 : Nat) : Int) := by omega
        have HR2 : Hid (RowIs (C'.setIfInBounds (j + i) (.int .u32 ((T % 4294967296 : Nat) : Int))) L (upd h' (j + i) (T % 4294967296))) := HR.out.put (j + i) _ hlo
        rw [← win_upd] at hT2
        have HT2 : Hid (AddAt (win h j) (padL g n) (win (upd h' (j + i) (T % 4294967296)) j) (i + 1) (T / 4294967296)) := hT2
        obtain ⟨lo, hlo'⟩ : ∃ x, x = T % 4294967296 := ⟨_, rfl⟩
        obtain ⟨ch, hch'⟩ : ∃ x, x = T / 4294967296 := ⟨_, rfl⟩
        rw [← hlo'] at c1 c1' HR2 HT2
        rw [← hch'] at c3 HT2
        have HOut2 : Hid (Outside h (upd h' (j + i) lo) j (i + 1)) := fun k hk => by
          unfold upd
          rw [if_neg (by omega)]
          exact HOut.out k (by omega)
        have HUp2 : Hid (∀ k, j + (i + 1) ≤ k → upd h' (j + i) lo k = h k) := fun k hk => by
          unfold upd
          rw [if_neg (by omega)]
          exact HUp.out k (by omega)
        have HOw2 := fun v => HO.out.put (j + i) v
        have HOw : Hid (∀ v, Own w ub (C'.setIfInBounds (j + i) v) _) := HOw2
        clear hT2 hTT hlo hlo' hch' HOw2
        go_wp2
        go_roundw
        case rel => exact ⟨i + 1, ch, _, _, by go_num, by first | rfl | (rw [c3]), HOw.out _, HR2.out, by omega, HOut2.out, HUp2.out, HT2.out⟩
        case measure => simp [intOf]; omega
      · have hp : padL g n i = 0 := by unfold padL; rw [if_neg hb2]
        rw [hp, Nat.add_zero] at hT2
        have hdl : decide ((i : Int) < (n : Int)) = false := decide_eq_false (by omega)
        obtain ⟨T, hTT⟩ : ∃ T, T = c + h (j + i) := ⟨_, rfl⟩
        rw [← hTT] at hT2
        have hTl : T < 18446744073709551616 := by omega
        have a2 : (c : Int) + (h (j + i) : Int) = (T : Nat) := by omega
        have hlo : T % 4294967296 < 4294967296 := Nat.mod_lt _ (by omega)
        have c1 : IntKind.u32.wrap (T : Int) = ((T % 4294967296 : Nat) : Int) := by rw [IntKind.wrap_u32']; omega
        have c1' : (T : Int) % 4294967296 = ((T % 4294967296 : Nat) : Int) := by omega
        have c3 : (T : Int) / 4294967296 = ((T / 4294967296 : Nat) : Int) := by omega
        have HR2 : Hid (RowIs (C'.setIfInBounds (j + i) (.int .u32 ((T % 4294967296 : Nat) : Int))) L (upd h' (j + i) (T % 4294967296))) := HR.out.put (j + i) _ hlo
        rw [← win_upd] at hT2
        have HT2 : Hid (AddAt (win h j) (padL g n) (win (upd h' (j + i) (T % 4294967296)) j) (i + 1) (T / 4294967296)) := hT2
        obtain ⟨lo, hlo'⟩ : ∃ x, x = T % 4294967296 := ⟨_, rfl⟩
        obtain ⟨ch, hch'⟩ : ∃ x, x = T / 4294967296 := ⟨_, rfl⟩
        rw [← hlo'] at c1 c1' HR2 HT2
        rw [← hch'] at c3 HT2
        have HOut2 : Hid (Outside h (upd h' (j + i) lo) j (i + 1)) := fun k hk => by
          unfold upd
          rw [if_neg (by omega)]
          exact HOut.out k (by omega)
        have HUp2 : Hid (∀ k, j + (i + 1) ≤ k → upd h' (j + i) lo k = h k) := fun k hk => by
          unfold upd
          rw [if_neg (by omega)]
          exact HUp.out k (by omega)
        have HOw2 := fun v => HO.out.put (j + i) v
        have HOw : Hid (∀ v, Own w ub (C'.setIfInBounds (j + i) v) _) := HOw2
        clear hT2 hTT hlo hlo' hch' HOw2
        go_wp2
        go_roundw
        case rel => exact ⟨i + 1, ch, _, _, by go_num, by first | rfl | (rw [c3]), HOw.out _, HR2.out, by omega, HOut2.out, HUp2.out, HT2.out⟩
        case measure => simp [intOf]; omega
    · have hin : i = n + 1 := by omega
      subst hin
      have hv := HT.out.val
      rw [nv_pad (by omega)] at hv
      have HV : Hid (nv (win h' j) (n + 1) + c * 2 ^ (32 * (n + 1)) = nv (win h j) (n + 1) + nv g n) := hv
      clear hv
      go_wp2
      go_end0
      exact ⟨c, C', h', rfl, HO.out, HR.out, HOut.out, hcl, HV.out⟩

end Go.Proofs.Ygcoab
