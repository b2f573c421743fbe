import Derived.Test.YgcoabWOwn
namespace Go.Proofs.Ygcoab
open Go.RowKit

theorem win_upd (h : Nat → Nat) (j i y : Nat) : win (upd h (j + i) y) j = upd (win h j) i y := by
  funext k
  unfold win upd
  by_cases hk : k = i
  · rw [if_pos (by omega), if_pos hk]
  · rw [if_neg (by omega), if_neg hk]

/-- what stays of the row -/
def Outside (h h' : Nat → Nat) (j i : Nat) : Prop := ∀ k, k < j ∨ j + i ≤ k → h' k = h k

set_option maxHeartbeats 1000000 in
set_option maxRecDepth 100000 in
theorem takeAway_any (ub j n cu db doff cd q L : Nat) (C : Array Value) (h g : Nat → Nat) (w : World) (hL : L ≤ 1000000) (hn : j + n < L) (hne : db ≠ ub) (hq : q < 4294967296) (hrow : w.heap[ub]? = some (.cells C 145 (0, 0))) (hR0 : RowIs C L h)
    (hg : ∀ i, i < n → w.cell? ⟨db, doff + i, none⟩ = some (.int .u32 (g i : Nat))) (hgl : ∀ i, i < n → g i < 4294967296) :
    Calls Oabg.prog 167 #[.slice (some ⟨ub, j, none⟩) (n + 1) cu, .slice (some ⟨db, doff, none⟩) n cd, .int .u32 q] w fun e w' => ∃ (o : Nat) (C' : Array Value) (h' : Nat → Nat), e = .returned (.bool ((o : Int) == 1)) ∧ Own w ub C' w' ∧ RowIs C' L h' ∧
      Outside h h' j (n + 1) ∧ o ≤ 1 ∧ nv (win h' j) (n + 1) + q * nv g n = nv (win h j) (n + 1) + o * 2 ^ (32 * (n + 1)) := by
  have HG : Hid (∀ i, i < n → w.cell? ⟨db, doff + i, none⟩ = some (.int .u32 (g i : Nat))) := hg
  have HGL : Hid (∀ i, i < n → g i < 4294967296) := hgl
  have HHL : Hid (∀ k, h k < 4294967296) := hR0.2.2
  have HR0 : Hid (RowIs C L h) := hR0
  have HRW : Hid (w.heap[ub]? = some (.cells C 145 (0, 0))) := hrow
  have HNE : Hid (db ≠ ub) := hne
  clear hg hgl hR0 hrow hne
  go_enter Oabg.func167, Oabg.ntmps167
  go_wp2
  go_loopw [13, 7, 8] (fun a b d wr => ∃ (i c o : Nat) (C' : Array Value) (h' : Nat → Nat), a = .int .i64 i ∧ b = .int .u64 c ∧ d = .int .u64 o ∧ Own w ub C' wr ∧ RowIs C' L h' ∧ i ≤ n + 1 ∧ Outside h h' j i ∧ (∀ k, j + i ≤ k → h' k = h k) ∧ TkAt (win h j) (win h' j) g q n i c o) (fun a _ _ _ => n + 1 - (intOf a).toNat)
  case atStart => exact ⟨0, 0, 0, C, h, rfl, rfl, rfl, Own.refl HRW.out, HR0.out, Nat.zero_le _, fun _ _ => rfl, fun _ _ => rfl, TkAt.start _ _ _ _⟩
  case round =>
    obtain ⟨i, c, o, C', h', rfl, rfl, rfl, hO, hR, hi, hOut, hUp, hT⟩ := hrel
    have HO : Hid (Own w ub C' _) := hO
    have HR : Hid (RowIs C' L h') := hR
    have HOut : Hid (Outside h h' j i) := hOut
    have HUp : Hid (∀ k, j + i ≤ k → h' k = h k) := hUp
    have HT : Hid (TkAt (win h j) (win h' j) g q n i c o) := hT
    have hcl : c < 4294967296 := hT.car
    have hol : o ≤ 1 := hT.bor
    have hfz := hO.frozen
    clear hO hR hOut hUp hT HRW HR0
    by_cases hlt : i < n + 1
    · have hC2 : C'[j + i]? = some (.int .u32 (h (j + i) : Nat)) := by rw [HR.out.2.1 (j + i) (by omega), HUp.out (j + i) (Nat.le_refl _)]
      have hcu := HO.out.cell (j + i)
      rw [hC2] at hcu
      have hx := HHL.out (j + i)
      obtain ⟨hT2, hTl⟩ := HT.out.next hq (show win h j i < 4294967296 from hx) HGL.out
      have ewin : win h j i = h (j + i) := rfl
      rw [ewin] at hT2
      clear ewin hC2
      by_cases hb2 : i < n
      · have hp : padL g n i = g i := by unfold padL; rw [if_pos hb2]
        rw [hp] at hT2 hTl
        have hcg := (HO.out.other db (doff + i) HNE.out).trans (HG.out i hb2)
        have hgx := HGL.out i hb2
        have hdl : decide ((i : Int) < (n : Int)) = true := decide_eq_true (by omega)
        obtain ⟨m, hm⟩ : ∃ m, m = q * g i := ⟨_, rfl⟩
        obtain ⟨T, hTT⟩ : ∃ T, T = c + m := ⟨_, rfl⟩
        rw [← hm, ← hTT] at hT2 hTl
        have a0 : IntKind.u64.wrap (q : Int) = (q : Nat) := w64_nat (by omega)
        have a1 : IntKind.u64.wrap ((q : Int) * (g i : Int)) = (m : Nat) := by
          have : ((q : Int) * (g i : Int)) = (m : Nat) := by rw [hm]; simp
          rw [this, w64_nat (by omega)]
        have a2 : IntKind.u64.wrap ((c : Int) + (m : Int)) = (T : Nat) := by rw [wrap64]; omega
        have b0 : bits .and .u64 (T : Int) 4294967295 = ((T % 4294967296 : Nat) : Int) := by
          have := u64_and_nat T 4294967295 hTl (by omega)
          rw [nat_mask32] at this
          exact this
        obtain ⟨l, hl⟩ : ∃ l, l = T % 4294967296 := ⟨_, rfl⟩
        rw [← hl] at hT2 b0
        obtain ⟨s, hs⟩ : ∃ s, s = sx (h (j + i)) o l := ⟨_, rfl⟩
        have hsl := (sx_spec (c := o) (g := l) hx (by omega) hol).2.2
        rw [← hs] at hT2 hsl
        have b1 : IntKind.u64.wrap ((h (j + i) : Int) - (l : Int)) = (sx (h (j + i)) 0 l : Nat) := by rw [wrap64]; unfold sx; omega
        have b2 : IntKind.u64.wrap ((sx (h (j + i)) 0 l : Int) - (o : Int)) = (s : Nat) := by rw [wrap64, hs]; unfold sx; omega
        generalize sx (h (j + i)) 0 l = s0 at b1 b2
        have hlo : s % 4294967296 < 4294967296 := Nat.mod_lt _ (by omega)
        have c1 : IntKind.u32.wrap (s : Int) = ((s % 4294967296 : Nat) : Int) := by rw [IntKind.wrap_u32']; omega
        have c1' : (s : Int) % 4294967296 = ((s % 4294967296 : Nat) : Int) := by omega
        have c2 : (s : Int) / 9223372036854775808 = ((s / 9223372036854775808 : Nat) : Int) := by omega
        have c3 : (T : Int) / 4294967296 = ((T / 4294967296 : Nat) : Int) := by omega
        have HR2 : Hid (RowIs (C'.setIfInBounds (j + i) (.int .u32 ((s % 4294967296 : Nat) : Int))) L (upd h' (j + i) (s % 4294967296))) := HR.out.put (j + i) _ hlo
        rw [← win_upd] at hT2
        have HT2 : Hid (TkAt (win h j) (win (upd h' (j + i) (s % 4294967296)) j) g q n (i + 1) (T / 4294967296) (s / 9223372036854775808)) := hT2
        obtain ⟨lo, hlo'⟩ : ∃ x, x = s % 4294967296 := ⟨_, rfl⟩
        obtain ⟨hi, hhi'⟩ : ∃ x, x = s / 9223372036854775808 := ⟨_, rfl⟩
        obtain ⟨ch, hch'⟩ : ∃ x, x = T / 4294967296 := ⟨_, rfl⟩
        rw [← hlo'] at c1 c1' HR2 HT2
        rw [← hhi'] at c2 HT2
        rw [← hch'] at c3 HT2
        have HOut2 : Hid (Outside h (upd h' (j + i) lo) j (i + 1)) := fun k hk => by
          unfold upd
          rw [if_neg (by omega)]
          exact HOut.out k (by omega)
        have HUp2 : Hid (∀ k, j + (i + 1) ≤ k → upd h' (j + i) lo k = h k) := fun k hk => by
          unfold upd
          rw [if_neg (by omega)]
          exact HUp.out k (by omega)
        have HOw2 := fun v => HO.out.put (j + i) v
        have HOw : Hid (∀ v, Own w ub (C'.setIfInBounds (j + i) v) _) := HOw2
        clear hT2 hs hl hlo hlo' hhi' hch' HOw2 hm hTT
        go_wp2
        go_roundw
        case rel => exact ⟨i + 1, ch, hi, _, _, by go_num, by first | rfl | (rw [c3]), by first | rfl | (rw [c2]), HOw.out _, HR2.out, by omega, HOut2.out, HUp2.out, HT2.out⟩
        case measure => simp [intOf]; omega
      · have hp : padL g n i = 0 := by unfold padL; rw [if_neg hb2]
        rw [hp, Nat.mul_zero, Nat.add_zero] at hT2 hTl
        have hdl : decide ((i : Int) < (n : Int)) = false := decide_eq_false (by omega)
        obtain ⟨T, hTT⟩ : ∃ T, T = c := ⟨_, rfl⟩
        rw [← hTT] at hT2 hTl hcl ⊢
        clear hTT
        have b0 : bits .and .u64 (T : Int) 4294967295 = ((T % 4294967296 : Nat) : Int) := by
          have := u64_and_nat T 4294967295 hTl (by omega)
          rw [nat_mask32] at this
          exact this
        obtain ⟨l, hl⟩ : ∃ l, l = T % 4294967296 := ⟨_, rfl⟩
        rw [← hl] at hT2 b0
        obtain ⟨s, hs⟩ : ∃ s, s = sx (h (j + i)) o l := ⟨_, rfl⟩
        have hsl := (sx_spec (c := o) (g := l) hx (by omega) hol).2.2
        rw [← hs] at hT2 hsl
        have b1 : IntKind.u64.wrap ((h (j + i) : Int) - (l : Int)) = (sx (h (j + i)) 0 l : Nat) := by rw [wrap64]; unfold sx; omega
        have b2 : IntKind.u64.wrap ((sx (h (j + i)) 0 l : Int) - (o : Int)) = (s : Nat) := by rw [wrap64, hs]; unfold sx; omega
        generalize sx (h (j + i)) 0 l = s0 at b1 b2
        have hlo : s % 4294967296 < 4294967296 := Nat.mod_lt _ (by omega)
        have c1 : IntKind.u32.wrap (s : Int) = ((s % 4294967296 : Nat) : Int) := by rw [IntKind.wrap_u32']; omega
        have c1' : (s : Int) % 4294967296 = ((s % 4294967296 : Nat) : Int) := by omega
        have c2 : (s : Int) / 9223372036854775808 = ((s / 9223372036854775808 : Nat) : Int) := by omega
        have c3 : (T : Int) / 4294967296 = ((T / 4294967296 : Nat) : Int) := by omega
        have HR2 : Hid (RowIs (C'.setIfInBounds (j + i) (.int .u32 ((s % 4294967296 : Nat) : Int))) L (upd h' (j + i) (s % 4294967296))) := HR.out.put (j + i) _ hlo
        rw [← win_upd] at hT2
        have HT2 : Hid (TkAt (win h j) (win (upd h' (j + i) (s % 4294967296)) j) g q n (i + 1) (T / 4294967296) (s / 9223372036854775808)) := hT2
        obtain ⟨lo, hlo'⟩ : ∃ x, x = s % 4294967296 := ⟨_, rfl⟩
        obtain ⟨hi, hhi'⟩ : ∃ x, x = s / 9223372036854775808 := ⟨_, rfl⟩
        obtain ⟨ch, hch'⟩ : ∃ x, x = T / 4294967296 := ⟨_, rfl⟩
        rw [← hlo'] at c1 c1' HR2 HT2
        rw [← hhi'] at c2 HT2
        rw [← hch'] at c3 HT2
        have HOut2 : Hid (Outside h (upd h' (j + i) lo) j (i + 1)) := fun k hk => by
          unfold upd
          rw [if_neg (by omega)]
          exact HOut.out k (by omega)
        have HUp2 : Hid (∀ k, j + (i + 1) ≤ k → upd h' (j + i) lo k = h k) := fun k hk => by
          unfold upd
          rw [if_neg (by omega)]
          exact HUp.out k (by omega)
        have HOw2 := fun v => HO.out.put (j + i) v
        have HOw : Hid (∀ v, Own w ub (C'.setIfInBounds (j + i) v) _) := HOw2
        clear hT2 hs hl hlo hlo' hhi' hch' HOw2
        go_wp2
        go_roundw
        case rel => exact ⟨i + 1, ch, hi, _, _, by go_num, by first | rfl | (rw [c3]), by first | rfl | (rw [c2]), HOw.out _, HR2.out, by omega, HOut2.out, HUp2.out, HT2.out⟩
        case measure => simp [intOf]; omega
    · have hin : i = n + 1 := by omega
      subst hin
      have hv := HT.out.val
      have hc0 := HT.out.end_ (by omega)
      rw [hc0, Nat.zero_add, nv_pad (by omega)] at hv
      have HV : Hid (nv (win h' j) (n + 1) + q * nv g n = nv (win h j) (n + 1) + o * 2 ^ (32 * (n + 1))) := hv
      clear hv hc0
      go_wp2
      go_ret
      exact ⟨o, C', h', rfl, HO.out, HR.out, HOut.out, hol, HV.out⟩

end Go.Proofs.Ygcoab
