import Derived.Test.YgcoabRows
import Derived.Test.YgcoabPlainScan
import Derived.Test.YgcoabWFinish
import Derived.Test.YgcoabScanAt
import Derived.WalkKit
import Derived.WalkSpells
import Derived.WalkLawsBesides
import Derived.Laws.BitsAllLaws
import Derived.Lib.RuneCountTail
import Derived.Deep.QuietTactic
import Derived.BigQuiet
import Derived.WalkMore
namespace Go.Proofs.Ygcoab
open Go.RowKit

/-- n digits at the head of s, and no more -/
def IsDigN (s : ByteArray) (n : Nat) : Prop := n ≤ s.size ∧ (∀ j, j < n → 48 ≤ bAt s j ∧ bAt s j ≤ 57) ∧ (n < s.size → ¬ (48 ≤ bAt s n ∧ bAt s n ≤ 57))

/-- the first byte of s that is a or b lies at n, or there is none and n is -1 -/
def IsCut (s : ByteArray) (a b : Nat) (n : Int) : Prop :=
  (∃ k : Nat, n = (k : Int) ∧ k < s.size ∧ (bAt s k = a ∨ bAt s k = b) ∧ ∀ j, j < k → bAt s j ≠ a ∧ bAt s j ≠ b) ∨ (n = -1 ∧ ∀ j, j < s.size → bAt s j ≠ a ∧ bAt s j ≠ b)

/-- n bytes at the head of s are those of u, in either case -/
def IsMatch (s u : ByteArray) (n : Nat) : Prop := n ≤ s.size ∧ n ≤ u.size ∧ (∀ j, j < n → bAt s j ||| 32 = bAt u j) ∧ (n < s.size → n < u.size → bAt s n ||| 32 ≠ bAt u n)

set_option maxHeartbeats 400000 in
theorem digits_any (s : ByteArray) (w : World) (hs : s.size ≤ 140737488351232) :
    Calls Oabg.prog 95 #[.string s] w fun e w' => ∃ n : Nat, e = .returned (.int .i64 n) ∧ IsDigN s n ∧ w' = w := by
  go_enter Oabg.func95, Oabg.ntmps95
  go_wp2
  go_loop [3] (fun i => ∃ k : Nat, k ≤ s.size ∧ i = .int .i64 k ∧ ∀ j, j < k → 48 ≤ bAt s j ∧ bAt s j ≤ 57) (fun i => s.size - (intOf i).toNat)
  case atStart => exact ⟨0, Nat.zero_le _, rfl, fun j hj => by omega⟩
  case round =>
    obtain ⟨k, hk, rfl, hd⟩ := hrel
    have HD : Hid (∀ j, j < k → 48 ≤ bAt s j ∧ bAt s j ≤ 57) := hd
    clear hd
    by_cases hlt : k < s.size
    · have hb := bAt_eq s k hlt
      have hB := bAt_lt s k
      by_cases hdg : 48 ≤ bAt s k ∧ bAt s k ≤ 57
      · obtain ⟨h1, h2⟩ := hdg
        go_wp2
        go_round
        case rel => exact ⟨k + 1, by omega, by go_num, fun j hj => by
          by_cases e : j = k
          · subst e; exact ⟨h1, h2⟩
          · exact HD.out j (by omega)⟩
        case measure => simp [intOf]; omega
      · have HN : Hid (¬ (48 ≤ bAt s k ∧ bAt s k ≤ 57)) := hdg
        go_wp2
        all_goals (go_ret; exact ⟨k, rfl, ⟨hk, HD.out, fun _ => HN.out⟩, rfl⟩)
    · go_wp2
      go_ret
      exact ⟨k, rfl, ⟨hk, HD.out, fun h => absurd h hlt⟩, rfl⟩

set_option maxHeartbeats 400000 in
theorem cut_any (s : ByteArray) (a b : Nat) (w : World) (hs : s.size ≤ 140737488351232) :
    Calls Oabg.prog 94 #[.string s, .int .u8 a, .int .u8 b] w fun e w' => ∃ n : Int, e = .returned (.int .i64 n) ∧ IsCut s a b n ∧ w' = w := by
  go_enter Oabg.func94, Oabg.ntmps94
  go_wp2
  go_loop [7] (fun i => ∃ k : Nat, k ≤ s.size ∧ i = .int .i64 k ∧ ∀ j, j < k → bAt s j ≠ a ∧ bAt s j ≠ b) (fun i => s.size - (intOf i).toNat)
  case atStart => exact ⟨0, Nat.zero_le _, rfl, fun j hj => by omega⟩
  case round =>
    obtain ⟨k, hk, rfl, hd⟩ := hrel
    have HD : Hid (∀ j, j < k → bAt s j ≠ a ∧ bAt s j ≠ b) := hd
    clear hd
    by_cases hlt : k < s.size
    · have hb := bAt_eq s k hlt
      have hB := bAt_lt s k
      by_cases ha : bAt s k = a
      · have ha' : ((bAt s k : Int) == (a : Int)) = true := by simp; omega
        have HE : Hid (bAt s k = a) := ha
        clear ha
        go_wp2
        go_ret
        exact ⟨(k : Int), rfl, .inl ⟨k, rfl, hlt, .inl HE.out, HD.out⟩, rfl⟩
      · have ha' : ((bAt s k : Int) == (a : Int)) = false := by rw [beq_eq_false_iff_ne]; omega
        by_cases hbb : bAt s k = b
        · have hb' : ((bAt s k : Int) == (b : Int)) = true := by simp; omega
          have HE : Hid (bAt s k = b) := hbb
          clear hbb ha
          go_wp2
          go_ret
          exact ⟨(k : Int), rfl, .inl ⟨k, rfl, hlt, .inr HE.out, HD.out⟩, rfl⟩
        · have hb' : ((bAt s k : Int) == (b : Int)) = false := by rw [beq_eq_false_iff_ne]; omega
          go_wp2
          go_round
          case rel => exact ⟨k + 1, by omega, by go_num, fun j hj => by
            by_cases e : j = k
            · subst e; exact ⟨ha, hbb⟩
            · exact HD.out j (by omega)⟩
          case measure => simp [intOf]; omega
    · go_wp2
      go_ret
      exact ⟨-1, rfl, .inr ⟨rfl, fun j hj => HD.out j (by omega)⟩, rfl⟩

set_option maxHeartbeats 800000 in
theorem matched_any (s u : ByteArray) (w : World) (hs : s.size ≤ 140737488351232) (_hu : u.size ≤ 1000) :
    Calls Oabg.prog 56 #[.string s, .string u] w fun e w' => ∃ n : Nat, e = .returned (.int .i64 n) ∧ IsMatch s u n ∧ Below w.heap.size w w' := by
  go_enter Oabg.func56, Oabg.ntmps56
  go_wp2
  go_loopw [5] (fun i wr => ∃ k : Nat, k ≤ s.size ∧ k ≤ u.size ∧ i = .int .i64 k ∧ (∀ j, j < k → bAt s j ||| 32 = bAt u j) ∧ Below w.heap.size w wr) (fun i _ => s.size - (intOf i).toNat)
  case atStart => exact ⟨0, Nat.zero_le _, Nat.zero_le _, rfl, fun j hj => by omega, Below.refl _ _⟩
  case round =>
    obtain ⟨k, hk, hku, rfl, hd, hbw⟩ := hrel
    have HD : Hid (∀ j, j < k → bAt s j ||| 32 = bAt u j) := hd
    clear hd
    by_cases hlt : k < s.size
    · have hb := bAt_eq s k hlt
      have hB := bAt_lt s k
      by_cases hlu : k < u.size
      · have hbu := bAt_eq u k hlu
        have hBu := bAt_lt u k
        have hor := u8_or_nat (bAt s k) 32 hB (by omega)
        by_cases hm : bAt s k ||| 32 = bAt u k
        · have hm' : (((bAt s k ||| 32 : Nat) : Int) == (bAt u k : Int)) = true := by simp; omega
          have HM : Hid (bAt s k ||| 32 = bAt u k) := hm
          have HO : Hid (bits BinOp.or IntKind.u8 (bAt s k : Int) ((32 : Nat) : Int) = ((bAt s k ||| 32 : Nat) : Int)) := hor
          have hq : (bits BinOp.or IntKind.u8 (bAt s k : Int) 32 == (bAt u k : Int)) = true := by
            have := HO.out; rw [show ((32 : Nat) : Int) = 32 from rfl] at this; rw [this]; exact hm'
          clear hm hor hm'
          go_wp2_with fail
          go_quiet (fail)
          go_wp2
          go_roundw
          case rel => exact ⟨k + 1, by omega, by omega, by go_num, fun j hj => by
            by_cases e : j = k
            · subst e; exact HM.out
            · exact HD.out j (by omega), below_drewN hbw _⟩
          case measure => simp [intOf]; omega
        · have hq : (bits BinOp.or IntKind.u8 (bAt s k : Int) 32 == (bAt u k : Int)) = false := by
            rw [show ((32 : Nat) : Int) = 32 from rfl] at hor
            rw [hor, beq_eq_false_iff_ne]; omega
          have HM : Hid (bAt s k ||| 32 ≠ bAt u k) := hm
          clear hm hor
          go_wp2_with fail
          go_quiet (fail)
          go_wp2
          go_ret
          exact ⟨k, rfl, ⟨hk, hku, HD.out, fun _ _ => HM.out⟩, below_drewN hbw _⟩
      · have hd1 : decide ((k : Int) < (u.size : Int)) = false := by simp; omega
        go_wp2_with fail
        go_quiet (fail)
        go_wp2
        go_ret
        exact ⟨k, rfl, ⟨hk, hku, HD.out, fun _ h => absurd h hlu⟩, below_drewN hbw _⟩
    · have hd1 : decide ((k : Int) < (s.size : Int)) = false := by simp; omega
      go_wp2_with fail
      go_quiet (fail)
      go_wp2
      go_ret
      exact ⟨k, rfl, ⟨hk, hku, HD.out, fun h => absurd h hlt⟩, below_drewN hbw _⟩

/-- the answer for a text that goes wrong at p -/
def wrongAt (s : ByteArray) (p : Nat) : Sd := Sd.wrong p (if p < s.size then ((Utf8.decode s p).1 : Int) else -1)

set_option maxHeartbeats 800000 in
theorem wrong_any (s : ByteArray) (p : Nat) (w : World) (_hs : s.size ≤ 140737488351232) (hp : p ≤ s.size) :
    Calls Oabg.prog 57 #[.string s, .int .i64 p] w fun e w' => e = .returned (scV (wrongAt s p)) ∧ Below w.heap.size w w' := by
  have hsz : (s.extract p s.size).size = s.size - p := size_extract s p s.size (Nat.le_refl _)
  obtain ⟨W0, hW0⟩ : ∃ W, W = w.alloc (.cells zero32 32) := ⟨_, rfl⟩
  have hz0 : W0.heap.size = w.heap.size + 1 := by rw [hW0]; simp
  by_cases hlt : p < s.size
  · have hnx := fun ty => run_next_any (P := Oabg.prog) W0 (s.extract p s.size) 0 ty (by omega)
    rw [Lib.tail_decode s p 0, Nat.add_zero, Nat.zero_add, hz0] at hnx
    obtain ⟨r, hr⟩ : ∃ r, r = (Utf8.decode s p).1 := ⟨_, rfl⟩
    obtain ⟨q, hq⟩ : ∃ q, q = (Utf8.decode s p).2 := ⟨_, rfl⟩
    rw [← hr, ← hq] at hnx
    have HW : Hid (wrongAt s p = Sd.wrong p r) := by show wrongAt s p = Sd.wrong p r; unfold wrongAt; rw [if_pos hlt, hr]
    obtain ⟨W1, hW1⟩ : ∃ W, W = W0.iter (s.extract p s.size) q := ⟨_, rfl⟩
    have hh : W1.heap[w.heap.size]? = some (.cells zero32 32 (0, 0)) := by
      rw [hW1, World.iter, Below.heap_alloc _ _ _ (by omega), hW0, heap_new _ _ _ rfl]
    have hbel : Below w.heap.size w W1 := by
      rw [hW1, hW0]
      exact ((Below.refl _ _).alloc (Nat.le_refl _) _).alloc (by simp) _
    rw [← hW1] at hnx
    rw [hW0] at hnx
    obtain ⟨c0, c1, c2, c3, c4, c5, cf⟩ : W1.cell? ⟨w.heap.size, 0, none⟩ = some (.int .u8 0) ∧ W1.cell? ⟨w.heap.size, 1, none⟩ = some (.bool false) ∧ W1.cell? ⟨w.heap.size, 2, none⟩ = some (.string ⟨#[]⟩) ∧
      W1.cell? ⟨w.heap.size, 3, none⟩ = some (.int .i16 0) ∧ W1.cell? ⟨w.heap.size, 4, none⟩ = some (.int .i64 0) ∧ W1.cell? ⟨w.heap.size, 5, none⟩ = some (.int .i32 0) ∧ (∀ o, W1.frozen? ⟨w.heap.size, o, none⟩ = false) :=
      ⟨cell_of_row W1 _ 0 _ _ _ hh, cell_of_row W1 _ 1 _ _ _ hh, cell_of_row W1 _ 2 _ _ _ hh, cell_of_row W1 _ 3 _ _ _ hh, cell_of_row W1 _ 4 _ _ _ hh, cell_of_row W1 _ 5 _ _ _ hh, fun o => frozen_of_row W1 _ o _ _ hh⟩
    clear hr hq hW1 hW0 hz0 hh hsz
    simp only [zero32] at hnx
    go_enter Oabg.func57, Oabg.ntmps57
    go_wp2
    refine wp_loop_rounds 1 ?_
    rw [rounds_succ]
    go_wp2
    refine bodyPost_ret (v := scV (Sd.wrong p r)) (by simp [results, Oabg.results57, go_sem, c0, c1, c2, c3, c4, c5]; rfl) rfl ⟨by rw [HW.out], below_set6 hbel (Nat.le_refl _)⟩
  · obtain ⟨W1, hW1⟩ : ∃ W, W = W0.iter (s.extract p s.size) 0 := ⟨_, rfl⟩
    have hnx : ∀ ty, (Instr.next (.pointer (some ⟨w.heap.size + 1, 0, none⟩)) true ty).run Oabg.prog (W0.iter (s.extract p s.size) 0) = .ok (.tuple #[.bool false]) W1 := fun ty => by
      rw [hW1, ← hz0]; exact run_next_end (P := Oabg.prog) W0 (s.extract p s.size) 0 ty (by omega)
    have HW : Hid (wrongAt s p = Sd.wrong p (-1)) := by show wrongAt s p = Sd.wrong p (-1); unfold wrongAt; rw [if_neg hlt]
    have hh : W1.heap[w.heap.size]? = some (.cells zero32 32 (0, 0)) := by
      rw [hW1, World.iter, Below.heap_alloc _ _ _ (by omega), hW0, heap_new _ _ _ rfl]
    have hbel : Below w.heap.size w W1 := by
      rw [hW1, hW0]
      exact ((Below.refl _ _).alloc (Nat.le_refl _) _).alloc (by simp) _
    obtain ⟨c0, c1, c2, c3, c4, c5, cf⟩ : W1.cell? ⟨w.heap.size, 0, none⟩ = some (.int .u8 0) ∧ W1.cell? ⟨w.heap.size, 1, none⟩ = some (.bool false) ∧ W1.cell? ⟨w.heap.size, 2, none⟩ = some (.string ⟨#[]⟩) ∧
      W1.cell? ⟨w.heap.size, 3, none⟩ = some (.int .i16 0) ∧ W1.cell? ⟨w.heap.size, 4, none⟩ = some (.int .i64 0) ∧ W1.cell? ⟨w.heap.size, 5, none⟩ = some (.int .i32 0) ∧ (∀ o, W1.frozen? ⟨w.heap.size, o, none⟩ = false) :=
      ⟨cell_of_row W1 _ 0 _ _ _ hh, cell_of_row W1 _ 1 _ _ _ hh, cell_of_row W1 _ 2 _ _ _ hh, cell_of_row W1 _ 3 _ _ _ hh, cell_of_row W1 _ 4 _ _ _ hh, cell_of_row W1 _ 5 _ _ _ hh, fun o => frozen_of_row W1 _ o _ _ hh⟩
    rw [hW0] at hnx
    clear hW1 hW0 hz0 hh hsz
    simp only [zero32] at hnx
    go_enter Oabg.func57, Oabg.ntmps57
    go_wp2
    refine wp_loop_rounds 1 ?_
    rw [rounds_succ]
    go_wp2
    refine bodyPost_ret (v := scV (Sd.wrong p (-1))) (by simp [results, Oabg.results57, go_sem, c0, c1, c2, c3, c4, c5]; rfl) rfl ⟨by rw [HW.out], below_set6 hbel (Nat.le_refl _)⟩
end Go.Proofs.Ygcoab
