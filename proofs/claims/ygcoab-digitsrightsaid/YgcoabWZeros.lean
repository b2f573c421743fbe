/- exact.zeros -/
import Derived.Test.YgcoabWDigits2
namespace Go.Proofs.Ygcoab
open Go.RowKit

def zerosB (n : Nat) : ByteArray := strOfNums (List.replicate n 48)

set_option maxRecDepth 100000 in
theorem zeros_any (n : Nat) (hn : n ≤ 100000) (w : World) :
    Calls Oabg.prog 61 #[.int .i64 n] w fun e w' => e = .returned (.string (zerosB n)) ∧ Below w.heap.size w w' := by
  have hmk := fun w => make83 w (n : Int) n rfl (by omega)
  have hA := below_alloc w (.cells (Array.replicate n (.int .u8 0)) 5)
  have hI : BufAt w.heap.size n (fun _ => 0) (w.alloc (.cells (Array.replicate n (.int .u8 0)) 5)) := BufAt.start w n
  go_enter Oabg.func61, Oabg.ntmps61
  go_wp2_with fail
  obtain ⟨W0, hW⟩ : ∃ W, W = w.alloc (.cells (Array.replicate n (.int .u8 0)) 5) := ⟨_, rfl⟩
  obtain ⟨B, hB⟩ : ∃ B, B = w.heap.size := ⟨_, rfl⟩
  have hBl : Below B w W0 := by rw [hW, hB]; exact hA
  rw [← hW, ← hB] at hI
  rw [← hW, ← hB]
  clear hW hmk hA
  go_loopg [9] n (fun m s9 wx => ∃ (i : Nat) (f : Nat → Int), s9 = .int .i64 (i : Nat) ∧ i ≤ n ∧ BufAt B n f wx ∧ (∀ j, j < i → f j = 48) ∧ Below B w wx ∧ n - i ≤ m)
  case atStart => exact ⟨0, _, rfl, by omega, hI, fun j hj => by omega, hBl, by omega⟩
  case round =>
    obtain ⟨i, f, rfl, hin, hF, h48, hb, hm⟩ := hrel
    clear hI hBl
    by_cases he : i = n
    · subst he
      have hconv := fun w' (hw : w' = wr) => string_of B 0 (List.replicate i 48) i i w' (by simp) (fun j hj => by
        rw [hw, Nat.zero_add, hF.c j hj, h48 j hj]
        simp [List.getD, hj])
      have HB : Hid (Below w.heap.size w wr) := by show Below w.heap.size w wr; rw [← hB]; exact hb
      clear hF h48 hb hm hB
      go_wp2
      go_ret
      exact ⟨rfl, HB.out⟩
    · have hil : i < n := by omega
      have hcell := hF.c i hil
      have hfr := hF.fr
      have HF : Hid (BufAt B n (updI f i 48) (wr.setCell ⟨B, i, none⟩ (.int .u8 48))) := hF.put i hil 48
      have H48 : Hid (∀ j, j < i + 1 → updI f i 48 j = 48) := fun j hj => by
        unfold updI
        by_cases hji : j = i
        · rw [if_pos hji]
        · rw [if_neg hji]; exact h48 j (by omega)
      have HB : Hid (Below B w (wr.setCell ⟨B, i, none⟩ (.int .u8 48))) := hb.setCell (p := ⟨B, i, none⟩) (Nat.le_refl _) _
      have HM : Hid (n - (i + 1) < gk) := by show n - (i + 1) < gk; omega
      clear hF h48 hb hm hB
      go_wp2_with fail
      go_roundg (n - (i + 1))
      case measure => exact HM.out
      case rel => exact ⟨i + 1, _, congrArg (Value.int IntKind.i64) (by omega), by omega, HF.out, H48.out, HB.out, Nat.le_refl _⟩

end Go.Proofs.Ygcoab
