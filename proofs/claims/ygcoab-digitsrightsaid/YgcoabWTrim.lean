import Derived.Test.YgcoabRows
import Derived.Test.YgcoabPlainNat
import Derived.WalkKit
import Derived.WalkSpells
import Derived.WalkLawsBesides
import Derived.Below
namespace Go.Proofs.Ygcoab
open Go.RowKit

/-- the trimmed slice of k limbs -/
def trimV (b off k cap : Nat) : Value := if k = 0 then .slice none 0 0 else .slice (some ⟨b, off, none⟩) k cap

/-- k is the number of limbs of f's first n that stay -/
def TrimTo (f : Nat → Nat) (n k : Nat) : Prop := k ≤ n ∧ (∀ j, k ≤ j → j < n → f j = 0) ∧ (0 < k → f (k - 1) ≠ 0)

theorem trim_nil (w : World) : Calls Oabg.prog 106 #[.slice none 0 0] w fun e w' => e = .returned (.slice none 0 0) ∧ w' = w := by
  go_enter Oabg.func106, Oabg.ntmps106
  go_wp2
  go_loop [3] (fun i => i = .int .i64 0) (fun _ => 0)
  case atStart => rfl
  case round =>
    subst hrel
    go_wp2
    go_ret
    exact ⟨rfl, rfl⟩

set_option maxHeartbeats 400000 in
theorem trim_any (b off n cap : Nat) (f : Nat → Nat) (w : World) (hn : n ≤ cap) (hc : cap ≤ 1000000000) (hf : ∀ j, j < n → w.cell? ⟨b, off + j, none⟩ = some (.int .u32 (f j))) :
    Calls Oabg.prog 106 #[.slice (some ⟨b, off, none⟩) n cap] w fun e w' => ∃ k, TrimTo f n k ∧ e = .returned (trimV b off k cap) ∧ w' = w := by
  have HF : Hid (∀ j, j < n → w.cell? ⟨b, off + j, none⟩ = some (.int .u32 (f j))) := hf
  clear hf
  go_enter Oabg.func106, Oabg.ntmps106
  go_wp2
  go_loop [3] (fun i => ∃ k : Nat, k ≤ n ∧ i = .int .i64 k ∧ ∀ j, k ≤ j → j < n → f j = 0) (fun i => (intOf i).toNat)
  case atStart => exact ⟨n, Nat.le_refl _, rfl, fun j h1 h2 => by omega⟩
  case round =>
    obtain ⟨k, hk, rfl, hz⟩ := hrel
    have HZ : Hid (∀ j, k ≤ j → j < n → f j = 0) := hz
    clear hz
    by_cases h0 : k = 0
    · have hk0 : ((k : Int) == 0) = true := by rw [beq_iff_eq]; omega
      have hk1 : ¬ (0 < k) := by omega
      go_wp2
      go_ret
      exact ⟨k, ⟨hk, HZ.out, fun h => by omega⟩, by unfold trimV; rw [if_pos h0]; rfl, rfl⟩
    · have hk0 : ((k : Int) == 0) = false := by rw [beq_eq_false_iff_ne]; omega
      have hcell := HF.out (k - 1) (by omega)
      have hi : (((k - 1 : Nat)) : Int) = (k : Int) - 1 := by omega
      have hto : ((k : Int) - 1).toNat = k - 1 := by omega
      have hadd : off + ((k : Int) - 1).toNat = off + (k - 1) := by omega
      by_cases hv : f (k - 1) = 0
      · have hv' : ((f (k - 1) : Int) == 0) = true := by rw [beq_iff_eq]; omega
        go_wp2
        go_round
        case rel =>
          refine ⟨k - 1, by omega, by simp; omega, fun j h1 h2 => ?_⟩
          by_cases hj : j = k - 1
          · rw [hj]; exact hv
          · exact HZ.out j (by omega) h2
        case measure => simp [intOf]; omega
      · have hv' : ((f (k - 1) : Int) == 0) = false := by rw [beq_eq_false_iff_ne]; omega
        go_wp2
        go_ret
        exact ⟨k, ⟨hk, HZ.out, fun _ => hv⟩, by unfold trimV; rw [if_neg h0]; rfl, rfl⟩

end Go.Proofs.Ygcoab
