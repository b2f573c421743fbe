import Derived.Test.YgcoabWTextF
import Derived.Deep.QuietTactic
import Derived.BigQuiet
namespace Go.Proofs.Ygcoab
open Go.RowKit

theorem beq_self_list (s : ByteArray) : (s.toList == s.toList) = true := by simp

set_option maxHeartbeats 400000 in
set_option maxRecDepth 100000 in
theorem fixedText_zero (s : ByteArray) (w : World) (hs : s.size ≤ 140737488351232) :
    Calls Oabg.prog 38 #[.string s, .string s, .int .i64 0] w fun e w' => e = .returned (.bool true) ∧ w' = w := by
  have hself := beq_self_list s
  go_enter Oabg.func38, Oabg.ntmps38
  go_wp2
  go_ret
  exact ⟨rfl, rfl⟩

set_option maxHeartbeats 400000 in
set_option maxRecDepth 100000 in
theorem fixedText_pos (F s G : ByteArray) (p cut pad : Nat) (w : World) (hs : s.size ≤ 140737488351232) (hp1 : 1 ≤ p) (hp2 : p ≤ 2000) (hpad : pad ≤ 2000) (hF : F.size = s.size + pad + 1) (hc : cut + p = s.size + pad) (hc1 : 1 ≤ cut)
    (h1 : 0 < pad → cut = 1) (hdot : bAt F cut = 46) (hG : F.extract 0 cut ++ F.extract (cut + 1) F.size = G) (hGs : G.size = s.size + pad) (hGe : G.extract pad G.size = s) (hz : ∀ i, i < pad → bAt G i = 48) :
    Calls Oabg.prog 38 #[.string F, .string s, .int .i64 p] w fun e w' => e = .returned (.bool true) ∧ Below w.heap.size w w' := by
  have hp0 : ((p : Int) == 0) = false := by rw [beq_eq_false_iff_ne]; omega
  have hpt : (F.size : Int) - (p : Int) - 1 = (cut : Int) := by omega
  have hdot' : ((bAt F cut : Int) != 46) = false := by simp; omega
  have hcF : cut < F.size := by omega
  have hbd := bAt_eq F cut hcF
  have HF : Hid (F.size = s.size + pad + 1) := hF
  have HZ : Hid (∀ i, i < pad → bAt G i = 48) := hz
  have H1 : Hid (0 < pad → cut = 1) := h1
  have HC : Hid (cut + p = s.size + pad) := hc
  have HGs : Hid (G.size = s.size + pad) := hGs
  have hFl : F.size ≤ 140737488353233 := by omega
  clear hdot hF h1 hc hz hGs
  go_enter Oabg.func38, Oabg.ntmps38
  go_wp2
  go_quiet (fail)
  have hGs' : G.size ≤ 140737488353233 := by rw [HGs.out]; omega
  have hex : (G.size : Int) - (s.size : Int) = (pad : Int) := by rw [HGs.out]; omega
  have hself := beq_self_list s
  have hpG : pad ≤ G.size := by rw [HGs.out]; omega
  by_cases hp0 : 0 < pad
  · have hcc : ((cut : Int) != 1) = false := by have := H1.out hp0; simp; omega
    go_wp2
    go_loop [10] (fun i => ∃ k : Nat, k ≤ pad ∧ i = .int .i64 k) (fun i => pad - (intOf i).toNat)
    case atStart => exact ⟨0, by omega, rfl⟩
    case round =>
      obtain ⟨k, hk, rfl⟩ := hrel
      by_cases hlt : k < pad
      · have hbk := bAt_eq G k (by omega)
        have h48 : ((bAt G k : Int) != 48) = false := by have := HZ.out k hlt; simp; omega
        go_wp2
        go_round
        case rel => exact ⟨k + 1, by omega, by go_num⟩
        case measure => simp [intOf]; omega
      · go_wp2
        go_ret
        exact ⟨rfl, below_drewN (Below.refl _ _) _⟩
  · go_wp2
    go_loop [10] (fun i => i = .int .i64 0) (fun i => 0)
    case atStart => rfl
    case round =>
      subst hrel
      go_wp2
      go_ret
      exact ⟨rfl, below_drewN (Below.refl _ _) _⟩
end Go.Proofs.Ygcoab
