import Derived.Test.YgcoabWMScan
import Derived.Test.YgcoabWScan
namespace Go.Proofs.Ygcoab
open Go.RowKit

set_option maxHeartbeats 800000 in
theorem scanSame_any (s : ByteArray) (hs : s.size ≤ 140737488351232) (w : World) :
    Calls Oabg.prog 4 #[.string s] w fun e w' => e = .returned (.bool true) ∧ Below w.heap.size w w' := by
  have HS : Hid (s.size ≤ 140737488351232) := hs
  clear hs
  go_enter Oabg.func4, Oabg.ntmps4
  go_wp2_with (first
    | (go_at_call 18; refine (scan_any s _ HS.out).mono ?_; rintro e w1 ⟨R, rfl, hR, hb1⟩; unfold scV)
    | (go_at_call 19; refine (mscan_any s _ HS.out).mono ?_; rintro e w2 ⟨R', rfl, hR', hb2⟩; obtain rfl := ScanIs.unique hR hR'; unfold scV))
  go_ret
  exact ⟨by simp, hb1.trans (hb2.mono hb1.size)⟩

end Go.Proofs.Ygcoab
