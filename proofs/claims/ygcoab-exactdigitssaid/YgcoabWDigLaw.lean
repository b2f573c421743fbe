import Derived.Test.YgcoabWDigFin
import Derived.Test.YgcoabWDigZer
import Derived.Test.YgcoabWDigOff
namespace Go.Proofs.Ygcoab
open Go.RowKit

theorem exactDigits_any (E M x prec : Nat) (hx : x < 18446744073709551616) (w : World) :
    Calls Oabg.prog 7 #[fmtV E M, .int .u64 x, .int .u16 prec] w fun e w' => e = .returned (.bool true) ∧ Below w.heap.size w w' := by
  by_cases h : FOk E M
  · by_cases hp : prec ≤ 2000
    · by_cases hf : expF E M x = topE E
      · rcases cls_special hf with hc | hc
        · exact exactDigits_off h x prec false (.inl rfl) (fun w => digitsE_inf h x hx hc prec hp w) (fun w => digitsF_inf h x hx hc prec hp w) (fun w => isFinite_yes h x hx false (by simp [hf]) w) w
        · exact exactDigits_off h x prec false (.inl rfl) (fun w => digitsE_nan h x hx hc prec hp w) (fun w => digitsF_nan h x hx hc prec hp w) (fun w => isFinite_yes h x hx false (by simp [hf]) w) w
      · by_cases hz : clsF E M x = 0
        · exact exactDigits_zero h x hx hf hz prec hp w
        · exact exactDigits_fin h x hx hf hz prec hp w
    · exact exactDigits_off h x prec _ (.inr (by omega)) (fun w => digitsE_big h x prec (by omega) w) (fun w => digitsF_big h x prec (by omega) w) (fun w => isFinite_yes h x hx _ rfl w) w
  · exact exactDigits_no h x prec w

end Go.Proofs.Ygcoab
