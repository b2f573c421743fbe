import Derived.Test.YgcoabRows
import Derived.WalkKit
import Derived.ProofKit
import Derived.OpenShut
import Derived.ShutString
import Derived.SizedLaws
import Derived.ChangeOld
import Derived.Below
import Derived.Test.YgcoabWScanSame
namespace Go.Proofs.Ygcoab.scanSame
open Go.ChangeShapes Go.WideShapes Go.ChangeAt Go.RowKit
open Go.ChangeMaps (open_string shut_string)
set_option linter.unusedVariables false

theorem own : ownKnob Oabg.prog.godebug = none := by kernel_rfl

theorem walk (a0 : ByteArray) (z0 : a0.size ≤ 140737488351232) (W : World) : Calls Oabg.prog 4 #[.string a0] W fun e w' => e = .returned (.bool true) ∧ Below W.heap.size W w' := scanSame_any a0 z0 W

set_option maxRecDepth 100000 in
theorem lifted (os : Os) (started : os.Started) (H : Type) (enc : TypeId × Value → H) :
    ReturnsInHanded {} Oabg.checked os 4 .any (Rows.scanSameSpec.pre6 enc Oabg.prog Oabg.f4 Rows.scanSameRow.domain false) (Rows.scanSameSpec.post enc Oabg.prog Oabg.f4 false true false false) := by
  refine returnsInHanded_of_change_sized (C := Oabg.checked) own started (by kernel_rfl) Oabg.func4
    (ChangeSpec.witness6 (enc := enc) (C := Oabg.checked) false ⟨#[], #[.string ByteArray.empty], []⟩ 8 (by kernel_rfl) (by kernel_rfl) (by kernel_rfl) (by kernel_rfl)) ?_
  intro W base args ds gs before hval0 hW hcnd hsz0 _
  have hval : ∀ (j : Nat) t v, Oabg.f4.params[j]? = some t → args[j]? = some v → Value.okWide Oabg.prog W .any base t v := hval0
  have hsz : (DataW.weightsEach Oabg.prog (Oabg.f4.params.toList ++ Rows.scanSameSpec.plain.varTypes Oabg.prog) (ds ++ gs)).all (· ≤ reachBytes) = true := hsz0
  have hW' := hW
  obtain ⟨p, q, hA0, hV, rfl, hfz, hnd⟩ := hW
  have hA : DataW.TrodAll enc Oabg.prog W 0 (fun _ => true) true Oabg.f4.params.toList args.toList ds p := hA0
  rw [Oabg.params4] at hA hval hsz
  obtain ⟨v0, vs0, d0, ds0, p0, q0, hargs, rfl, rfl, h0, r0⟩ := trodAll_cons hA
  obtain ⟨rfl, rfl, rfl⟩ := trodAll_nil r0
  obtain rfl : args = #[v0] := by cases args; simp_all
  obtain ⟨rfl, rfl⟩ := trodVars_none hV
  obtain ⟨a0, rfl, rfl, rfl, w0⟩ := open_string Oabg.underlying9 (hval 0 9 v0 rfl rfl) h0
  have z0 : a0.size ≤ 140737488351232 := by
    have := sized_string hsz (j := 0) (t := 9) rfl rfl
    simpa [reachBytes] using this
  clear hA0 hval0 hsz0 hsz
  refine (walk a0 z0 W).mono fun e W' ⟨he, bel⟩ => ?_
  subst he
  exact ⟨_, rfl, _, _, _, [], _, [], hW', trodAll_mk1 (shut_bool Oabg.underlying4 _), (trodAll_cons_mk (shut_string Oabg.underlying9 w0) trodAll_mk0), rfl, bel.frame _, fun h => by cases h⟩

theorem over : Rows.scanSameRow.holds Oabg.pinned (OpenSpec.ofChange Rows.scanSameSpec) :=
  OpenClaim.holds_of_wide 4 Oabg.f4 rfl rfl rfl rfl rfl rfl rfl ⟨rfl, rfl, rfl, rfl, rfl⟩ rfl rfl rfl rfl rfl (by kernel_rfl) Oabg.func4 (by kernel_rfl)
    (of_decide_eq_true (by kernel_rfl)) (by unfold Func.isWrapper; first | (rw [if_pos (by decide +kernel)]; kernel_rfl) | (rw [if_neg (by decide +kernel)]; exact ⟨rfl, rfl⟩))
    (fun os started H enc _ => lifted os started H enc)

theorem proved : Rows.ScanSameSaid :=
  over
end Go.Proofs.Ygcoab.scanSame
