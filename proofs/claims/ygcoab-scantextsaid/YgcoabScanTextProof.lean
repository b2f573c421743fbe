import Derived.Test.YgcoabRows
import Derived.WalkKit
import Derived.ProofKit
import Derived.OpenShut
import Derived.ShutString
import Derived.SizedLaws
import Derived.ChangeOld
import Derived.Below
import Derived.Test.YgcoabWScanText
namespace Go.Proofs.Ygcoab.scanText
open Go.ChangeShapes Go.WideShapes Go.ChangeAt Go.RowKit
open Go.ChangeMaps (open_string shut_string)
set_option linter.unusedVariables false

theorem own : ownKnob Oabg.prog.godebug = none := by kernel_rfl

theorem walk (a0 : Bool) (a1 : ByteArray) (a2 : Int) (z1 : a1.size ≤ 140737488351232) (z2 : -9223372036854775808 ≤ a2 ∧ a2 ≤ 9223372036854775807) (w : World) :
    Calls Oabg.prog 5 #[.bool a0, .string a1, .int .i64 a2] w fun e w' => e = .returned (.bool true) ∧ Below w.heap.size w w' := scanText_walk a0 a1 a2 z1 z2 w

set_option maxRecDepth 100000 in
theorem lifted (os : Os) (started : os.Started) (H : Type) (enc : TypeId × Value → H) :
    ReturnsInHanded {} Oabg.checked os 5 .any (Rows.scanTextSpec.pre6 enc Oabg.prog Oabg.f5 Rows.scanTextRow.domain false) (Rows.scanTextSpec.post enc Oabg.prog Oabg.f5 false true false false) := by
  refine returnsInHanded_of_change_sized (C := Oabg.checked) own started (by kernel_rfl) Oabg.func5
    (ChangeSpec.witness6 (enc := enc) (C := Oabg.checked) false ⟨#[], #[.bool false, .string ByteArray.empty, .int .i64 0], []⟩ 8 (by kernel_rfl) (by kernel_rfl) (by kernel_rfl) (by kernel_rfl)) ?_
  intro W base args ds gs before hval0 hW hcnd hsz0 _
  have hval : ∀ (j : Nat) t v, Oabg.f5.params[j]? = some t → args[j]? = some v → Value.okWide Oabg.prog W .any base t v := hval0
  have hsz : (DataW.weightsEach Oabg.prog (Oabg.f5.params.toList ++ Rows.scanTextSpec.plain.varTypes Oabg.prog) (ds ++ gs)).all (· ≤ reachBytes) = true := hsz0
  have hW' := hW
  obtain ⟨p, q, hA0, hV, rfl, hfz, hnd⟩ := hW
  have hA : DataW.TrodAll enc Oabg.prog W 0 (fun _ => true) true Oabg.f5.params.toList args.toList ds p := hA0
  rw [Oabg.params5] at hA hval hsz
  obtain ⟨v0, vs0, d0, ds0, p0, q0, hargs, rfl, rfl, h0, r0⟩ := trodAll_cons hA
  obtain ⟨v1, vs1, d1, ds1, p1, q1, rfl, rfl, rfl, h1, r1⟩ := trodAll_cons r0
  obtain ⟨v2, vs2, d2, ds2, p2, q2, rfl, rfl, rfl, h2, r2⟩ := trodAll_cons r1
  obtain ⟨rfl, rfl, rfl⟩ := trodAll_nil r2
  obtain rfl : args = #[v0, v1, v2] := by cases args; simp_all
  obtain ⟨rfl, rfl⟩ := trodVars_none hV
  obtain ⟨a0, rfl, rfl, rfl⟩ := open_bool Oabg.underlying4 (hval 0 4 v0 rfl rfl) h0
  obtain ⟨a1, rfl, rfl, rfl, w1⟩ := open_string Oabg.underlying9 (hval 1 9 v1 rfl rfl) h1
  have z1 : a1.size ≤ 140737488351232 := by
    have := sized_string hsz (j := 1) (t := 9) rfl rfl
    simpa [reachBytes] using this
  obtain ⟨a2, rfl, rfl, rfl, w2⟩ := open_int Oabg.underlying3 (hval 2 3 v2 rfl rfl) h2
  have z2 := bounds_i64 w2
  clear hA0 hval0 hsz0 hsz
  refine (walk a0 a1 a2 z1 z2 W).mono fun e W' ⟨he, bel⟩ => ?_
  subst he
  exact ⟨_, rfl, _, _, _, [], _, [], hW', trodAll_mk1 (shut_bool Oabg.underlying4 _), (trodAll_cons_mk (shut_bool Oabg.underlying4 _) (trodAll_cons_mk (shut_string Oabg.underlying9 w1) (trodAll_cons_mk (shut_int Oabg.underlying3 w2) trodAll_mk0))), rfl, bel.frame _, fun h => by cases h⟩

theorem over : Rows.scanTextRow.holds Oabg.pinned (OpenSpec.ofChange Rows.scanTextSpec) :=
  OpenClaim.holds_of_wide 5 Oabg.f5 rfl rfl rfl rfl rfl rfl rfl ⟨rfl, rfl, rfl, rfl, rfl⟩ rfl rfl rfl rfl rfl (by kernel_rfl) Oabg.func5 (by kernel_rfl)
    (of_decide_eq_true (by kernel_rfl)) (by unfold Func.isWrapper; first | (rw [if_pos (by decide +kernel)]; kernel_rfl) | (rw [if_neg (by decide +kernel)]; exact ⟨rfl, rfl⟩))
    (fun os started H enc _ => lifted os started H enc)

theorem proved : Rows.ScanTextSaid :=
  over
end Go.Proofs.Ygcoab.scanText
