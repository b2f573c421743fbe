import Derived.Test.YgcoabRows
import Derived.WalkKit
import Derived.ProofKit
import Derived.OpenShut
import Derived.ShutString
import Derived.SizedLaws
import Derived.ChangeOld
import Derived.Below
import Derived.Lib.SmallJoins
import Derived.Test.YgcoabWDright
namespace Go.Proofs.Ygcoab.digitsRight
open Go.ChangeShapes Go.WideShapes Go.ChangeAt Go.RowKit
open Go.ChangeMaps (open_string shut_string)
set_option linter.unusedVariables false

theorem own : ownKnob Oabg.prog.godebug = none := by kernel_rfl

theorem walk (a0 a0' a1 a2 : Int) (z0 : 0 ≤ a0 ∧ a0 ≤ 255) (z0' : 0 ≤ a0' ∧ a0' ≤ 255) (z1 : 0 ≤ a1 ∧ a1 ≤ 18446744073709551615) (z2 : 0 ≤ a2 ∧ a2 ≤ 65535) (w : World) :
    Calls Oabg.prog 8 #[.agg #[.int .u8 a0, .int .u8 a0'], .int .u64 a1, .int .u16 a2] w fun e w' => e = .returned (.bool true) ∧ Below w.heap.size w w' := by
  obtain ⟨E, rfl⟩ : ∃ E : Nat, a0 = E := ⟨a0.toNat, by omega⟩
  obtain ⟨M, rfl⟩ : ∃ M : Nat, a0' = M := ⟨a0'.toNat, by omega⟩
  obtain ⟨x, rfl⟩ : ∃ x : Nat, a1 = x := ⟨a1.toNat, by omega⟩
  obtain ⟨p, rfl⟩ : ∃ p : Nat, a2 = p := ⟨a2.toNat, by omega⟩
  exact dright_any E M x p (by omega) w


set_option maxRecDepth 100000 in
theorem lifted (os : Os) (started : os.Started) (H : Type) (enc : TypeId × Value → H) :
    ReturnsInHanded {} Oabg.checked os 8 .any (Rows.digitsRightSpec.pre6 enc Oabg.prog Oabg.f8 Rows.digitsRightRow.domain false) (Rows.digitsRightSpec.post enc Oabg.prog Oabg.f8 false true false false) := by
  refine returnsInHanded_of_change_sized (C := Oabg.checked) own started (by kernel_rfl) Oabg.func8
    (ChangeSpec.witness6 (enc := enc) (C := Oabg.checked) false ⟨#[], #[.agg #[.int .u8 0, .int .u8 0], .int .u64 0, .int .u16 0], []⟩ 8 (by kernel_rfl) (by kernel_rfl) (by kernel_rfl) (by kernel_rfl)) ?_
  intro W base args ds gs before hval0 hW hcnd hsz0 _
  have hval : ∀ (j : Nat) t v, Oabg.f8.params[j]? = some t → args[j]? = some v → Value.okWide Oabg.prog W .any base t v := hval0
  have hsz : (DataW.weightsEach Oabg.prog (Oabg.f8.params.toList ++ Rows.digitsRightSpec.plain.varTypes Oabg.prog) (ds ++ gs)).all (· ≤ reachBytes) = true := hsz0
  have hW' := hW
  obtain ⟨p, q, hA0, hV, rfl, hfz, hnd⟩ := hW
  have hA : DataW.TrodAll enc Oabg.prog W 0 (fun _ => true) true Oabg.f8.params.toList args.toList ds p := hA0
  rw [Oabg.params8] at hA hval hsz
  obtain ⟨v0, vs0, d0, ds0, p0, q0, hargs, rfl, rfl, h0, r0⟩ := trodAll_cons hA
  obtain ⟨v1, vs1, d1, ds1, p1, q1, rfl, rfl, rfl, h1, r1⟩ := trodAll_cons r0
  obtain ⟨v2, vs2, d2, ds2, p2, q2, rfl, rfl, rfl, h2, r2⟩ := trodAll_cons r1
  obtain ⟨rfl, rfl, rfl⟩ := trodAll_nil r2
  obtain rfl : args = #[v0, v1, v2] := by cases args; simp_all
  obtain ⟨rfl, rfl⟩ := trodVars_none hV
  obtain ⟨u0, w0', ya0, yb0, n0, rfl, rfl, rfl, ta0, tb0⟩ := Joins.open_agg2 Oabg.underlying39 (by kernel_rfl) (by kernel_rfl) (hval 0 39 v0 rfl rfl) h0
  obtain ⟨ea0, hea0, rfl, wa0⟩ := DataW.trod_int Oabg.underlying5 ta0
  obtain ⟨eb0, heb0, rfl, wb0⟩ := DataW.trod_int Oabg.underlying5 tb0
  obtain rfl : u0 = .int .u8 ea0 := by simpa using hea0
  obtain rfl : w0' = .int .u8 eb0 := by simpa using heb0
  have za0 := bounds_u8 wa0
  have zb0 := bounds_u8 wb0
  obtain ⟨a1, rfl, rfl, rfl, w1⟩ := open_int Oabg.underlying40 (hval 1 40 v1 rfl rfl) h1
  have z1 := bounds_u64 w1
  obtain ⟨a2, rfl, rfl, rfl, w2⟩ := open_int Oabg.underlying41 (hval 2 41 v2 rfl rfl) h2
  have z2 := bounds_u16 w2
  clear hA0 hval0 hsz0 hsz
  refine (walk ea0 eb0 a1 a2 za0 zb0 z1 z2 W).mono fun e W' ⟨he, bel⟩ => ?_
  subst he
  exact ⟨_, rfl, _, _, _, [], _, [], hW', trodAll_mk1 (shut_bool Oabg.underlying4 _), (trodAll_cons_mk (Joins.shut_agg2 (y0 := (.lit (.int .u8 ea0), [])) (y1 := (.lit (.int .u8 eb0), [])) Oabg.underlying39 (by kernel_rfl) (by kernel_rfl) ⟨1, trod_int_mk 0 Oabg.underlying5 wa0⟩ ⟨1, trod_int_mk 0 Oabg.underlying5 wb0⟩) (trodAll_cons_mk (shut_int Oabg.underlying40 w1) (trodAll_cons_mk (shut_int Oabg.underlying41 w2) trodAll_mk0))), rfl, bel.frame _, fun h => by cases h⟩

theorem over : Rows.digitsRightRow.holds Oabg.pinned (OpenSpec.ofChange Rows.digitsRightSpec) :=
  OpenClaim.holds_of_wide 8 Oabg.f8 rfl rfl rfl rfl rfl rfl rfl ⟨rfl, rfl, rfl, rfl, rfl⟩ rfl rfl rfl rfl rfl (by kernel_rfl) Oabg.func8 (by kernel_rfl)
    (of_decide_eq_true (by kernel_rfl)) (by unfold Func.isWrapper; first | (rw [if_pos (by decide +kernel)]; kernel_rfl) | (rw [if_neg (by decide +kernel)]; exact ⟨rfl, rfl⟩))
    (fun os started H enc _ => lifted os started H enc)

theorem proved : Rows.DigitsRightSaid :=
  over
end Go.Proofs.Ygcoab.digitsRight
