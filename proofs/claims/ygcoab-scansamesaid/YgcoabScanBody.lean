import Derived.Test.YgcoabScanAt
import Derived.Test.YgcoabWFinish
import Derived.WalkMore
import Derived.ScopeJumps
namespace Go.Proofs.Ygcoab
open Go.RowKit

theorem ofInt_i32 (a : Nat) (h : a < 4294967296) : (BitVec.ofInt 32 (a : Int)).toNat = a := by
  simp; omega

theorem i32_or32 (r : Nat) (h : r < 2147483648) : bits .or .i32 (r : Int) 32 = ((r ||| 32 : Nat) : Int) := by
  have hx : r ||| 32 < 2 ^ 31 := Nat.or_lt_two_pow (by omega) (by decide)
  show IntKind.i32.wrap ((BitVec.ofInt 32 (r : Int) ||| BitVec.ofInt 32 ((32 : Nat) : Int)).toNat : Int) = _
  rw [BitVec.toNat_or, ofInt_i32 r (by omega), ofInt_i32 32 (by omega)]
  simp [IntKind.wrap, IntKind.signed, IntKind.bits]
  omega

theorem or32_small : ∀ r, r < 128 → ∀ X, X < 128 → 96 ≤ X → (r ||| 32 = X ↔ (r = X ∨ r + 32 = X)) := by decide +kernel

theorem or32_iff (r X : Nat) (h1 : 96 ≤ X) (h2 : X < 128) : r ||| 32 = X ↔ (r = X ∨ r + 32 = X) := by
  by_cases h : r < 128
  · exact or32_small r h X h2 h1
  · have := Nat.left_le_or (n := r) (m := 32)
    omega

theorem bits_yes {r X : Nat} (hr : r ≤ 2147483647) (h1 : 96 ≤ X) (h2 : X < 128) (h : r = X ∨ r + 32 = X) : (bits BinOp.or IntKind.i32 (r : Int) 32 == (X : Int)) = true := by
  rw [i32_or32 r (by omega), (or32_iff r X h1 h2).2 h]; simp

theorem bits_no {r X : Nat} (hr : r ≤ 2147483647) (h1 : 96 ≤ X) (h2 : X < 128) (h : ¬ (r = X ∨ r + 32 = X)) : (bits BinOp.or IntKind.i32 (r : Int) 32 == (X : Int)) = false := by
  rw [i32_or32 r (by omega), beq_eq_false_iff_ne]
  intro e
  exact h ((or32_iff r X h1 h2).1 (by omega))

theorem word_ge (n i : Nat) (h : i < (wordB n).size) : 96 ≤ bAt (wordB n) i := by
  unfold wordB at *
  split at h
  · rename_i e; rw [if_pos e]
    rcases i with _ | _ | _ | _ | _ | _ | _ | _ | i <;> first | decide | (exfalso; have : i + 8 < 8 := h; omega)
  · rename_i e; rw [if_neg e]
    split at h
    · rename_i e2; rw [if_pos e2]
      rcases i with _ | _ | _ | i <;> first | decide | (exfalso; have : i + 3 < 3 := h; omega)
    · exfalso; have : i < 0 := h; omega

/-- Scan's answer, stored -/
theorem wrong_below {w W : World} {s : ByteArray} {p : Nat} {neg en : Bool} {ds : List Int} {fr ex : Nat} {v : Value} {v0 v1 v2 v3 v4 v5 : Value} (h : ScanAt w s p neg en ds fr ex v W) :
    Below w.heap.size w ((((((W.setCell ⟨w.heap.size, 0, none⟩ v0).setCell ⟨w.heap.size, 1, none⟩ v1).setCell ⟨w.heap.size, 2, none⟩ v2).setCell ⟨w.heap.size, 3, none⟩ v3).setCell ⟨w.heap.size, 4, none⟩ v4).setCell ⟨w.heap.size, 5, none⟩ v5) :=
  below_set6 h.below (Nat.le_refl _)

theorem exit_below {w W w1 : World} {s : ByteArray} {p : Nat} {neg en : Bool} {ds : List Int} {fr ex : Nat} {v : Value} {v0 v1 v2 v3 v4 v5 : Value} (h : ScanAt w s p neg en ds fr ex v W) (hb : Below W.heap.size W w1) :
    Below w.heap.size w ((((((w1.setCell ⟨w.heap.size, 0, none⟩ v0).setCell ⟨w.heap.size, 1, none⟩ v1).setCell ⟨w.heap.size, 2, none⟩ v2).setCell ⟨w.heap.size, 3, none⟩ v3).setCell ⟨w.heap.size, 4, none⟩ v4).setCell ⟨w.heap.size, 5, none⟩ v5) :=
  below_set6 (h.below.trans (hb.mono (by have := h.size; omega))) (Nat.le_refl _)

set_option maxHeartbeats 400000 in
set_option maxRecDepth 100000 in
theorem scan_big (s : ByteArray) (w : World) (hs : 1024 < s.size) (hl : s.size ≤ 140737488351232) :
    Calls Oabg.prog 18 #[.string s] w fun e w' => e = .returned (scV Sd.tooBig) ∧ Below w.heap.size w w' := by
  go_enter Oabg.func18, Oabg.ntmps18
  go_wp2
  go_step3
  go_wp2
  rw [Exit.noGoto_ret]
  exact bodyPost_ret (v := scV Sd.tooBig) (by simp [results, Oabg.results18, go_sem]; rfl) rfl ⟨rfl, (Below.refl _ _).alloc (Nat.le_refl _) _⟩

/-- the first loop of a text -/
def firstLoop : Code → Option Code
  | .loop c => some c
  | .seq a b => match firstLoop a with
    | some c => some c
    | none => firstLoop b
  | .block _ c => firstLoop c
  | .scope c => firstLoop c
  | .cond _ a b => match firstLoop a with
    | some c => some c
    | none => firstLoop b
  | _ => none

/-- what a round that goes on owes -/
def SNext (s : ByteArray) (w wr : World) (Q : Exit → Act → World → Prop) (c1 c3 c10 c11 c12 c13 c14 c15 c16 c167 c168 c169 c170 c171 c172 c173 : Value) : Prop :=
  ∀ (v5 v6 v7 v8 v9 v18 v19 v20 v21 v22 v23 v24 v25 v26 v27 v28 v29 v30 v31 v32 v33 v34 v35 v36 v37 v38 v39 v40 v41 v42 v43 v44 v45 v46 v47 v48 v49 v50 v51 v52 v53 v54 v55 v56 v57 v58 v59 v60 v61 v62 v63 v64 v65 v66 v67 v68 v69 v70 v71 v72 v73 v74 v75 v76 v77 v78 v79 v80 v81 v82 v83 v84 v85 v86 v87 v88 v89 v90 v91 v92 v93 v94 v95 v96 v97 v98 v99 v100 v101 v102 v103 v104 v105 v106 v107 v108 v109 v110 v111 v112 v113 v114 v115 v116 v117 v118 v119 v120 v121 v122 v123 v124 v125 v126 v127 v128 v129 v130 v131 v132 v133 v134 v135 v136 v137 v138 v139 v140 v141 v142 v143 v144 v145 v146 v147 v148 v149 v150 v151 v152 v153 v154 v155 v156 v157 v158 v159 v160 v161 v162 v163 v164 v165 v166 : Value) (W' : World), SRel w s v5 v6 v7 W' → smu w s W' < smu w s wr → Q .normal ⟨#[.string s, c1, .pointer (some ⟨w.heap.size, 0, none⟩), c3, .pointer (some ⟨w.heap.size + 1 + 1, 0, none⟩), v5, v6, v7, v8, v9, c10, c11, c12, c13, c14, c15, c16, .pointer (some ⟨w.heap.size + 1 + 1 + 1, 0, none⟩), v18, v19, v20, v21, v22, v23, v24, v25, v26, v27, v28, v29, v30, v31, v32, v33, v34, v35, v36, v37, v38, v39, v40, v41, v42, v43, v44, v45, v46, v47, v48, v49, v50, v51, v52, v53, v54, v55, v56, v57, v58, v59, v60, v61, v62, v63, v64, v65, v66, v67, v68, v69, v70, v71, v72, v73, v74, v75, v76, v77, v78, v79, v80, v81, v82, v83, v84, v85, v86, v87, v88, v89, v90, v91, v92, v93, v94, v95, v96, v97, v98, v99, v100, v101, v102, v103, v104, v105, v106, v107, v108, v109, v110, v111, v112, v113, v114, v115, v116, v117, v118, v119, v120, v121, v122, v123, v124, v125, v126, v127, v128, v129, v130, v131, v132, v133, v134, v135, v136, v137, v138, v139, v140, v141, v142, v143, v144, v145, v146, v147, v148, v149, v150, v151, v152, v153, v154, v155, v156, v157, v158, v159, v160, v161, v162, v163, v164, v165, v166, c167, c168, c169, c170, c171, c172, c173], []⟩ W'

/-- what a round that goes wrong owes -/
def SRet (s : ByteArray) (w : World) (Q : Exit → Act → World → Prop) : Prop :=
  ∀ (a : Act) (W' : World), bodyPost Oabg.prog Oabg.f18 (fun e w' => ∃ R, e = .returned (scV R) ∧ ScanIs s R ∧ Below w.heap.size w w') .ret a W' → Q .ret a W'

end Go.Proofs.Ygcoab
