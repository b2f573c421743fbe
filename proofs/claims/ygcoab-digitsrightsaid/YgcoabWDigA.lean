import Derived.Test.YgcoabWRound
import Derived.Test.YgcoabWExpand
import Derived.Test.YgcoabWDigSp
namespace Go.Proofs.Ygcoab
open Go.RowKit

/-- a fresh expansion -/
def exCells (x y : Value) : Array Value := Array.replicate 1441 (.int .u8 0) ++ #[.int .i64 0, .int .i64 0, x, y]

theorem built112 (x y : Int) : Oabg.prog.built 112 [(3, .int .i64 x), (4, .int .i64 y)] = some (exCells (.int .i64 x) (.int .i64 y)) := by kernel_rfl

theorem zero112 (w : World) : (zeroValue 112).run Oabg.prog w = .ok (.agg (exCells (.int .i64 0) (.int .i64 0))) w :=
  (zero_of_info (P := Oabg.prog) (t := 112) (v := .agg (exCells (.int .i64 0) (.int .i64 0))) (n := 1445) (by kernel_rfl)).1 w

theorem build112 (x y : Int) (w : World) : (Instr.build 112 #[(3, .int .i64 x), (4, .int .i64 y)]).run Oabg.prog w = .ok (.agg (exCells (.int .i64 x) (.int .i64 y))) w :=
  run_build w 112 _ _ (built112 x y)

theorem exCells_size (x y : Value) : (exCells x y).size = 1445 := by
  unfold exCells
  rw [Array.size_append, Array.size_replicate]
  rfl

theorem exCells_at (x y : Value) : (∀ j, j < 1441 → (exCells x y)[j]? = some (.int .u8 0)) ∧ (exCells x y)[1441]? = some (.int .i64 0) ∧ (exCells x y)[1442]? = some (.int .i64 0) ∧ (exCells x y)[1443]? = some x ∧ (exCells x y)[1444]? = some y := by
  unfold exCells
  have hs : (Array.replicate 1441 (Value.int .u8 0)).size = 1441 := Array.size_replicate
  refine ⟨fun j hj => ?_, ?_, ?_, ?_, ?_⟩
  · rw [Array.getElem?_append_left (by omega), Array.getElem?_replicate, if_pos hj]
  · rw [Array.getElem?_append_right (by omega), hs]; rfl
  · rw [Array.getElem?_append_right (by omega), hs]; rfl
  · rw [Array.getElem?_append_right (by omega), hs]; rfl
  · rw [Array.getElem?_append_right (by omega), hs]; rfl

theorem exCells_ex (sig pr : Int) : ExC (exCells (.int .i64 sig) (.int .i64 pr)) (fun _ => 0) 0 0 sig pr :=
  have h := exCells_at (.int .i64 sig) (.int .i64 pr)
  ⟨exCells_size _ _, h.1, h.2.1, h.2.2.1, h.2.2.2.1, h.2.2.2.2⟩

theorem exCells_all (sig pr : Int) : (exCells (.int .i64 sig) (.int .i64 pr)).all (·.oneCell') = true := all_int fun j hj => by
  have h := exCells_at (.int .i64 sig) (.int .i64 pr)
  rw [exCells_size] at hj
  by_cases h1 : j < 1441
  · exact ⟨_, _, h.1 j h1⟩
  · have : j = 1441 ∨ j = 1442 ∨ j = 1443 ∨ j = 1444 := by omega
    rcases this with rfl | rfl | rfl | rfl
    · exact ⟨_, _, h.2.1⟩
    · exact ⟨_, _, h.2.2.1⟩
    · exact ⟨_, _, h.2.2.2.1⟩
    · exact ⟨_, _, h.2.2.2.2⟩

theorem store112 (sig pr : Int) (w : World) : (storeCells ⟨w.heap.size, 0, none⟩ (exCells (.int .i64 sig) (.int .i64 pr)).toList).run Oabg.prog (w.alloc (.cells (exCells (.int .i64 0) (.int .i64 0)) 112)) = .ok () (w.alloc (.cells (exCells (.int .i64 sig) (.int .i64 pr)) 112)) :=
  run_storeCells_new w 112 _ _ (by rw [exCells_size]; exact info112s) (by rw [exCells_size, exCells_size]) (exCells_all sig pr)

theorem exStart (sig pr : Int) (w : World) : ExAt w.heap.size (fun _ => 0) 0 0 sig pr (w.alloc (.cells (exCells (.int .i64 sig) (.int .i64 pr)) 112)) :=
  ⟨_, Blk.start w _ 112, exCells_ex sig pr⟩

set_option maxRecDepth 100000 in
set_option maxHeartbeats 2000000 in
theorem classX_yes {E M : Nat} (h : FOk E M) (x : Nat) (hx : x < 18446744073709551616) (prec : Nat) (hp : prec ≤ 2000) (w : World) :
    Calls Oabg.prog 78 #[fmtV E M, .int .u64 x, .int .u16 prec] w fun e w' => e = .returned (.int .i8 (clsF E M x)) ∧ Below w.heap.size w w' := by
  have h' := h
  have HU : Hid (∀ w : World, Calls Oabg.prog 66 #[.agg #[.int .u8 E, .int .u8 M], .int .u64 x] w fun e w' => e = .returned (.agg #[.bool (pNeg E M x), .int .i8 (clsF E M x), .int .i16 (pExp E M x), .int .u64 (pMan E M x)]) ∧ Below w.heap.size w w') := fun w => unpack_yes h x hx w
  have hgt : decide (2000 < (prec : Int)) = false := decide_eq_false (by omega)
  generalize clsF E M x = c at *
  generalize pNeg E M x = s at *
  generalize pMan E M x = m at *
  generalize pExp E M x = ee at *
  unfold fmtV
  go_enter Oabg.func78, Oabg.ntmps78
  have hB0 := fmt_start w E M
  go_wp2_with fail
  go_at_call 23
  refine (ok_yes h' _).mono ?_
  rintro e w1 ⟨rfl, hb⟩
  have hFB := fb_step hB0 hb
  obtain ⟨c0, c1⟩ := hFB.1.all
  clear hb hB0
  go_wp2_with fail
  go_at_call 66
  refine (HU.out _).mono ?_
  rintro e w2 ⟨rfl, hb⟩
  have hFB := fb_step hFB hb
  have HB : Hid (Below w.heap.size w w2) := hFB.2
  clear hb c0 c1 hFB
  have hfd : ∀ w : World, (Instr.field 99 (.agg #[.bool s, .int .i8 c, .int .i16 ee, .int .u64 m]) 1).run Oabg.prog w = .ok (.int .i8 c) w := fun _ => by kernel_rfl
  go_wp2
  go_ret
  exact ⟨rfl, HB.out⟩

set_option maxRecDepth 100000 in
set_option maxHeartbeats 2000000 in
theorem classX_big {E M : Nat} (h : FOk E M) (x prec : Nat) (hp : 2000 < prec) (w : World) :
    Calls Oabg.prog 78 #[fmtV E M, .int .u64 x, .int .u16 prec] w fun e w' => e = .returned (.int .i8 4) ∧ Below w.heap.size w w' := by
  have h' := h
  have hgt : decide (2000 < (prec : Int)) = true := decide_eq_true (by omega)
  unfold fmtV
  go_enter Oabg.func78, Oabg.ntmps78
  have hB0 := fmt_start w E M
  go_wp2_with fail
  go_at_call 23
  refine (ok_yes h' _).mono ?_
  rintro e w1 ⟨rfl, hb⟩
  have hFB := fb_step hB0 hb
  have HB : Hid (Below w.heap.size w w1) := hFB.2
  clear hb hB0 hFB
  go_wp2
  go_ret
  exact ⟨rfl, HB.out⟩

set_option maxRecDepth 100000 in
set_option maxHeartbeats 2000000 in
theorem classX_no {E M : Nat} (h : ¬ FOk E M) (x prec : Int) (w : World) :
    Calls Oabg.prog 78 #[fmtV E M, .int .u64 x, .int .u16 prec] w fun e w' => e = .returned (.int .i8 4) ∧ Below w.heap.size w w' := by
  have HN : Hid (∀ w : World, Calls Oabg.prog 23 #[.agg #[.int .u8 E, .int .u8 M]] w fun e w' => e = .returned (.bool false) ∧ Below w.heap.size w w') := fun w => ok_no h w
  clear h
  unfold fmtV
  go_enter Oabg.func78, Oabg.ntmps78
  have hB0 := fmt_start w E M
  go_wp2_with fail
  go_at_call 23
  refine (HN.out _).mono ?_
  rintro e w1 ⟨rfl, hb⟩
  have hFB := fb_step hB0 hb
  have HB : Hid (Below w.heap.size w w1) := hFB.2
  clear hb hB0 hFB
  go_wp2
  go_ret
  exact ⟨rfl, HB.out⟩

end Go.Proofs.Ygcoab
