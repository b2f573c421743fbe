import Derived.Test.YgcoabWText
namespace Go.Proofs.Ygcoab
open Go.RowKit

theorem info5 : (Oabg.prog.info? 5).map (fun i => (i.zero, i.size, i.bytes)) = some (some (.int .u8 0), 1, 1) := by kernel_rfl

set_option maxHeartbeats 400000 in
set_option maxRecDepth 100000 in
theorem textF_none (neg : Bool) (s : ByteArray) (p : Nat) (w : World) (h : s.size = 0 ∨ 2000 < p) (hp : p ≤ 65535) :
    Calls Oabg.prog 37 #[.bool neg, .string s, .int .u16 p] w fun e w' => e = .returned (.string ByteArray.empty) ∧ w' = w := by
  by_cases h0 : s.size = 0
  · have he := isEmpty_true h0
    clear h h0
    go_enter Oabg.func37, Oabg.ntmps37
    go_wp2
    go_ret
    exact ⟨rfl, rfl⟩
  · have he : s.toList.isEmpty = false := isEmpty_false (by omega)
    have hq : 2000 < p := by omega
    clear h h0
    go_enter Oabg.func37, Oabg.ntmps37
    go_wp2
    go_ret
    exact ⟨rfl, rfl⟩

/-- the loop's state: k signs of the number are laid behind the sign sg -/
def FAt (w : World) (s : ByteArray) (pad cut cap : Nat) (sg : List Int) (v i : Value) (wr : World) : Prop :=
  ∃ (k : Nat) (ys : List Int), k ≤ s.size + pad ∧ i = .int .i64 k ∧ v = .slice (some ⟨w.heap.size, 0, none⟩) ys.length cap ∧
    wr.ownsRow w.heap.size 5 1 (.slice (some ⟨w.heap.size, 0, none⟩) ys.length cap) ys.length (ys.map (Value.int .u8)) ∧ Below w.heap.size w wr ∧ ys = sg ++ fL s pad cut k

theorem ownsRow_push {w w1 w2 : World} {B cap : Nat} {xs : List Int} {x : Int} (hb : Below B w w1) (hB : B ≤ w.heap.size)
    (h2 : w2.ownsRow B 5 1 (.slice (some ⟨B, 0, none⟩) (xs.length + 1) cap) (xs.length + 1) (xs.map (Value.int .u8) ++ [.int .u8 x]))
    (hg : (w1.alloc (.cells #[.int .u8 x] 5)).grownBy w2 (some B)) :
    w2.ownsRow B 5 1 (.slice (some ⟨B, 0, none⟩) (xs ++ [x]).length cap) (xs ++ [x]).length ((xs ++ [x]).map (Value.int .u8)) ∧ Below B w w2 := by
  refine ⟨by simpa using h2, ?_⟩
  have h3 : Below B w (w1.alloc (.cells #[.int .u8 x] 5)) := hb.alloc (by have := hb.size; omega) _
  exact h3.grown hg (by have := hb.size; simp; omega) (by intro k hk; simp at hk; omega)

theorem ret_str {a b : ByteArray} (h : a = b) : Ending.returned (.string a) = .returned (.string b) := by rw [h]

theorem one_u8 (x : Int) : ∀ u ∈ [Value.int .u8 x], u.oneCell' = true := by
  intro u hu; simp at hu; subst hu; rfl

theorem owned_cells {w : World} {B cap : Nat} {ys : List Int} (h : w.ownsRow B 5 1 (.slice (some ⟨B, 0, none⟩) ys.length cap) ys.length (ys.map (Value.int .u8))) :
    ∀ i, i < ys.length → w.cell? ⟨B, 0 + i, none⟩ = some (.int .u8 (ys.getD i 0)) := by
  intro i hi
  rw [Nat.zero_add, h.cellAt i (by omega)]
  simp [List.getElem?_eq_getElem hi]

theorem FAt_one {w wr w2 : World} {s : ByteArray} {pad cut cap k : Nat} {sg ys : List Int} {x : Int} (hlt : k < s.size + pad) (hb : Below w.heap.size w wr) (hy : ys = sg ++ fL s pad cut k)
    (h2 : w2.ownsRow w.heap.size 5 1 (.slice (some ⟨w.heap.size, 0, none⟩) (ys.length + 1) cap) (ys.length + 1) (ys.map (Value.int .u8) ++ [.int .u8 x]))
    (hg : (wr.alloc (.cells #[.int .u8 x] 5)).grownBy w2 (some w.heap.size)) (hx : fL s pad cut (k + 1) = fL s pad cut k ++ [x]) :
    FAt w s pad cut cap sg (.slice (some ⟨w.heap.size, 0, none⟩) (ys.length + 1) cap) (.int .i64 ((k : Int) + 1)) w2 := by
  obtain ⟨q1, q2⟩ := ownsRow_push hb (Nat.le_refl _) h2 hg
  exact ⟨k + 1, ys ++ [x], by omega, by go_num, by simp, q1, q2, by rw [hx, hy, List.append_assoc]⟩

theorem FAt_two {w wr w2 w3 : World} {s : ByteArray} {pad cut cap k : Nat} {sg ys : List Int} {x y : Int} (hlt : k < s.size + pad) (hb : Below w.heap.size w wr) (hy : ys = sg ++ fL s pad cut k)
    (h2 : w2.ownsRow w.heap.size 5 1 (.slice (some ⟨w.heap.size, 0, none⟩) (ys.length + 1) cap) (ys.length + 1) (ys.map (Value.int .u8) ++ [.int .u8 x]))
    (hg : (wr.alloc (.cells #[.int .u8 x] 5)).grownBy w2 (some w.heap.size))
    (h3 : w3.ownsRow w.heap.size 5 1 (.slice (some ⟨w.heap.size, 0, none⟩) (ys.length + 1 + 1) cap) (ys.length + 1 + 1) (ys.map (Value.int .u8) ++ [.int .u8 x] ++ [.int .u8 y]))
    (hg3 : (w2.alloc (.cells #[.int .u8 y] 5)).grownBy w3 (some w.heap.size)) (hx : fL s pad cut (k + 1) = fL s pad cut k ++ [x] ++ [y]) :
    FAt w s pad cut cap sg (.slice (some ⟨w.heap.size, 0, none⟩) (ys.length + 1 + 1) cap) (.int .i64 ((k : Int) + 1)) w3 := by
  obtain ⟨q1, q2⟩ := ownsRow_push hb (Nat.le_refl _) h2 hg
  obtain ⟨r1, r2⟩ := ownsRow_push (xs := ys ++ [x]) (x := y) (cap := cap) q2 (Nat.le_refl _) (by simpa using h3) hg3
  exact ⟨k + 1, ys ++ [x] ++ [y], by omega, by go_num, by simp, r1, r2, by rw [hx, hy]; simp⟩

theorem fL_pad {s : ByteArray} {pad cut k : Nat} (h : k < pad) (hc : k ≠ cut) : fL s pad cut (k + 1) = fL s pad cut k ++ [48] := by simp [fL, h, hc]
theorem fL_padc {s : ByteArray} {pad cut k : Nat} (h : k < pad) (hc : k = cut) : fL s pad cut (k + 1) = fL s pad cut k ++ [46] ++ [48] := by subst hc; simp [fL, h]
theorem fL_dig {s : ByteArray} {pad cut k : Nat} (h : ¬ k < pad) (hc : k ≠ cut) : fL s pad cut (k + 1) = fL s pad cut k ++ [(bAt s (k - pad) : Int)] := by simp [fL, h, hc]
theorem fL_digc {s : ByteArray} {pad cut k : Nat} (h : ¬ k < pad) (hc : k = cut) : fL s pad cut (k + 1) = fL s pad cut k ++ [46] ++ [(bAt s (k - pad) : Int)] := by subst hc; simp [fL, h]

set_option maxHeartbeats 1000000 in
set_option maxRecDepth 100000 in
theorem textF_pp (s : ByteArray) (p pad cut : Nat) (w : World) (hs : s.size ≤ 140737488351232) (h0 : 0 < s.size) (hp : p ≤ 2000) (hc : s.size < p + 1) (hpad : pad = p + 1 - s.size) (hcut : cut + p = s.size + pad) :
    Calls Oabg.prog 37 #[.bool false, .string s, .int .u16 p] w fun e w' => e = .returned (.string (strOfNums ([] ++ fL s pad cut (s.size + pad)))) ∧ Below w.heap.size w w' := by
  have he : s.toList.isEmpty = false := isEmpty_false h0
  obtain ⟨i0, hi, hz0, hz1, hz2⟩ := info_parts info5
  have e1 : (p : Int) + 1 - (s.size : Int) = (pad : Int) := by omega
  have e2 : (s.size : Int) + (pad : Int) - (p : Int) = (cut : Int) := by omega
  have hpl : pad ≤ 2000 := by omega
  have hcl : cut ≤ s.size + pad := by omega
  clear hpad hcut
  go_enter Oabg.func37, Oabg.ntmps37
  go_wp2_with (at_make; refine wpList_make_own _ rfl _ _ 83 rfl w.heap.size 5 i0 (.int .u8 0) 1 Oabg.underlying83 hi hz0 hz1 .i64 .i64 _ (s.size + pad + 2) rfl rfl (by omega) (by rw [hz2]; omega) (by unfold maxLen; omega) (Nat.le_refl _) ?_; intro w1 hown hgr)
  clear e1 e2
  go_loopw [10, 11] (fun v i wr => FAt w s pad cut (s.size + pad + 2) [] v i wr) (fun _ i _ => s.size + pad - (intOf i).toNat)
  case atStart => exact ⟨0, [], by omega, rfl, rfl, by simpa using hown, (Below.refl _ _).grown hgr (Nat.le_refl _) (by intro k hk; simp at hk), by simp [fL]⟩
  case round =>
    obtain ⟨k, ys, hk, rfl, rfl, ho, hb, hy⟩ := hrel
    have HY : Hid (ys = [] ++ fL s pad cut k) := hy
    have hyl : ys.length ≤ k + 1 + (if cut < k then 1 else 0) := by rw [hy]; simp [fL_len]
    clear hy hown hgr
    by_cases hlt : k < s.size + pad
    · by_cases hpk : k < pad
      · by_cases hck : k = cut
        · have hck' : ((k : Int) == (cut : Int)) = true := by simp; omega
          have hyl' : ys.length ≤ k + 1 := by rw [if_neg (by omega)] at hyl; omega
          have HCK : Hid (k = cut) := hck
          clear hyl hck
          go_wp2_with (first | (at_builtin; refine wpList_append_fits _ rfl (.tmp 53) (.tmp 54) 83 rfl w.heap.size 5 i0 1 Oabg.underlying83 hi hz1 w.heap.size _ _ _ rfl (ho.alloc _) ⟨_, 0, none⟩ 1 1 [.int .u8 46] rfl rfl (cell_one_new _ _ _) (one_u8 _) (by omega) ?_; intro w2 hw2 hgw2) | (at_builtin; refine wpList_append_fits _ rfl (.tmp 59) (.tmp 60) 83 rfl w.heap.size 5 i0 1 Oabg.underlying83 hi hz1 w.heap.size _ _ _ rfl (hw2.alloc _) ⟨_, 0, none⟩ 1 1 [.int .u8 48] rfl rfl (cell_one_new _ _ _) (one_u8 _) (by omega) ?_; intro w3 hw3 hgw3))
          go_roundw
          case rel => exact FAt_two (by omega) hb HY.out hw2 hgw2 hw3 hgw3 (fL_padc hpk HCK.out)
          case measure => simp [intOf]; omega
        · have hck' : ((k : Int) == (cut : Int)) = false := by rw [beq_eq_false_iff_ne]; omega
          have hyl' : ys.length ≤ k + 2 := by split at hyl <;> omega
          have HCK : Hid (k ≠ cut) := hck
          clear hyl hck
          go_wp2_with (at_builtin; refine wpList_append_fits _ rfl (.tmp 59) (.tmp 60) 83 rfl w.heap.size 5 i0 1 Oabg.underlying83 hi hz1 w.heap.size _ _ _ rfl (ho.alloc _) ⟨_, 0, none⟩ 1 1 [.int .u8 48] rfl rfl (cell_one_new _ _ _) (one_u8 _) (by omega) ?_; intro w2 hw2 hgw2)
          go_roundw
          case rel => exact FAt_one (by omega) hb HY.out hw2 hgw2 (fL_pad hpk HCK.out)
          case measure => simp [intOf]; omega
      · by_cases hck : k = cut
        · have hck' : ((k : Int) == (cut : Int)) = true := by simp; omega
          have hyl' : ys.length ≤ k + 1 := by rw [if_neg (by omega)] at hyl; omega
          have HCK : Hid (k = cut) := hck
          clear hyl hck
          have hbk := bAt_eq s (k - pad) (by omega)
          have hbl := bAt_lt s (k - pad)
          go_wp2_with (first | (at_builtin; refine wpList_append_fits _ rfl (.tmp 53) (.tmp 54) 83 rfl w.heap.size 5 i0 1 Oabg.underlying83 hi hz1 w.heap.size _ _ _ rfl (ho.alloc _) ⟨_, 0, none⟩ 1 1 [.int .u8 46] rfl rfl (cell_one_new _ _ _) (one_u8 _) (by omega) ?_; intro w2 hw2 hgw2) | (at_builtin; refine wpList_append_fits _ rfl (.tmp 62) (.tmp 68) 83 rfl w.heap.size 5 i0 1 Oabg.underlying83 hi hz1 w.heap.size _ _ _ rfl (hw2.alloc _) ⟨_, 0, none⟩ 1 1 [.int .u8 (bAt s (k - pad) : Int)] rfl rfl (cell_one_new _ _ _) (one_u8 _) (by omega) ?_; intro w3 hw3 hgw3))
          go_roundw
          case rel => exact FAt_two (by omega) hb HY.out hw2 hgw2 hw3 hgw3 (fL_digc (by omega) HCK.out)
          case measure => simp [intOf]; omega
        · have hck' : ((k : Int) == (cut : Int)) = false := by rw [beq_eq_false_iff_ne]; omega
          have hyl' : ys.length ≤ k + 2 := by split at hyl <;> omega
          have HCK : Hid (k ≠ cut) := hck
          clear hyl hck
          have hbk := bAt_eq s (k - pad) (by omega)
          have hbl := bAt_lt s (k - pad)
          go_wp2_with (at_builtin; refine wpList_append_fits _ rfl (.tmp 62) (.tmp 68) 83 rfl w.heap.size 5 i0 1 Oabg.underlying83 hi hz1 w.heap.size _ _ _ rfl (ho.alloc _) ⟨_, 0, none⟩ 1 1 [.int .u8 (bAt s (k - pad) : Int)] rfl rfl (cell_one_new _ _ _) (one_u8 _) (by omega) ?_; intro w2 hw2 hgw2)
          go_roundw
          case rel => exact FAt_one (by omega) hb HY.out hw2 hgw2 (fL_dig (by omega) HCK.out)
          case measure => simp [intOf]; omega
    · have hcv := string_of w.heap.size 0 ys ys.length (s.size + pad + 2) wr rfl (owned_cells ho)
      clear hyl
      go_wp2
      go_ret
      exact ⟨ret_str (by rw [HY.out, show k = s.size + pad from by omega]; rfl), hb⟩

set_option maxHeartbeats 1000000 in
set_option maxRecDepth 100000 in
theorem textF_np (s : ByteArray) (p pad cut : Nat) (w : World) (hs : s.size ≤ 140737488351232) (h0 : 0 < s.size) (hp : p ≤ 2000) (hc : s.size < p + 1) (hpad : pad = p + 1 - s.size) (hcut : cut + p = s.size + pad) :
    Calls Oabg.prog 37 #[.bool true, .string s, .int .u16 p] w fun e w' => e = .returned (.string (strOfNums ([45] ++ fL s pad cut (s.size + pad)))) ∧ Below w.heap.size w w' := by
  have he : s.toList.isEmpty = false := isEmpty_false h0
  obtain ⟨i0, hi, hz0, hz1, hz2⟩ := info_parts info5
  have e1 : (p : Int) + 1 - (s.size : Int) = (pad : Int) := by omega
  have e2 : (s.size : Int) + (pad : Int) - (p : Int) = (cut : Int) := by omega
  have hpl : pad ≤ 2000 := by omega
  have hcl : cut ≤ s.size + pad := by omega
  clear hpad hcut
  go_enter Oabg.func37, Oabg.ntmps37
  go_wp2_with (first | (at_make; refine wpList_make_own _ rfl _ _ 83 rfl w.heap.size 5 i0 (.int .u8 0) 1 Oabg.underlying83 hi hz0 hz1 .i64 .i64 _ (s.size + pad + 2) rfl rfl (by omega) (by rw [hz2]; omega) (by unfold maxLen; omega) (Nat.le_refl _) ?_; intro w1 hown hgr) | (at_builtin; refine wpList_append_fits _ rfl (.tmp 39) (.tmp 40) 83 rfl w.heap.size 5 i0 1 Oabg.underlying83 hi hz1 w.heap.size _ _ _ rfl (hown.alloc _) ⟨_, 0, none⟩ 1 1 [.int .u8 45] rfl rfl (cell_one_new _ _ _) (one_u8 _) (by omega) ?_; intro w0 hw0 hgw0))
  clear e1 e2
  go_loopw [10, 11] (fun v i wr => FAt w s pad cut (s.size + pad + 2) [45] v i wr) (fun _ i _ => s.size + pad - (intOf i).toNat)
  case atStart => exact ⟨0, [45], by omega, rfl, rfl, by simpa using hw0, (((Below.refl _ _).grown hgr (Nat.le_refl _) (by intro k hk; simp at hk)).alloc hgr.size _).grown hgw0 (by have := hgr.size; simp; omega) (by intro k hk; simp at hk; omega), by simp [fL]⟩
  case round =>
    obtain ⟨k, ys, hk, rfl, rfl, ho, hb, hy⟩ := hrel
    have HY : Hid (ys = [45] ++ fL s pad cut k) := hy
    have hyl : ys.length ≤ k + 1 + (if cut < k then 1 else 0) := by rw [hy]; simp [fL_len]; omega
    clear hy hown hgr hw0 hgw0
    by_cases hlt : k < s.size + pad
    · by_cases hpk : k < pad
      · by_cases hck : k = cut
        · have hck' : ((k : Int) == (cut : Int)) = true := by simp; omega
          have hyl' : ys.length ≤ k + 1 := by rw [if_neg (by omega)] at hyl; omega
          have HCK : Hid (k = cut) := hck
          clear hyl hck
          go_wp2_with (first | (at_builtin; refine wpList_append_fits _ rfl (.tmp 53) (.tmp 54) 83 rfl w.heap.size 5 i0 1 Oabg.underlying83 hi hz1 w.heap.size _ _ _ rfl (ho.alloc _) ⟨_, 0, none⟩ 1 1 [.int .u8 46] rfl rfl (cell_one_new _ _ _) (one_u8 _) (by omega) ?_; intro w2 hw2 hgw2) | (at_builtin; refine wpList_append_fits _ rfl (.tmp 59) (.tmp 60) 83 rfl w.heap.size 5 i0 1 Oabg.underlying83 hi hz1 w.heap.size _ _ _ rfl (hw2.alloc _) ⟨_, 0, none⟩ 1 1 [.int .u8 48] rfl rfl (cell_one_new _ _ _) (one_u8 _) (by omega) ?_; intro w3 hw3 hgw3))
          go_roundw
          case rel => exact FAt_two (by omega) hb HY.out hw2 hgw2 hw3 hgw3 (fL_padc hpk HCK.out)
          case measure => simp [intOf]; omega
        · have hck' : ((k : Int) == (cut : Int)) = false := by rw [beq_eq_false_iff_ne]; omega
          have hyl' : ys.length ≤ k + 2 := by split at hyl <;> omega
          have HCK : Hid (k ≠ cut) := hck
          clear hyl hck
          go_wp2_with (at_builtin; refine wpList_append_fits _ rfl (.tmp 59) (.tmp 60) 83 rfl w.heap.size 5 i0 1 Oabg.underlying83 hi hz1 w.heap.size _ _ _ rfl (ho.alloc _) ⟨_, 0, none⟩ 1 1 [.int .u8 48] rfl rfl (cell_one_new _ _ _) (one_u8 _) (by omega) ?_; intro w2 hw2 hgw2)
          go_roundw
          case rel => exact FAt_one (by omega) hb HY.out hw2 hgw2 (fL_pad hpk HCK.out)
          case measure => simp [intOf]; omega
      · by_cases hck : k = cut
        · have hck' : ((k : Int) == (cut : Int)) = true := by simp; omega
          have hyl' : ys.length ≤ k + 1 := by rw [if_neg (by omega)] at hyl; omega
          have HCK : Hid (k = cut) := hck
          clear hyl hck
          have hbk := bAt_eq s (k - pad) (by omega)
          have hbl := bAt_lt s (k - pad)
          go_wp2_with (first | (at_builtin; refine wpList_append_fits _ rfl (.tmp 53) (.tmp 54) 83 rfl w.heap.size 5 i0 1 Oabg.underlying83 hi hz1 w.heap.size _ _ _ rfl (ho.alloc _) ⟨_, 0, none⟩ 1 1 [.int .u8 46] rfl rfl (cell_one_new _ _ _) (one_u8 _) (by omega) ?_; intro w2 hw2 hgw2) | (at_builtin; refine wpList_append_fits _ rfl (.tmp 62) (.tmp 68) 83 rfl w.heap.size 5 i0 1 Oabg.underlying83 hi hz1 w.heap.size _ _ _ rfl (hw2.alloc _) ⟨_, 0, none⟩ 1 1 [.int .u8 (bAt s (k - pad) : Int)] rfl rfl (cell_one_new _ _ _) (one_u8 _) (by omega) ?_; intro w3 hw3 hgw3))
          go_roundw
          case rel => exact FAt_two (by omega) hb HY.out hw2 hgw2 hw3 hgw3 (fL_digc (by omega) HCK.out)
          case measure => simp [intOf]; omega
        · have hck' : ((k : Int) == (cut : Int)) = false := by rw [beq_eq_false_iff_ne]; omega
          have hyl' : ys.length ≤ k + 2 := by split at hyl <;> omega
          have HCK : Hid (k ≠ cut) := hck
          clear hyl hck
          have hbk := bAt_eq s (k - pad) (by omega)
          have hbl := bAt_lt s (k - pad)
          go_wp2_with (at_builtin; refine wpList_append_fits _ rfl (.tmp 62) (.tmp 68) 83 rfl w.heap.size 5 i0 1 Oabg.underlying83 hi hz1 w.heap.size _ _ _ rfl (ho.alloc _) ⟨_, 0, none⟩ 1 1 [.int .u8 (bAt s (k - pad) : Int)] rfl rfl (cell_one_new _ _ _) (one_u8 _) (by omega) ?_; intro w2 hw2 hgw2)
          go_roundw
          case rel => exact FAt_one (by omega) hb HY.out hw2 hgw2 (fL_dig (by omega) HCK.out)
          case measure => simp [intOf]; omega
    · have hcv := string_of w.heap.size 0 ys ys.length (s.size + pad + 2) wr rfl (owned_cells ho)
      clear hyl
      go_wp2
      go_ret
      exact ⟨ret_str (by rw [HY.out, show k = s.size + pad from by omega]; rfl), hb⟩

set_option maxHeartbeats 1000000 in
set_option maxRecDepth 100000 in
theorem textF_p0 (s : ByteArray) (p cut : Nat) (w : World) (hs : s.size ≤ 140737488351232) (h0 : 0 < s.size) (hp : p ≤ 2000) (hc : p + 1 ≤ s.size) (hcut : cut + p = s.size) :
    Calls Oabg.prog 37 #[.bool false, .string s, .int .u16 p] w fun e w' => e = .returned (.string (strOfNums ([] ++ fL s 0 cut (s.size)))) ∧ Below w.heap.size w w' := by
  have he : s.toList.isEmpty = false := isEmpty_false h0
  obtain ⟨i0, hi, hz0, hz1, hz2⟩ := info_parts info5
  have e2 : (s.size : Int) - (p : Int) = (cut : Int) := by omega
  have hcl : cut ≤ s.size := by omega
  clear hcut
  go_enter Oabg.func37, Oabg.ntmps37
  go_wp2_with (at_make; refine wpList_make_own _ rfl _ _ 83 rfl w.heap.size 5 i0 (.int .u8 0) 1 Oabg.underlying83 hi hz0 hz1 .i64 .i64 _ (s.size + 2) rfl rfl (by omega) (by rw [hz2]; omega) (by unfold maxLen; omega) (Nat.le_refl _) ?_; intro w1 hown hgr)
  clear e2
  go_loopw [10, 11] (fun v i wr => FAt w s 0 cut (s.size + 2) [] v i wr) (fun _ i _ => s.size - (intOf i).toNat)
  case atStart => exact ⟨0, [], by omega, rfl, rfl, by simpa using hown, (Below.refl _ _).grown hgr (Nat.le_refl _) (by intro k hk; simp at hk), by simp [fL]⟩
  case round =>
    obtain ⟨k, ys, hk, rfl, rfl, ho, hb, hy⟩ := hrel
    have HY : Hid (ys = [] ++ fL s 0 cut k) := hy
    have hyl : ys.length ≤ k + 1 + (if cut < k then 1 else 0) := by rw [hy]; simp [fL_len]
    clear hy hown hgr
    by_cases hlt : k < s.size
    · by_cases hck : k = cut
      · have hck' : ((k : Int) == (cut : Int)) = true := by simp; omega
        have hyl' : ys.length ≤ k + 1 := by rw [if_neg (by omega)] at hyl; omega
        have HCK : Hid (k = cut) := hck
        clear hyl hck
        have hbk := bAt_eq s k (by omega)
        have hbl := bAt_lt s k
        go_wp2_with (first | (at_builtin; refine wpList_append_fits _ rfl (.tmp 53) (.tmp 54) 83 rfl w.heap.size 5 i0 1 Oabg.underlying83 hi hz1 w.heap.size _ _ _ rfl (ho.alloc _) ⟨_, 0, none⟩ 1 1 [.int .u8 46] rfl rfl (cell_one_new _ _ _) (one_u8 _) (by omega) ?_; intro w2 hw2 hgw2) | (at_builtin; refine wpList_append_fits _ rfl (.tmp 62) (.tmp 68) 83 rfl w.heap.size 5 i0 1 Oabg.underlying83 hi hz1 w.heap.size _ _ _ rfl (hw2.alloc _) ⟨_, 0, none⟩ 1 1 [.int .u8 (bAt s k : Int)] rfl rfl (cell_one_new _ _ _) (one_u8 _) (by omega) ?_; intro w3 hw3 hgw3))
        go_roundw
        case rel => exact FAt_two (by omega) hb HY.out hw2 hgw2 hw3 hgw3 (fL_digc (by omega) HCK.out)
        case measure => simp [intOf]; omega
      · have hck' : ((k : Int) == (cut : Int)) = false := by rw [beq_eq_false_iff_ne]; omega
        have hyl' : ys.length ≤ k + 2 := by split at hyl <;> omega
        have HCK : Hid (k ≠ cut) := hck
        clear hyl hck
        have hbk := bAt_eq s k (by omega)
        have hbl := bAt_lt s k
        go_wp2_with (at_builtin; refine wpList_append_fits _ rfl (.tmp 62) (.tmp 68) 83 rfl w.heap.size 5 i0 1 Oabg.underlying83 hi hz1 w.heap.size _ _ _ rfl (ho.alloc _) ⟨_, 0, none⟩ 1 1 [.int .u8 (bAt s k : Int)] rfl rfl (cell_one_new _ _ _) (one_u8 _) (by omega) ?_; intro w2 hw2 hgw2)
        go_roundw
        case rel => exact FAt_one (by omega) hb HY.out hw2 hgw2 (fL_dig (by omega) HCK.out)
        case measure => simp [intOf]; omega
    · have hcv := string_of w.heap.size 0 ys ys.length (s.size + 2) wr rfl (owned_cells ho)
      clear hyl
      go_wp2
      go_ret
      exact ⟨ret_str (by rw [HY.out, show k = s.size from by omega]; rfl), hb⟩

set_option maxHeartbeats 1000000 in
set_option maxRecDepth 100000 in
theorem textF_n0 (s : ByteArray) (p cut : Nat) (w : World) (hs : s.size ≤ 140737488351232) (h0 : 0 < s.size) (hp : p ≤ 2000) (hc : p + 1 ≤ s.size) (hcut : cut + p = s.size) :
    Calls Oabg.prog 37 #[.bool true, .string s, .int .u16 p] w fun e w' => e = .returned (.string (strOfNums ([45] ++ fL s 0 cut (s.size)))) ∧ Below w.heap.size w w' := by
  have he : s.toList.isEmpty = false := isEmpty_false h0
  obtain ⟨i0, hi, hz0, hz1, hz2⟩ := info_parts info5
  have e2 : (s.size : Int) - (p : Int) = (cut : Int) := by omega
  have hcl : cut ≤ s.size := by omega
  clear hcut
  go_enter Oabg.func37, Oabg.ntmps37
  go_wp2_with (first | (at_make; refine wpList_make_own _ rfl _ _ 83 rfl w.heap.size 5 i0 (.int .u8 0) 1 Oabg.underlying83 hi hz0 hz1 .i64 .i64 _ (s.size + 2) rfl rfl (by omega) (by rw [hz2]; omega) (by unfold maxLen; omega) (Nat.le_refl _) ?_; intro w1 hown hgr) | (at_builtin; refine wpList_append_fits _ rfl (.tmp 39) (.tmp 40) 83 rfl w.heap.size 5 i0 1 Oabg.underlying83 hi hz1 w.heap.size _ _ _ rfl (hown.alloc _) ⟨_, 0, none⟩ 1 1 [.int .u8 45] rfl rfl (cell_one_new _ _ _) (one_u8 _) (by omega) ?_; intro w0 hw0 hgw0))
  clear e2
  go_loopw [10, 11] (fun v i wr => FAt w s 0 cut (s.size + 2) [45] v i wr) (fun _ i _ => s.size - (intOf i).toNat)
  case atStart => exact ⟨0, [45], by omega, rfl, rfl, by simpa using hw0, (((Below.refl _ _).grown hgr (Nat.le_refl _) (by intro k hk; simp at hk)).alloc hgr.size _).grown hgw0 (by have := hgr.size; simp; omega) (by intro k hk; simp at hk; omega), by simp [fL]⟩
  case round =>
    obtain ⟨k, ys, hk, rfl, rfl, ho, hb, hy⟩ := hrel
    have HY : Hid (ys = [45] ++ fL s 0 cut k) := hy
    have hyl : ys.length ≤ k + 1 + (if cut < k then 1 else 0) := by rw [hy]; simp [fL_len]; omega
    clear hy hown hgr hw0 hgw0
    by_cases hlt : k < s.size
    · by_cases hck : k = cut
      · have hck' : ((k : Int) == (cut : Int)) = true := by simp; omega
        have hyl' : ys.length ≤ k + 1 := by rw [if_neg (by omega)] at hyl; omega
        have HCK : Hid (k = cut) := hck
        clear hyl hck
        have hbk := bAt_eq s k (by omega)
        have hbl := bAt_lt s k
        go_wp2_with (first | (at_builtin; refine wpList_append_fits _ rfl (.tmp 53) (.tmp 54) 83 rfl w.heap.size 5 i0 1 Oabg.underlying83 hi hz1 w.heap.size _ _ _ rfl (ho.alloc _) ⟨_, 0, none⟩ 1 1 [.int .u8 46] rfl rfl (cell_one_new _ _ _) (one_u8 _) (by omega) ?_; intro w2 hw2 hgw2) | (at_builtin; refine wpList_append_fits _ rfl (.tmp 62) (.tmp 68) 83 rfl w.heap.size 5 i0 1 Oabg.underlying83 hi hz1 w.heap.size _ _ _ rfl (hw2.alloc _) ⟨_, 0, none⟩ 1 1 [.int .u8 (bAt s k : Int)] rfl rfl (cell_one_new _ _ _) (one_u8 _) (by omega) ?_; intro w3 hw3 hgw3))
        go_roundw
        case rel => exact FAt_two (by omega) hb HY.out hw2 hgw2 hw3 hgw3 (fL_digc (by omega) HCK.out)
        case measure => simp [intOf]; omega
      · have hck' : ((k : Int) == (cut : Int)) = false := by rw [beq_eq_false_iff_ne]; omega
        have hyl' : ys.length ≤ k + 2 := by split at hyl <;> omega
        have HCK : Hid (k ≠ cut) := hck
        clear hyl hck
        have hbk := bAt_eq s k (by omega)
        have hbl := bAt_lt s k
        go_wp2_with (at_builtin; refine wpList_append_fits _ rfl (.tmp 62) (.tmp 68) 83 rfl w.heap.size 5 i0 1 Oabg.underlying83 hi hz1 w.heap.size _ _ _ rfl (ho.alloc _) ⟨_, 0, none⟩ 1 1 [.int .u8 (bAt s k : Int)] rfl rfl (cell_one_new _ _ _) (one_u8 _) (by omega) ?_; intro w2 hw2 hgw2)
        go_roundw
        case rel => exact FAt_one (by omega) hb HY.out hw2 hgw2 (fL_dig (by omega) HCK.out)
        case measure => simp [intOf]; omega
    · have hcv := string_of w.heap.size 0 ys ys.length (s.size + 2) wr rfl (owned_cells ho)
      clear hyl
      go_wp2
      go_ret
      exact ⟨ret_str (by rw [HY.out, show k = s.size from by omega]; rfl), hb⟩

end Go.Proofs.Ygcoab
