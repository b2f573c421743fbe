import Derived.Test.YgcoabScanWorld
import Derived.Test.YgcoabWMake
import Derived.Test.YgcoabWItoa
namespace Go.Proofs.Ygcoab
open Go.RowKit

def scV (R : Sd) : Value := .agg #[.int .u8 R.kind, .bool R.neg, .string R.dig, .int .i16 R.exp, .int .i64 R.pos, .int .i32 R.got]

theorem dig_string {B : Nat} {w : World} {v : Value} {ds : List Int} (h : DigAt B w v ds) : (convert 83 9 v).run Oabg.prog w = .ok (.string (strOfNums ds)) w := by
  obtain ⟨b, C, ty, rfl, h2, h3, h4, h5⟩ := h
  refine string_of b 0 ds ds.length C.size w rfl fun i hi => ?_
  rw [Nat.zero_add, cell_of_row w b i C ty (0, 0) h3, h5 i hi]

theorem old_cells {W w1 : World} (hb : Below W.heap.size W w1) : ∀ b o, b < W.heap.size → w1.cell? ⟨b, o, none⟩ = W.cell? ⟨b, o, none⟩ :=
  fun b o h => hb.cell (p := ⟨b, o, none⟩) h
theorem old_frozen {W w1 : World} (hb : Below W.heap.size W w1) : ∀ b o, b < W.heap.size → w1.frozen? ⟨b, o, none⟩ = W.frozen? ⟨b, o, none⟩ :=
  fun b o h => hb.frozen (p := ⟨b, o, none⟩) h

theorem below_set6 {B b : Nat} {a w : World} {v0 v1 v2 v3 v4 v5 : Value} (h : Below B a w) (hb : B ≤ b) :
    Below B a ((((((w.setCell ⟨b, 0, none⟩ v0).setCell ⟨b, 1, none⟩ v1).setCell ⟨b, 2, none⟩ v2).setCell ⟨b, 3, none⟩ v3).setCell ⟨b, 4, none⟩ v4).setCell ⟨b, 5, none⟩ v5) :=
  (((((h.setCell (p := ⟨b, 0, none⟩) hb v0).setCell (p := ⟨b, 1, none⟩) hb v1).setCell (p := ⟨b, 2, none⟩) hb v2).setCell (p := ⟨b, 3, none⟩) hb v3).setCell (p := ⟨b, 4, none⟩) hb v4).setCell (p := ⟨b, 5, none⟩) hb v5

theorem fin_below6 {w w1 : World} {o1 o2 o3 : Obj} {v0 v1 v2 v3 v4 v5 : Value} (hb : Below ((w.alloc o1).alloc o2).heap.size ((w.alloc o1).alloc o2) w1) :
    Below w.heap.size w (((((((w1.setCell ⟨w.heap.size + 1, 0, none⟩ v0).setCell ⟨w.heap.size + 1, 1, none⟩ v1).setCell ⟨w.heap.size + 1, 2, none⟩ v2).setCell ⟨w.heap.size + 1, 3, none⟩ v3).setCell ⟨w.heap.size + 1, 4, none⟩ v4).setCell ⟨w.heap.size + 1, 5, none⟩ v5).alloc o3) := by
  have k : Below w.heap.size w w1 := (((Below.refl _ _).alloc (Nat.le_refl _) _).alloc (by simp) _).trans (hb.mono (by simp; omega))
  have k6 := below_set6 (v0 := v0) (v1 := v1) (v2 := v2) (v3 := v3) (v4 := v4) (v5 := v5) k (show w.heap.size ≤ w.heap.size + 1 from by omega)
  exact k6.alloc k6.size _

set_option maxHeartbeats 1000000 in
theorem finish_pt (B : Nat) (neg : Bool) (v : Value) (ds : List Int) (fr ex st at_ n : Nat) (wd : ByteArray) (w : World) (hst : st = 2 ∨ st = 3 ∨ st = 5 ∨ st = 8) (hd : DigAt B w v ds) (hl : ds.length ≤ 2000) (hfr : fr ≤ 2000) (hex : ex ≤ 1000000)
    (dn : Bool) (dt : ByteArray) (dx : Int) (hm : mkDc neg (strOfNums ds) ((ex : Int) - (fr : Int)) = (⟨dn, dt, dx⟩, true)) :
    Calls Oabg.prog 55 #[.agg #[.bool neg, .bool false, v, .int .i64 fr, .int .i64 ex], .int .i64 st, .string wd, .int .i64 at_, .int .i64 n] w fun e w' =>
      e = .returned (scV ⟨0, dn, dt, dx, 0, 0⟩) ∧ Below w.heap.size w w' := by
  have hsl : (strOfNums ds).size ≤ 140737488351232 := by rw [strOfNums_size]; omega
  have HM : Hid (∀ w, Calls Oabg.prog 15 #[.bool neg, .string (strOfNums ds), .int .i64 ((ex : Int) - (fr : Int))] w fun e w' => e = .returned (.tuple #[.agg #[.bool dn, .string dt, .int .i16 dx], .bool true]) ∧ Below w.heap.size w w') :=
    fun w => make_eq hm w hsl (by omega)
  have hcv : ∀ cs cs', (convert 83 9 v).run Oabg.prog ((w.alloc (.cells cs 85)).alloc (.cells cs' 32)) = .ok (.string (strOfNums ds)) ((w.alloc (.cells cs 85)).alloc (.cells cs' 32)) := fun cs cs' => dig_string ((hd.alloc _).alloc _)
  obtain ⟨b, C, ty, rfl, h2, h3, h4, h5⟩ := hd
  clear hm hl h2 h3 h4 h5 hsl
  rcases hst with rfl | rfl | rfl | rfl
  all_goals
    go_enter Oabg.func55, Oabg.ntmps55
    go_wp2_with (go_at_call 15; refine (HM.out _).mono ?_; rintro e w1 ⟨rfl, hb⟩; have hold := old_cells hb; have holf := old_frozen hb; have hz : w.heap.size + 1 < w1.heap.size := (by have := hb.size; simp at this; omega))
    refine bodyPost_ret (v := scV ⟨0, dn, dt, dx, 0, 0⟩) (by simp [results, Oabg.results55, go_sem, hold, hz]; rfl) rfl ⟨rfl, ?_⟩
    exact fin_below6 hb

set_option maxHeartbeats 1000000 in
theorem finish_pf (B : Nat) (neg : Bool) (v : Value) (ds : List Int) (fr ex st at_ n : Nat) (wd : ByteArray) (w : World) (hst : st = 2 ∨ st = 3 ∨ st = 5 ∨ st = 8) (hd : DigAt B w v ds) (hl : ds.length ≤ 2000) (hfr : fr ≤ 2000) (hex : ex ≤ 1000000)
    (dn : Bool) (dt : ByteArray) (dx : Int) (hm : mkDc neg (strOfNums ds) ((ex : Int) - (fr : Int)) = (⟨dn, dt, dx⟩, false)) :
    Calls Oabg.prog 55 #[.agg #[.bool neg, .bool false, v, .int .i64 fr, .int .i64 ex], .int .i64 st, .string wd, .int .i64 at_, .int .i64 n] w fun e w' =>
      e = .returned (scV Sd.tooBig) ∧ Below w.heap.size w w' := by
  have hsl : (strOfNums ds).size ≤ 140737488351232 := by rw [strOfNums_size]; omega
  have HM : Hid (∀ w, Calls Oabg.prog 15 #[.bool neg, .string (strOfNums ds), .int .i64 ((ex : Int) - (fr : Int))] w fun e w' => e = .returned (.tuple #[.agg #[.bool dn, .string dt, .int .i16 dx], .bool false]) ∧ Below w.heap.size w w') :=
    fun w => make_eq hm w hsl (by omega)
  have hcv : ∀ cs cs', (convert 83 9 v).run Oabg.prog ((w.alloc (.cells cs 85)).alloc (.cells cs' 32)) = .ok (.string (strOfNums ds)) ((w.alloc (.cells cs 85)).alloc (.cells cs' 32)) := fun cs cs' => dig_string ((hd.alloc _).alloc _)
  obtain ⟨b, C, ty, rfl, h2, h3, h4, h5⟩ := hd
  clear hm hl h2 h3 h4 h5 hsl
  rcases hst with rfl | rfl | rfl | rfl
  all_goals
    go_enter Oabg.func55, Oabg.ntmps55
    go_wp2_with (go_at_call 15; refine (HM.out _).mono ?_; rintro e w1 ⟨rfl, hb⟩; have hold := old_cells hb; have holf := old_frozen hb; have hz : w.heap.size + 1 < w1.heap.size := (by have := hb.size; simp at this; omega))
    refine bodyPost_ret (v := scV Sd.tooBig) (by simp [results, Oabg.results55, go_sem, hold, hz]; rfl) rfl ⟨rfl, ?_⟩
    exact fin_below6 hb

set_option maxHeartbeats 1000000 in
theorem finish_nt (B : Nat) (neg : Bool) (v : Value) (ds : List Int) (fr ex st at_ n : Nat) (wd : ByteArray) (w : World) (hst : st = 2 ∨ st = 3 ∨ st = 5 ∨ st = 8) (hd : DigAt B w v ds) (hl : ds.length ≤ 2000) (hfr : fr ≤ 2000) (hex : ex ≤ 1000000)
    (dn : Bool) (dt : ByteArray) (dx : Int) (hm : mkDc neg (strOfNums ds) (-(ex : Int) - (fr : Int)) = (⟨dn, dt, dx⟩, true)) :
    Calls Oabg.prog 55 #[.agg #[.bool neg, .bool true, v, .int .i64 fr, .int .i64 ex], .int .i64 st, .string wd, .int .i64 at_, .int .i64 n] w fun e w' =>
      e = .returned (scV ⟨0, dn, dt, dx, 0, 0⟩) ∧ Below w.heap.size w w' := by
  have hsl : (strOfNums ds).size ≤ 140737488351232 := by rw [strOfNums_size]; omega
  have HM : Hid (∀ w, Calls Oabg.prog 15 #[.bool neg, .string (strOfNums ds), .int .i64 (-(ex : Int) - (fr : Int))] w fun e w' => e = .returned (.tuple #[.agg #[.bool dn, .string dt, .int .i16 dx], .bool true]) ∧ Below w.heap.size w w') :=
    fun w => make_eq hm w hsl (by omega)
  have hcv : ∀ cs cs', (convert 83 9 v).run Oabg.prog ((w.alloc (.cells cs 85)).alloc (.cells cs' 32)) = .ok (.string (strOfNums ds)) ((w.alloc (.cells cs 85)).alloc (.cells cs' 32)) := fun cs cs' => dig_string ((hd.alloc _).alloc _)
  obtain ⟨b, C, ty, rfl, h2, h3, h4, h5⟩ := hd
  clear hm hl h2 h3 h4 h5 hsl
  rcases hst with rfl | rfl | rfl | rfl
  all_goals
    go_enter Oabg.func55, Oabg.ntmps55
    go_wp2_with (go_at_call 15; refine (HM.out _).mono ?_; rintro e w1 ⟨rfl, hb⟩; have hold := old_cells hb; have holf := old_frozen hb; have hz : w.heap.size + 1 < w1.heap.size := (by have := hb.size; simp at this; omega))
    refine bodyPost_ret (v := scV ⟨0, dn, dt, dx, 0, 0⟩) (by simp [results, Oabg.results55, go_sem, hold, hz]; rfl) rfl ⟨rfl, ?_⟩
    exact fin_below6 hb

set_option maxHeartbeats 1000000 in
theorem finish_nf (B : Nat) (neg : Bool) (v : Value) (ds : List Int) (fr ex st at_ n : Nat) (wd : ByteArray) (w : World) (hst : st = 2 ∨ st = 3 ∨ st = 5 ∨ st = 8) (hd : DigAt B w v ds) (hl : ds.length ≤ 2000) (hfr : fr ≤ 2000) (hex : ex ≤ 1000000)
    (dn : Bool) (dt : ByteArray) (dx : Int) (hm : mkDc neg (strOfNums ds) (-(ex : Int) - (fr : Int)) = (⟨dn, dt, dx⟩, false)) :
    Calls Oabg.prog 55 #[.agg #[.bool neg, .bool true, v, .int .i64 fr, .int .i64 ex], .int .i64 st, .string wd, .int .i64 at_, .int .i64 n] w fun e w' =>
      e = .returned (scV Sd.tooBig) ∧ Below w.heap.size w w' := by
  have hsl : (strOfNums ds).size ≤ 140737488351232 := by rw [strOfNums_size]; omega
  have HM : Hid (∀ w, Calls Oabg.prog 15 #[.bool neg, .string (strOfNums ds), .int .i64 (-(ex : Int) - (fr : Int))] w fun e w' => e = .returned (.tuple #[.agg #[.bool dn, .string dt, .int .i16 dx], .bool false]) ∧ Below w.heap.size w w') :=
    fun w => make_eq hm w hsl (by omega)
  have hcv : ∀ cs cs', (convert 83 9 v).run Oabg.prog ((w.alloc (.cells cs 85)).alloc (.cells cs' 32)) = .ok (.string (strOfNums ds)) ((w.alloc (.cells cs 85)).alloc (.cells cs' 32)) := fun cs cs' => dig_string ((hd.alloc _).alloc _)
  obtain ⟨b, C, ty, rfl, h2, h3, h4, h5⟩ := hd
  clear hm hl h2 h3 h4 h5 hsl
  rcases hst with rfl | rfl | rfl | rfl
  all_goals
    go_enter Oabg.func55, Oabg.ntmps55
    go_wp2_with (go_at_call 15; refine (HM.out _).mono ?_; rintro e w1 ⟨rfl, hb⟩; have hold := old_cells hb; have holf := old_frozen hb; have hz : w.heap.size + 1 < w1.heap.size := (by have := hb.size; simp at this; omega))
    refine bodyPost_ret (v := scV Sd.tooBig) (by simp [results, Oabg.results55, go_sem, hold, hz]; rfl) rfl ⟨rfl, ?_⟩
    exact fin_below6 hb

theorem finish_num (B : Nat) (neg en : Bool) (v : Value) (ds : List Int) (fr ex st at_ n : Nat) (wd : ByteArray) (w : World) (hst : st = 2 ∨ st = 3 ∨ st = 5 ∨ st = 8) (hd : DigAt B w v ds) (hl : ds.length ≤ 2000) (hfr : fr ≤ 2000) (hex : ex ≤ 1000000)
    (dn : Bool) (dt : ByteArray) (dx : Int) (ok : Bool) (hm : mkDc neg (strOfNums ds) ((if en then -(ex : Int) else (ex : Int)) - (fr : Int)) = (⟨dn, dt, dx⟩, ok)) :
    Calls Oabg.prog 55 #[.agg #[.bool neg, .bool en, v, .int .i64 fr, .int .i64 ex], .int .i64 st, .string wd, .int .i64 at_, .int .i64 n] w fun e w' =>
      e = .returned (scV (if ok = true then ⟨0, dn, dt, dx, 0, 0⟩ else Sd.tooBig)) ∧ Below w.heap.size w w' := by
  cases en
  · cases ok
    · exact finish_pf B neg v ds fr ex st at_ n wd w hst hd hl hfr hex dn dt dx hm
    · exact finish_pt B neg v ds fr ex st at_ n wd w hst hd hl hfr hex dn dt dx hm
  · cases ok
    · exact finish_nf B neg v ds fr ex st at_ n wd w hst hd hl hfr hex dn dt dx hm
    · exact finish_nt B neg v ds fr ex st at_ n wd w hst hd hl hfr hex dn dt dx hm

set_option maxHeartbeats 1000000 in
theorem finish_wrong (neg en : Bool) (b len cap : Nat) (fr ex at_ n : Nat) (wd : ByteArray) (st : Nat) (w : World) (hst : st = 0 ∨ st = 1 ∨ st = 4 ∨ st = 6 ∨ st = 7) :
    Calls Oabg.prog 55 #[.agg #[.bool neg, .bool en, .slice (some ⟨b, 0, none⟩) len cap, .int .i64 fr, .int .i64 ex], .int .i64 st, .string wd, .int .i64 at_, .int .i64 n] w fun e w' =>
      e = .returned (scV (Sd.wrong n (-1))) ∧ Below w.heap.size w w' := by
  rcases hst with rfl | rfl | rfl | rfl | rfl
  all_goals
    go_enter Oabg.func55, Oabg.ntmps55
    go_wp2
    refine bodyPost_ret (v := scV (Sd.wrong n (-1))) (by simp [results, Oabg.results55, go_sem]; rfl) rfl ⟨rfl, ?_⟩
    exact ((Below.refl _ _).alloc (Nat.le_refl _) _).alloc (by simp) _

/-- what finish says of a word -/
def wordFin (neg : Bool) (wd at_ n : Nat) : Sd :=
  if wd = 2 ∧ at_ = 3 then ⟨2, false, ⟨#[]⟩, 0, 0, 0⟩ else if wd = 1 ∧ (at_ = 3 ∨ at_ = 8) then ⟨1, neg, ⟨#[]⟩, 0, 0, 0⟩ else Sd.wrong n (-1)

set_option maxHeartbeats 2000000 in
theorem finish_nan (neg en : Bool) (b len cap : Nat) (fr ex at_ n : Nat) (w : World) (_hat : at_ ≤ 3) :
    Calls Oabg.prog 55 #[.agg #[.bool neg, .bool en, .slice (some ⟨b, 0, none⟩) len cap, .int .i64 fr, .int .i64 ex], .int .i64 9, .string ⟨#[110, 97, 110]⟩, .int .i64 at_, .int .i64 n] w fun e w' =>
      e = .returned (scV (if at_ = 3 then ⟨2, false, ⟨#[]⟩, 0, 0, 0⟩ else Sd.wrong n (-1))) ∧ Below w.heap.size w w' := by
  by_cases h : at_ = 3
  · have h3 : ((at_ : Int) == 3) = true := by simp; omega
    rw [if_pos h]
    clear h
    go_enter Oabg.func55, Oabg.ntmps55
    go_wp2
    refine bodyPost_ret (v := scV ⟨2, false, ⟨#[]⟩, 0, 0, 0⟩) (by simp [results, Oabg.results55, go_sem]; rfl) rfl ⟨rfl, ?_⟩
    exact ((Below.refl _ _).alloc (Nat.le_refl _) _).alloc (by simp) _
  · have h3 : ((at_ : Int) == 3) = false := by rw [beq_eq_false_iff_ne]; omega
    rw [if_neg h]
    clear h
    go_enter Oabg.func55, Oabg.ntmps55
    go_wp2
    refine bodyPost_ret (v := scV (Sd.wrong n (-1))) (by simp [results, Oabg.results55, go_sem]; rfl) rfl ⟨rfl, ?_⟩
    exact ((Below.refl _ _).alloc (Nat.le_refl _) _).alloc (by simp) _

set_option maxHeartbeats 2000000 in
theorem finish_inf (neg en : Bool) (b len cap : Nat) (fr ex at_ n : Nat) (w : World) (_hat : at_ ≤ 8) :
    Calls Oabg.prog 55 #[.agg #[.bool neg, .bool en, .slice (some ⟨b, 0, none⟩) len cap, .int .i64 fr, .int .i64 ex], .int .i64 9, .string ⟨#[105, 110, 102, 105, 110, 105, 116, 121]⟩, .int .i64 at_, .int .i64 n] w fun e w' =>
      e = .returned (scV (if at_ = 3 ∨ at_ = 8 then ⟨1, neg, ⟨#[]⟩, 0, 0, 0⟩ else Sd.wrong n (-1))) ∧ Below w.heap.size w w' := by
  by_cases h : at_ = 3
  · have h3 : ((at_ : Int) == 3) = true := by simp; omega
    rw [if_pos (.inl h)]
    clear h
    go_enter Oabg.func55, Oabg.ntmps55
    go_wp2
    refine bodyPost_ret (v := scV ⟨1, neg, ⟨#[]⟩, 0, 0, 0⟩) (by simp [results, Oabg.results55, go_sem]; rfl) rfl ⟨rfl, ?_⟩
    exact ((Below.refl _ _).alloc (Nat.le_refl _) _).alloc (by simp) _
  · have h3 : ((at_ : Int) == 3) = false := by rw [beq_eq_false_iff_ne]; omega
    by_cases h' : at_ = 8
    · have h8 : ((at_ : Int) == 8) = true := by simp; omega
      rw [if_pos (.inr h')]
      clear h h'
      go_enter Oabg.func55, Oabg.ntmps55
      go_wp2
      refine bodyPost_ret (v := scV ⟨1, neg, ⟨#[]⟩, 0, 0, 0⟩) (by simp [results, Oabg.results55, go_sem]; rfl) rfl ⟨rfl, ?_⟩
      exact ((Below.refl _ _).alloc (Nat.le_refl _) _).alloc (by simp) _
    · have h8 : ((at_ : Int) == 8) = false := by rw [beq_eq_false_iff_ne]; omega
      rw [if_neg (by omega)]
      clear h h'
      go_enter Oabg.func55, Oabg.ntmps55
      go_wp2
      refine bodyPost_ret (v := scV (Sd.wrong n (-1))) (by simp [results, Oabg.results55, go_sem]; rfl) rfl ⟨rfl, ?_⟩
      exact ((Below.refl _ _).alloc (Nat.le_refl _) _).alloc (by simp) _

theorem finish_any (B : Nat) (S : Sc) (k n : Nat) (v : Value) (w : World) (hg : S.Good k) (hk : k ≤ 1024) (hd : DigAt B w v S.ds) :
    Calls Oabg.prog 55 #[.agg #[.bool S.neg, .bool S.en, v, .int .i64 S.fr, .int .i64 S.ex], .int .i64 S.st, .string (wordB S.wd), .int .i64 S.at_, .int .i64 n] w fun e w' =>
      e = .returned (scV (S.fin n)) ∧ Below w.heap.size w w' := by
  obtain ⟨h1, h2, h3, h4, h5, h6, h7⟩ := hg
  by_cases hst : S.st = 2 ∨ S.st = 3 ∨ S.st = 5 ∨ S.st = 8
  · have := finish_num B S.neg S.en v S.ds S.fr S.ex S.st S.at_ n (wordB S.wd) w hst hd (by omega) (by omega) h4 _ _ _ _ rfl
    unfold Sc.fin
    rw [if_pos hst]
    exact this
  · have hd' := hd
    obtain ⟨b, C, ty, rfl, _⟩ := hd'
    unfold Sc.fin
    rw [if_neg hst]
    by_cases h9 : S.st = 9
    · obtain ⟨hw, ha1, ha2⟩ := h6 h9
      rw [h9]
      rcases hw with hw | hw
      · rw [hw] at ha2 ⊢
        rw [if_neg (by omega)]
        have := finish_inf S.neg S.en b S.ds.length C.size S.fr S.ex S.at_ n w ha2
        by_cases h38 : S.at_ = 3 ∨ S.at_ = 8
        · rw [if_pos h38] at this
          rw [if_pos ⟨rfl, rfl, h38⟩]
          exact this
        · rw [if_neg h38] at this
          rw [if_neg (by omega)]
          exact this
      · rw [hw] at ha2 ⊢
        have := finish_nan S.neg S.en b S.ds.length C.size S.fr S.ex S.at_ n w ha2
        by_cases h38 : S.at_ = 3
        · rw [if_pos h38] at this
          rw [if_pos ⟨rfl, rfl, h38⟩]
          exact this
        · rw [if_neg h38] at this
          rw [if_neg (by omega), if_neg (by omega)]
          exact this
    · rw [if_neg (by omega), if_neg (by omega)]
      exact finish_wrong S.neg S.en b _ _ S.fr S.ex S.at_ n (wordB S.wd) S.st w (by omega)
end Go.Proofs.Ygcoab
