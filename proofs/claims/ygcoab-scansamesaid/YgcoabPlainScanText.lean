/- Plain: Scan reads Text back. No Go in sight. -/
import Derived.Test.YgcoabPlainScan
namespace Go.Proofs.Ygcoab
open Go.RowKit

/-- a string's bytes -/
def bl (s : ByteArray) : List Nat := s.data.toList.map (·.toNat)

/-- bytes read one after another -/
def Sc.run (S : Sc) : List Nat → Option Sc
  | [] => some S
  | c :: l => (S.step c).bind fun T => T.run l

theorem Sc.run_append (S : Sc) (a b : List Nat) : S.run (a ++ b) = (S.run a).bind fun T => T.run b := by
  induction a generalizing S with
  | nil => rfl
  | cons c a ih =>
    simp only [List.cons_append, Sc.run]
    cases S.step c with
    | none => rfl
    | some T => exact ih T

theorem bl_length (s : ByteArray) : (bl s).length = s.size := by simp [bl]

theorem bl_get (s : ByteArray) (k : Nat) (h : k < s.size) : (bl s)[k]'(by rw [bl_length]; exact h) = bAt s k := by
  unfold bl bAt
  have : k < s.data.toList.length := by simpa using h
  rw [List.getElem_map, List.getD_eq_getElem?_getD, List.getElem?_eq_getElem this, Option.getD_some]

theorem runTo_eq (s : ByteArray) : ∀ k, k ≤ s.size → runTo s k = Sc.init.run ((bl s).take k) := by
  intro k
  induction k with
  | zero => intro _; rfl
  | succ k ih =>
    intro hk
    rw [List.take_succ_eq_append_getElem (by rw [bl_length]; exact hk), Sc.run_append, ← ih (by omega), bl_get s k hk]
    simp only [runTo]
    cases runTo s k with
    | none => rfl
    | some S =>
      show S.step _ = (S.step _).bind fun T => some T
      cases S.step (bAt s k) <;> rfl

theorem runTo_all (s : ByteArray) : runTo s s.size = Sc.init.run (bl s) := by
  rw [runTo_eq s s.size (Nat.le_refl _), List.take_of_length_le (by rw [bl_length]; exact Nat.le_refl _)]

theorem runTo_none {s : ByteArray} {j k : Nat} (h : j ≤ k) (hn : runTo s j = none) : runTo s k = none := by
  induction k with
  | zero => have : j = 0 := by omega
            subst this; exact hn
  | succ k ih =>
    by_cases e : j = k + 1
    · subst e; exact hn
    · simp only [runTo]; rw [ih (by omega)]; rfl

/-- a text that runs through is answered by finish -/
theorem ScanIs.fin {s : ByteArray} {R : Sd} {S : Sc} (h : ScanIs s R) (hs : s.size ≤ 1024) (hr : runTo s s.size = some S) : R = S.fin s.size := by
  rcases h with ⟨h1, _⟩ | ⟨_, ⟨k, T, hk, hT, hn, _⟩ | ⟨T, hT, hR⟩⟩
  · omega
  · have : runTo s (k + 1) = none := by rw [runTo_next hT, hn]
    have := runTo_none (show k + 1 ≤ s.size from hk) this
    rw [hr] at this; cases this
  · rw [hr] at hT
    cases hT
    exact hR

theorem bl_append (a b : ByteArray) : bl (a ++ b) = bl a ++ bl b := by
  simp [bl, ByteArray.data_append]

theorem bl_nums (xs : List Int) (h : ∀ x ∈ xs, 0 ≤ x ∧ x < 256) : bl (strOfNums xs) = xs.map Int.toNat := by
  unfold bl
  rw [strOfNums_data, List.map_map]
  apply List.map_congr_left
  intro x hx
  have := h x hx
  simp
  omega

theorem nums_bl (t : ByteArray) : strOfNums ((bl t).map fun c : Nat => (c : Int)) = t := by
  apply ByteArray.ext
  apply Array.toList_inj.1
  rw [strOfNums_data]
  unfold bl
  rw [List.map_map, List.map_map]
  conv => rhs; rw [← List.map_id t.data.toList]
  apply List.map_congr_left
  intro x _
  simp

/-! ### runs of digits -/
theorem run_in (l : List Nat) (hl : ∀ c ∈ l, 48 ≤ c ∧ c ≤ 57) : ∀ (st : Nat) (neg en : Bool) (ds : List Int) (fr ex wd at_ : Nat), st ≤ 2 → (l = [] → st = 2) →
    (⟨st, neg, en, ds, fr, ex, wd, at_⟩ : Sc).run l = some ⟨2, neg, en, ds ++ l.map (fun c : Nat => (c : Int)), fr, ex, wd, at_⟩ := by
  induction l with
  | nil => intro st neg en ds fr ex wd at_ h1 h2; rw [h2 rfl]; simp [Sc.run]
  | cons c l ih =>
    intro st neg en ds fr ex wd at_ h1 h2
    simp only [Sc.run]
    rw [Sc.step_in (hl c (by simp)) h1]
    simp only [Option.bind_some]
    rw [ih (fun d hd => hl d (by simp [hd])) 2 neg en _ fr ex wd at_ (by omega) (fun _ => rfl)]
    simp

theorem run_fr (l : List Nat) (hl : ∀ c ∈ l, 48 ≤ c ∧ c ≤ 57) : ∀ (st : Nat) (neg en : Bool) (ds : List Int) (fr ex wd at_ : Nat), (st = 3 ∨ st = 4 ∨ st = 5) → (l = [] → st = 5) →
    (⟨st, neg, en, ds, fr, ex, wd, at_⟩ : Sc).run l = some ⟨5, neg, en, ds ++ l.map (fun c : Nat => (c : Int)), fr + l.length, ex, wd, at_⟩ := by
  induction l with
  | nil => intro st neg en ds fr ex wd at_ h1 h2; rw [h2 rfl]; simp [Sc.run]
  | cons c l ih =>
    intro st neg en ds fr ex wd at_ h1 h2
    simp only [Sc.run]
    rw [Sc.step_fr (hl c (by simp)) h1]
    simp only [Option.bind_some]
    rw [ih (fun d hd => hl d (by simp [hd])) 5 neg en _ _ ex wd at_ (by omega) (fun _ => rfl)]
    simp
    omega

/-- the exponent's digits, gathered -/
def exL (e : Nat) (l : List Nat) : Nat := l.foldl (fun e c => min (10 * e + (c - 48)) 1000000) e

theorem run_ex (l : List Nat) (hl : ∀ c ∈ l, 48 ≤ c ∧ c ≤ 57) : ∀ (st : Nat) (neg en : Bool) (ds : List Int) (fr ex wd at_ : Nat), (st = 6 ∨ st = 7 ∨ st = 8) → (l = [] → st = 8) →
    (⟨st, neg, en, ds, fr, ex, wd, at_⟩ : Sc).run l = some ⟨8, neg, en, ds, fr, exL ex l, wd, at_⟩ := by
  induction l with
  | nil => intro st neg en ds fr ex wd at_ h1 h2; rw [h2 rfl]; simp [Sc.run, exL]
  | cons c l ih =>
    intro st neg en ds fr ex wd at_ h1 h2
    simp only [Sc.run]
    rw [Sc.step_ex (hl c (by simp)) h1]
    simp only [Option.bind_some]
    rw [ih (fun d hd => hl d (by simp [hd])) 8 neg en _ _ _ wd at_ (by omega) (fun _ => rfl)]
    rfl

theorem exL_append (e : Nat) (a b : List Nat) : exL e (a ++ b) = exL (exL e a) b := by simp [exL]

/-- the digits of u, read as an exponent -/
theorem exL_digs (f u : Nat) (hf : 0 < f) (h : u < 10 ^ f) (hu : u < 1000000) : exL 0 ((digsL f u).map Int.toNat) = u := by
  induction f generalizing u with
  | zero => omega
  | succ f ih =>
    simp only [digsL, List.map_append, List.map_cons, List.map_nil]
    rw [exL_append]
    have hd : (48 + ((u % 10 : Nat) : Int)).toNat = 48 + u % 10 := by omega
    rw [hd]
    split
    · rename_i h0
      simp [exL]; omega
    · rename_i h0
      have hq := div_lt_pow (a := f + 1) (by omega) h
      simp only [Nat.add_sub_cancel] at hq
      have hf' := one_le_of_pow h0 hq
      rw [ih (u / 10) (by omega) hq (by omega)]
      simp [exL]
      omega

/-! ### Text, read back -/
theorem mkDc_self (neg : Bool) (t : ByteArray) (x : Int) (h0 : 0 < t.size) (h8 : t.size ≤ 800) (ha : allDig t = true) (hf : bAt t 0 ≠ 48) (hl : bAt t (t.size - 1) ≠ 48) (h1 : -2000 ≤ x) (h2 : x ≤ 2000) :
    mkDc neg t x = (⟨neg, t, x⟩, true) := by
  have e1 : endTo t t.size = t.size := endTo_eq t t.size t.size (Nat.le_refl _) (fun j h1 h2 => by omega) (.inr hl)
  have e2 : fstTo t t.size = 0 := fstTo_eq t t.size 0 (Nat.le_refl _) h0 (fun j h => by omega) hf
  rw [mkDc_near ha (by omega) (by rw [e1, e2]; omega), e1, e2, extract_all]
  congr 2
  omega

theorem bl_extract (s : ByteArray) (a b : Nat) : bl (s.extract a b) = ((bl s).drop a).take (b - a) := by
  unfold bl
  rw [ByteArray.data_extract, Array.toList_extract, List.extract_eq_take_drop, List.map_take, List.map_drop]

theorem bl_cons (t : ByteArray) (h : 0 < t.size) : bl t = bAt t 0 :: (bl t).drop 1 := by
  have hl : 0 < (bl t).length := by rw [bl_length]; exact h
  have := List.drop_eq_getElem_cons hl
  rw [List.drop_zero, bl_get t 0 h] at this
  exact this

theorem bl_dig {t : ByteArray} (ha : allDig t = true) : ∀ c ∈ bl t, 48 ≤ c ∧ c ≤ 57 := by
  intro c hc
  obtain ⟨k, hk, rfl⟩ := List.getElem_of_mem hc
  rw [bl_length] at hk
  rw [bl_get t k hk]
  exact digTo_at hk ha

theorem bl_itoa (u : Nat) : bl (itoaB (u : Int)) = (digsL 20 u).map Int.toNat := by
  rw [itoaB_pos, digB, bl_nums _ fun x hx => by have := digsL_range 20 u x hx; omega]

theorem run_some {S T U : Sc} {a b : List Nat} (h1 : S.run a = some T) (h2 : T.run b = some U) : S.run (a ++ b) = some U := by
  rw [Sc.run_append, h1]; exact h2

theorem run_one {S T : Sc} {c : Nat} (h : S.step c = some T) : S.run [c] = some T := by
  simp only [Sc.run, h]; rfl

theorem run_head (t : ByteArray) (h0 : 0 < t.size) (ha : allDig t = true) (st : Nat) (neg : Bool) (hst : st ≤ 1) :
    ∃ st', (st' = 2 ∨ st' = 5) ∧ (⟨st, neg, false, [], 0, 0, 0, 0⟩ : Sc).run (bl (headB t)) = some ⟨st', neg, false, (bl t).map (fun c : Nat => (c : Int)), t.size - 1, 0, 0, 0⟩ := by
  have hc := bl_cons t h0
  have hd := bl_dig ha
  have he0 : bl (t.extract 0 1) = [bAt t 0] := by rw [bl_extract, hc]; simp
  unfold headB
  split
  · rename_i h1
    refine ⟨5, .inr rfl, ?_⟩
    have he1 : bl (t.extract 1 t.size) = (bl t).drop 1 := by
      rw [bl_extract, List.take_of_length_le (by rw [List.length_drop, bl_length]; omega)]
    rw [bl_append, bl_append, he0, he1]
    have r1 := run_in [bAt t 0] (fun c hc' => hd c (by rw [hc]; simp at hc'; simp [hc'])) st neg false [] 0 0 0 0 (by omega) (by simp)
    have r2 : (⟨2, neg, false, [((bAt t 0 : Nat) : Int)], 0, 0, 0, 0⟩ : Sc).run (bl ⟨#[46]⟩) = some ⟨3, neg, false, [((bAt t 0 : Nat) : Int)], 0, 0, 0, 0⟩ := run_one (Sc.step_dot rfl rfl)
    have r3 := run_fr ((bl t).drop 1) (fun c hc' => hd c (List.mem_of_mem_drop hc')) 3 neg false [((bAt t 0 : Nat) : Int)] 0 0 0 0 (by simp) (fun e => by have := congrArg List.length e; rw [List.length_drop, bl_length] at this; simp at this; omega)
    have r := run_some r1 (run_some r2 r3)
    rw [r, List.length_drop, bl_length, Nat.zero_add]
    congr 2
    conv => rhs; rw [hc]
    simp
  · rename_i h1
    refine ⟨2, .inl rfl, ?_⟩
    rw [he0, run_in [bAt t 0] (fun c hc' => hd c (by rw [hc]; simp at hc'; simp [hc'])) st neg false [] 0 0 0 0 (by omega) (by simp)]
    have hdr : (bl t).drop 1 = [] := List.drop_eq_nil_of_le (by rw [bl_length]; omega)
    rw [hc, hdr, show t.size - 1 = 0 from by omega]
    simp

theorem run_body (t : ByteArray) (X : Int) (h0 : 0 < t.size) (ha : allDig t = true) (hX : X.natAbs < 1000000) (st : Nat) (neg : Bool) (hst : st ≤ 1) :
    (⟨st, neg, false, [], 0, 0, 0, 0⟩ : Sc).run (bl (bodyB t X)) = some ⟨8, neg, decide (X < 0), (bl t).map (fun c : Nat => (c : Int)), t.size - 1, X.natAbs, 0, 0⟩ := by
  obtain ⟨st', hs', r1⟩ := run_head t h0 ha st neg hst
  have hdig : ∀ c ∈ (digsL 20 X.natAbs).map Int.toNat, 48 ≤ c ∧ c ≤ 57 := by
    intro c hc
    obtain ⟨x, hx, rfl⟩ := List.mem_map.1 hc
    have := digsL_range 20 X.natAbs x hx
    omega
  have hne : (digsL 20 X.natAbs).map Int.toNat ≠ [] := by
    intro e
    have := congrArg List.length e
    have h2 : 0 < (digsL 20 X.natAbs).length := digsL_ne (by omega)
    simp at this
    simp [this] at h2
  have hv := exL_digs 20 X.natAbs (by omega) (by omega) hX
  have habs : bl (itoaB (absI X)) = (digsL 20 X.natAbs).map Int.toNat := by
    have : absI X = (X.natAbs : Int) := by unfold absI; split <;> omega
    rw [this, bl_itoa]
  have r2 : (⟨st', neg, false, (bl t).map (fun c : Nat => (c : Int)), t.size - 1, 0, 0, 0⟩ : Sc).run [101] = some ⟨6, neg, false, (bl t).map (fun c : Nat => (c : Int)), t.size - 1, 0, 0, 0⟩ :=
    run_one (Sc.step_e (by simp) (by rcases hs' with rfl | rfl <;> simp))
  have r4 : ∀ (en : Bool) (l : List Nat), (∀ c ∈ l, 48 ≤ c ∧ c ≤ 57) → l ≠ [] → exL 0 l = X.natAbs → (⟨7, neg, en, (bl t).map (fun c : Nat => (c : Int)), t.size - 1, 0, 0, 0⟩ : Sc).run l = some ⟨8, neg, en, (bl t).map (fun c : Nat => (c : Int)), t.size - 1, X.natAbs, 0, 0⟩ := by
    intro en l hl hn he
    rw [run_ex l hl 7 neg en _ _ 0 0 0 (by simp) (fun e => absurd e hn), he]
  have h48 : ∀ c ∈ [48] ++ (digsL 20 X.natAbs).map Int.toNat, 48 ≤ c ∧ c ≤ 57 := by
    intro c hc
    rcases List.mem_append.1 hc with hc | hc
    · simp at hc; omega
    · exact hdig c hc
  have hv48 : exL 0 ([48] ++ (digsL 20 X.natAbs).map Int.toNat) = X.natAbs := by rw [exL_append]; exact hv
  rw [bodyB, bl_append, bl_append, habs]
  unfold markB
  by_cases hx : X < 0
  · rw [if_pos hx, decide_eq_true hx]
    have r3 : (⟨6, neg, false, (bl t).map (fun c : Nat => (c : Int)), t.size - 1, 0, 0, 0⟩ : Sc).run [45] = some ⟨7, neg, true, (bl t).map (fun c : Nat => (c : Int)), t.size - 1, 0, 0, 0⟩ := run_one (Sc.step_es (.inr rfl) rfl)
    split
    · rw [show bl (⟨#[101, 45]⟩ ++ ⟨#[48]⟩ : ByteArray) = [101] ++ ([45] ++ [48]) from by rw [bl_append]; rfl]
      simp only [List.append_assoc]
      exact run_some r1 (run_some r2 (run_some r3 (r4 true _ h48 (by simp) hv48)))
    · rw [show bl (⟨#[101, 45]⟩ : ByteArray) = [101] ++ [45] from rfl]
      simp only [List.append_assoc]
      exact run_some r1 (run_some r2 (run_some r3 (r4 true _ hdig hne hv)))
  · rw [if_neg hx, decide_eq_false hx]
    have r3 : (⟨6, neg, false, (bl t).map (fun c : Nat => (c : Int)), t.size - 1, 0, 0, 0⟩ : Sc).run [43] = some ⟨7, neg, false, (bl t).map (fun c : Nat => (c : Int)), t.size - 1, 0, 0, 0⟩ := run_one (Sc.step_es (.inl rfl) rfl)
    split
    · rw [show bl (⟨#[101, 43]⟩ ++ ⟨#[48]⟩ : ByteArray) = [101] ++ ([43] ++ [48]) from by rw [bl_append]; rfl]
      simp only [List.append_assoc]
      exact run_some r1 (run_some r2 (run_some r3 (r4 false _ h48 (by simp) hv48)))
    · rw [show bl (⟨#[101, 43]⟩ : ByteArray) = [101] ++ [43] from rfl]
      simp only [List.append_assoc]
      exact run_some r1 (run_some r2 (run_some r3 (r4 false _ hdig hne hv)))

theorem run_signed (b : ByteArray) (neg : Bool) (S : Sc) (h : ∀ st, st ≤ 1 → (⟨st, neg, false, [], 0, 0, 0, 0⟩ : Sc).run (bl b) = some S) : Sc.init.run (bl (signed neg b)) = some S := by
  cases neg
  · exact h 0 (by omega)
  · show Sc.init.run (bl (⟨#[45]⟩ ++ b)) = _
    rw [bl_append]
    exact run_some (T := ⟨1, true, false, [], 0, 0, 0, 0⟩) (run_one (Sc.step_sg (.inr rfl) rfl)) (h 1 (by omega))

theorem scan_text (neg : Bool) (t : ByteArray) (x : Int) (R : Sd) (h0 : 0 < t.size) (h8 : t.size ≤ 800) (ha : allDig t = true) (hf : bAt t 0 ≠ 48) (hl : bAt t (t.size - 1) ≠ 48) (h1 : -2000 ≤ x) (h2 : x ≤ 2000)
    (hz : (signed neg (bodyB t (x + (t.size : Int) - 1))).size ≤ 1024) (h : ScanIs (signed neg (bodyB t (x + (t.size : Int) - 1))) R) : R = ⟨0, neg, t, x, 0, 0⟩ := by
  have hr := run_signed (bodyB t (x + (t.size : Int) - 1)) neg _ fun st hst => run_body t (x + (t.size : Int) - 1) h0 ha (by omega) st neg hst
  rw [← runTo_all] at hr
  rw [h.fin hz hr]
  unfold Sc.fin
  rw [if_pos (by simp)]
  have hexp : (if decide (x + (t.size : Int) - 1 < 0) = true then -(((x + (t.size : Int) - 1).natAbs : Nat) : Int) else (((x + (t.size : Int) - 1).natAbs : Nat) : Int)) - ((t.size - 1 : Nat) : Int) = x := by
    by_cases hx : x + (t.size : Int) - 1 < 0
    · rw [if_pos (by simpa using hx)]; omega
    · rw [if_neg (by simpa using hx)]; omega
  simp only [nums_bl, hexp, mkDc_self neg t x h0 h8 ha hf hl h1 h2, if_true]

theorem scan_zero (neg : Bool) (R : Sd) (h : ScanIs (signed neg ⟨#[48, 101, 43, 48, 48]⟩) R) : R = ⟨0, neg, ByteArray.empty, 0, 0, 0⟩ := by
  have hr : runTo (signed neg ⟨#[48, 101, 43, 48, 48]⟩) (signed neg ⟨#[48, 101, 43, 48, 48]⟩).size = some ⟨8, neg, false, [48], 0, 0, 0, 0⟩ := by
    cases neg
    · rfl
    · rfl
  rw [h.fin (by cases neg <;> decide) hr]
  unfold Sc.fin
  rw [if_pos (by simp)]
  have hm : mkDc neg (strOfNums [48]) ((if false = true then -((0 : Nat) : Int) else ((0 : Nat) : Int)) - ((0 : Nat) : Int)) = (⟨neg, ByteArray.empty, 0⟩, true) := mkDc_zero (by decide +kernel) (by decide +kernel)
  simp only [hm, if_true]

end Go.Proofs.Ygcoab
