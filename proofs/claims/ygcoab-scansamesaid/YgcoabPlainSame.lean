/- Plain: what number and the model's Scan answer is what Scan answers. No Go in sight. -/
import Derived.Test.YgcoabWNumber
namespace Go.Proofs.Ygcoab
open Go.RowKit

/-- n bytes of s from i on -/
def seg (s : ByteArray) (i : Nat) : Nat → List Nat
  | 0 => []
  | n + 1 => seg s i n ++ [bAt s (i + n)]

theorem seg_length (s : ByteArray) (i n : Nat) : (seg s i n).length = n := by
  induction n with
  | zero => rfl
  | succ n ih => simp [seg, ih]

theorem runTo_seg (s : ByteArray) (i n : Nat) {S : Sc} (h : runTo s i = some S) : runTo s (i + n) = S.run (seg s i n) := by
  induction n with
  | zero => exact h
  | succ n ih =>
    show (runTo s (i + n)).bind (fun T => T.step (bAt s (i + n))) = _
    rw [ih, seg, Sc.run_append]
    congr 1
    funext T
    show _ = (T.step _).bind fun U => some U
    cases T.step (bAt s (i + n)) <;> rfl

theorem seg_mem (s : ByteArray) (i n : Nat) (P : Nat → Prop) (h : ∀ j, j < n → P (bAt s (i + j))) : ∀ c ∈ seg s i n, P c := by
  induction n with
  | zero => intro c hc; cases hc
  | succ n ih =>
    intro c hc
    rw [seg, List.mem_append] at hc
    rcases hc with hc | hc
    · exact ih (fun j hj => h j (by omega)) c hc
    · simp at hc; subst hc; exact h n (by omega)

theorem seg_get (s : ByteArray) (i n k : Nat) (h : k < n) : (seg s i n)[k]? = some (bAt s (i + k)) := by
  induction n with
  | zero => omega
  | succ n ih =>
    rw [seg]
    by_cases e : k < n
    · rw [List.getElem?_append_left (by rw [seg_length]; exact e)]; exact ih e
    · have : k = n := by omega
      subst this
      rw [List.getElem?_append_right (by rw [seg_length]; exact Nat.le_refl _), seg_length]
      simp

theorem bl_extract_seg (s : ByteArray) (i n : Nat) (h : i + n ≤ s.size) : bl (s.extract i (i + n)) = seg s i n := by
  have hz := size_extract s i (i + n) h
  apply List.ext_getElem?
  intro k
  by_cases hk : k < n
  · rw [seg_get s i n k hk, List.getElem?_eq_getElem (by rw [bl_length]; omega), bl_get _ k (by omega), bAt_extract _ _ _ _ (by omega)]
  · rw [List.getElem?_eq_none (by rw [bl_length]; omega), List.getElem?_eq_none (by rw [seg_length]; omega)]

/-- the answer where a step fails -/
theorem ScanIs.wrong {T : ByteArray} {k : Nat} {S : Sc} (hT : T.size ≤ 1024) (hk : k < T.size) (hr : runTo T k = some S) (hn : S.step (bAt T k) = none) : ScanIs T (wrongAt T k) := by
  refine .inr ⟨hT, .inl ⟨k, S, hk, hr, hn, ?_⟩⟩
  unfold wrongAt
  rw [if_pos hk]

/-- the answer where the text ends too early -/
theorem ScanIs.short {T : ByteArray} {S : Sc} (hT : T.size ≤ 1024) (hr : runTo T T.size = some S) (hs : S.st = 0 ∨ S.st = 1 ∨ S.st = 4 ∨ S.st = 6 ∨ S.st = 7) : ScanIs T (wrongAt T T.size) := by
  refine .inr ⟨hT, .inr ⟨S, hr, ?_⟩⟩
  unfold wrongAt Sc.fin
  rw [if_neg (by omega), if_neg (by omega), if_neg (by omega), if_neg (by omega)]

/-- the answer where a number ends -/
theorem ScanIs.num {T : ByteArray} {S : Sc} {neg : Bool} {t : ByteArray} {x : Int} (hT : T.size ≤ 1024) (hr : runTo T T.size = some S) (hs : S.st = 2 ∨ S.st = 3 ∨ S.st = 5 ∨ S.st = 8)
    (h1 : S.neg = neg) (h2 : strOfNums S.ds = t) (h3 : (if S.en then -(S.ex : Int) else (S.ex : Int)) - (S.fr : Int) = x) : ScanIs T (finN neg t x) := by
  refine .inr ⟨hT, .inr ⟨S, hr, ?_⟩⟩
  unfold Sc.fin finN
  rw [if_pos hs, h1, h2, h3]

theorem ScanIs.unique {T : ByteArray} {R R' : Sd} (h : ScanIs T R) (k : ScanIs T R') : R = R' := by
  rcases h with ⟨h1, rfl⟩ | ⟨h1, h⟩
  · rcases k with ⟨_, rfl⟩ | ⟨k1, _⟩
    · rfl
    · omega
  · rcases k with ⟨k1, _⟩ | ⟨_, k⟩
    · omega
    · have key : ∀ {i j : Nat} {S S' : Sc}, i < T.size → runTo T i = some S → S.step (bAt T i) = none → runTo T j = some S' → j ≤ i := by
        intro i j S S' hi hr hn hj
        cases Nat.lt_or_ge i j with
        | inl l =>
          have : runTo T (i + 1) = none := by rw [runTo_next hr, hn]
          rw [runTo_none l this] at hj; cases hj
        | inr l => exact l
      rcases h with ⟨i, S, hi, hr, hn, rfl⟩ | ⟨S, hr, rfl⟩
      · rcases k with ⟨j, S', hj, hr', hn', rfl⟩ | ⟨S', hr', rfl⟩
        · have a := key hi hr hn hr'
          have b := key hj hr' hn' hr
          have : i = j := by omega
          subst this; rfl
        · have := key hi hr hn hr'; omega
      · rcases k with ⟨j, S', hj, hr', hn', rfl⟩ | ⟨S', hr', rfl⟩
        · have := key hj hr' hn' hr; omega
        · rw [hr] at hr'; cases hr'; rfl

/-! ### the pieces, by their places -/
/-- the places of a number's pieces in T: the mantissa from h on, the point (or its end) at a, the mark (or the end) at m -/
structure Places (T : ByteArray) (h a m : Nat) (dot hasE : Bool) : Prop where
  hT : T.size ≤ 1024
  h1 : h ≤ a
  h2 : a ≤ m
  h3 : m ≤ T.size
  mark : hasE = true → m < T.size ∧ (bAt T m = 101 ∨ bAt T m = 69)
  noMark : hasE = false → m = T.size
  inMant : ∀ j, h ≤ j → j < m → bAt T j ≠ 101 ∧ bAt T j ≠ 69
  point : dot = true → a < m ∧ bAt T a = 46
  noPoint : dot = false → a = m
  inInt : ∀ j, h ≤ j → j < a → bAt T j ≠ 46

/-- the state at the head of the mantissa: no sign may follow where none was read, no word begins -/
structure AtHead (T : ByteArray) (h : Nat) (neg : Bool) : Prop where
  run : runTo T h = some ⟨h, neg, false, [], 0, 0, 0, 0⟩
  le : h ≤ 1
  sign : h = 0 → 0 < T.size → bAt T 0 ≠ 43 ∧ bAt T 0 ≠ 45
  word : h < T.size → bAt T h ≠ 73 ∧ bAt T h ≠ 105 ∧ bAt T h ≠ 78 ∧ bAt T h ≠ 110

def toI (l : List Nat) : List Int := l.map fun c : Nat => (c : Int)

/-- n digits of the whole part -/
theorem run_ip {T : ByteArray} {h n : Nat} {neg : Bool} (H : AtHead T h neg) (hd : ∀ j, j < n → 48 ≤ bAt T (h + j) ∧ bAt T (h + j) ≤ 57) :
    runTo T (h + n) = some ⟨if n = 0 then h else 2, neg, false, toI (seg T h n), 0, 0, 0, 0⟩ := by
  rw [runTo_seg T h n H.run]
  by_cases hn : n = 0
  · subst hn; rfl
  · rw [run_in (seg T h n) (seg_mem T h n _ hd) h neg false [] 0 0 0 0 (by have := H.le; omega) (fun e => by have := congrArg List.length e; rw [seg_length] at this; exact absurd this hn), if_neg hn]
    rfl

/-- the whole part has a byte that is no digit -/
theorem ip_bad {T : ByteArray} {h a m n : Nat} {dot hasE neg : Bool} (P : Places T h a m dot hasE) (H : AtHead T h neg) (hd : ∀ j, j < n → 48 ≤ bAt T (h + j) ∧ bAt T (h + j) ≤ 57)
    (hn : h + n < a) (hx : ¬ (48 ≤ bAt T (h + n) ∧ bAt T (h + n) ≤ 57)) : ScanIs T (wrongAt T (h + n)) := by
  have r := run_ip H hd
  have b1 := P.inInt (h + n) (by omega) hn
  have b2 := P.inMant (h + n) (by omega) (by have := P.h2; omega)
  have hl := H.le
  refine ScanIs.wrong P.hT (by have := P.h2; have := P.h3; omega) r ?_
  by_cases h0 : n = 0
  · subst h0
    rw [if_pos rfl]
    have hw := H.word (by have := P.h2; have := P.h3; omega)
    simp only [Nat.add_zero] at *
    have hs : h = 0 → bAt T h ≠ 43 ∧ bAt T h ≠ 45 := fun e => by subst e; exact H.sign rfl (by have := P.h2; have := P.h3; omega)
    unfold Sc.step
    simp only
    rw [if_neg hx, if_neg (by omega), if_neg (by omega), if_neg (by omega), if_neg (by omega), if_neg (by omega), if_neg (by omega), if_neg (by omega), if_neg (by omega)]
  · rw [if_neg h0]
    unfold Sc.step
    simp only
    rw [if_neg hx, if_neg (by omega), if_neg (by omega), if_neg (by omega), if_neg (by omega), if_neg (by omega), if_neg (by omega), if_neg (by omega), if_neg (by omega)]

/-- the state behind the whole part and the point -/
theorem run_dot {T : ByteArray} {h a m : Nat} {hasE neg : Bool} (P : Places T h a m true hasE) (H : AtHead T h neg) (hd : ∀ j, j < a - h → 48 ≤ bAt T (h + j) ∧ bAt T (h + j) ≤ 57) :
    runTo T (a + 1) = some ⟨if a = h then 4 else 3, neg, false, toI (seg T h (a - h)), 0, 0, 0, 0⟩ := by
  have r := run_ip H hd
  rw [show h + (a - h) = a from by have := P.h1; omega] at r
  rw [runTo_next r, (P.point rfl).2]
  by_cases e : a = h
  · rw [if_pos (by omega), if_pos e]
    exact Sc.step_bare rfl (by simp; exact H.le)
  · rw [if_neg (by have := P.h1; omega), if_neg e]
    exact Sc.step_dot rfl rfl

/-- n digits behind the point -/
theorem run_fp {T : ByteArray} {h a m n : Nat} {hasE neg : Bool} (P : Places T h a m true hasE) (H : AtHead T h neg) (hd : ∀ j, j < a - h → 48 ≤ bAt T (h + j) ∧ bAt T (h + j) ≤ 57)
    (hf : ∀ j, j < n → 48 ≤ bAt T (a + 1 + j) ∧ bAt T (a + 1 + j) ≤ 57) :
    runTo T (a + 1 + n) = some ⟨if n = 0 then (if a = h then 4 else 3) else 5, neg, false, toI (seg T h (a - h)) ++ toI (seg T (a + 1) n), n, 0, 0, 0⟩ := by
  rw [runTo_seg T (a + 1) n (run_dot P H hd)]
  by_cases hn : n = 0
  · subst hn; simp [seg, Sc.run, toI]
  · rw [run_fr (seg T (a + 1) n) (seg_mem T (a + 1) n _ hf) _ neg false _ 0 0 0 0 (by split <;> simp) (fun e => by have := congrArg List.length e; rw [seg_length] at this; exact absurd this hn), if_neg hn, seg_length, Nat.zero_add]
    rfl

/-- the part behind the point has a byte that is no digit -/
theorem fp_bad {T : ByteArray} {h a m n : Nat} {hasE neg : Bool} (P : Places T h a m true hasE) (H : AtHead T h neg) (hd : ∀ j, j < a - h → 48 ≤ bAt T (h + j) ∧ bAt T (h + j) ≤ 57)
    (hf : ∀ j, j < n → 48 ≤ bAt T (a + 1 + j) ∧ bAt T (a + 1 + j) ≤ 57) (hn : a + 1 + n < m) (hx : ¬ (48 ≤ bAt T (a + 1 + n) ∧ bAt T (a + 1 + n) ≤ 57)) : ScanIs T (wrongAt T (a + 1 + n)) := by
  have b2 := P.inMant (a + 1 + n) (by have := P.h1; omega) hn
  refine ScanIs.wrong P.hT (by have := P.h3; omega) (run_fp P H hd hf) ?_
  have hst : (if n = 0 then (if a = h then 4 else 3) else 5) = 3 ∨ (if n = 0 then (if a = h then 4 else 3) else 5) = 4 ∨ (if n = 0 then (if a = h then 4 else 3) else 5) = 5 := by
    split
    · split <;> simp
    · simp
  generalize (if n = 0 then (if a = h then 4 else 3) else 5) = st at hst
  unfold Sc.step
  simp only
  rw [if_neg hx, if_neg (by omega), if_neg (by omega), if_neg (by omega), if_neg (by omega), if_neg (by omega), if_neg (by omega), if_neg (by omega), if_neg (by omega)]

/-- the mantissa, read whole: its digits, how many behind the point -/
theorem run_mant {T : ByteArray} {h a m : Nat} {dot hasE neg : Bool} (P : Places T h a m dot hasE) (H : AtHead T h neg) (hd : ∀ j, j < a - h → 48 ≤ bAt T (h + j) ∧ bAt T (h + j) ≤ 57)
    (hf : ∀ j, j < m - (a + 1) → 48 ≤ bAt T (a + 1 + j) ∧ bAt T (a + 1 + j) ≤ 57) :
    ∃ st, runTo T m = some ⟨st, neg, false, toI (seg T h (a - h)) ++ toI (seg T (a + 1) (m - (a + 1))), m - (a + 1), 0, 0, 0⟩ ∧
      (if a = h ∧ m - (a + 1) = 0 then (st = 0 ∨ st = 1 ∨ st = 4) else (st = 2 ∨ st = 3 ∨ st = 5)) := by
  cases dot with
  | true =>
    have hp := P.point rfl
    have r := run_fp (n := m - (a + 1)) P H hd hf
    rw [show a + 1 + (m - (a + 1)) = m from by omega] at r
    refine ⟨_, r, ?_⟩
    by_cases h1 : m - (a + 1) = 0
    · by_cases h2 : a = h
      · rw [if_pos ⟨h2, h1⟩, if_pos h1, if_pos h2]; simp
      · rw [if_neg (by omega), if_pos h1, if_neg h2]; simp
    · rw [if_neg (by omega), if_neg h1]; simp
  | false =>
    have hp := P.noPoint rfl
    subst hp
    have r := run_ip H hd
    rw [show h + (a - h) = a from by have := P.h1; omega] at r
    have hz : a - (a + 1) = 0 := by omega
    rw [hz]
    refine ⟨if a - h = 0 then h else 2, by rw [r]; simp [seg, toI], ?_⟩
    have hl := H.le
    have h1 := P.h1
    by_cases h2 : a = h
    · rw [if_pos ⟨h2, rfl⟩, if_pos (by omega)]; omega
    · rw [if_neg (by omega), if_neg (by omega)]; simp

/-- no digit at all -/
theorem mant_empty {T : ByteArray} {h a m : Nat} {dot hasE neg : Bool} (P : Places T h a m dot hasE) (H : AtHead T h neg) (h1 : a = h) (h2 : m - (a + 1) = 0) : ScanIs T (wrongAt T m) := by
  obtain ⟨st, r, hst⟩ := run_mant P H (fun j hj => by omega) (fun j hj => by omega)
  rw [if_pos ⟨h1, h2⟩] at hst
  cases hasE with
  | true =>
    obtain ⟨hm, hc⟩ := P.mark rfl
    refine ScanIs.wrong P.hT hm r ?_
    unfold Sc.step
    simp only
    rw [if_neg (by omega), if_neg (by omega), if_neg (by omega), if_neg (by omega), if_neg (by omega), if_neg (by omega), if_neg (by omega), if_neg (by omega), if_neg (by omega)]
  | false =>
    have hm := P.noMark rfl
    subst hm
    exact ScanIs.short P.hT r (by simp only; omega)

theorem toI_append (a b : List Nat) : toI (a ++ b) = toI a ++ toI b := by simp [toI]

theorem nums_seg (T : ByteArray) (i n : Nat) (h : i + n ≤ T.size) : strOfNums (toI (seg T i n)) = T.extract i (i + n) := by
  rw [← bl_extract_seg T i n h]
  exact nums_bl _

theorem nums_app (a b : List Int) : strOfNums (a ++ b) = strOfNums a ++ strOfNums b := by
  apply ByteArray.ext
  apply Array.toList_inj.1
  rw [strOfNums_data, ByteArray.data_append, Array.toList_append, strOfNums_data, strOfNums_data, List.map_append]

/-- a number without an exponent -/
theorem num_plain {T : ByteArray} {h a m : Nat} {dot neg : Bool} (P : Places T h a m dot false) (H : AtHead T h neg) (hd : ∀ j, j < a - h → 48 ≤ bAt T (h + j) ∧ bAt T (h + j) ≤ 57)
    (hf : ∀ j, j < m - (a + 1) → 48 ≤ bAt T (a + 1 + j) ∧ bAt T (a + 1 + j) ≤ 57) (hne : ¬ (a = h ∧ m - (a + 1) = 0)) {t : ByteArray} (ht : t = strOfNums (toI (seg T h (a - h)) ++ toI (seg T (a + 1) (m - (a + 1))))) :
    ScanIs T (finN neg t (-((m - (a + 1) : Nat) : Int))) := by
  obtain ⟨st, r, hst⟩ := run_mant P H hd hf
  rw [if_neg hne] at hst
  have hm := P.noMark rfl
  subst hm
  exact ScanIs.num P.hT r (by simp only; omega) rfl ht.symm (by simp)

/-- the state behind the mark -/
theorem run_mark {T : ByteArray} {h a m : Nat} {dot neg : Bool} (P : Places T h a m dot true) (H : AtHead T h neg) (hd : ∀ j, j < a - h → 48 ≤ bAt T (h + j) ∧ bAt T (h + j) ≤ 57)
    (hf : ∀ j, j < m - (a + 1) → 48 ≤ bAt T (a + 1 + j) ∧ bAt T (a + 1 + j) ≤ 57) (hne : ¬ (a = h ∧ m - (a + 1) = 0)) :
    runTo T (m + 1) = some ⟨6, neg, false, toI (seg T h (a - h)) ++ toI (seg T (a + 1) (m - (a + 1))), m - (a + 1), 0, 0, 0⟩ := by
  obtain ⟨st, r, hst⟩ := run_mant P H hd hf
  rw [if_neg hne] at hst
  rw [runTo_next r]
  exact Sc.step_e (by have := (P.mark rfl).2; omega) hst

/-- from a place where an exponent's digits are due -/
theorem exp_bad {T : ByteArray} {q n st : Nat} {neg en : Bool} {ds : List Int} {fr : Nat} (hT : T.size ≤ 1024) (hr : runTo T q = some ⟨st, neg, en, ds, fr, 0, 0, 0⟩) (hst : st = 6 ∨ st = 7) (hq : q + n ≤ T.size)
    (hd : ∀ j, j < n → 48 ≤ bAt T (q + j) ∧ bAt T (q + j) ≤ 57) (hx : q + n < T.size → ¬ (48 ≤ bAt T (q + n) ∧ bAt T (q + n) ≤ 57)) (hs : st = 6 → n = 0 → q < T.size → bAt T q ≠ 43 ∧ bAt T q ≠ 45) (hb : q + n < T.size ∨ n = 0) :
    ScanIs T (wrongAt T (q + n)) := by
  have r := runTo_seg T q n hr
  have key : ∃ st', (⟨st, neg, en, ds, fr, 0, 0, 0⟩ : Sc).run (seg T q n) = some ⟨st', neg, en, ds, fr, exL 0 (seg T q n), 0, 0⟩ ∧ ((n = 0 ∧ st' = st) ∨ st' = 8) := by
    by_cases h0 : n = 0
    · subst h0; exact ⟨st, rfl, .inl ⟨rfl, rfl⟩⟩
    · exact ⟨8, run_ex (seg T q n) (seg_mem T q n _ hd) st neg en ds fr 0 0 0 (by omega) (fun e => by have := congrArg List.length e; rw [seg_length] at this; exact absurd this h0), .inr rfl⟩
  obtain ⟨st', k1, k2⟩ := key
  rw [k1] at r
  by_cases hlt : q + n < T.size
  · refine ScanIs.wrong hT hlt r ?_
    have hx' := hx hlt
    have hs' : st' = 6 → bAt T (q + n) ≠ 43 ∧ bAt T (q + n) ≠ 45 := by
      intro e
      rcases k2 with ⟨k3, k4⟩ | k4
      · subst k3; exact hs (by omega) rfl hlt
      · omega
    unfold Sc.step
    simp only
    rw [if_neg hx', if_neg (by omega), if_neg (by omega), if_neg (by omega), if_neg (by omega), if_neg (by omega), if_neg (by omega), if_neg (by omega), if_neg (by omega)]
  · have hn : n = 0 := by omega
    subst hn
    have hqe : q + 0 = T.size := by omega
    rw [hqe] at r ⊢
    rcases k2 with ⟨_, k4⟩ | k4
    · exact ScanIs.short hT r (by simp only; omega)
    · exfalso
      have : st' = st := by
        have e1 : (⟨st, neg, en, ds, fr, 0, 0, 0⟩ : Sc).run (seg T q 0) = some ⟨st, neg, en, ds, fr, 0, 0, 0⟩ := rfl
        rw [e1] at k1
        exact (congrArg Sc.st (Option.some.inj k1)).symm
      omega

theorem exp_ok {T : ByteArray} {q n st : Nat} {neg en : Bool} {ds : List Int} {fr : Nat} (hT : T.size ≤ 1024) (hr : runTo T q = some ⟨st, neg, en, ds, fr, 0, 0, 0⟩) (hst : st = 6 ∨ st = 7) (hq : q + n = T.size) (hn : 0 < n)
    (hd : ∀ j, j < n → 48 ≤ bAt T (q + j) ∧ bAt T (q + j) ≤ 57) {t : ByteArray} (ht : t = strOfNums ds) {x : Int} (hx : x = (if en then -(exL 0 (seg T q n) : Int) else (exL 0 (seg T q n) : Int)) - (fr : Int)) :
    ScanIs T (finN neg t x) := by
  have r := runTo_seg T q n hr
  rw [run_ex (seg T q n) (seg_mem T q n _ hd) st neg en ds fr 0 0 0 (by omega) (fun e => by have := congrArg List.length e; rw [seg_length] at this; simp at this; omega), hq] at r
  exact ScanIs.num hT r (by simp) rfl ht.symm hx.symm

end Go.Proofs.Ygcoab
