/- Plain: the scanner as a machine of states over bytes. No Go in sight. -/
import Derived.Test.YgcoabPlainVal
namespace Go.Proofs.Ygcoab
open Go.RowKit

/-- what Scan has gathered: the state, the signs, the digits, how many stand behind the point, the exponent, the word (1: infinity, 2: nan), how much of it has been read -/
structure Sc where
  st : Nat
  neg : Bool
  en : Bool
  ds : List Int
  fr : Nat
  ex : Nat
  wd : Nat
  at_ : Nat

def Sc.init : Sc := ⟨0, false, false, [], 0, 0, 0, 0⟩

def wordB (n : Nat) : ByteArray := if n = 1 then ⟨#[105, 110, 102, 105, 110, 105, 116, 121]⟩ else if n = 2 then ⟨#[110, 97, 110]⟩ else ⟨#[]⟩

/-- one sign read -/
def Sc.step (S : Sc) (c : Nat) : Option Sc :=
  if 48 ≤ c ∧ c ≤ 57 then
    if S.st = 6 ∨ S.st = 7 ∨ S.st = 8 then some { S with ex := min (10 * S.ex + (c - 48)) 1000000, st := 8 }
    else if S.st = 3 ∨ S.st = 4 ∨ S.st = 5 then some { S with fr := S.fr + 1, st := 5, ds := S.ds ++ [(c : Int)] }
    else if S.st ≤ 2 then some { S with st := 2, ds := S.ds ++ [(c : Int)] }
    else none
  else if S.st = 0 ∧ (c = 43 ∨ c = 45) then some { S with neg := c == 45, st := 1 }
  else if S.st = 6 ∧ (c = 43 ∨ c = 45) then some { S with en := c == 45, st := 7 }
  else if S.st = 2 ∧ c = 46 then some { S with st := 3 }
  else if S.st ≤ 1 ∧ c = 46 then some { S with st := 4 }
  else if S.st ≤ 1 ∧ (c = 73 ∨ c = 105) then some { S with st := 9, wd := 1, at_ := 1 }
  else if S.st ≤ 1 ∧ (c = 78 ∨ c = 110) then some { S with st := 9, wd := 2, at_ := 1 }
  else if S.st = 9 ∧ S.at_ < (wordB S.wd).size ∧ (c = bAt (wordB S.wd) S.at_ ∨ c + 32 = bAt (wordB S.wd) S.at_) then some { S with at_ := S.at_ + 1 }
  else if (S.st = 2 ∨ S.st = 3 ∨ S.st = 5) ∧ (c = 69 ∨ c = 101) then some { S with st := 6 }
  else none

/-- the first k bytes read -/
def runTo (s : ByteArray) : Nat → Option Sc
  | 0 => some Sc.init
  | k + 1 => (runTo s k).bind fun S => S.step (bAt s k)

/-- what is known of every state that is met -/
def Sc.Good (S : Sc) (k : Nat) : Prop :=
  S.st ≤ 9 ∧ S.ds.length ≤ k ∧ S.fr ≤ k ∧ S.ex ≤ 1000000 ∧ (∀ x ∈ S.ds, 48 ≤ x ∧ x ≤ 57) ∧ (S.st = 9 → (S.wd = 1 ∨ S.wd = 2) ∧ 1 ≤ S.at_ ∧ S.at_ ≤ (wordB S.wd).size) ∧ (S.st ≠ 9 → S.wd = 0 ∧ S.at_ = 0)

theorem Sc.step_good {S S' : Sc} {k c : Nat} (h : S.Good k) (hs : S.step c = some S') : S'.Good (k + 1) := by
  obtain ⟨h1, h2, h3, h4, h5, h6, h7⟩ := h
  unfold Sc.step at hs
  split at hs
  · split at hs
    · simp only [Option.some.injEq] at hs; subst hs
      exact ⟨by simp, by simp; omega, by simp; omega, by simp; omega, h5, by simp, fun _ => h7 (by omega)⟩
    · split at hs
      · simp only [Option.some.injEq] at hs; subst hs
        refine ⟨by simp, by simp; omega, by simp; omega, h4, ?_, by simp, fun _ => h7 (by omega)⟩
        intro x hx
        simp only [List.mem_append, List.mem_singleton] at hx
        rcases hx with hx | hx
        · exact h5 x hx
        · subst hx; omega
      · split at hs
        · simp only [Option.some.injEq] at hs; subst hs
          refine ⟨by simp, by simp; omega, by simp; omega, h4, ?_, by simp, fun _ => h7 (by omega)⟩
          intro x hx
          simp only [List.mem_append, List.mem_singleton] at hx
          rcases hx with hx | hx
          · exact h5 x hx
          · subst hx; omega
        · simp at hs
  · split at hs
    · simp only [Option.some.injEq] at hs; subst hs
      exact ⟨by simp, by simp; omega, by simp; omega, h4, h5, by simp, fun _ => h7 (by omega)⟩
    · split at hs
      · simp only [Option.some.injEq] at hs; subst hs
        exact ⟨by simp, by simp; omega, by simp; omega, h4, h5, by simp, fun _ => h7 (by omega)⟩
      · split at hs
        · simp only [Option.some.injEq] at hs; subst hs
          exact ⟨by simp, by simp; omega, by simp; omega, h4, h5, by simp, fun _ => h7 (by omega)⟩
        · split at hs
          · simp only [Option.some.injEq] at hs; subst hs
            exact ⟨by simp, by simp; omega, by simp; omega, h4, h5, by simp, fun _ => h7 (by omega)⟩
          · split at hs
            · simp only [Option.some.injEq] at hs; subst hs
              exact ⟨by simp, by simp; omega, by simp; omega, h4, h5, fun _ => ⟨.inl rfl, by simp, by show 1 ≤ 8; omega⟩, by simp⟩
            · split at hs
              · simp only [Option.some.injEq] at hs; subst hs
                exact ⟨by simp, by simp; omega, by simp; omega, h4, h5, fun _ => ⟨.inr rfl, by simp, by show 1 ≤ 3; omega⟩, by simp⟩
              · split at hs
                · rename_i hw
                  simp only [Option.some.injEq] at hs; subst hs
                  have := h6 hw.1
                  refine ⟨by simp; omega, by simp; omega, by simp; omega, h4, h5, fun _ => ⟨this.1, by simp, ?_⟩, fun hn => absurd hw.1 hn⟩
                  show S.at_ + 1 ≤ (wordB S.wd).size
                  omega
                · split at hs
                  · simp only [Option.some.injEq] at hs; subst hs
                    exact ⟨by simp, by simp; omega, by simp; omega, h4, h5, by simp, fun _ => h7 (by omega)⟩
                  · simp at hs

theorem runTo_good (s : ByteArray) : ∀ (k : Nat) (S : Sc), runTo s k = some S → S.Good k := by
  intro k
  induction k with
  | zero =>
    intro S h
    simp only [runTo, Option.some.injEq] at h
    subst h
    exact ⟨by decide, by decide, by decide, by decide, fun x hx => absurd hx (by simp [Sc.init]), by decide, by decide⟩
  | succ k ih =>
    intro S h
    simp only [runTo] at h
    cases e : runTo s k with
    | none => rw [e] at h; simp at h
    | some T =>
      rw [e] at h
      exact Sc.step_good (ih T e) h

theorem runTo_next {s : ByteArray} {k : Nat} {S : Sc} (h : runTo s k = some S) : runTo s (k + 1) = S.step (bAt s k) := by
  simp [runTo, h]

theorem wordB_lt (n i : Nat) : bAt (wordB n) i < 128 := by
  unfold wordB
  split
  · rcases i with _ | _ | _ | _ | _ | _ | _ | _ | i <;> first | decide | (simp [bAt])
  · split
    · rcases i with _ | _ | _ | i <;> first | decide | (simp [bAt])
    · simp [bAt]

/-- no sign beyond ASCII is ever taken -/
theorem Sc.step_high (S : Sc) (c : Nat) (h : 128 ≤ c) : S.step c = none := by
  have hw := wordB_lt S.wd S.at_
  unfold Sc.step
  rw [if_neg (by omega), if_neg (by omega), if_neg (by omega), if_neg (by omega), if_neg (by omega), if_neg (by omega), if_neg (by omega), if_neg (by omega), if_neg (by omega)]

/-! ### each act by itself -/
theorem Sc.step_ex {S : Sc} {c : Nat} (h : 48 ≤ c ∧ c ≤ 57) (hs : S.st = 6 ∨ S.st = 7 ∨ S.st = 8) : S.step c = some { S with ex := min (10 * S.ex + (c - 48)) 1000000, st := 8 } := by
  unfold Sc.step; rw [if_pos h, if_pos hs]
theorem Sc.step_fr {S : Sc} {c : Nat} (h : 48 ≤ c ∧ c ≤ 57) (hs : S.st = 3 ∨ S.st = 4 ∨ S.st = 5) : S.step c = some { S with fr := S.fr + 1, st := 5, ds := S.ds ++ [(c : Int)] } := by
  unfold Sc.step; rw [if_pos h, if_neg (by omega), if_pos hs]
theorem Sc.step_in {S : Sc} {c : Nat} (h : 48 ≤ c ∧ c ≤ 57) (hs : S.st ≤ 2) : S.step c = some { S with st := 2, ds := S.ds ++ [(c : Int)] } := by
  unfold Sc.step; rw [if_pos h, if_neg (by omega), if_neg (by omega), if_pos hs]
theorem Sc.step_sg {S : Sc} {c : Nat} (h : c = 43 ∨ c = 45) (hs : S.st = 0) : S.step c = some { S with neg := c == 45, st := 1 } := by
  unfold Sc.step; rw [if_neg (by omega), if_pos ⟨hs, h⟩]
theorem Sc.step_es {S : Sc} {c : Nat} (h : c = 43 ∨ c = 45) (hs : S.st = 6) : S.step c = some { S with en := c == 45, st := 7 } := by
  unfold Sc.step; rw [if_neg (by omega), if_neg (by omega), if_pos ⟨hs, h⟩]
theorem Sc.step_dot {S : Sc} {c : Nat} (h : c = 46) (hs : S.st = 2) : S.step c = some { S with st := 3 } := by
  unfold Sc.step; rw [if_neg (by omega), if_neg (by omega), if_neg (by omega), if_pos ⟨hs, h⟩]
theorem Sc.step_bare {S : Sc} {c : Nat} (h : c = 46) (hs : S.st ≤ 1) : S.step c = some { S with st := 4 } := by
  unfold Sc.step; rw [if_neg (by omega), if_neg (by omega), if_neg (by omega), if_neg (by omega), if_pos ⟨hs, h⟩]
theorem Sc.step_i {S : Sc} {c : Nat} (h : c = 73 ∨ c = 105) (hs : S.st ≤ 1) : S.step c = some { S with st := 9, wd := 1, at_ := 1 } := by
  unfold Sc.step; rw [if_neg (by omega), if_neg (by omega), if_neg (by omega), if_neg (by omega), if_neg (by omega), if_pos ⟨hs, h⟩]
theorem Sc.step_n {S : Sc} {c : Nat} (h : c = 78 ∨ c = 110) (hs : S.st ≤ 1) : S.step c = some { S with st := 9, wd := 2, at_ := 1 } := by
  unfold Sc.step; rw [if_neg (by omega), if_neg (by omega), if_neg (by omega), if_neg (by omega), if_neg (by omega), if_neg (by omega), if_pos ⟨hs, h⟩]
theorem Sc.step_w {S : Sc} {c : Nat} (hd : ¬ (48 ≤ c ∧ c ≤ 57)) (h : S.at_ < (wordB S.wd).size ∧ (c = bAt (wordB S.wd) S.at_ ∨ c + 32 = bAt (wordB S.wd) S.at_)) (hs : S.st = 9) : S.step c = some { S with at_ := S.at_ + 1 } := by
  unfold Sc.step; rw [if_neg hd, if_neg (by omega), if_neg (by omega), if_neg (by omega), if_neg (by omega), if_neg (by omega), if_neg (by omega), if_pos ⟨hs, h⟩]
theorem Sc.step_e {S : Sc} {c : Nat} (h : c = 69 ∨ c = 101) (hs : S.st = 2 ∨ S.st = 3 ∨ S.st = 5) : S.step c = some { S with st := 6 } := by
  unfold Sc.step; rw [if_neg (by omega), if_neg (by omega), if_neg (by omega), if_neg (by omega), if_neg (by omega), if_neg (by omega), if_neg (by omega), if_neg (by omega), if_pos ⟨hs, h⟩]

theorem Sc.step_inv {S S' : Sc} {c : Nat} (h : S.step c = some S') :
    ((48 ≤ c ∧ c ≤ 57) ∧ (S.st = 6 ∨ S.st = 7 ∨ S.st = 8) ∧ S' = { S with ex := min (10 * S.ex + (c - 48)) 1000000, st := 8 }) ∨
    ((48 ≤ c ∧ c ≤ 57) ∧ (S.st = 3 ∨ S.st = 4 ∨ S.st = 5) ∧ S' = { S with fr := S.fr + 1, st := 5, ds := S.ds ++ [(c : Int)] }) ∨
    ((48 ≤ c ∧ c ≤ 57) ∧ (S.st = 0 ∨ S.st = 1 ∨ S.st = 2) ∧ S' = { S with st := 2, ds := S.ds ++ [(c : Int)] }) ∨
    ((c = 43 ∨ c = 45) ∧ S.st = 0 ∧ S' = { S with neg := c == 45, st := 1 }) ∨
    ((c = 43 ∨ c = 45) ∧ S.st = 6 ∧ S' = { S with en := c == 45, st := 7 }) ∨
    (c = 46 ∧ S.st = 2 ∧ S' = { S with st := 3 }) ∨
    (c = 46 ∧ (S.st = 0 ∨ S.st = 1) ∧ S' = { S with st := 4 }) ∨
    ((c = 73 ∨ c = 105) ∧ (S.st = 0 ∨ S.st = 1) ∧ S' = { S with st := 9, wd := 1, at_ := 1 }) ∨
    ((c = 78 ∨ c = 110) ∧ (S.st = 0 ∨ S.st = 1) ∧ S' = { S with st := 9, wd := 2, at_ := 1 }) ∨
    ((¬ (48 ≤ c ∧ c ≤ 57) ∧ S.at_ < (wordB S.wd).size ∧ (c = bAt (wordB S.wd) S.at_ ∨ c + 32 = bAt (wordB S.wd) S.at_)) ∧ S.st = 9 ∧ S' = { S with at_ := S.at_ + 1 }) ∨
    ((c = 69 ∨ c = 101) ∧ (S.st = 2 ∨ S.st = 3 ∨ S.st = 5) ∧ S' = { S with st := 6 }) := by
  unfold Sc.step at h
  split at h
  · rename_i hd
    split at h
    · rename_i h1; exact .inl ⟨hd, h1, (Option.some.inj h).symm⟩
    · split at h
      · rename_i h1; exact .inr (.inl ⟨hd, h1, (Option.some.inj h).symm⟩)
      · split at h
        · rename_i h1; exact .inr (.inr (.inl ⟨hd, by omega, (Option.some.inj h).symm⟩))
        · cases h
  · rename_i hd
    split at h
    · rename_i h1; exact .inr (.inr (.inr (.inl ⟨h1.2, h1.1, (Option.some.inj h).symm⟩)))
    · split at h
      · rename_i h1; exact .inr (.inr (.inr (.inr (.inl ⟨h1.2, h1.1, (Option.some.inj h).symm⟩))))
      · split at h
        · rename_i h1; exact .inr (.inr (.inr (.inr (.inr (.inl ⟨h1.2, h1.1, (Option.some.inj h).symm⟩)))))
        · split at h
          · rename_i h1; exact .inr (.inr (.inr (.inr (.inr (.inr (.inl ⟨h1.2, by omega, (Option.some.inj h).symm⟩))))))
          · split at h
            · rename_i h1; exact .inr (.inr (.inr (.inr (.inr (.inr (.inr (.inl ⟨h1.2, by omega, (Option.some.inj h).symm⟩)))))))
            · split at h
              · rename_i h1; exact .inr (.inr (.inr (.inr (.inr (.inr (.inr (.inr (.inl ⟨h1.2, by omega, (Option.some.inj h).symm⟩))))))))
              · split at h
                · rename_i h1; exact .inr (.inr (.inr (.inr (.inr (.inr (.inr (.inr (.inr (.inl ⟨⟨hd, h1.2⟩, h1.1, (Option.some.inj h).symm⟩)))))))))
                · split at h
                  · rename_i h1; exact .inr (.inr (.inr (.inr (.inr (.inr (.inr (.inr (.inr (.inr ⟨h1.2, h1.1, (Option.some.inj h).symm⟩)))))))))
                  · cases h

theorem Sc.none_of {S : Sc} {c : Nat} {S' : Sc} (h : S.step c = none) (h' : S.step c = some S') : False := by
  rw [h] at h'; cases h'

/-- what Scan answers -/
structure Sd where
  kind : Int
  neg : Bool
  dig : ByteArray
  exp : Int
  pos : Int
  got : Int

def Sd.tooBig : Sd := ⟨4, false, ⟨#[]⟩, 0, 0, 0⟩
def Sd.wrong (pos got : Int) : Sd := ⟨3, false, ⟨#[]⟩, 0, pos, got⟩

/-- finish's answer -/
def Sc.fin (S : Sc) (n : Nat) : Sd :=
  if S.st = 2 ∨ S.st = 3 ∨ S.st = 5 ∨ S.st = 8 then
    if (mkDc S.neg (strOfNums S.ds) ((if S.en then -(S.ex : Int) else (S.ex : Int)) - (S.fr : Int))).2 = true then
      ⟨0, (mkDc S.neg (strOfNums S.ds) ((if S.en then -(S.ex : Int) else (S.ex : Int)) - (S.fr : Int))).1.neg, (mkDc S.neg (strOfNums S.ds) ((if S.en then -(S.ex : Int) else (S.ex : Int)) - (S.fr : Int))).1.dig, (mkDc S.neg (strOfNums S.ds) ((if S.en then -(S.ex : Int) else (S.ex : Int)) - (S.fr : Int))).1.exp, 0, 0⟩
    else Sd.tooBig
  else if S.st = 9 ∧ S.wd = 2 ∧ S.at_ = 3 then ⟨2, false, ⟨#[]⟩, 0, 0, 0⟩
  else if S.st = 9 ∧ S.wd = 1 ∧ (S.at_ = 3 ∨ S.at_ = 8) then ⟨1, S.neg, ⟨#[]⟩, 0, 0, 0⟩
  else Sd.wrong n (-1)

/-- R is what Scan answers for s -/
def ScanIs (s : ByteArray) (R : Sd) : Prop :=
  (1024 < s.size ∧ R = Sd.tooBig) ∨
  (s.size ≤ 1024 ∧ ((∃ k S, k < s.size ∧ runTo s k = some S ∧ S.step (bAt s k) = none ∧ R = Sd.wrong k (Utf8.decode s k).1) ∨ ∃ S, runTo s s.size = some S ∧ R = S.fin s.size))

end Go.Proofs.Ygcoab
