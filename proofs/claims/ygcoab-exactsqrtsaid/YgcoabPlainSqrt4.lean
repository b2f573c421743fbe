/- What the law's four comparisons say. -/
import Derived.Test.YgcoabPlainSqrt3
namespace Go.Proofs.Ygcoab

def SqSays (mode : Nat) (o1 o2 o3 o4 : Int) : Prop :=
  if mode = 2 ∨ mode = 4 then o2 ≤ 0 ∧ ¬ (o1 < 0 ∧ o3 ≤ 0)
  else if mode = 3 then 0 ≤ o2 ∧ ¬ (0 < o1 ∧ 0 ≤ o3)
  else o1 = 0 ∨ (o1 < 0 ∧ o4 ≤ 0) ∨ (0 < o1 ∧ 0 ≤ o4)

theorem sq_final {E M mode a g Y : Nat} (h : FOk E M) (hf : expF E M a ≠ topE E) (hres : SqRes E M mode (sqT E M a) g) (hg : g < 2 ^ (E + M)) (fg : expF E M g ≠ topE E) (hY : Y < 2 ^ (E + M)) (fY : expF E M Y ≠ topE E) :
    SqSays mode (cmpZ (vNum E M g * vDen E M Y) (vNum E M Y * vDen E M g)) (cmpZ (vNum E M g * vNum E M g * vDen E M a) (vNum E M a * (vDen E M g * vDen E M g))) (cmpZ (vNum E M Y * vNum E M Y * vDen E M a) (vNum E M a * (vDen E M Y * vDen E M Y)))
      (cmpZ (4 * vNum E M a * (vDen E M g * vDen E M Y * (vDen E M g * vDen E M Y))) ((vNum E M g * vDen E M Y + vNum E M Y * vDen E M g) * (vNum E M g * vDen E M Y + vNum E M Y * vDen E M g) * (1 * vDen E M a))) := by
  have hL := sqrt_law hres Y
  rw [← unit_pat hg, ← unit_pat hY] at hL
  have hc := two_pow_pos' (mU E M)
  have ea := unit_id h hf
  have eg := unit_id h fg
  have eY := unit_id h fY
  have pa := vDen_pos E M a
  have pg := vDen_pos E M g
  have pY := vDen_pos E M Y
  rw [cmp_units hc pg pY eg eY, cmp_square hc pg pa eg ea, cmp_square hc pY pa eY ea, cmp_side hc pg pY pa eg eY ea]
  show SqSays mode _ (cmpZ _ (sqT E M a)) (cmpZ _ (sqT E M a)) (cmpZ (sqT E M a * 4) _)
  unfold SqSays
  unfold sqLaw at hL
  generalize sqT E M a = T at *
  generalize unitU E M g = G at *
  generalize unitU E M Y = W at *
  by_cases h1 : mode = 2 ∨ mode = 4
  · rw [if_pos h1] at hL ⊢
    rw [cz_le, cz_lt, cz_le]
    exact hL
  · rw [if_neg h1] at hL ⊢
    by_cases h2 : mode = 3
    · rw [if_pos h2] at hL ⊢
      rw [cz_ge, cz_gt, cz_ge]
      exact hL
    · rw [if_neg h2] at hL ⊢
      rw [cz_eq, cz_lt, cz_le, cz_gt, cz_ge]
      exact hL

end Go.Proofs.Ygcoab
