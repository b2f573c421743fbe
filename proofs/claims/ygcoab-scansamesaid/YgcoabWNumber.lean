import Derived.Test.YgcoabWModel
import Derived.Test.YgcoabWMake
import Derived.Test.YgcoabPlainScanText
import Derived.Deep.DeepCutAuto
import Derived.Deep.RegionWith
namespace Go.Proofs.Ygcoab
open Go.RowKit

theorem IsCut.unique {s : ByteArray} {a b : Nat} {m n : Int} (h : IsCut s a b m) (k : IsCut s a b n) : m = n := by
  rcases h with ⟨i, rfl, hi, hia, hil⟩ | ⟨rfl, hi⟩
  · rcases k with ⟨j, rfl, hj, hja, hjl⟩ | ⟨rfl, hj⟩
    · rcases Nat.lt_trichotomy i j with l | l | l
      · have := hjl i l; omega
      · omega
      · have := hil j l; omega
    · have := hj i hi; omega
  · rcases k with ⟨j, rfl, hj, hja, hjl⟩ | ⟨rfl, hj⟩
    · have := hi j hj; omega
    · rfl

theorem IsDigN.unique {s : ByteArray} {m n : Nat} (h : IsDigN s m) (k : IsDigN s n) : m = n := by
  rcases Nat.lt_trichotomy m n with l | l | l
  · exact absurd (k.2.1 m l) (h.2.2 (by have := k.1; omega))
  · exact l
  · exact absurd (h.2.1 n l) (k.2.2 (by have := h.1; omega))

theorem IsMatch.unique {s u : ByteArray} {m n : Nat} (h : IsMatch s u m) (k : IsMatch s u n) : m = n := by
  rcases Nat.lt_trichotomy m n with l | l | l
  · exact absurd (k.2.2.1 m l) (h.2.2.2 (by have := k.1; omega) (by have := k.2.1; omega))
  · exact l
  · exact absurd (h.2.2.1 n l) (k.2.2.2 (by have := h.1; omega) (by have := h.2.1; omega))

theorem cut_eq {s : ByteArray} {a b : Nat} {n : Int} (h : IsCut s a b n) (w : World) (hs : s.size ≤ 140737488351232) :
    Calls Oabg.prog 94 #[.string s, .int .u8 a, .int .u8 b] w fun e w' => e = .returned (.int .i64 n) ∧ w' = w :=
  (cut_any s a b w hs).mono fun e w' ⟨m, h1, h2, h3⟩ => ⟨by rw [h1, h2.unique h], h3⟩

theorem digits_eq {s : ByteArray} {n : Nat} (h : IsDigN s n) (w : World) (hs : s.size ≤ 140737488351232) :
    Calls Oabg.prog 95 #[.string s] w fun e w' => e = .returned (.int .i64 n) ∧ w' = w :=
  (digits_any s w hs).mono fun e w' ⟨m, h1, h2, h3⟩ => ⟨by rw [h1, h2.unique h], h3⟩

theorem matched_eq {s u : ByteArray} {n : Nat} (h : IsMatch s u n) (w : World) (hs : s.size ≤ 140737488351232) (hu : u.size ≤ 1000) :
    Calls Oabg.prog 56 #[.string s, .string u] w fun e w' => e = .returned (.int .i64 n) ∧ Below w.heap.size w w' :=
  (matched_any s u w hs hu).mono fun e w' ⟨m, h1, h2, h3⟩ => ⟨by rw [h1, h2.unique h], h3⟩

/-- wrong's answer, its fields laid out -/
theorem wrong_agg (s : ByteArray) (p : Nat) (R : Sd) (hR : R = wrongAt s p) (w : World) (hs : s.size ≤ 140737488351232) (hp : p ≤ s.size) (x : Int) (hx : x = (p : Int)) :
    Calls Oabg.prog 57 #[.string s, .int .i64 x] w fun e w' => e = .returned (.agg #[.int .u8 R.kind, .bool R.neg, .string R.dig, .int .i16 R.exp, .int .i64 R.pos, .int .i32 R.got]) ∧ Below w.heap.size w w' := by
  subst hR hx
  exact wrong_any s p w hs hp

/-- the pieces of a number's text -/
structure Parts (T body mant ex ip fp : ByteArray) (hasE : Bool) (h : Nat) (e p : Int) : Prop where
  hT : T.size ≤ 1024
  hh : h + body.size = T.size
  he : IsCut body 101 69 e
  hE : (0 ≤ e ∧ hasE = true ∧ mant = body.extract 0 e.toNat ∧ ex = body.extract (e.toNat + 1) body.size) ∨ (e = -1 ∧ hasE = false ∧ mant = body ∧ ex = ⟨#[]⟩)
  hp : IsCut mant 46 46 p
  hP : (0 ≤ p ∧ ip = mant.extract 0 p.toNat ∧ fp = mant.extract (p.toNat + 1) mant.size) ∨ (p = -1 ∧ ip = mant ∧ fp = ⟨#[]⟩)

/-- the world behind the two cuts -/
def NW (w : World) : World := w.alloc (.cells zero32 32)


/-- the answer that Make gives -/
def finN (neg : Bool) (t : ByteArray) (x : Int) : Sd :=
  if (mkDc neg t x).2 = true then ⟨0, (mkDc neg t x).1.neg, (mkDc neg t x).1.dig, (mkDc neg t x).1.exp, 0, 0⟩ else Sd.tooBig

/-- the world in the tail: the answer's cells are there, and nothing old has turned -/
structure NAt (w W : World) : Prop where
  c0 : W.cell? ⟨w.heap.size, 0, none⟩ = some (.int .u8 0)
  c1 : W.cell? ⟨w.heap.size, 1, none⟩ = some (.bool false)
  c2 : W.cell? ⟨w.heap.size, 2, none⟩ = some (.string ⟨#[]⟩)
  c3 : W.cell? ⟨w.heap.size, 3, none⟩ = some (.int .i16 0)
  c4 : W.cell? ⟨w.heap.size, 4, none⟩ = some (.int .i64 0)
  c5 : W.cell? ⟨w.heap.size, 5, none⟩ = some (.int .i32 0)
  cf : ∀ o, W.frozen? ⟨w.heap.size, o, none⟩ = false
  below : Below w.heap.size w W
  size : w.heap.size < W.heap.size

theorem nat_nw (w : World) (n : Nat) : NAt w ((NW w).drewN n) := by
  have hh : ((NW w).drewN n).heap[w.heap.size]? = some (.cells zero32 32 (0, 0)) := by
    show (NW w).heap[w.heap.size]? = _
    exact heap_new _ _ _ rfl
  refine ⟨cell_of_row _ _ 0 _ _ _ hh, cell_of_row _ _ 1 _ _ _ hh, cell_of_row _ _ 2 _ _ _ hh, cell_of_row _ _ 3 _ _ _ hh, cell_of_row _ _ 4 _ _ _ hh, cell_of_row _ _ 5 _ _ _ hh, fun o => frozen_of_row _ _ o _ _ hh, below_drewN ((Below.refl _ _).alloc (Nat.le_refl _) _) _, ?_⟩
  exact (Array.getElem?_eq_some_iff.1 hh).1

theorem nat_below {w W w1 : World} {v0 v1 v2 v3 v4 v5 : Value} (h : NAt w W) (hb : Below W.heap.size W w1) :
    Below w.heap.size w ((((((w1.setCell ⟨w.heap.size, 0, none⟩ v0).setCell ⟨w.heap.size, 1, none⟩ v1).setCell ⟨w.heap.size, 2, none⟩ v2).setCell ⟨w.heap.size, 3, none⟩ v3).setCell ⟨w.heap.size, 4, none⟩ v4).setCell ⟨w.heap.size, 5, none⟩ v5) :=
  below_set6 (h.below.trans (hb.mono (Nat.le_of_lt h.size))) (Nat.le_refl _)

theorem nat_below_make {w W w1 : World} {o : Obj} {v0 v1 v2 v3 v4 v5 : Value} (h : NAt w W) (hb : Below W.heap.size W w1) :
    Below w.heap.size w (((((((w1.setCell ⟨w.heap.size, 0, none⟩ v0).setCell ⟨w.heap.size, 1, none⟩ v1).setCell ⟨w.heap.size, 2, none⟩ v2).setCell ⟨w.heap.size, 3, none⟩ v3).setCell ⟨w.heap.size, 4, none⟩ v4).setCell ⟨w.heap.size, 5, none⟩ v5).alloc o) := by
  have k := nat_below (v0 := v0) (v1 := v1) (v2 := v2) (v3 := v3) (v4 := v4) (v5 := v5) h hb
  exact k.alloc k.size _

theorem Parts.sizes {T body mant ex ip fp : ByteArray} {hasE : Bool} {h : Nat} {e p : Int} (P : Parts T body mant ex ip fp hasE h e p) :
    ip.size + fp.size ≤ mant.size ∧ (0 < fp.size → ip.size + 1 + fp.size = mant.size) ∧ mant.size + ex.size ≤ body.size := by
  have hml : mant.size + ex.size ≤ body.size := by
    rcases P.hE with ⟨h0, _, h1, h2⟩ | ⟨_, _, h1, h2⟩
    · rw [h1, h2, ByteArray.size_extract, ByteArray.size_extract]; omega
    · rw [h1, h2]; show body.size + 0 ≤ _; omega
  rcases P.hP with ⟨h0, h1, h2⟩ | ⟨_, h1, h2⟩
  · have hpl : p < mant.size := by rcases P.hp with ⟨k, rfl, hk, _⟩ | ⟨rfl, _⟩ <;> omega
    rw [h1, h2, ByteArray.size_extract, ByteArray.size_extract]; omega
  · rw [h1, h2]
    refine ⟨by show mant.size + 0 ≤ _; omega, fun h => absurd h (by decide), hml⟩

/-- an exponent's sign -/
def exSig (ex : ByteArray) : Bool := decide (0 < ex.size) && (bAt ex 0 == 43 || bAt ex 0 == 45)

/-- an exponent behind its sign -/
def exTail (ex : ByteArray) : ByteArray := if exSig ex = true then ex.extract 1 ex.size else ex

/-- number's answer -/
def numR (T mant ex ip fp : ByteArray) (hasE : Bool) (h : Nat) (neg : Bool) (n1 n2 n3 : Nat) : Sd :=
  if n1 < ip.size then wrongAt T (h + n1)
  else if n2 < fp.size then wrongAt T (h + ip.size + 1 + n2)
  else if ip.size = 0 ∧ fp.size = 0 then wrongAt T (h + mant.size)
  else if hasE = false then finN neg (ip ++ fp) (-(fp.size : Int))
  else if n3 < (exTail ex).size ∨ n3 = 0 then wrongAt T (T.size - ex.size + (if exSig ex = true then 1 else 0) + n3)
  else finN neg (ip ++ fp) ((if exSig ex = true ∧ bAt ex 0 = 45 then -(exL 0 (bl (exTail ex)) : Int) else (exL 0 (bl (exTail ex)) : Int)) - (fp.size : Int))

theorem exL_le (l : List Nat) : exL 0 l ≤ 1000000 := by
  have : ∀ (l : List Nat) (e : Nat), e ≤ 1000000 → exL e l ≤ 1000000 := by
    intro l
    induction l with
    | nil => intro e h; exact h
    | cons c l ih => intro e h; exact ih _ (Nat.min_le_right _ _)
  exact this l 0 (by omega)

theorem exL_take (s : ByteArray) (k : Nat) (h : k < s.size) : exL 0 ((bl s).take (k + 1)) = min (10 * exL 0 ((bl s).take k) + (bAt s k - 48)) 1000000 := by
  rw [List.take_succ_eq_append_getElem (by rw [bl_length]; exact h), exL_append, bl_get s k h]
  rfl

theorem make_fin {neg : Bool} {t : ByteArray} {x : Int} {R : Sd} (hR : R = finN neg t x) :
    ∃ n d y ok, mkDc neg t x = (⟨n, d, y⟩, ok) ∧ ((ok = true ∧ R = ⟨0, n, d, y, 0, 0⟩) ∨ (ok = false ∧ R = Sd.tooBig)) := by
  refine ⟨(mkDc neg t x).1.neg, (mkDc neg t x).1.dig, (mkDc neg t x).1.exp, (mkDc neg t x).2, rfl, ?_⟩
  unfold finN at hR
  cases hk : (mkDc neg t x).2
  · right; rw [hk] at hR; exact ⟨rfl, by simpa using hR⟩
  · left; rw [hk] at hR; exact ⟨rfl, by simpa using hR⟩

end Go.Proofs.Ygcoab
