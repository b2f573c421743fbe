import Derived.Test.YgcoabWBinOps
namespace Go.Proofs.Ygcoab
open Go.RowKit

theorem negFrac_any {w : World} {p : Value} {s : Bool} {A D : Nat} (hp : RatAt w p s A D) :
    Calls Oabg.prog 43 #[p] w fun e w' => ∃ r, e = .returned r ∧ RatAt w' r (!s) A D ∧ Below w.heap.size w w' := by
  obtain ⟨a1, n1, c1, a2, n2, c2, rfl, i1, j1⟩ := hp
  have b1 := below_alloc w (.cells #[.bool (!s), .slice a1 n1 c1, .slice a2 n2 c2] 50)
  have b2 := below_alloc (w.alloc (.cells #[.bool (!s), .slice a1 n1 c1, .slice a2 n2 c2] 50)) (.cells #[.bool (!s), .slice a1 n1 c1, .slice a2 n2 c2] 50)
  have HX : Hid (IsN ((w.alloc (.cells #[.bool (!s), .slice a1 n1 c1, .slice a2 n2 c2] 50)).alloc (.cells #[.bool (!s), .slice a1 n1 c1, .slice a2 n2 c2] 50)) (.slice a1 n1 c1) A) := (i1.step b1).step b2
  have HY : Hid (IsN ((w.alloc (.cells #[.bool (!s), .slice a1 n1 c1, .slice a2 n2 c2] 50)).alloc (.cells #[.bool (!s), .slice a1 n1 c1, .slice a2 n2 c2] 50)) (.slice a2 n2 c2) D) := (j1.step b1).step b2
  have HB : Hid (Below w.heap.size w ((w.alloc (.cells #[.bool (!s), .slice a1 n1 c1, .slice a2 n2 c2] 50)).alloc (.cells #[.bool (!s), .slice a1 n1 c1, .slice a2 n2 c2] 50))) := below_step b1 b1.size b2
  clear i1 j1 b1 b2
  go_enter Oabg.func43, Oabg.ntmps43
  go_wp2
  exact bodyPost_ret (v := .agg #[.bool (!s), .slice a1 n1 c1, .slice a2 n2 c2]) (by simp [results, Oabg.results43, go_sem]) rfl ⟨_, rfl, ⟨_, _, _, _, _, _, rfl, HX.out, HY.out⟩, HB.out⟩

theorem isFinite_yes {E M : Nat} (h : FOk E M) (x : Nat) (hx : x < 18446744073709551616) (t : Bool) (ht : t = !decide (expF E M x = topE E)) (w : World) :
    Calls Oabg.prog 26 #[fmtV E M, .int .u64 x] w fun e w' => e = .returned (.bool t) ∧ Below w.heap.size w w' := by
  have h' := h
  obtain ⟨h1, h2, h3, h4⟩ := h
  have htop : IntKind.u64.wrap (IntKind.u64.wrap (2 ^ E) - 1) = (topE E : Nat) := w64_pow1 (by omega)
  have HE : Hid (∀ w : World, Calls Oabg.prog 65 #[.agg #[.int .u8 E, .int .u8 M], .int .u64 x] w fun e w' => e = .returned (.int .u64 (expF E M x)) ∧ Below w.heap.size w w') := fun w => expField_yes h' x hx w
  have heq : ((expF E M x : Int) == (topE E : Int)) = !t := by rw [ht, Bool.eq_iff_iff]; simp; omega
  generalize expF E M x = ef at *
  generalize topE E = te at *
  clear ht
  unfold fmtV
  go_enter Oabg.func26, Oabg.ntmps26
  go_wp2
  go_region_held3 (fun w' => w'.cell? ⟨w.heap.size, 0, none⟩ = some (.int .u8 E) ∧ w'.cell? ⟨w.heap.size, 1, none⟩ = some (.int .u8 M) ∧ Below w.heap.size w w' ∧ w.heap.size < w'.heap.size)
    (first
      | (refine ⟨?_, ?_, (below_alloc _ _).drew, ?_⟩ <;> simp [go_sem] <;> done)
      | (refine keepF hb ?_; assumption))
    (first
      | (go_at_call 65; refine (HE.out _).mono ?_; rintro e w' ⟨rfl, hb⟩))
  rename_i hH
  obtain ⟨c0, c1, hB, hs⟩ := hH
  clear hb
  go_wp2
  go_ret
  exact ⟨by simp only [bne, heq, Bool.not_not]; rfl, hB⟩

/-- the law's world: the format, x's and y's variables -/
structure LbAt (w : World) (E M P Q : Nat) (s1 : Bool) (u1 v1 : Value) (A1 D1 : Nat) (s2 : Bool) (u2 v2 : Value) (A2 D2 : Nat) (W : World) : Prop where
  fm : FAt w.heap.size E M W
  p : RatV P s1 u1 v1 W
  q : RatV Q s2 u2 v2 W
  n1 : IsN W u1 A1
  d1 : IsN W v1 D1
  n2 : IsN W u2 A2
  d2 : IsN W v2 D2
  ne : P < Q
  lt : w.heap.size < P
  below : Below w.heap.size w W

theorem LbAt.step {w W W' : World} {E M P Q A1 D1 A2 D2 : Nat} {s1 s2 : Bool} {u1 v1 u2 v2 : Value} (h : LbAt w E M P Q s1 u1 v1 A1 D1 s2 u2 v2 A2 D2 W) (hb : Below W.heap.size W W') : LbAt w E M P Q s1 u1 v1 A1 D1 s2 u2 v2 A2 D2 W' :=
  ⟨h.fm.step hb, h.p.step hb, h.q.step hb, h.n1.step hb, h.d1.step hb, h.n2.step hb, h.d2.step hb, h.ne, h.lt, below_step h.below h.below.size hb⟩

theorem FAt.set3 {B E M R : Nat} {W : World} {x y z : Value} (h : FAt B E M W) (hne : B ≠ R) : FAt B E M (((W.setCell ⟨R, 0, none⟩ x).setCell ⟨R, 1, none⟩ y).setCell ⟨R, 2, none⟩ z) := by
  refine ⟨?_, ?_, ?_⟩
  · rw [cell_set3 _ _ _ _ _ _ _ hne]; exact h.c0
  · rw [cell_set3 _ _ _ _ _ _ _ hne]; exact h.c1
  · rw [set3_size]; exact h.size

theorem RatV.other {R X : Nat} {s : Bool} {u v : Value} {W : World} {x y z : Value} (h : RatV R s u v W) (hne : R ≠ X) : RatV R s u v (((W.setCell ⟨X, 0, none⟩ x).setCell ⟨X, 1, none⟩ y).setCell ⟨X, 2, none⟩ z) := by
  refine ⟨?_, ?_, ?_, ?_, ?_⟩
  · rw [cell_set3 _ _ _ _ _ _ _ hne]; exact h.c0
  · rw [cell_set3 _ _ _ _ _ _ _ hne]; exact h.c1
  · rw [cell_set3 _ _ _ _ _ _ _ hne]; exact h.c2
  · intro o
    have := h.cf o
    simpa [go_sem] using this
  · rw [set3_size]; exact h.size

theorem IsN.setV {X : Nat} {s : Bool} {a a' : Option Addr} {n c n' c' : Nat} {W : World} {x y z v : Value} {N : Nat} (h : IsN W v N) (k : RatV X s (.slice a n c) (.slice a' n' c') W) : IsN (((W.setCell ⟨X, 0, none⟩ x).setCell ⟨X, 1, none⟩ y).setCell ⟨X, 2, none⟩ z) v N :=
  h.set3 k.c0 k.c1 k.c2 (fun _ h => by cases h) (fun _ h => by cases h) (fun _ h => by cases h)

theorem LbAt.put {w W : World} {E M P Q A1 D1 A2 D2 R : Nat} {s1 s2 s : Bool} {u1 v1 u2 v2 x y z : Value} {a a' : Option Addr} {n c n' c' : Nat} (h : LbAt w E M P Q s1 u1 v1 A1 D1 s2 u2 v2 A2 D2 W) (hr : RatV R s (.slice a n c) (.slice a' n' c') W) (hl : Q < R) :
    LbAt w E M P Q s1 u1 v1 A1 D1 s2 u2 v2 A2 D2 (((W.setCell ⟨R, 0, none⟩ x).setCell ⟨R, 1, none⟩ y).setCell ⟨R, 2, none⟩ z) := by
  have k1 := h.ne
  have k2 := h.lt
  exact ⟨h.fm.set3 (by omega), h.p.other (by omega), h.q.other (by omega), h.n1.setV hr, h.d1.setV hr, h.n2.setV hr, h.d2.setV hr, h.ne, h.lt, below_set3 h.below (by omega)⟩

theorem LbAt.putQ {w W : World} {E M P Q A1 D1 A2 D2 : Nat} {s1 s2 s' : Bool} {u1 v1 x y : Value} {a a' : Option Addr} {n c n' c' : Nat} (h : LbAt w E M P Q s1 u1 v1 A1 D1 s2 (.slice a n c) (.slice a' n' c') A2 D2 W) (hx : IsN W x A2) (hy : IsN W y D2) :
    LbAt w E M P Q s1 u1 v1 A1 D1 s' x y A2 D2 (((W.setCell ⟨Q, 0, none⟩ (.bool s')).setCell ⟨Q, 1, none⟩ x).setCell ⟨Q, 2, none⟩ y) := by
  have k1 := h.ne
  have k2 := h.lt
  exact ⟨h.fm.set3 (by omega), h.p.other (by omega), h.q.put, h.n1.setV h.q, h.d1.setV h.q, hx.setV h.q, hy.setV h.q, h.ne, h.lt, below_set3 h.below (by omega)⟩

theorem LbAt.all {w W : World} {E M P Q A1 D1 A2 D2 : Nat} {s1 s2 : Bool} {u1 v1 u2 v2 : Value} (h : LbAt w E M P Q s1 u1 v1 A1 D1 s2 u2 v2 A2 D2 W) :
    (W.cell? ⟨w.heap.size, 0, none⟩ = some (.int .u8 E) ∧ W.cell? ⟨w.heap.size, 1, none⟩ = some (.int .u8 M)) ∧ (W.cell? ⟨P, 0, none⟩ = some (.bool s1) ∧ W.cell? ⟨P, 1, none⟩ = some u1 ∧ W.cell? ⟨P, 2, none⟩ = some v1) ∧ (W.cell? ⟨Q, 0, none⟩ = some (.bool s2) ∧ W.cell? ⟨Q, 1, none⟩ = some u2 ∧ W.cell? ⟨Q, 2, none⟩ = some v2) ∧ (∀ o, W.frozen? ⟨Q, o, none⟩ = false) ∧ Q < W.heap.size ∧ Hid (LbAt w E M P Q s1 u1 v1 A1 D1 s2 u2 v2 A2 D2 W) :=
  ⟨⟨h.fm.c0, h.fm.c1⟩, ⟨h.p.c0, h.p.c1, h.p.c2⟩, ⟨h.q.c0, h.q.c1, h.q.c2⟩, h.q.cf, h.q.size, h⟩

theorem IsN.len0 {w : World} {a : Option Addr} {n c V : Nat} (h : IsN w (.slice a n c) V) : ((n : Int) == 0) = decide (V = 0) := by
  rcases h with ⟨h0, h1⟩ | ⟨b, off, n', cap, f, h1, h2, h3, h4, h5, h6, h7, h8, h9⟩
  · injection h1 with _ h1 _
    subst h0 h1
    rfl
  · injection h1 with _ h1 _
    subst h1
    have hV : V ≠ 0 := by
      rw [← h9]
      have := nv_pos h2 h5
      omega
    rw [decide_eq_false hV, beq_eq_false_iff_ne]
    omega

end Go.Proofs.Ygcoab
