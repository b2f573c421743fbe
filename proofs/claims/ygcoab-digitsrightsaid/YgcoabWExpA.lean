import Derived.Test.YgcoabPlainExpand
import Derived.Test.YgcoabWFrac
import Derived.Test.YgcoabWUnpack2
namespace Go.Proofs.Ygcoab
open Go.RowKit

theorem GrC.lit {C : Array Value} {h : Nat → Nat} {n : Nat} (H : GrC C h n) : C = #[.int .u64 (h 0 : Nat), .int .u64 (h 1 : Nat), .int .u64 (h 2 : Nat), .int .u64 (h 3 : Nat), .int .u64 (h 4 : Nat), .int .u64 (h 5 : Nat), .int .u64 (h 6 : Nat), .int .u64 (h 7 : Nat), .int .u64 (h 8 : Nat), .int .u64 (h 9 : Nat), .int .u64 (h 10 : Nat), .int .u64 (h 11 : Nat), .int .u64 (h 12 : Nat), .int .u64 (h 13 : Nat), .int .u64 (h 14 : Nat), .int .u64 (h 15 : Nat), .int .u64 (h 16 : Nat), .int .u64 (h 17 : Nat), .int .u64 (h 18 : Nat), .int .u64 (h 19 : Nat), .int .i64 (n : Int)] := by
  apply Array.ext
  · rw [H.size]; rfl
  · intro i h1 h2
    have hs := H.size
    apply Option.some.inj
    rw [← Array.getElem?_eq_getElem h1, ← Array.getElem?_eq_getElem h2]
    match i, h1 with
    | 0, _ => exact H.cell 0 (by omega)
    | 1, _ => exact H.cell 1 (by omega)
    | 2, _ => exact H.cell 2 (by omega)
    | 3, _ => exact H.cell 3 (by omega)
    | 4, _ => exact H.cell 4 (by omega)
    | 5, _ => exact H.cell 5 (by omega)
    | 6, _ => exact H.cell 6 (by omega)
    | 7, _ => exact H.cell 7 (by omega)
    | 8, _ => exact H.cell 8 (by omega)
    | 9, _ => exact H.cell 9 (by omega)
    | 10, _ => exact H.cell 10 (by omega)
    | 11, _ => exact H.cell 11 (by omega)
    | 12, _ => exact H.cell 12 (by omega)
    | 13, _ => exact H.cell 13 (by omega)
    | 14, _ => exact H.cell 14 (by omega)
    | 15, _ => exact H.cell 15 (by omega)
    | 16, _ => exact H.cell 16 (by omega)
    | 17, _ => exact H.cell 17 (by omega)
    | 18, _ => exact H.cell 18 (by omega)
    | 19, _ => exact H.cell 19 (by omega)
    | 20, _ => exact H.cn
    | (j + 21), h1 => omega

/-- expand's world -/
structure XpAt (w : World) (P Q : Nat) (neg : Bool) (c : Int) (ex : Int) (man : Nat) (g : Nat → Nat) (n : Nat) (top sig pr : Int) (W : World) : Prop where
  x : ExAt P g n top sig pr W
  q : Blk Q 99 #[.bool neg, .int .i8 c, .int .i16 ex, .int .u64 man] W
  below : Below P w W
  hP : P < w.heap.size
  hQ : w.heap.size ≤ Q

theorem XpAt.all {w W : World} {P Q : Nat} {neg : Bool} {c ex : Int} {man : Nat} {g : Nat → Nat} {n : Nat} {top sig pr : Int} (h : XpAt w P Q neg c ex man g n top sig pr W) :
    W.cell? ⟨Q, 2, none⟩ = some (.int .i16 ex) ∧ W.cell? ⟨Q, 3, none⟩ = some (.int .u64 (man : Nat)) ∧ W.frozen? ⟨Q, 2, none⟩ = false ∧ W.frozen? ⟨Q, 3, none⟩ = false :=
  ⟨(h.q.cell 2).trans rfl, (h.q.cell 3).trans rfl, h.q.frozen 2, h.q.frozen 3⟩

theorem XpAt.setM {w W : World} {P Q : Nat} {neg : Bool} {c ex : Int} {man : Nat} {g : Nat → Nat} {n : Nat} {top sig pr : Int} (h : XpAt w P Q neg c ex man g n top sig pr W) (m : Nat) : XpAt w P Q neg c ex m g n top sig pr (W.setCell ⟨Q, 3, none⟩ (.int .u64 (m : Int))) :=
  have hP := h.hP
  have hQ := h.hQ
  ⟨h.x.other _ _ (by omega), h.q.put 3 _, below_set h.below (by omega) _ _, hP, hQ⟩

theorem XpAt.setE {w W : World} {P Q : Nat} {neg : Bool} {c ex : Int} {man : Nat} {g : Nat → Nat} {n : Nat} {top sig pr : Int} (h : XpAt w P Q neg c ex man g n top sig pr W) (e : Int) : XpAt w P Q neg c e man g n top sig pr (W.setCell ⟨Q, 2, none⟩ (.int .i16 e)) :=
  have hP := h.hP
  have hQ := h.hQ
  ⟨h.x.other _ _ (by omega), h.q.put 2 _, below_set h.below (by omega) _ _, hP, hQ⟩

theorem XpAt.setT {w W : World} {P Q : Nat} {neg : Bool} {c ex : Int} {man : Nat} {g : Nat → Nat} {n : Nat} {top sig pr : Int} (h : XpAt w P Q neg c ex man g n top sig pr W) (t : Int) : XpAt w P Q neg c ex man g n t sig pr (W.setCell ⟨P, 1442, none⟩ (.int .i64 t)) :=
  have hP := h.hP
  have hQ := h.hQ
  ⟨h.x.putT t, h.q.other _ _ (by omega), below_set h.below (Nat.le_refl _) _ _, hP, hQ⟩

theorem XpAt.step {w W W' : World} {P Q : Nat} {neg : Bool} {c ex : Int} {man : Nat} {g : Nat → Nat} {n : Nat} {top sig pr : Int} (h : XpAt w P Q neg c ex man g n top sig pr W) (hb : Below W.heap.size W W') : XpAt w P Q neg c ex man g n top sig pr W' :=
  ⟨h.x.step hb h.x.size, h.q.step hb h.q.size, below_step h.below (Nat.le_of_lt h.x.size) hb, h.hP, h.hQ⟩

theorem XpAt.drew {w W : World} {P Q : Nat} {neg : Bool} {c ex : Int} {man : Nat} {g : Nat → Nat} {n : Nat} {top sig pr : Int} (h : XpAt w P Q neg c ex man g n top sig pr W) : XpAt w P Q neg c ex man g n top sig pr W.drew :=
  ⟨h.x.drew, h.q.drew, h.below.drew, h.hP, h.hQ⟩

theorem XpAt.put {w W W' : World} {P Q N v t : Nat} {bh : Bool} {neg : Bool} {c ex : Int} {man : Nat} {g : Nat → Nat} {n : Nat} {top sig pr : Int} {g' : Nat → Nat} {n' : Nat} {top' : Int} (h : XpAt w P Q neg c ex man g n top sig pr W) (k : PutAt W P N v bh n top sig pr t g' n' top' W') : XpAt w P Q neg c ex man g' n' top' sig pr W' :=
  have hP := h.hP
  have hQ := h.hQ
  ⟨k.ex, h.q.only k.only (by omega), h.below.trans (k.only.below (Nat.le_refl _)), hP, hQ⟩

/-- the groups' loop: k groups are left -/
structure GlAt (w : World) (P R T : Nat) (C : Array Value) (h : Nat → Nat) (k : Nat) (g : Nat → Nat) (n : Nat) (top sig pr : Int) (N : Nat) (W : World) : Prop where
  x : ExAt P g n top sig pr W
  r : Blk R 151 C W
  below : Below P w W
  hR : P < R
  dg : DgN g n N
  eq : T = N * 1000000000000000000 ^ k + gv h k
  bal : (n : Int) - top = 1
  le : n + 18 * k ≤ 360

theorem GlAt.next {w W W' : World} {P R T : Nat} {C : Array Value} {h : Nat → Nat} {k : Nat} {g : Nat → Nat} {n : Nat} {top sig pr : Int} {N : Nat} {g' : Nat → Nat} {n' : Nat} {top' : Int}
    (H : GlAt w P R T C h (k + 1) g n top sig pr N W) (p : PutAt W P N (h k) false n top sig pr 18 g' n' top' W') : GlAt w P R T C h k g' n' top' sig pr (N * 1000000000000000000 + h k) W' := by
  have hR := H.hR
  have h1 := p.dg
  rw [show (18 - 18 : Nat) = 0 from rfl, Nat.pow_zero, Nat.div_one, show (10 : Nat) ^ 18 = 1000000000000000000 from rfl] at h1
  have h2 := p.bal
  have h3 := H.bal
  have h4 := p.le
  have h5 := H.le
  rw [if_neg (by simp)] at h2
  refine ⟨p.ex, H.r.only p.only (by omega), H.below.trans (p.only.below (Nat.le_refl _)), hR, h1, ?_, by omega, by omega⟩
  have h6 := H.eq
  have h7 : gv h (k + 1) = gv h k + h k * 1000000000000000000 ^ k := rfl
  rw [h6, h7, Nat.pow_succ, Nat.add_mul, Nat.mul_comm (1000000000000000000 ^ k), ← Nat.mul_assoc]
  generalize N * 1000000000000000000 * 1000000000000000000 ^ k = a
  generalize h k * 1000000000000000000 ^ k = b
  omega

theorem low1 (x : Nat) (hx : x < 18446744073709551616) : bits .and .u64 (x : Int) 1 = ((x % 2 : Nat) : Int) := by
  have h := and_low (x := x) (n := 1) hx (by omega)
  simpa using h

end Go.Proofs.Ygcoab
