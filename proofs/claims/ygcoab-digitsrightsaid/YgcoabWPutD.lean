import Derived.Test.YgcoabPlainExp
import Derived.Test.YgcoabWBlk
import Derived.Deep.RegionHeld3
namespace Go.Proofs.Ygcoab
open Go.RowKit

/-- the expansion lies in block P -/
def ExAt (P : Nat) (g : Nat → Nat) (n : Nat) (top sig pr : Int) (W : World) : Prop := ∃ C, Blk P 112 C W ∧ ExC C g n top sig pr

theorem ExAt.all {P : Nat} {g : Nat → Nat} {n : Nat} {top sig pr : Int} {W : World} (h : ExAt P g n top sig pr W) :
    W.cell? ⟨P, 1441, none⟩ = some (.int .i64 (n : Int)) ∧ W.cell? ⟨P, 1442, none⟩ = some (.int .i64 top) ∧ W.cell? ⟨P, 1443, none⟩ = some (.int .i64 sig) ∧ W.cell? ⟨P, 1444, none⟩ = some (.int .i64 pr) ∧ (∀ k, W.frozen? ⟨P, k, none⟩ = false) := by
  obtain ⟨C, h1, h2⟩ := h
  exact ⟨(h1.cell _).trans h2.cn, (h1.cell _).trans h2.ct, (h1.cell _).trans h2.cs, (h1.cell _).trans h2.cp, h1.frozen⟩

theorem ExAt.at {P : Nat} {g : Nat → Nat} {n : Nat} {top sig pr : Int} {W : World} (h : ExAt P g n top sig pr W) {j : Nat} (hj : j < 1441) : W.cell? ⟨P, j, none⟩ = some (.int .u8 (g j : Nat)) := by
  obtain ⟨C, h1, h2⟩ := h
  exact (h1.cell _).trans (h2.dig j hj)

theorem ExAt.size {P : Nat} {g : Nat → Nat} {n : Nat} {top sig pr : Int} {W : World} (h : ExAt P g n top sig pr W) : P < W.heap.size := by
  obtain ⟨C, h1, h2⟩ := h
  exact h1.size

theorem ExAt.putDig {P : Nat} {g : Nat → Nat} {n : Nat} {top sig pr : Int} {W : World} (h : ExAt P g n top sig pr W) {i : Nat} (hi : i < 1441) (x : Nat) : ExAt P (upd g i x) n top sig pr (W.setCell ⟨P, i, none⟩ (.int .u8 (x : Int))) := by
  obtain ⟨C, h1, h2⟩ := h
  exact ⟨_, h1.put i _, h2.putDig hi x⟩

theorem ExAt.putN {P : Nat} {g : Nat → Nat} {n : Nat} {top sig pr : Int} {W : World} (h : ExAt P g n top sig pr W) (x : Nat) : ExAt P g x top sig pr (W.setCell ⟨P, 1441, none⟩ (.int .i64 (x : Int))) := by
  obtain ⟨C, h1, h2⟩ := h
  exact ⟨_, h1.put _ _, h2.putN x⟩

theorem ExAt.putT {P : Nat} {g : Nat → Nat} {n : Nat} {top sig pr : Int} {W : World} (h : ExAt P g n top sig pr W) (x : Int) : ExAt P g n x sig pr (W.setCell ⟨P, 1442, none⟩ (.int .i64 x)) := by
  obtain ⟨C, h1, h2⟩ := h
  exact ⟨_, h1.put _ _, h2.putT x⟩

theorem ExAt.drew {P : Nat} {g : Nat → Nat} {n : Nat} {top sig pr : Int} {W : World} (h : ExAt P g n top sig pr W) : ExAt P g n top sig pr W.drew := by
  obtain ⟨C, h1, h2⟩ := h
  exact ⟨_, h1.drew, h2⟩

theorem ExAt.step {P B : Nat} {g : Nat → Nat} {n : Nat} {top sig pr : Int} {W W' : World} (h : ExAt P g n top sig pr W) (hb : Below B W W') (hP : P < B) : ExAt P g n top sig pr W' := by
  obtain ⟨C, h1, h2⟩ := h
  exact ⟨_, h1.step hb hP, h2⟩

/-- what a turn of put leaves -/
structure PutAt (W : World) (P N v : Nat) (bh : Bool) (n0 : Nat) (top0 sig pr : Int) (t : Nat) (g : Nat → Nat) (n : Nat) (top : Int) (wr : World) : Prop where
  ex : ExAt P g n top sig pr wr
  only : Only P W wr
  dg : DgN g n (N * 10 ^ t + v / 10 ^ (18 - t))
  le : n ≤ n0 + t
  bal : (n : Int) - top = n0 - top0 + if bh then (t : Int) else 0
  zero : n0 ≤ n

def PutPost (W : World) (P N v : Nat) (bh : Bool) (n0 : Nat) (top0 sig pr : Int) (wr : World) : Prop :=
  ∃ g n top, PutAt W P N v bh n0 top0 sig pr 18 g n top wr

set_option maxHeartbeats 2000000 in
set_option maxRecDepth 100000 in
theorem put_any (P : Nat) (v : Nat) (hv : v < 1000000000000000000) (bh : Bool) (g : Nat → Nat) (n N : Nat) (top sig pr : Int) (hn : n ≤ 1422) (ht1 : -100000 ≤ top) (ht2 : top ≤ 100000) (W : World) (hE : ExAt P g n top sig pr W) (hD : DgN g n N) :
    Calls Oabg.prog 109 #[.pointer (some ⟨P, 0, none⟩), .int .u64 v, .bool bh] W fun e w' => e = .returned (.tuple #[]) ∧ PutPost W P N v bh n top sig pr w' := by
  have HE : Hid (ExAt P g n top sig pr W) := hE
  have HD : Hid (DgN g n N) := hD
  obtain ⟨c1, c2, c3, c4, cf⟩ := hE.all
  clear hE hD
  go_enter Oabg.func109, Oabg.ntmps109
  by_cases hz : v = 0 ∧ n = 0
  · obtain ⟨hz1, hz2⟩ := hz
    subst hz1 hz2
    have hN := HD.out.none
    cases bh
    · go_wp2
      exact bodyPost_ret (v := .tuple #[]) (by simp [results, Oabg.results109, go_sem]) rfl ⟨rfl, g, 0, top, HE.out, Only.refl _ _, by rw [hN]; exact DgN.start g, by omega, by simp, Nat.le_refl _⟩
    · go_wp2
      exact bodyPost_ret (v := .tuple #[]) (by simp [results, Oabg.results109, go_sem]) rfl ⟨rfl, g, 0, top - 18, HE.out.putT _, (Only.refl _ _).put _ _, by rw [hN]; exact DgN.start g, by omega, by simp; omega, Nat.le_refl _⟩
  · have hS : PutAt W P N v bh n top sig pr 0 g n top W := ⟨HE.out, Only.refl _ _, by
      rw [Nat.pow_zero, Nat.mul_one, Nat.div_eq_of_lt (show v < 10 ^ (18 - 0) from hv)]
      exact HD.out, by omega, by cases bh <;> simp, Nat.le_refl _⟩
    have HS : Hid (PutAt W P N v bh n top sig pr 0 g n top W) := hS
    clear hS HE HD
    go_upto_region 0 with (fail)
    go_cut [16] (fun s16 wx => s16 = .bool false ∧ wx = W)
    case first =>
      by_cases h1 : v = 0
      · have h2 : ((n : Int) == 0) = false := by rw [beq_eq_false_iff_ne]; omega
        subst h1
        clear hz
        go_wp2
        go_meet
        exact ⟨by simp, rfl⟩
      · have h2 : ((v : Int) == 0) = false := by rw [beq_eq_false_iff_ne]; omega
        clear hz
        go_wp2
        go_meet
        exact ⟨by simp, rfl⟩
    case rest =>
    obtain ⟨rfl, hw⟩ := hcut
    rw [hw]
    clear hw
    clear c1 c2 c3 c4 cf hz
    go_wp2
    go_loopw [25, 6] (fun x y wr => ∃ (t p : Nat) (g' : Nat → Nat) (n' : Nat) (top' : Int), x = .int .i64 t ∧ y = .int .u64 p ∧ p = 10 ^ (17 - t) ∧ t ≤ 18 ∧ PutAt W P N v bh n top sig pr t g' n' top' wr) (fun x _ _ => (18 - intOf x).toNat)
    case atStart => exact ⟨0, 100000000000000000, g, n, top, rfl, rfl, rfl, by omega, HS.out⟩
    case round =>
      obtain ⟨t, p, g', n', top', rfl, rfl, hp, ht, hA⟩ := hrel
      clear HS
      by_cases hlt : t < 18
      · have hdl : decide ((t : Int) < 18) = true := decide_eq_true (by omega)
        obtain ⟨c1, c2, c3, c4, cf⟩ := hA.ex.all
        have hpp : 0 < p := by rw [hp]; exact Nat.pow_pos (by omega)
        have hpl : p ≤ 100000000000000000 := by
          rw [hp]
          exact Nat.pow_le_pow_right (n := 10) (j := 17) (by omega) (by omega)
        obtain ⟨q, hq⟩ : ∃ q, q = v / p := ⟨_, rfl⟩
        obtain ⟨c, hc⟩ : ∃ c, c = q % 10 := ⟨_, rfl⟩
        have hql : q ≤ v := by rw [hq]; exact Nat.div_le_self _ _
        have hcl : c < 10 := by omega
        have hDq : N * 10 ^ (t + 1) + v / 10 ^ (18 - (t + 1)) = (N * 10 ^ t + v / 10 ^ (18 - t)) * 10 + c := by
          have h1 := put_digit v t hlt
          have h2 : 18 - (t + 1) = 17 - t := by omega
          rw [h2, h1, ← hp, ← hq, ← hc, Nat.pow_succ, ← Nat.mul_assoc]
          omega
        have HDq : Hid (N * 10 ^ (t + 1) + v / 10 ^ (18 - (t + 1)) = (N * 10 ^ t + v / 10 ^ (18 - t)) * 10 + c) := hDq
        clear hDq
        have hp0 : ((p : Int) == 0) = false := by rw [beq_eq_false_iff_ne]; omega
        have hp1 : ¬ (p = 0) := by omega
        have e1 : IntKind.u64.wrap ((v : Int) / (p : Int)) = (q : Nat) := by
          rw [← Int.natCast_ediv, ← hq, w64_nat (by omega)]
        have e2 : ((q : Int)).tmod 10 = (c : Nat) := by
          rw [Int.tmod_eq_emod_of_nonneg (by omega)]
          omega
        obtain ⟨p10, hp10⟩ : ∃ x, x = p / 10 := ⟨_, rfl⟩
        obtain ⟨p', hp'⟩ : ∃ x, x = 10 ^ (17 - (t + 1)) := ⟨_, rfl⟩
        have e3' : ((p : Int)).tdiv 10 = (p10 : Nat) := by
          rw [Int.tdiv_eq_ediv_of_nonneg (by omega)]
          omega
        have e3 : IntKind.u64.wrap (p10 : Int) = (p10 : Nat) := w64_nat (by omega)
        have e4 : (if (p10 : Int) < 1 then (1 : Int) else (p10 : Int)) = (p' : Nat) := by
          by_cases h17 : t = 17
          · have h1 : p = 1 := by rw [hp, h17]
            have h2 : p' = 1 := by rw [hp', h17]
            rw [if_pos (by omega), h2]
            rfl
          · have h1 : p = p' * 10 := by
              rw [hp, hp', ← Nat.pow_succ]
              congr 1
              omega
            have h2 : 0 < p' := by rw [hp']; exact Nat.pow_pos (by omega)
            rw [if_neg (by omega)]
            omega
        have HP' : Hid (p' = 10 ^ (17 - (t + 1))) := hp'
        have HA : Hid (PutAt W P N v bh n top sig pr t g' n' top' wr) := hA
        have hnle := hA.le
        have hbal := hA.bal
        have htb : -200000 ≤ top' ∧ top' ≤ 200000 := by cases bh <;> simp at hbal <;> omega
        have htw1 : RowKit.wrap64 (top' - 1) = top' - 1 := by unfold RowKit.wrap64; omega
        clear hA hp hq hc hp10 hp' hbal
        by_cases hz : n' = 0 ∧ c = 0
        · obtain ⟨h1, h2⟩ := hz
          have h1' : ((n' : Int) == 0) = true := by rw [h1]; rfl
          have h2' : ((c : Int) == 0) = true := by rw [h2]; rfl
          have HZ : Hid (n' = 0 ∧ c = 0) := ⟨h1, h2⟩
          clear h1 h2
          cases bh
          · go_wp2
            go_roundw
            case rel =>
              refine ⟨t + 1, p', g', n', top', by simp, rfl, HP'.out, by omega, HA.out.ex, HA.out.only, ?_, by have := HA.out.le; omega, by have := HA.out.bal; simpa using this, HA.out.zero⟩
              rw [HDq.out, HZ.out.2]
              have h1 := HA.out.dg
              rw [HZ.out.1] at h1 ⊢
              rw [h1.none]
              exact DgN.start g'
            case measure => simp [intOf]; omega
          · go_wp2
            go_roundw
            case rel =>
              refine ⟨t + 1, p', g', n', top' - 1, by simp, rfl, HP'.out, by omega, HA.out.ex.putT _, HA.out.only.put _ _, ?_, by have := HA.out.le; omega, by have := HA.out.bal; simp at this ⊢; omega, HA.out.zero⟩
              rw [HDq.out, HZ.out.2]
              have h1 := HA.out.dg
              rw [HZ.out.1] at h1 ⊢
              rw [h1.none]
              exact DgN.start g'
            case measure => simp [intOf]; omega
        · have hz' : ((n' : Int) == 0) = false ∨ ((c : Int) == 0) = false := by
            by_cases h1 : n' = 0
            · right
              rw [beq_eq_false_iff_ne]
              omega
            · left
              rw [beq_eq_false_iff_ne]
              omega
          have HZ : Hid (n' = 0 → c ≠ 0) := fun h1 h2 => hz ⟨h1, h2⟩
          have hroom : decide ((n' : Int) < 1440) = true := decide_eq_true (by omega)
          clear hz
          go_upto_region 8 with (fail)
          go_cut [42] (fun s42 wx => s42 = .bool false ∧ wx = wr)
          case first =>
            rcases hz' with h1 | h1
            · go_wp2
              go_meet
              exact ⟨by simp, rfl⟩
            · by_cases h2 : n' = 0
              · have h3 : ((n' : Int) == 0) = true := by rw [h2]; rfl
                clear h2
                go_wp2
                go_meet
                exact ⟨by simp, rfl⟩
              · have h3 : ((n' : Int) == 0) = false := by rw [beq_eq_false_iff_ne]; omega
                clear h2
                go_wp2
                go_meet
                exact ⟨by simp, rfl⟩
          case rest =>
          obtain ⟨rfl, hw⟩ := hcut
          rw [hw]
          clear hw hz'
          obtain ⟨x, hx⟩ : ∃ x, x = 48 + c := ⟨_, rfl⟩
          have x1 : IntKind.u64.wrap (48 + (c : Int)) = (x : Nat) := by rw [wrap64]; omega
          have x1' : 48 + (c : Int) = (x : Nat) := by omega
          have x2 : IntKind.u8.wrap (x : Int) = (x : Nat) := by simp [IntKind.wrap, IntKind.bits, IntKind.signed]; omega
          have hn41 : n' < 1441 := by omega
          have cdig := HA.out.ex.at hn41
          have cdf := cf n'
          have HX : Hid (x = 48 + c) := hx
          clear hx
          go_wp2
          go_region
          have hE2 : ExAt P (upd g' n' x) n' top' sig pr ((wr.setCell ⟨P, n', none⟩ (.int .u8 x)).drew) := (HA.out.ex.putDig hn41 x).drew
          have hO2 : Only P W ((wr.setCell ⟨P, n', none⟩ (.int .u8 x)).drew) := (HA.out.only.put _ _).drew
          obtain ⟨W2, hW2⟩ : ∃ W2, W2 = (wr.setCell ⟨P, n', none⟩ (.int .u8 x)).drew := ⟨_, rfl⟩
          rw [← hW2] at hE2 hO2
          rw [← hW2]
          clear hW2 c1 c2 c3 c4 cf cdig cdf
          obtain ⟨c1, c2, c3, c4, cf⟩ := hE2.all
          have HE2 : Hid (ExAt P (upd g' n' x) n' top' sig pr W2) := hE2
          have HO2 : Hid (Only P W W2) := hO2
          clear hE2 hO2
          have HD2 : Hid (DgN (upd g' n' x) (n' + 1) (N * 10 ^ (t + 1) + v / 10 ^ (18 - (t + 1)))) := by
            rw [HDq.out, HX.out]
            exact HA.out.dg.push hcl HZ.out
          have htw2 : RowKit.wrap64 (top' + 1) = top' + 1 := by unfold RowKit.wrap64; omega
          cases bh
          · go_wp2
            go_roundw
            case rel => exact ⟨t + 1, p', _, n' + 1, top' + 1, by simp, rfl, HP'.out, by omega, (HE2.out.putN (n' + 1)).putT _, (HO2.out.put _ _).put _ _, HD2.out, by have := HA.out.le; omega, by have := HA.out.bal; simp at this ⊢; omega, by have := HA.out.zero; omega⟩
            case measure => simp [intOf]; omega
          · go_wp2
            go_roundw
            case rel => exact ⟨t + 1, p', _, n' + 1, top', by simp, rfl, HP'.out, by omega, HE2.out.putN (n' + 1), HO2.out.put _ _, HD2.out, by have := HA.out.le; omega, by have := HA.out.bal; simp at this ⊢; omega, by have := HA.out.zero; omega⟩
            case measure => simp [intOf]; omega
      · have hdl : decide ((t : Int) < 18) = false := decide_eq_false (by omega)
        have ht18 : t = 18 := by omega
        subst ht18
        have HA : Hid (PutAt W P N v bh n top sig pr 18 g' n' top' wr) := hA
        clear hA hp
        go_wp2
        exact bodyPost_end (v := .tuple #[]) (by simp [results, Oabg.results109]) rfl ⟨rfl, g', n', top', HA.out⟩

end Go.Proofs.Ygcoab
