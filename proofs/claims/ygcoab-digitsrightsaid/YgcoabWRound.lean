import Derived.Test.YgcoabPlainRnd3
import Derived.Deep.RegionWith
namespace Go.Proofs.Ygcoab
open Go.RowKit

set_option maxHeartbeats 1000000 in
set_option maxRecDepth 100000 in
theorem roundX_neg (P : Nat) (keep : Int) (hk : keep < 0) (w : World) :
    Calls Oabg.prog 81 #[.pointer (some ⟨P, 0, none⟩), .int .i64 keep] w fun e w' => e = .returned (.string { data := #[48] }) ∧ Below w.heap.size w w' := by
  have hd : decide (keep < 0) = true := decide_eq_true hk
  go_enter Oabg.func81, Oabg.ntmps81
  go_wp2
  go_ret
  exact ⟨rfl, Below.refl _ _⟩

def RoundPost (w : World) (g : Nat → Nat) (n keep : Nat) (e : Ending) (w' : World) : Prop := ∃ b, e = .returned (.string b) ∧ DigB (rndN g n keep) b ∧ Below w.heap.size w w'

set_option maxHeartbeats 4000000 in
set_option maxRecDepth 100000 in
theorem roundX_any (P : Nat) (g : Nat → Nat) (n : Nat) (top sig pr : Int) (keep : Nat) (hn : 0 < n) (hn2 : n ≤ 1400) (hk2 : keep ≤ 4000) (hd : ∀ j, j < n → 48 ≤ g j ∧ g j ≤ 57) (hl : g 0 ≠ 48) (w : World) (hE : ExAt P g n top sig pr w) :
    Calls Oabg.prog 81 #[.pointer (some ⟨P, 0, none⟩), .int .i64 keep] w (RoundPost w g n keep) := by
  obtain ⟨kk, hkk⟩ : ∃ kk, kk = min keep n := ⟨_, rfl⟩
  have hkn : kk ≤ n := by omega
  have hkl : kk ≤ keep := by omega
  have HKK : Hid (kk = min keep n) := hkk
  have hmin : (if n < keep then (n : Int) else (keep : Int)) = (kk : Nat) := by
    split <;> omega
  have hz := zero155
  have hd0 : decide ((keep : Int) < 0) = false := decide_eq_false (by omega)
  have hP := hE.size
  have HE : Hid (∀ W, Below w.heap.size w W → ExAt P g n top sig pr W) := fun W hb => hE.step hb hP
  have HD : Hid (∀ j, j < n → 48 ≤ g j ∧ g j ≤ 57) := hd
  obtain ⟨c1, c2, c3, c4, cf⟩ := hE.all
  have hPR : P ≠ w.heap.size := by omega
  clear hkk hE hd c2 c3 c4
  go_enter Oabg.func81, Oabg.ntmps81
  go_upto_region 4 with (fail)
  have hR := RbAt.start w 155 1442
  obtain ⟨W1, hW1⟩ : ∃ W1, W1 = w.alloc (.cells (Array.replicate 1442 (.int .u8 0)) 155) := ⟨_, rfl⟩
  rw [← hW1] at hR
  rw [← hW1]
  clear hW1 hz
  have co := hR.at (j := 0) (by omega)
  have fo := hR.fr 0
  have hR2 := hR.put 0 48
  have c1 := (HE.out W1 hR.below).all.1
  go_upto_region 6 with (fail)
  obtain ⟨W2, hW2⟩ : ∃ W2, W2 = W1.setCell ⟨w.heap.size, 0, none⟩ (.int .u8 48) := ⟨_, rfl⟩
  have hR2' : RbAt w w.heap.size w.heap.size 155 1442 (upd (fun x => 0) 0 48) W2 := by rw [hW2]; exact hR2
  rw [← hW2]
  clear hW2 hR2 hR co fo c1
  obtain ⟨C2, hB2, hU2⟩ := hR2'.r
  have hbl2 := hR2'.below
  have hE2 := HE.out W2 hbl2
  have hcp := fun ty => copyDig (W := W2.drew) (P := P) (kk := kk) (by omega) hB2.drew hU2 (fun j hj => hE2.drew.at (by omega)) ty
  obtain ⟨C3, hcp3, hU3⟩ := hcp 3
  have hs1 := fun W => sliceTail w.heap.size W
  have hs2 := fun W => sliceDig P kk (by omega) W
  have hR3 : RbAt w w.heap.size w.heap.size 155 1442 (outF g kk) (W2.drew.setRow w.heap.size C3) := by
    refine ⟨⟨C3, hB2.drew.setRow, hU3.size, fun j hj => ?_⟩, below_setRow hbl2.drew (Nat.le_refl _), Nat.le_refl _⟩
    rw [hU3.cell j hj]
    congr 2
    show ((if 1 ≤ j ∧ j < 1 + kk then g (j - 1) else upd (fun x => 0) 0 48 j : Nat) : Int) = (outF g kk j : Nat)
    unfold outF upd
    by_cases h0 : j = 0
    · rw [if_neg (by omega), if_pos h0, if_pos h0]
    · by_cases h1 : j ≤ kk
      · rw [if_pos (by omega), if_neg h0, if_pos h1]
      · rw [if_neg (by omega), if_neg h0, if_neg h0, if_neg h1]
  clear hcp hU3 hR2' hB2 hU2 hE2 hbl2
  go_region
  obtain ⟨W4, hW4⟩ : ∃ W4, W4 = W2.drew.setRow w.heap.size C3 := ⟨_, rfl⟩
  rw [← hW4] at hR3
  rw [← hW4]
  clear hW4 hcp3 hs1 hs2 c1 cf
  have hE4 := HE.out W4 hR3.below
  have c1 := hE4.all.1
  obtain ⟨up, hup⟩ : ∃ up, up = upF g n keep := ⟨_, rfl⟩
  have HUp : Hid (up = upF g n keep) := hup
  clear hup
  go_upto_if 34 with (fail)
  go_cut [7] (fun s7 wx => s7 = .bool up ∧ wx = W4)
  case first =>
    by_cases hlt : keep < n
    · have hdl : decide ((keep : Int) < (n : Int)) = true := decide_eq_true (by omega)
      have hke : kk = keep := by have := HKK.out; omega
      subst hke
      go_wp2_with fail
      go_loopg [8, 9] 2000 (fun m s8 s9 wr => ∃ i : Nat, s8 = .bool (allZ g (kk + 1) (i - (kk + 1))) ∧ s9 = .int .i64 (i : Nat) ∧ wr = W4 ∧ kk + 1 ≤ i ∧ i ≤ n ∧ n - i ≤ m)
      case atStart => exact ⟨kk + 1, by rw [Nat.sub_self]; rfl, by simp, rfl, Nat.le_refl _, hlt, by omega⟩
      case round =>
        obtain ⟨i, rfl, rfl, hw, hik, hin, him⟩ := hrel
        rw [hw]
        clear hw
        by_cases hi : i < n
        · have hdi : decide ((i : Int) < (n : Int)) = true := decide_eq_true (by omega)
          have ci := hE4.at (j := i) (by omega)
          have HN : Hid (allZ g (kk + 1) (i + 1 - (kk + 1)) = (allZ g (kk + 1) (i - (kk + 1)) && decide (g i = 48))) := by
            rw [show i + 1 - (kk + 1) = (i - (kk + 1)) + 1 by omega]
            show (allZ g (kk + 1) (i - (kk + 1)) && decide (g (kk + 1 + (i - (kk + 1))) = 48)) = _
            rw [show kk + 1 + (i - (kk + 1)) = i by omega]
          have hm : n - (i + 1) < gk := by omega
          obtain ⟨z, hz⟩ : ∃ z, z = allZ g (kk + 1) (i - (kk + 1)) := ⟨_, rfl⟩
          rw [← hz] at HN
          rw [← hz]
          clear hz hE4
          cases z
          · go_wp2
            go_roundg (n - (i + 1))
            case measure => exact hm
            case rel => exact ⟨i + 1, by rw [HN.out]; rfl, by simp, rfl, by omega, by omega, Nat.le_refl _⟩
          · by_cases h48 : g i = 48
            · have hb : ((g i : Int) == 48) = true := by rw [h48]; rfl
              have HN2 : Hid (allZ g (kk + 1) (i + 1 - (kk + 1)) = true) := by rw [HN.out, h48]; rfl
              clear h48 HN
              go_wp2
              go_roundg (n - (i + 1))
              case measure => exact hm
              case rel => exact ⟨i + 1, by rw [HN2.out], by simp, rfl, by omega, by omega, Nat.le_refl _⟩
            · have hb : ((g i : Int) == 48) = false := by rw [beq_eq_false_iff_ne]; omega
              have HN2 : Hid (allZ g (kk + 1) (i + 1 - (kk + 1)) = false) := by rw [HN.out, decide_eq_false h48]; rfl
              clear h48 HN
              go_wp2
              go_roundg (n - (i + 1))
              case measure => exact hm
              case rel => exact ⟨i + 1, by rw [HN2.out], by simp, rfl, by omega, by omega, Nat.le_refl _⟩
        · have hdi : decide ((i : Int) < (n : Int)) = false := decide_eq_false (by omega)
          have hie : i = n := by omega
          subst hie
          have ck := hE4.at (j := kk) (by omega)
          have co := hR3.at (j := kk) (by omega)
          have hckd := HD.out kk (by omega)
          obtain ⟨z, hz⟩ : ∃ z, z = allZ g (kk + 1) (i - (kk + 1)) := ⟨_, rfl⟩
          obtain ⟨c, hc⟩ : ∃ c, c = g kk := ⟨_, rfl⟩
          obtain ⟨o, ho⟩ : ∃ o, o = outF g kk kk := ⟨_, rfl⟩
          have hol := outF_dig HD.out hkn kk (Nat.le_refl _)
          rw [← ho] at hol
          have hodd : o % 2 = dv g kk % 2 := by rw [ho]; exact outF_odd HD.out hkn
          have hU : up = decide (53 < c ∨ (c = 53 ∧ (z = false ∨ o % 2 = 1))) := by
            rw [HUp.out]
            unfold upF
            rw [hz, hc, hodd]
            simp [hlt]
          rw [← hc] at ck hckd
          rw [← ho] at co
          rw [← hz]
          have ha : bits .and .u8 (o : Int) 1 = ((o % 2 : Nat) : Int) := by
            have h := u8_and_nat o 1 (by omega) (by omega)
            rw [Nat.and_one_is_mod] at h
            exact h
          clear hE4 hR3 hz hc ho hodd
          by_cases h1 : 53 < c
          · have hb1 : decide ((53 : Int) < (c : Int)) = true := decide_eq_true (by omega)
            have HU : Hid (up = true) := by rw [hU]; exact decide_eq_true (.inl h1)
            clear hU h1
            go_wp2
            go_meet
            exact ⟨by rw [HU.out], rfl⟩
          · have hb1 : decide ((53 : Int) < (c : Int)) = false := decide_eq_false (by omega)
            by_cases h2 : c = 53
            · have hb2 : ((c : Int) == 53) = true := by rw [h2]; rfl
              cases z
              · have HU : Hid (up = true) := by rw [hU]; exact decide_eq_true (.inr ⟨h2, .inl rfl⟩)
                clear hU h1 h2
                go_wp2
                go_meet
                exact ⟨by rw [HU.out], rfl⟩
              · obtain ⟨oo, hoo⟩ : ∃ oo, oo = o % 2 := ⟨_, rfl⟩
                rw [← hoo] at ha hU
                by_cases h3 : oo = 1
                · have hb3 : ((oo : Int) == 1) = true := by rw [h3]; rfl
                  have HU : Hid (up = true) := by rw [hU]; exact decide_eq_true (.inr ⟨h2, .inr h3⟩)
                  clear hU h1 h2 h3 hoo
                  go_wp2
                  go_meet
                  exact ⟨by rw [HU.out], rfl⟩
                · have hb3 : ((oo : Int) == 1) = false := by rw [beq_eq_false_iff_ne]; omega
                  have HU : Hid (up = false) := by rw [hU]; exact decide_eq_false (fun q => match q with | .inl q => h1 q | .inr ⟨_, .inl q⟩ => Bool.noConfusion q | .inr ⟨_, .inr q⟩ => h3 q)
                  clear hU h1 h2 h3 hoo
                  go_wp2
                  go_meet
                  exact ⟨by rw [HU.out], rfl⟩
            · have hb2 : ((c : Int) == 53) = false := by rw [beq_eq_false_iff_ne]; omega
              have HU : Hid (up = false) := by rw [hU]; exact decide_eq_false (by omega)
              clear hU h1 h2
              go_wp2
              go_meet
              exact ⟨by rw [HU.out], rfl⟩
    · have hdl : decide ((keep : Int) < (n : Int)) = false := decide_eq_false (by omega)
      have HU : Hid (up = false) := by
        rw [HUp.out]
        unfold upF
        exact decide_eq_false (by omega)
      clear hE4 hR3
      go_wp2
      go_meet
      exact ⟨by rw [HU.out], rfl⟩
  case rest =>
  obtain ⟨rfl, hw⟩ := hcut
  rw [hw]
  clear hw hE4
  obtain ⟨V, hV⟩ : ∃ V, V = dv g kk + if up then 1 else 0 := ⟨_, rfl⟩
  have HI : Hid (IncAt V kk (outF g kk) (kk + 1) up) := by
    have := IncAt.start (kk := kk) (o := outF g kk) up (outF_dig HD.out hkn) (by unfold outF; rw [if_pos rfl])
    rw [outF_dv, ← hV] at this
    exact this
  have HV : Hid (V = dv g kk + if up then 1 else 0) := hV
  clear hV
  go_wp2_with fail
  go_loopg [7, 11] (kk + 2) (fun m s7 s11 wr => ∃ (o : Nat → Nat) (i1 : Nat) (u : Bool), s7 = .bool u ∧ s11 = .int .i64 ((i1 : Nat) - 1 : Int) ∧ RbAt w w.heap.size w.heap.size 155 1442 o wr ∧ IncAt V kk o i1 u ∧ i1 ≤ m)
  case atStart => exact ⟨_, kk + 1, up, rfl, by simp, hR3, HI.out, by omega⟩
  case round =>
    obtain ⟨o, i1, u, rfl, rfl, hR, hI, him⟩ := hrel
    clear hR3 HI c1
    cases u
    · have HOut : Hid (((o 0 ≠ 48 ∨ kk = 0) → DigB (rndN g n keep) (strOfNums (rowL (fun j => (o j : Int)) 0 (kk + 1)) ++ zerosB (keep - n))) ∧ (¬ (o 0 ≠ 48 ∨ kk = 0) → DigB (rndN g n keep) (strOfNums (rowL (fun j => (o j : Int)) 1 kk) ++ zerosB (keep - n)))) := by
        have hq := hI
        rw [HV.out, HUp.out, HKK.out] at hq
        have := round_out hn HD.out hl hq
        rw [← HKK.out] at this
        exact this
      have HZs : Hid (∀ w : World, Calls Oabg.prog 79 #[.int .i64 (IntKind.i64.wrap ((keep : Int) - (n : Int)))] w fun e w' => e = .returned (.string (zerosB (keep - n))) ∧ Below w.heap.size w w') := fun w => by
        rw [show IntKind.i64.wrap ((keep : Int) - (n : Int)) = (keep : Int) - (n : Int) by rw [IntKind.wrap_i64]; omega]
        by_cases hc : keep ≤ n
        · rw [Nat.sub_eq_zero_of_le hc, zerosB_zero]
          exact ezeros_none _ (by omega) w
        · have := ezeros_some (keep - n) (by omega) (by omega) w
          rw [show ((keep - n : Nat) : Int) = (keep : Int) - (n : Int) by omega] at this
          exact this
      obtain ⟨zs, hzs⟩ : ∃ zs, zs = zerosB (keep - n) := ⟨_, rfl⟩
      have hzl : zs.size ≤ 4000 := by rw [hzs, zerosB_size]; omega
      rw [← hzs] at HZs HOut
      clear hzs
      have hsm := fun W => sliceMid w.heap.size kk (by omega) W
      have hsh := fun W => sliceHead w.heap.size (kk + 1) (by omega) W
      have hsh' : ∀ W : World, (Instr.sliceAt 155 (.pointer (some ⟨w.heap.size, 0, none⟩)) none (some (.int .i64 ((kk : Int) + 1))) none).run Oabg.prog W = .ok (.slice (some ⟨w.heap.size, 0, none⟩) (kk + 1) 1442) W := hsh
      clear hsh
      have co := hR.at (j := 0) (by omega)
      by_cases h0 : o 0 = 48
      · have hb0 : ((o 0 : Int) != 48) = false := by rw [h0]; rfl
        by_cases hk0 : kk = 0
        · have hbk : ((kk : Int) == 0) = true := by rw [hk0]; rfl
          have HDg : Hid (DigB (rndN g n keep) (strOfNums (rowL (fun j => (o j : Int)) 0 (kk + 1)) ++ zs)) := HOut.out.1 (.inr hk0)
          clear h0 hk0
          obtain ⟨bs, hbs⟩ : ∃ bs, bs = strOfNums (rowL (fun j => (o j : Int)) 0 (kk + 1)) := ⟨_, rfl⟩
          have hbl : bs.size ≤ 1401 := by rw [hbs, strOfNums_size, rowL_len]; omega
          rw [← hbs] at HDg
          have hcv : ∀ W' : World, (∀ j, j < 1442 → W'.cell? ⟨w.heap.size, j, none⟩ = some (.int .u8 (o j : Nat))) → (convert 83 9 (.slice (some ⟨w.heap.size, 0, none⟩) (kk + 1) 1442)).run Oabg.prog W' = .ok (.string bs) W' := fun W' hc =>
            by
              rw [hbs]
              exact string_of w.heap.size 0 (rowL (fun j => (o j : Int)) 0 (kk + 1)) (kk + 1) 1442 W' (rowL_len _ _ _) (fun i hi => by rw [hc _ (by omega), rowL_get _ _ _ _ hi])
          have hcv0 := hcv wr.drew (fun j hj => hR.at hj)
          have HCv : Hid (∀ W' : World, Below wr.drew.heap.size wr.drew W' → (convert 83 9 (.slice (some ⟨w.heap.size, 0, none⟩) (kk + 1) 1442)).run Oabg.prog W' = .ok (.string bs) W' ∧ W'.cell? ⟨P, 1441, none⟩ = some (.int .i64 (n : Nat)) ∧ Below w.heap.size w W') := fun W' hb => by
            have hb' : Below wr.heap.size wr W' := ⟨hb.os, hb.tape, hb.output, hb.size, hb.block⟩
            have hbw := below_step hR.below hR.below.size hb'
            refine ⟨hcv W' (fun j hj => ?_), (HE.out W' hbw).all.1, hbw⟩
            obtain ⟨C, q1, q2⟩ := hR.r
            exact ((q1.step hb' q1.size).cell _).trans (q2.cell j hj)
          have c1d : wr.drew.cell? ⟨P, 1441, none⟩ = some (.int .i64 (n : Nat)) := (HE.out wr.drew hR.below.drew).all.1
          have HB : Hid (Below w.heap.size w wr.drew) := hR.below.drew
          clear hcv hR hI him hbs HOut
          go_wp2_with fail
          go_region_with (go_at_call 79; refine (HZs.out _).mono ?_; rintro ee wA ⟨rfl, hbA⟩; obtain ⟨hcvA, c1A, hbAw⟩ := HCv.out _ hbA)
          all_goals (
            go_wp2
            go_ret
            exact ⟨_, rfl, HDg.out, by assumption⟩)
        · have hbk : ((kk : Int) == 0) = false := by rw [beq_eq_false_iff_ne]; omega
          have HDg : Hid (DigB (rndN g n keep) (strOfNums (rowL (fun j => (o j : Int)) 1 kk) ++ zs)) := HOut.out.2 (by omega)
          clear h0 hk0
          obtain ⟨bs, hbs⟩ : ∃ bs, bs = strOfNums (rowL (fun j => (o j : Int)) 1 kk) := ⟨_, rfl⟩
          have hbl : bs.size ≤ 1401 := by rw [hbs, strOfNums_size, rowL_len]; omega
          rw [← hbs] at HDg
          have hcv : ∀ W' : World, (∀ j, j < 1442 → W'.cell? ⟨w.heap.size, j, none⟩ = some (.int .u8 (o j : Nat))) → (convert 83 9 (.slice (some ⟨w.heap.size, 1, none⟩) kk 1441)).run Oabg.prog W' = .ok (.string bs) W' := fun W' hc =>
            by
              rw [hbs]
              exact string_of w.heap.size 1 (rowL (fun j => (o j : Int)) 1 kk) kk 1441 W' (rowL_len _ _ _) (fun i hi => by rw [hc _ (by omega), rowL_get _ _ _ _ hi])
          have hcv0 := hcv wr.drew (fun j hj => hR.at hj)
          have HCv : Hid (∀ W' : World, Below wr.drew.heap.size wr.drew W' → (convert 83 9 (.slice (some ⟨w.heap.size, 1, none⟩) kk 1441)).run Oabg.prog W' = .ok (.string bs) W' ∧ W'.cell? ⟨P, 1441, none⟩ = some (.int .i64 (n : Nat)) ∧ Below w.heap.size w W') := fun W' hb => by
            have hb' : Below wr.heap.size wr W' := ⟨hb.os, hb.tape, hb.output, hb.size, hb.block⟩
            have hbw := below_step hR.below hR.below.size hb'
            refine ⟨hcv W' (fun j hj => ?_), (HE.out W' hbw).all.1, hbw⟩
            obtain ⟨C, q1, q2⟩ := hR.r
            exact ((q1.step hb' q1.size).cell _).trans (q2.cell j hj)
          have c1d : wr.drew.cell? ⟨P, 1441, none⟩ = some (.int .i64 (n : Nat)) := (HE.out wr.drew hR.below.drew).all.1
          have HB : Hid (Below w.heap.size w wr.drew) := hR.below.drew
          clear hcv hR hI him hbs HOut
          go_wp2_with fail
          go_region_with (go_at_call 79; refine (HZs.out _).mono ?_; rintro ee wA ⟨rfl, hbA⟩; obtain ⟨hcvA, c1A, hbAw⟩ := HCv.out _ hbA)
          all_goals (
            go_wp2
            go_ret
            exact ⟨_, rfl, HDg.out, by assumption⟩)
      · have hb0 : ((o 0 : Int) != 48) = true := by rw [bne_iff_ne]; omega
        have HDg : Hid (DigB (rndN g n keep) (strOfNums (rowL (fun j => (o j : Int)) 0 (kk + 1)) ++ zs)) := HOut.out.1 (.inl h0)
        clear h0
        obtain ⟨bs, hbs⟩ : ∃ bs, bs = strOfNums (rowL (fun j => (o j : Int)) 0 (kk + 1)) := ⟨_, rfl⟩
        have hbl : bs.size ≤ 1401 := by rw [hbs, strOfNums_size, rowL_len]; omega
        rw [← hbs] at HDg
        have hcv : ∀ W' : World, (∀ j, j < 1442 → W'.cell? ⟨w.heap.size, j, none⟩ = some (.int .u8 (o j : Nat))) → (convert 83 9 (.slice (some ⟨w.heap.size, 0, none⟩) (kk + 1) 1442)).run Oabg.prog W' = .ok (.string bs) W' := fun W' hc =>
          by
            rw [hbs]
            exact string_of w.heap.size 0 (rowL (fun j => (o j : Int)) 0 (kk + 1)) (kk + 1) 1442 W' (rowL_len _ _ _) (fun i hi => by rw [hc _ (by omega), rowL_get _ _ _ _ hi])
        have hcv0 := hcv wr.drew (fun j hj => hR.at hj)
        have HCv : Hid (∀ W' : World, Below wr.drew.heap.size wr.drew W' → (convert 83 9 (.slice (some ⟨w.heap.size, 0, none⟩) (kk + 1) 1442)).run Oabg.prog W' = .ok (.string bs) W' ∧ W'.cell? ⟨P, 1441, none⟩ = some (.int .i64 (n : Nat)) ∧ Below w.heap.size w W') := fun W' hb => by
          have hb' : Below wr.heap.size wr W' := ⟨hb.os, hb.tape, hb.output, hb.size, hb.block⟩
          have hbw := below_step hR.below hR.below.size hb'
          refine ⟨hcv W' (fun j hj => ?_), (HE.out W' hbw).all.1, hbw⟩
          obtain ⟨C, q1, q2⟩ := hR.r
          exact ((q1.step hb' q1.size).cell _).trans (q2.cell j hj)
        have c1d : wr.drew.cell? ⟨P, 1441, none⟩ = some (.int .i64 (n : Nat)) := (HE.out wr.drew hR.below.drew).all.1
        have HB : Hid (Below w.heap.size w wr.drew) := hR.below.drew
        clear hcv hR hI him hbs HOut
        go_wp2_with fail
        go_region_with (go_at_call 79; refine (HZs.out _).mono ?_; rintro ee wA ⟨rfl, hbA⟩; obtain ⟨hcvA, c1A, hbAw⟩ := HCv.out _ hbA)
        all_goals (
          go_wp2
          go_ret
          exact ⟨_, rfl, HDg.out, by assumption⟩)
    · obtain ⟨h0, hip⟩ := hI.top rfl
      obtain ⟨i, rfl⟩ : ∃ i, i1 = i + 1 := ⟨i1 - 1, by omega⟩
      have hile := hI.le
      have hk1 : ((i + 1 : Nat) : Int) - 1 = (i : Nat) := by omega
      have hge : decide ((0 : Int) ≤ (i : Int)) = true := decide_eq_true (by omega)
      have ci := hR.at (j := i) (by omega)
      have fi := hR.fr i
      have hdi := hI.dig i (by omega)
      rw [hk1]
      have hlt : i < gk := by omega
      by_cases h9 : o i = 57
      · have hb9 : ((o i : Int) != 57) = false := by rw [h9]; rfl
        have HR : Hid (RbAt w w.heap.size w.heap.size 155 1442 (upd o i 48) (wr.setCell ⟨w.heap.size, i, none⟩ (.int .u8 48))) := hR.put i 48
        have HI : Hid (IncAt V kk (upd o i 48) i true) := hI.carry h9
        clear hR hI h9 h0 hip him
        go_wp2
        go_roundg i
        case measure => exact hlt
        case rel => exact ⟨_, i, true, rfl, rfl, HR.out, HI.out, Nat.le_refl _⟩
      · have hb9 : ((o i : Int) != 57) = true := by rw [bne_iff_ne]; omega
        obtain ⟨x, hx⟩ : ∃ x, x = o i + 1 := ⟨_, rfl⟩
        have ex : IntKind.u8.wrap ((o i : Int) + 1) = (x : Nat) := by simp [IntKind.wrap, IntKind.bits, IntKind.signed]; omega
        have HR : Hid (RbAt w w.heap.size w.heap.size 155 1442 (upd o i x) (wr.setCell ⟨w.heap.size, i, none⟩ (.int .u8 (x : Nat)))) := hR.put i x
        have HI : Hid (IncAt V kk (upd o i x) i false) := by rw [hx]; exact hI.done h9
        clear hR hI h9 h0 hip him hx
        go_wp2
        go_roundg i
        case measure => exact hlt
        case rel => exact ⟨_, i, false, rfl, rfl, HR.out, HI.out, Nat.le_refl _⟩

end Go.Proofs.Ygcoab
