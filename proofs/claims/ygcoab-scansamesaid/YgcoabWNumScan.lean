import Derived.Test.YgcoabPlainSame
import Derived.Test.YgcoabWNumA
import Derived.Test.YgcoabWNumB
import Derived.Test.YgcoabWNumC
import Derived.Test.YgcoabWNumD
import Derived.Test.YgcoabWNumE
import Derived.Test.YgcoabWNumF
namespace Go.Proofs.Ygcoab
open Go.RowKit

theorem isCut_exists (s : ByteArray) (a b : Nat) : ∃ n, IsCut s a b n := by
  have key : ∀ k, k ≤ s.size → (∃ i, i < k ∧ (bAt s i = a ∨ bAt s i = b) ∧ ∀ j, j < i → bAt s j ≠ a ∧ bAt s j ≠ b) ∨ ∀ j, j < k → bAt s j ≠ a ∧ bAt s j ≠ b := by
    intro k
    induction k with
    | zero => intro _; right; intro j hj; omega
    | succ k ih =>
      intro hk
      rcases ih (by omega) with ⟨i, h1, h2, h3⟩ | h
      · exact .inl ⟨i, by omega, h2, h3⟩
      · by_cases e : bAt s k = a ∨ bAt s k = b
        · exact .inl ⟨k, by omega, e, h⟩
        · right; intro j hj
          by_cases ej : j = k
          · subst ej; omega
          · exact h j (by omega)
  rcases key s.size (Nat.le_refl _) with ⟨i, h1, h2, h3⟩ | h
  · exact ⟨i, .inl ⟨i, rfl, h1, h2, h3⟩⟩
  · exact ⟨-1, .inr ⟨rfl, h⟩⟩

theorem isDigN_exists (s : ByteArray) : ∃ n, IsDigN s n := by
  have key : ∀ k, k ≤ s.size → (∃ i, i < k ∧ ¬ (48 ≤ bAt s i ∧ bAt s i ≤ 57) ∧ ∀ j, j < i → 48 ≤ bAt s j ∧ bAt s j ≤ 57) ∨ ∀ j, j < k → 48 ≤ bAt s j ∧ bAt s j ≤ 57 := by
    intro k
    induction k with
    | zero => intro _; right; intro j hj; omega
    | succ k ih =>
      intro hk
      rcases ih (by omega) with ⟨i, h1, h2, h3⟩ | h
      · exact .inl ⟨i, by omega, h2, h3⟩
      · by_cases e : 48 ≤ bAt s k ∧ bAt s k ≤ 57
        · right; intro j hj
          by_cases ej : j = k
          · subst ej; exact e
          · exact h j (by omega)
        · exact .inl ⟨k, by omega, e, h⟩
  rcases key s.size (Nat.le_refl _) with ⟨i, h1, h2, h3⟩ | h
  · exact ⟨i, by omega, h3, fun _ => h2⟩
  · exact ⟨s.size, Nat.le_refl _, h, fun h => by omega⟩

theorem nums_nil : strOfNums [] = ⟨#[]⟩ := rfl

theorem number_scan (T : ByteArray) (h : Nat) (neg : Bool) (w : World) (hT : T.size ≤ 1024) (H : AtHead T h neg) (hh : h ≤ T.size) :
    Calls Oabg.prog 58 #[.string T, .string (T.extract h T.size), .int .i64 h, .bool neg] w fun r w' => ∃ R, r = .returned (scV R) ∧ ScanIs T R ∧ Below w.heap.size w w' := by
  obtain ⟨body, hbody⟩ : ∃ b, b = T.extract h T.size := ⟨_, rfl⟩
  have hbs : body.size = T.size - h := by rw [hbody]; exact size_extract T h T.size (Nat.le_refl _)
  have hbb : ∀ j, j < body.size → bAt body j = bAt T (h + j) := fun j hj => by rw [hbody]; exact bAt_extract T h T.size j (by omega)
  rw [← hbody]
  obtain ⟨e, he⟩ := isCut_exists body 101 69
  obtain ⟨hasE, mant, ex, m, hE, hmant, hm1, hm2, hmark, hnom, hin⟩ : ∃ (hasE : Bool) (mant ex : ByteArray) (m : Nat),
      ((0 ≤ e ∧ hasE = true ∧ mant = body.extract 0 e.toNat ∧ ex = body.extract (e.toNat + 1) body.size) ∨ (e = -1 ∧ hasE = false ∧ mant = body ∧ ex = ⟨#[]⟩)) ∧
      mant = T.extract h m ∧ h ≤ m ∧ m ≤ T.size ∧ (hasE = true → m < T.size ∧ (bAt T m = 101 ∨ bAt T m = 69) ∧ ex = T.extract (m + 1) T.size) ∧ (hasE = false → m = T.size) ∧ (∀ j, h ≤ j → j < m → bAt T j ≠ 101 ∧ bAt T j ≠ 69) := by
    rcases he with ⟨k, rfl, hk, hka, hkl⟩ | ⟨rfl, hno⟩
    · refine ⟨true, body.extract 0 k, body.extract (k + 1) body.size, h + k, .inl ⟨by omega, rfl, rfl, rfl⟩, ?_, by omega, by omega, fun _ => ⟨by omega, ?_, ?_⟩, by simp, ?_⟩
      · rw [hbody, extract_extract T h T.size 0 k (by omega), Nat.add_zero]
      · rw [← hbb k hk]; exact hka
      · rw [hbs, hbody, extract_extract T h T.size (k + 1) (T.size - h) (by omega), show h + (T.size - h) = T.size from by omega, Nat.add_assoc]
      · intro j h1 h2
        have := hkl (j - h) (by omega)
        rw [hbb _ (by omega), show h + (j - h) = j from by omega] at this
        exact this
    · refine ⟨false, body, ⟨#[]⟩, T.size, .inr ⟨rfl, rfl, rfl, rfl⟩, hbody, hh, Nat.le_refl _, by simp, fun _ => rfl, ?_⟩
      intro j h1 h2
      have := hno (j - h) (by omega)
      rw [hbb _ (by omega), show h + (j - h) = j from by omega] at this
      exact this
  have hms : mant.size = m - h := by rw [hmant]; exact size_extract T h m hm2
  have hmb : ∀ j, j < mant.size → bAt mant j = bAt T (h + j) := fun j hj => by rw [hmant]; exact bAt_extract T h m j (by omega)
  obtain ⟨p, hp⟩ := isCut_exists mant 46 46
  obtain ⟨dot, ip, fp, a, hP, hip, ha1, ha2, hfs, hfb, hfn, hpt, hnp, hini⟩ : ∃ (dot : Bool) (ip fp : ByteArray) (a : Nat),
      ((0 ≤ p ∧ ip = mant.extract 0 p.toNat ∧ fp = mant.extract (p.toNat + 1) mant.size) ∨ (p = -1 ∧ ip = mant ∧ fp = ⟨#[]⟩)) ∧
      ip = T.extract h a ∧ h ≤ a ∧ a ≤ m ∧ fp.size = m - (a + 1) ∧ (∀ j, j < fp.size → bAt fp j = bAt T (a + 1 + j)) ∧ fp = strOfNums (toI (seg T (a + 1) (m - (a + 1)))) ∧ (dot = true → a < m ∧ bAt T a = 46) ∧ (dot = false → a = m) ∧ (∀ j, h ≤ j → j < a → bAt T j ≠ 46) := by
    rcases hp with ⟨k, rfl, hk, hka, hkl⟩ | ⟨rfl, hno⟩
    · have hfe : mant.extract (k + 1) mant.size = T.extract (h + k + 1) m := by
        rw [hms, hmant, extract_extract T h m (k + 1) (m - h) (by omega), show h + (m - h) = m from by omega, Nat.add_assoc]
      refine ⟨true, mant.extract 0 k, mant.extract (k + 1) mant.size, h + k, .inl ⟨by omega, rfl, rfl⟩, ?_, by omega, by omega, ?_, ?_, ?_, fun _ => ⟨by omega, ?_⟩, by simp, ?_⟩
      · rw [hmant, extract_extract T h m 0 k (by omega), Nat.add_zero]
      · rw [hfe, size_extract _ _ _ hm2]
      · intro j hj
        rw [hfe, size_extract _ _ _ hm2] at hj
        rw [hfe, bAt_extract _ _ _ _ (by omega)]
      · rw [hfe, nums_seg T (h + k + 1) (m - (h + k + 1)) (by omega), show h + k + 1 + (m - (h + k + 1)) = m from by omega]
      · rw [← hmb k hk]; omega
      · intro j h1 h2
        have := (hkl (j - h) (by omega)).1
        rw [hmb _ (by omega), show h + (j - h) = j from by omega] at this
        exact this
    · refine ⟨false, mant, ⟨#[]⟩, m, .inr ⟨rfl, rfl, rfl⟩, hmant, hm1, Nat.le_refl _, by rw [show m - (m + 1) = 0 from by omega]; rfl, fun j hj => absurd hj (Nat.not_lt_zero j), by rw [show m - (m + 1) = 0 from by omega]; rfl, by simp, fun _ => rfl, ?_⟩
      intro j h1 h2
      have := (hno (j - h) (by omega)).1
      rw [hmb _ (by omega), show h + (j - h) = j from by omega] at this
      exact this
  have his : ip.size = a - h := by rw [hip]; exact size_extract T h a (by omega)
  have hib : ∀ j, j < ip.size → bAt ip j = bAt T (h + j) := fun j hj => by rw [hip]; exact bAt_extract T h a j (by omega)
  have PP : Parts T body mant ex ip fp hasE h e p := ⟨hT, by omega, he, hE, hp, hP⟩
  have PL : Places T h a m dot hasE := ⟨hT, ha1, ha2, hm2, fun h => ⟨(hmark h).1, (hmark h).2.1⟩, hnom, hin, hpt, hnp, hini⟩
  obtain ⟨n1, d1⟩ := isDigN_exists ip
  obtain ⟨n2, d2⟩ := isDigN_exists fp
  obtain ⟨n3, d3⟩ := isDigN_exists (exTail ex)
  have dg1 : ∀ j, j < n1 → 48 ≤ bAt T (h + j) ∧ bAt T (h + j) ≤ 57 := fun j hj => by rw [← hib j (by have := d1.1; omega)]; exact d1.2.1 j hj
  have dg2 : ∀ j, j < n2 → 48 ≤ bAt T (a + 1 + j) ∧ bAt T (a + 1 + j) ≤ 57 := fun j hj => by rw [← hfb j (by have := d2.1; omega)]; exact d2.2.1 j hj
  by_cases q1 : n1 < ip.size
  · have hx := d1.2.2 q1
    rw [hib n1 q1] at hx
    exact (number_b1 T body mant ex ip fp hasE h neg e p w PP n1 n2 n3 d1 d2 d3 q1).mono fun r w' ⟨h1, h2⟩ => ⟨_, h1, ip_bad PL H dg1 (by omega) hx, h2⟩
  have q1' : n1 = ip.size := by have := d1.1; omega
  have dga : ∀ j, j < a - h → 48 ≤ bAt T (h + j) ∧ bAt T (h + j) ≤ 57 := fun j hj => dg1 j (by omega)
  by_cases q2 : n2 < fp.size
  · have hx := d2.2.2 q2
    rw [hfb n2 q2] at hx
    have hdt : dot = true := by
      cases dot with
      | true => rfl
      | false => have := hnp rfl; omega
    subst hdt
    have hpos : h + ip.size + 1 + n2 = a + 1 + n2 := by omega
    refine (number_b2 T body mant ex ip fp hasE h neg e p w PP n1 n2 n3 d1 d2 d3 q1' q2).mono fun r w' ⟨h1, h2⟩ => ⟨_, h1, ?_, h2⟩
    rw [hpos]
    exact fp_bad PL H dga dg2 (by omega) hx
  have q2' : n2 = fp.size := by have := d2.1; omega
  have dgf : ∀ j, j < m - (a + 1) → 48 ≤ bAt T (a + 1 + j) ∧ bAt T (a + 1 + j) ≤ 57 := fun j hj => dg2 j (by omega)
  by_cases q3 : ip.size = 0 ∧ fp.size = 0
  · refine (number_b3 T body mant ex ip fp hasE h neg e p w PP n1 n2 n3 d1 d2 d3 q1' q2' q3.1 q3.2).mono fun r w' ⟨h1, h2⟩ => ⟨_, h1, ?_, h2⟩
    rw [show h + mant.size = m from by omega]
    exact mant_empty PL H (by omega) (by omega)
  have hne : ¬ (a = h ∧ m - (a + 1) = 0) := by omega
  have ht : ip ++ fp = strOfNums (toI (seg T h (a - h)) ++ toI (seg T (a + 1) (m - (a + 1)))) := by
    rw [nums_app, ← hfn, nums_seg T h (a - h) (by omega), show h + (a - h) = a from by omega, ← hip]
  obtain ⟨DS, ht'⟩ : ∃ DS, DS = toI (seg T h (a - h)) ++ toI (seg T (a + 1) (m - (a + 1))) := ⟨_, rfl⟩
  cases hasE with
  | false =>
    have hS := num_plain PL H dga dgf hne ht
    rw [← hfs] at hS
    obtain ⟨dn, dd, dy, ok, hmk, hcs⟩ := make_fin (neg := neg) (t := ip ++ fp) (x := -(fp.size : Int)) rfl
    rcases hcs with ⟨rfl, hR⟩ | ⟨rfl, hR⟩
    · rw [hR] at hS
      by_cases z : 0 < ip.size
      · exact (number_b4t1 T body mant ex ip fp false h neg e p w PP n1 n2 n3 d1 d2 d3 q1' q2' z rfl dn dd dy hmk).mono fun r w' ⟨h1, h2⟩ => ⟨_, h1, hS, h2⟩
      · exact (number_b4t2 T body mant ex ip fp false h neg e p w PP n1 n2 n3 d1 d2 d3 q1' q2' (by omega) (by omega) rfl dn dd dy hmk).mono fun r w' ⟨h1, h2⟩ => ⟨_, h1, hS, h2⟩
    · rw [hR] at hS
      by_cases z : 0 < ip.size
      · exact (number_b4f1 T body mant ex ip fp false h neg e p w PP n1 n2 n3 d1 d2 d3 q1' q2' z rfl dn dd dy hmk).mono fun r w' ⟨h1, h2⟩ => ⟨_, h1, hS, h2⟩
      · exact (number_b4f2 T body mant ex ip fp false h neg e p w PP n1 n2 n3 d1 d2 d3 q1' q2' (by omega) (by omega) rfl dn dd dy hmk).mono fun r w' ⟨h1, h2⟩ => ⟨_, h1, hS, h2⟩
  | true =>
    rw [← ht'] at ht
    obtain ⟨hm, hmc, hex⟩ := hmark rfl
    have hxs : ex.size = T.size - (m + 1) := by rw [hex]; exact size_extract T (m + 1) T.size (Nat.le_refl _)
    have hxb : ∀ j, j < ex.size → bAt ex j = bAt T (m + 1 + j) := fun j hj => by rw [hex]; exact bAt_extract T (m + 1) T.size j (by omega)
    have r := run_mark PL H dga dgf hne
    rw [← ht'] at r
    by_cases q6 : ex.size = 0
    · have hxt : exTail ex = ex := by unfold exTail exSig; rw [if_neg (by simp; omega)]
      have q9 : n3 = 0 := by have := d3.1; rw [hxt] at this; omega
      have hS : ScanIs T (wrongAt T (T.size - ex.size)) := by
        rw [show T.size - ex.size = m + 1 + 0 from by omega]
        exact exp_bad hT r (.inl rfl) (by omega) (fun j hj => by omega) (fun h => by omega) (fun _ _ h => by omega) (.inr rfl)
      by_cases z : 0 < ip.size
      · exact (number_xzb1 T body mant ex ip fp true h neg e p w PP n1 n2 n3 d1 d2 d3 q1' q2' z rfl q6 q9).mono fun r w' ⟨h1, h2⟩ => ⟨_, h1, hS, h2⟩
      · exact (number_xzb2 T body mant ex ip fp true h neg e p w PP n1 n2 n3 d1 d2 d3 q1' q2' (by omega) (by omega) rfl q6 q9).mono fun r w' ⟨h1, h2⟩ => ⟨_, h1, hS, h2⟩
    have q6' : 0 < ex.size := by omega
    by_cases q7 : bAt ex 0 = 43
    · have hxt : exTail ex = ex.extract 1 ex.size := by unfold exTail exSig; rw [if_pos (by simp [q7]; omega)]
      rw [hxt] at d3
      have hte : ex.extract 1 ex.size = T.extract (m + 2) T.size := by
        rw [hxs, hex, extract_extract T (m + 1) T.size 1 (T.size - (m + 1)) (by omega), show m + 1 + (T.size - (m + 1)) = T.size from by omega]
      have hts : (ex.extract 1 ex.size).size = T.size - (m + 2) := by rw [hte]; exact size_extract T (m + 2) T.size (Nat.le_refl _)
      have htb : ∀ j, j < (ex.extract 1 ex.size).size → bAt (ex.extract 1 ex.size) j = bAt T (m + 2 + j) := fun j hj => by rw [hte]; exact bAt_extract T (m + 2) T.size j (by omega)
      have hc0 : bAt T (m + 1) = 43 := by have := hxb 0 q6'; rw [q7] at this; exact this.symm
      have r2 : runTo T (m + 2) = some ⟨7, neg, false, DS, m - (a + 1), 0, 0, 0⟩ := by
        rw [show m + 2 = (m + 1) + 1 from rfl, runTo_next r, hc0]
        exact Sc.step_es (by omega) rfl
      have dg3 : ∀ j, j < n3 → 48 ≤ bAt T (m + 2 + j) ∧ bAt T (m + 2 + j) ≤ 57 := fun j hj => by rw [← htb j (by have := d3.1; omega)]; exact d3.2.1 j hj
      rw [← hxt] at d3
      have d31 : n3 ≤ T.size - (m + 2) := by have := d3.1; rw [hxt] at this; omega
      by_cases q9 : n3 < (ex.extract 1 ex.size).size
      · have hx : ¬ (48 ≤ bAt T (m + 2 + n3) ∧ bAt T (m + 2 + n3) ≤ 57) := by
          have := d3.2.2; rw [hxt] at this; rw [← htb n3 q9]; exact this q9
        have hS : ScanIs T (wrongAt T (T.size - ex.size + 1 + n3)) := by
          rw [show T.size - ex.size + 1 + n3 = m + 2 + n3 from by omega]
          exact exp_bad hT r2 (.inr rfl) (by omega) dg3 (fun _ => hx) (fun h => by omega) (.inl (by omega))
        by_cases z : 0 < ip.size
        · exact (number_xpa1 T body mant ex ip fp true h neg e p w PP n1 n2 n3 d1 d2 d3 q1' q2' z rfl q6' q7 q9).mono fun r w' ⟨h1, h2⟩ => ⟨_, h1, hS, h2⟩
        · exact (number_xpa2 T body mant ex ip fp true h neg e p w PP n1 n2 n3 d1 d2 d3 q1' q2' (by omega) (by omega) rfl q6' q7 q9).mono fun r w' ⟨h1, h2⟩ => ⟨_, h1, hS, h2⟩
      by_cases q10 : (ex.extract 1 ex.size).size = 0
      · have q11 : n3 = 0 := by omega
        have hS : ScanIs T (wrongAt T (T.size - ex.size + 1)) := by
          rw [show T.size - ex.size + 1 = m + 2 + 0 from by omega]
          exact exp_bad hT r2 (.inr rfl) (by omega) (fun j hj => by omega) (fun h => by omega) (fun h => by omega) (.inr rfl)
        by_cases z : 0 < ip.size
        · exact (number_xpb1 T body mant ex ip fp true h neg e p w PP n1 n2 n3 d1 d2 d3 q1' q2' z rfl q6' q7 q11 q10).mono fun r w' ⟨h1, h2⟩ => ⟨_, h1, hS, h2⟩
        · exact (number_xpb2 T body mant ex ip fp true h neg e p w PP n1 n2 n3 d1 d2 d3 q1' q2' (by omega) (by omega) rfl q6' q7 q11 q10).mono fun r w' ⟨h1, h2⟩ => ⟨_, h1, hS, h2⟩
      have q12 : n3 = (ex.extract 1 ex.size).size := by omega
      have hbl : bl (ex.extract 1 ex.size) = seg T (m + 2) n3 := by
        rw [hte, show T.size = m + 2 + n3 from by omega]; exact bl_extract_seg T (m + 2) n3 (by omega)
      obtain ⟨E, hEE⟩ : ∃ E, exL 0 (bl (ex.extract 1 ex.size)) = E := ⟨_, rfl⟩
      have hS : ScanIs T (finN neg (ip ++ fp) ((E : Int) - (fp.size : Int))) :=
        exp_ok hT r2 (.inr rfl) (by omega) (by omega) dg3 ht (by rw [← hbl, hEE, ← hfs]; rfl)
      obtain ⟨dn, dd, dy, ok, hmk, hcs⟩ := make_fin (neg := neg) (t := ip ++ fp) (x := (E : Int) - (fp.size : Int)) rfl
      rcases hcs with ⟨rfl, hR⟩ | ⟨rfl, hR⟩
      · rw [hR] at hS
        by_cases z : 0 < ip.size
        · exact (number_ypt1 T body mant ex ip fp true h neg e p w PP n1 n2 n3 d1 d2 d3 q1' q2' z rfl q6' q7 q12 (by omega) E hEE dn dd dy hmk).mono fun r w' ⟨h1, h2⟩ => ⟨_, h1, hS, h2⟩
        · exact (number_ypt2 T body mant ex ip fp true h neg e p w PP n1 n2 n3 d1 d2 d3 q1' q2' (by omega) (by omega) rfl q6' q7 q12 (by omega) E hEE dn dd dy hmk).mono fun r w' ⟨h1, h2⟩ => ⟨_, h1, hS, h2⟩
      · rw [hR] at hS
        by_cases z : 0 < ip.size
        · exact (number_ypf1 T body mant ex ip fp true h neg e p w PP n1 n2 n3 d1 d2 d3 q1' q2' z rfl q6' q7 q12 (by omega) E hEE dn dd dy hmk).mono fun r w' ⟨h1, h2⟩ => ⟨_, h1, hS, h2⟩
        · exact (number_ypf2 T body mant ex ip fp true h neg e p w PP n1 n2 n3 d1 d2 d3 q1' q2' (by omega) (by omega) rfl q6' q7 q12 (by omega) E hEE dn dd dy hmk).mono fun r w' ⟨h1, h2⟩ => ⟨_, h1, hS, h2⟩
    have q7p := q7
    clear q7
    by_cases q7 : bAt ex 0 = 45
    · have hxt : exTail ex = ex.extract 1 ex.size := by unfold exTail exSig; rw [if_pos (by simp [q7]; omega)]
      rw [hxt] at d3
      have hte : ex.extract 1 ex.size = T.extract (m + 2) T.size := by
        rw [hxs, hex, extract_extract T (m + 1) T.size 1 (T.size - (m + 1)) (by omega), show m + 1 + (T.size - (m + 1)) = T.size from by omega]
      have hts : (ex.extract 1 ex.size).size = T.size - (m + 2) := by rw [hte]; exact size_extract T (m + 2) T.size (Nat.le_refl _)
      have htb : ∀ j, j < (ex.extract 1 ex.size).size → bAt (ex.extract 1 ex.size) j = bAt T (m + 2 + j) := fun j hj => by rw [hte]; exact bAt_extract T (m + 2) T.size j (by omega)
      have hc0 : bAt T (m + 1) = 45 := by have := hxb 0 q6'; rw [q7] at this; exact this.symm
      have r2 : runTo T (m + 2) = some ⟨7, neg, true, DS, m - (a + 1), 0, 0, 0⟩ := by
        rw [show m + 2 = (m + 1) + 1 from rfl, runTo_next r, hc0]
        exact Sc.step_es (by omega) rfl
      have dg3 : ∀ j, j < n3 → 48 ≤ bAt T (m + 2 + j) ∧ bAt T (m + 2 + j) ≤ 57 := fun j hj => by rw [← htb j (by have := d3.1; omega)]; exact d3.2.1 j hj
      rw [← hxt] at d3
      have d31 : n3 ≤ T.size - (m + 2) := by have := d3.1; rw [hxt] at this; omega
      by_cases q9 : n3 < (ex.extract 1 ex.size).size
      · have hx : ¬ (48 ≤ bAt T (m + 2 + n3) ∧ bAt T (m + 2 + n3) ≤ 57) := by
          have := d3.2.2; rw [hxt] at this; rw [← htb n3 q9]; exact this q9
        have hS : ScanIs T (wrongAt T (T.size - ex.size + 1 + n3)) := by
          rw [show T.size - ex.size + 1 + n3 = m + 2 + n3 from by omega]
          exact exp_bad hT r2 (.inr rfl) (by omega) dg3 (fun _ => hx) (fun h => by omega) (.inl (by omega))
        by_cases z : 0 < ip.size
        · exact (number_xma1 T body mant ex ip fp true h neg e p w PP n1 n2 n3 d1 d2 d3 q1' q2' z rfl q6' q7 q9).mono fun r w' ⟨h1, h2⟩ => ⟨_, h1, hS, h2⟩
        · exact (number_xma2 T body mant ex ip fp true h neg e p w PP n1 n2 n3 d1 d2 d3 q1' q2' (by omega) (by omega) rfl q6' q7 q9).mono fun r w' ⟨h1, h2⟩ => ⟨_, h1, hS, h2⟩
      by_cases q10 : (ex.extract 1 ex.size).size = 0
      · have q11 : n3 = 0 := by omega
        have hS : ScanIs T (wrongAt T (T.size - ex.size + 1)) := by
          rw [show T.size - ex.size + 1 = m + 2 + 0 from by omega]
          exact exp_bad hT r2 (.inr rfl) (by omega) (fun j hj => by omega) (fun h => by omega) (fun h => by omega) (.inr rfl)
        by_cases z : 0 < ip.size
        · exact (number_xmb1 T body mant ex ip fp true h neg e p w PP n1 n2 n3 d1 d2 d3 q1' q2' z rfl q6' q7 q11 q10).mono fun r w' ⟨h1, h2⟩ => ⟨_, h1, hS, h2⟩
        · exact (number_xmb2 T body mant ex ip fp true h neg e p w PP n1 n2 n3 d1 d2 d3 q1' q2' (by omega) (by omega) rfl q6' q7 q11 q10).mono fun r w' ⟨h1, h2⟩ => ⟨_, h1, hS, h2⟩
      have q12 : n3 = (ex.extract 1 ex.size).size := by omega
      have hbl : bl (ex.extract 1 ex.size) = seg T (m + 2) n3 := by
        rw [hte, show T.size = m + 2 + n3 from by omega]; exact bl_extract_seg T (m + 2) n3 (by omega)
      obtain ⟨E, hEE⟩ : ∃ E, exL 0 (bl (ex.extract 1 ex.size)) = E := ⟨_, rfl⟩
      have hS : ScanIs T (finN neg (ip ++ fp) (-(E : Int) - (fp.size : Int))) :=
        exp_ok hT r2 (.inr rfl) (by omega) (by omega) dg3 ht (by rw [← hbl, hEE, ← hfs]; rfl)
      obtain ⟨dn, dd, dy, ok, hmk, hcs⟩ := make_fin (neg := neg) (t := ip ++ fp) (x := -(E : Int) - (fp.size : Int)) rfl
      rcases hcs with ⟨rfl, hR⟩ | ⟨rfl, hR⟩
      · rw [hR] at hS
        by_cases z : 0 < ip.size
        · exact (number_ymt1 T body mant ex ip fp true h neg e p w PP n1 n2 n3 d1 d2 d3 q1' q2' z rfl q6' q7 q12 (by omega) E hEE dn dd dy hmk).mono fun r w' ⟨h1, h2⟩ => ⟨_, h1, hS, h2⟩
        · exact (number_ymt2 T body mant ex ip fp true h neg e p w PP n1 n2 n3 d1 d2 d3 q1' q2' (by omega) (by omega) rfl q6' q7 q12 (by omega) E hEE dn dd dy hmk).mono fun r w' ⟨h1, h2⟩ => ⟨_, h1, hS, h2⟩
      · rw [hR] at hS
        by_cases z : 0 < ip.size
        · exact (number_ymf1 T body mant ex ip fp true h neg e p w PP n1 n2 n3 d1 d2 d3 q1' q2' z rfl q6' q7 q12 (by omega) E hEE dn dd dy hmk).mono fun r w' ⟨h1, h2⟩ => ⟨_, h1, hS, h2⟩
        · exact (number_ymf2 T body mant ex ip fp true h neg e p w PP n1 n2 n3 d1 d2 d3 q1' q2' (by omega) (by omega) rfl q6' q7 q12 (by omega) E hEE dn dd dy hmk).mono fun r w' ⟨h1, h2⟩ => ⟨_, h1, hS, h2⟩
    have hxt : exTail ex = ex := by unfold exTail exSig; rw [if_neg (by simp [q7, q7p])]
    have hc0 := hxb 0 q6'
    rw [Nat.add_zero] at hc0
    have dg3 : ∀ j, j < n3 → 48 ≤ bAt T (m + 1 + j) ∧ bAt T (m + 1 + j) ≤ 57 := fun j hj => by
      have h1 := d3.1; rw [hxt] at h1
      have h2 := d3.2.1 j hj; rw [hxt, hxb j (by omega)] at h2; exact h2
    have d31 : n3 ≤ ex.size := by have := d3.1; rw [hxt] at this; omega
    by_cases q9 : n3 < ex.size
    · have hx : ¬ (48 ≤ bAt T (m + 1 + n3) ∧ bAt T (m + 1 + n3) ≤ 57) := by
        have := d3.2.2; rw [hxt] at this; rw [← hxb n3 q9]; exact this q9
      have hS : ScanIs T (wrongAt T (T.size - ex.size + n3)) := by
        rw [show T.size - ex.size + n3 = m + 1 + n3 from by omega]
        exact exp_bad hT r (.inl rfl) (by omega) dg3 (fun _ => hx) (fun _ _ _ => by omega) (.inl (by omega))
      by_cases z : 0 < ip.size
      · exact (number_xna1 T body mant ex ip fp true h neg e p w PP n1 n2 n3 d1 d2 d3 q1' q2' z rfl q6' q7p q7 q9).mono fun r w' ⟨h1, h2⟩ => ⟨_, h1, hS, h2⟩
      · exact (number_xna2 T body mant ex ip fp true h neg e p w PP n1 n2 n3 d1 d2 d3 q1' q2' (by omega) (by omega) rfl q6' q7p q7 q9).mono fun r w' ⟨h1, h2⟩ => ⟨_, h1, hS, h2⟩
    have q12 : n3 = ex.size := by omega
    have hbl : bl ex = seg T (m + 1) n3 := by
      rw [hex, show T.size = m + 1 + n3 from by omega]; exact bl_extract_seg T (m + 1) n3 (by omega)
    obtain ⟨E, hEE⟩ : ∃ E, exL 0 (bl ex) = E := ⟨_, rfl⟩
    have hS : ScanIs T (finN neg (ip ++ fp) ((E : Int) - (fp.size : Int))) :=
      exp_ok hT r (.inl rfl) (by omega) (by omega) dg3 ht (by rw [← hbl, hEE, ← hfs]; rfl)
    obtain ⟨dn, dd, dy, ok, hmk, hcs⟩ := make_fin (neg := neg) (t := ip ++ fp) (x := (E : Int) - (fp.size : Int)) rfl
    rcases hcs with ⟨rfl, hR⟩ | ⟨rfl, hR⟩
    · rw [hR] at hS
      by_cases z : 0 < ip.size
      · exact (number_ynt1 T body mant ex ip fp true h neg e p w PP n1 n2 n3 d1 d2 d3 q1' q2' z rfl q6' q7p q7 q12 (by omega) E hEE dn dd dy hmk).mono fun r w' ⟨h1, h2⟩ => ⟨_, h1, hS, h2⟩
      · exact (number_ynt2 T body mant ex ip fp true h neg e p w PP n1 n2 n3 d1 d2 d3 q1' q2' (by omega) (by omega) rfl q6' q7p q7 q12 (by omega) E hEE dn dd dy hmk).mono fun r w' ⟨h1, h2⟩ => ⟨_, h1, hS, h2⟩
    · rw [hR] at hS
      by_cases z : 0 < ip.size
      · exact (number_ynf1 T body mant ex ip fp true h neg e p w PP n1 n2 n3 d1 d2 d3 q1' q2' z rfl q6' q7p q7 q12 (by omega) E hEE dn dd dy hmk).mono fun r w' ⟨h1, h2⟩ => ⟨_, h1, hS, h2⟩
      · exact (number_ynf2 T body mant ex ip fp true h neg e p w PP n1 n2 n3 d1 d2 d3 q1' q2' (by omega) (by omega) rfl q6' q7p q7 q12 (by omega) E hEE dn dd dy hmk).mono fun r w' ⟨h1, h2⟩ => ⟨_, h1, hS, h2⟩
end Go.Proofs.Ygcoab
