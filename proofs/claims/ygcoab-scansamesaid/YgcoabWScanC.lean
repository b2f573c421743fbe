import Derived.Test.YgcoabScanBody
set_option linter.unusedVariables false
namespace Go.Proofs.Ygcoab
open Go.RowKit

set_option maxHeartbeats 2000000 in
set_option maxRecDepth 100000 in
theorem way_i0 (s : ByteArray) (w wr W1 : World) (k c : Nat) (neg en : Bool) (ds : List Int) (fr ex wd at_ : Nat) (v : Value) (Q : Exit → Act → World → Prop) (u8 u9 u18 u19 u20 u21 u22 u23 u24 u25 u26 u27 u28 u29 u30 u31 u32 u33 u34 u35 u36 u37 u38 u39 u40 u41 u42 u43 u44 u45 u46 u47 u48 u49 u50 u51 u52 u53 u54 u55 u56 u57 u58 u59 u60 u61 u62 u63 u64 u65 u66 u67 u68 u69 u70 u71 u72 u73 u74 u75 u76 u77 u78 u79 u80 u81 u82 u83 u84 u85 u86 u87 u88 u89 u90 u91 u92 u93 u94 u95 u96 u97 u98 u99 u100 u101 u102 u103 u104 u105 u106 u107 u108 u109 u110 u111 u112 u113 u114 u115 u116 u117 u118 u119 u120 u121 u122 u123 u124 u125 u126 u127 u128 u129 u130 u131 u132 u133 u134 u135 u136 u137 u138 u139 u140 u141 u142 u143 u144 u145 u146 u147 u148 u149 u150 u151 u152 u153 u154 u155 u156 u157 u158 u159 u160 u161 u162 u163 u164 u165 u166 c1 c3 c10 c11 c12 c13 c14 c15 c16 c167 c168 c169 c170 c171 c172 c173 : Value)
    (hnx : ∀ ty, (Instr.next (.pointer (some ⟨w.heap.size + 3, 0, none⟩)) true ty).run Oabg.prog wr = .ok (.tuple #[.bool true, .int .i64 k, .int .i32 c]) W1)
    (hA : ScanAt w s (k + 1) neg en ds fr ex v W1) (hit : wr.heap[w.heap.size + 3]? = some (.stringIter s k)) (hr : runTo s k = some ⟨0, neg, en, ds, fr, ex, wd, at_⟩) (hlt : k < s.size) (hc : c = bAt s k) (hasc : c < 128)
    (hfr : fr ≤ 1024) (hex : ex ≤ 1000000) (hdl : ds.length ≤ 2000) (hws : (wordB wd).size ≤ 8) (hwl : bAt (wordB wd) at_ < 128) (hcv : c = 73 ∨ c = 105)
    (hq : SNext s w wr Q c1 c3 c10 c11 c12 c13 c14 c15 c16 c167 c168 c169 c170 c171 c172 c173) :
    Code.wp Oabg.prog ((Oabg.f18.body.bind firstLoop).getD .skip) Q ⟨#[.string s, c1, .pointer (some ⟨w.heap.size, 0, none⟩), c3, .pointer (some ⟨w.heap.size + 1 + 1, 0, none⟩), .int .i64 0, .string (wordB wd), .int .i64 at_, u8, u9, c10, c11, c12, c13, c14, c15, c16, .pointer (some ⟨w.heap.size + 1 + 1 + 1, 0, none⟩), u18, u19, u20, u21, u22, u23, u24, u25, u26, u27, u28, u29, u30, u31, u32, u33, u34, u35, u36, u37, u38, u39, u40, u41, u42, u43, u44, u45, u46, u47, u48, u49, u50, u51, u52, u53, u54, u55, u56, u57, u58, u59, u60, u61, u62, u63, u64, u65, u66, u67, u68, u69, u70, u71, u72, u73, u74, u75, u76, u77, u78, u79, u80, u81, u82, u83, u84, u85, u86, u87, u88, u89, u90, u91, u92, u93, u94, u95, u96, u97, u98, u99, u100, u101, u102, u103, u104, u105, u106, u107, u108, u109, u110, u111, u112, u113, u114, u115, u116, u117, u118, u119, u120, u121, u122, u123, u124, u125, u126, u127, u128, u129, u130, u131, u132, u133, u134, u135, u136, u137, u138, u139, u140, u141, u142, u143, u144, u145, u146, u147, u148, u149, u150, u151, u152, u153, u154, u155, u156, u157, u158, u159, u160, u161, u162, u163, u164, u165, u166, c167, c168, c169, c170, c171, c172, c173], []⟩ wr := by
  obtain ⟨g0, g1, g2, g3, g4, gf⟩ := hA.gcells
  have HA : Hid (ScanAt w s (k + 1) neg en ds fr ex v W1) := hA
  have HS : Hid ((⟨0, neg, en, ds, fr, ex, wd, at_⟩ : Sc).step (bAt s k) = some ⟨9, neg, en, ds, fr, ex, 1, 1⟩) := by rw [← hc]; exact Sc.step_i hcv (by simp)
  have HQ : Hid (SNext s w wr Q c1 c3 c10 c11 c12 c13 c14 c15 c16 c167 c168 c169 c170 c171 c172 c173) := hq
  have HR : Hid (runTo s k = some ⟨0, neg, en, ds, fr, ex, wd, at_⟩) := hr
  have HI : Hid (wr.heap[w.heap.size + 3]? = some (.stringIter s k)) := hit
  have hb105 : (bits BinOp.or IntKind.i32 (c : Int) 32 == 105) = true := bits_yes (X := 105) (by omega) (by omega) (by omega) (by omega)
  have hn43 : ((c : Int) == 43) = false := by rw [beq_eq_false_iff_ne]; omega
  have hn45 : ((c : Int) == 45) = false := by rw [beq_eq_false_iff_ne]; omega
  have hn46 : ((c : Int) == 46) = false := by rw [beq_eq_false_iff_ne]; omega
  have hc1 : 57 < c := by omega
  clear hcv
  clear hA hq hr hc hit
  conv => arg 2; whnf
  go_wp2
  all_goals exact HQ.out _ _ _ _ _ _ _ _ _ _ _ _ _ _ _ _ _ _ _ _ _ _ _ _ _ _ _ _ _ _ _ _ _ _ _ _ _ _ _ _ _ _ _ _ _ _ _ _ _ _ _ _ _ _ _ _ _ _ _ _ _ _ _ _ _ _ _ _ _ _ _ _ _ _ _ _ _ _ _ _ _ _ _ _ _ _ _ _ _ _ _ _ _ _ _ _ _ _ _ _ _ _ _ _ _ _ _ _ _ _ _ _ _ _ _ _ _ _ _ _ _ _ _ _ _ _ _ _ _ _ _ _ _ _ _ _ _ _ _ _ _ _ _ _ _ _ _ _ _ _ _ _ _ _ _ (srel_step HR.out hlt HS.out (HA.out) (by first | rfl | go_num) (by first | rfl | go_num) (by first | rfl | go_num) HI.out).1 (srel_step HR.out hlt HS.out (HA.out) rfl rfl rfl HI.out).2

set_option maxHeartbeats 2000000 in
set_option maxRecDepth 100000 in
theorem way_n0 (s : ByteArray) (w wr W1 : World) (k c : Nat) (neg en : Bool) (ds : List Int) (fr ex wd at_ : Nat) (v : Value) (Q : Exit → Act → World → Prop) (u8 u9 u18 u19 u20 u21 u22 u23 u24 u25 u26 u27 u28 u29 u30 u31 u32 u33 u34 u35 u36 u37 u38 u39 u40 u41 u42 u43 u44 u45 u46 u47 u48 u49 u50 u51 u52 u53 u54 u55 u56 u57 u58 u59 u60 u61 u62 u63 u64 u65 u66 u67 u68 u69 u70 u71 u72 u73 u74 u75 u76 u77 u78 u79 u80 u81 u82 u83 u84 u85 u86 u87 u88 u89 u90 u91 u92 u93 u94 u95 u96 u97 u98 u99 u100 u101 u102 u103 u104 u105 u106 u107 u108 u109 u110 u111 u112 u113 u114 u115 u116 u117 u118 u119 u120 u121 u122 u123 u124 u125 u126 u127 u128 u129 u130 u131 u132 u133 u134 u135 u136 u137 u138 u139 u140 u141 u142 u143 u144 u145 u146 u147 u148 u149 u150 u151 u152 u153 u154 u155 u156 u157 u158 u159 u160 u161 u162 u163 u164 u165 u166 c1 c3 c10 c11 c12 c13 c14 c15 c16 c167 c168 c169 c170 c171 c172 c173 : Value)
    (hnx : ∀ ty, (Instr.next (.pointer (some ⟨w.heap.size + 3, 0, none⟩)) true ty).run Oabg.prog wr = .ok (.tuple #[.bool true, .int .i64 k, .int .i32 c]) W1)
    (hA : ScanAt w s (k + 1) neg en ds fr ex v W1) (hit : wr.heap[w.heap.size + 3]? = some (.stringIter s k)) (hr : runTo s k = some ⟨0, neg, en, ds, fr, ex, wd, at_⟩) (hlt : k < s.size) (hc : c = bAt s k) (hasc : c < 128)
    (hfr : fr ≤ 1024) (hex : ex ≤ 1000000) (hdl : ds.length ≤ 2000) (hws : (wordB wd).size ≤ 8) (hwl : bAt (wordB wd) at_ < 128) (hcv : c = 78 ∨ c = 110)
    (hq : SNext s w wr Q c1 c3 c10 c11 c12 c13 c14 c15 c16 c167 c168 c169 c170 c171 c172 c173) :
    Code.wp Oabg.prog ((Oabg.f18.body.bind firstLoop).getD .skip) Q ⟨#[.string s, c1, .pointer (some ⟨w.heap.size, 0, none⟩), c3, .pointer (some ⟨w.heap.size + 1 + 1, 0, none⟩), .int .i64 0, .string (wordB wd), .int .i64 at_, u8, u9, c10, c11, c12, c13, c14, c15, c16, .pointer (some ⟨w.heap.size + 1 + 1 + 1, 0, none⟩), u18, u19, u20, u21, u22, u23, u24, u25, u26, u27, u28, u29, u30, u31, u32, u33, u34, u35, u36, u37, u38, u39, u40, u41, u42, u43, u44, u45, u46, u47, u48, u49, u50, u51, u52, u53, u54, u55, u56, u57, u58, u59, u60, u61, u62, u63, u64, u65, u66, u67, u68, u69, u70, u71, u72, u73, u74, u75, u76, u77, u78, u79, u80, u81, u82, u83, u84, u85, u86, u87, u88, u89, u90, u91, u92, u93, u94, u95, u96, u97, u98, u99, u100, u101, u102, u103, u104, u105, u106, u107, u108, u109, u110, u111, u112, u113, u114, u115, u116, u117, u118, u119, u120, u121, u122, u123, u124, u125, u126, u127, u128, u129, u130, u131, u132, u133, u134, u135, u136, u137, u138, u139, u140, u141, u142, u143, u144, u145, u146, u147, u148, u149, u150, u151, u152, u153, u154, u155, u156, u157, u158, u159, u160, u161, u162, u163, u164, u165, u166, c167, c168, c169, c170, c171, c172, c173], []⟩ wr := by
  obtain ⟨g0, g1, g2, g3, g4, gf⟩ := hA.gcells
  have HA : Hid (ScanAt w s (k + 1) neg en ds fr ex v W1) := hA
  have HS : Hid ((⟨0, neg, en, ds, fr, ex, wd, at_⟩ : Sc).step (bAt s k) = some ⟨9, neg, en, ds, fr, ex, 2, 1⟩) := by rw [← hc]; exact Sc.step_n hcv (by simp)
  have HQ : Hid (SNext s w wr Q c1 c3 c10 c11 c12 c13 c14 c15 c16 c167 c168 c169 c170 c171 c172 c173) := hq
  have HR : Hid (runTo s k = some ⟨0, neg, en, ds, fr, ex, wd, at_⟩) := hr
  have HI : Hid (wr.heap[w.heap.size + 3]? = some (.stringIter s k)) := hit
  have hb110 : (bits BinOp.or IntKind.i32 (c : Int) 32 == 110) = true := bits_yes (X := 110) (by omega) (by omega) (by omega) (by omega)
  have hb105 : (bits BinOp.or IntKind.i32 (c : Int) 32 == 105) = false := bits_no (X := 105) (by omega) (by omega) (by omega) (by omega)
  have hn43 : ((c : Int) == 43) = false := by rw [beq_eq_false_iff_ne]; omega
  have hn45 : ((c : Int) == 45) = false := by rw [beq_eq_false_iff_ne]; omega
  have hn46 : ((c : Int) == 46) = false := by rw [beq_eq_false_iff_ne]; omega
  have hc1 : 57 < c := by omega
  clear hcv
  clear hA hq hr hc hit
  conv => arg 2; whnf
  go_wp2
  all_goals exact HQ.out _ _ _ _ _ _ _ _ _ _ _ _ _ _ _ _ _ _ _ _ _ _ _ _ _ _ _ _ _ _ _ _ _ _ _ _ _ _ _ _ _ _ _ _ _ _ _ _ _ _ _ _ _ _ _ _ _ _ _ _ _ _ _ _ _ _ _ _ _ _ _ _ _ _ _ _ _ _ _ _ _ _ _ _ _ _ _ _ _ _ _ _ _ _ _ _ _ _ _ _ _ _ _ _ _ _ _ _ _ _ _ _ _ _ _ _ _ _ _ _ _ _ _ _ _ _ _ _ _ _ _ _ _ _ _ _ _ _ _ _ _ _ _ _ _ _ _ _ _ _ _ _ _ _ _ (srel_step HR.out hlt HS.out (HA.out) (by first | rfl | go_num) (by first | rfl | go_num) (by first | rfl | go_num) HI.out).1 (srel_step HR.out hlt HS.out (HA.out) rfl rfl rfl HI.out).2

set_option maxHeartbeats 2000000 in
set_option maxRecDepth 100000 in
theorem way_i1 (s : ByteArray) (w wr W1 : World) (k c : Nat) (neg en : Bool) (ds : List Int) (fr ex wd at_ : Nat) (v : Value) (Q : Exit → Act → World → Prop) (u8 u9 u18 u19 u20 u21 u22 u23 u24 u25 u26 u27 u28 u29 u30 u31 u32 u33 u34 u35 u36 u37 u38 u39 u40 u41 u42 u43 u44 u45 u46 u47 u48 u49 u50 u51 u52 u53 u54 u55 u56 u57 u58 u59 u60 u61 u62 u63 u64 u65 u66 u67 u68 u69 u70 u71 u72 u73 u74 u75 u76 u77 u78 u79 u80 u81 u82 u83 u84 u85 u86 u87 u88 u89 u90 u91 u92 u93 u94 u95 u96 u97 u98 u99 u100 u101 u102 u103 u104 u105 u106 u107 u108 u109 u110 u111 u112 u113 u114 u115 u116 u117 u118 u119 u120 u121 u122 u123 u124 u125 u126 u127 u128 u129 u130 u131 u132 u133 u134 u135 u136 u137 u138 u139 u140 u141 u142 u143 u144 u145 u146 u147 u148 u149 u150 u151 u152 u153 u154 u155 u156 u157 u158 u159 u160 u161 u162 u163 u164 u165 u166 c1 c3 c10 c11 c12 c13 c14 c15 c16 c167 c168 c169 c170 c171 c172 c173 : Value)
    (hnx : ∀ ty, (Instr.next (.pointer (some ⟨w.heap.size + 3, 0, none⟩)) true ty).run Oabg.prog wr = .ok (.tuple #[.bool true, .int .i64 k, .int .i32 c]) W1)
    (hA : ScanAt w s (k + 1) neg en ds fr ex v W1) (hit : wr.heap[w.heap.size + 3]? = some (.stringIter s k)) (hr : runTo s k = some ⟨1, neg, en, ds, fr, ex, wd, at_⟩) (hlt : k < s.size) (hc : c = bAt s k) (hasc : c < 128)
    (hfr : fr ≤ 1024) (hex : ex ≤ 1000000) (hdl : ds.length ≤ 2000) (hws : (wordB wd).size ≤ 8) (hwl : bAt (wordB wd) at_ < 128) (hcv : c = 73 ∨ c = 105)
    (hq : SNext s w wr Q c1 c3 c10 c11 c12 c13 c14 c15 c16 c167 c168 c169 c170 c171 c172 c173) :
    Code.wp Oabg.prog ((Oabg.f18.body.bind firstLoop).getD .skip) Q ⟨#[.string s, c1, .pointer (some ⟨w.heap.size, 0, none⟩), c3, .pointer (some ⟨w.heap.size + 1 + 1, 0, none⟩), .int .i64 1, .string (wordB wd), .int .i64 at_, u8, u9, c10, c11, c12, c13, c14, c15, c16, .pointer (some ⟨w.heap.size + 1 + 1 + 1, 0, none⟩), u18, u19, u20, u21, u22, u23, u24, u25, u26, u27, u28, u29, u30, u31, u32, u33, u34, u35, u36, u37, u38, u39, u40, u41, u42, u43, u44, u45, u46, u47, u48, u49, u50, u51, u52, u53, u54, u55, u56, u57, u58, u59, u60, u61, u62, u63, u64, u65, u66, u67, u68, u69, u70, u71, u72, u73, u74, u75, u76, u77, u78, u79, u80, u81, u82, u83, u84, u85, u86, u87, u88, u89, u90, u91, u92, u93, u94, u95, u96, u97, u98, u99, u100, u101, u102, u103, u104, u105, u106, u107, u108, u109, u110, u111, u112, u113, u114, u115, u116, u117, u118, u119, u120, u121, u122, u123, u124, u125, u126, u127, u128, u129, u130, u131, u132, u133, u134, u135, u136, u137, u138, u139, u140, u141, u142, u143, u144, u145, u146, u147, u148, u149, u150, u151, u152, u153, u154, u155, u156, u157, u158, u159, u160, u161, u162, u163, u164, u165, u166, c167, c168, c169, c170, c171, c172, c173], []⟩ wr := by
  obtain ⟨g0, g1, g2, g3, g4, gf⟩ := hA.gcells
  have HA : Hid (ScanAt w s (k + 1) neg en ds fr ex v W1) := hA
  have HS : Hid ((⟨1, neg, en, ds, fr, ex, wd, at_⟩ : Sc).step (bAt s k) = some ⟨9, neg, en, ds, fr, ex, 1, 1⟩) := by rw [← hc]; exact Sc.step_i hcv (by simp)
  have HQ : Hid (SNext s w wr Q c1 c3 c10 c11 c12 c13 c14 c15 c16 c167 c168 c169 c170 c171 c172 c173) := hq
  have HR : Hid (runTo s k = some ⟨1, neg, en, ds, fr, ex, wd, at_⟩) := hr
  have HI : Hid (wr.heap[w.heap.size + 3]? = some (.stringIter s k)) := hit
  have hb105 : (bits BinOp.or IntKind.i32 (c : Int) 32 == 105) = true := bits_yes (X := 105) (by omega) (by omega) (by omega) (by omega)
  have hn43 : ((c : Int) == 43) = false := by rw [beq_eq_false_iff_ne]; omega
  have hn45 : ((c : Int) == 45) = false := by rw [beq_eq_false_iff_ne]; omega
  have hn46 : ((c : Int) == 46) = false := by rw [beq_eq_false_iff_ne]; omega
  have hc1 : 57 < c := by omega
  clear hcv
  clear hA hq hr hc hit
  conv => arg 2; whnf
  go_wp2
  all_goals exact HQ.out _ _ _ _ _ _ _ _ _ _ _ _ _ _ _ _ _ _ _ _ _ _ _ _ _ _ _ _ _ _ _ _ _ _ _ _ _ _ _ _ _ _ _ _ _ _ _ _ _ _ _ _ _ _ _ _ _ _ _ _ _ _ _ _ _ _ _ _ _ _ _ _ _ _ _ _ _ _ _ _ _ _ _ _ _ _ _ _ _ _ _ _ _ _ _ _ _ _ _ _ _ _ _ _ _ _ _ _ _ _ _ _ _ _ _ _ _ _ _ _ _ _ _ _ _ _ _ _ _ _ _ _ _ _ _ _ _ _ _ _ _ _ _ _ _ _ _ _ _ _ _ _ _ _ _ (srel_step HR.out hlt HS.out (HA.out) (by first | rfl | go_num) (by first | rfl | go_num) (by first | rfl | go_num) HI.out).1 (srel_step HR.out hlt HS.out (HA.out) rfl rfl rfl HI.out).2

set_option maxHeartbeats 2000000 in
set_option maxRecDepth 100000 in
theorem way_n1 (s : ByteArray) (w wr W1 : World) (k c : Nat) (neg en : Bool) (ds : List Int) (fr ex wd at_ : Nat) (v : Value) (Q : Exit → Act → World → Prop) (u8 u9 u18 u19 u20 u21 u22 u23 u24 u25 u26 u27 u28 u29 u30 u31 u32 u33 u34 u35 u36 u37 u38 u39 u40 u41 u42 u43 u44 u45 u46 u47 u48 u49 u50 u51 u52 u53 u54 u55 u56 u57 u58 u59 u60 u61 u62 u63 u64 u65 u66 u67 u68 u69 u70 u71 u72 u73 u74 u75 u76 u77 u78 u79 u80 u81 u82 u83 u84 u85 u86 u87 u88 u89 u90 u91 u92 u93 u94 u95 u96 u97 u98 u99 u100 u101 u102 u103 u104 u105 u106 u107 u108 u109 u110 u111 u112 u113 u114 u115 u116 u117 u118 u119 u120 u121 u122 u123 u124 u125 u126 u127 u128 u129 u130 u131 u132 u133 u134 u135 u136 u137 u138 u139 u140 u141 u142 u143 u144 u145 u146 u147 u148 u149 u150 u151 u152 u153 u154 u155 u156 u157 u158 u159 u160 u161 u162 u163 u164 u165 u166 c1 c3 c10 c11 c12 c13 c14 c15 c16 c167 c168 c169 c170 c171 c172 c173 : Value)
    (hnx : ∀ ty, (Instr.next (.pointer (some ⟨w.heap.size + 3, 0, none⟩)) true ty).run Oabg.prog wr = .ok (.tuple #[.bool true, .int .i64 k, .int .i32 c]) W1)
    (hA : ScanAt w s (k + 1) neg en ds fr ex v W1) (hit : wr.heap[w.heap.size + 3]? = some (.stringIter s k)) (hr : runTo s k = some ⟨1, neg, en, ds, fr, ex, wd, at_⟩) (hlt : k < s.size) (hc : c = bAt s k) (hasc : c < 128)
    (hfr : fr ≤ 1024) (hex : ex ≤ 1000000) (hdl : ds.length ≤ 2000) (hws : (wordB wd).size ≤ 8) (hwl : bAt (wordB wd) at_ < 128) (hcv : c = 78 ∨ c = 110)
    (hq : SNext s w wr Q c1 c3 c10 c11 c12 c13 c14 c15 c16 c167 c168 c169 c170 c171 c172 c173) :
    Code.wp Oabg.prog ((Oabg.f18.body.bind firstLoop).getD .skip) Q ⟨#[.string s, c1, .pointer (some ⟨w.heap.size, 0, none⟩), c3, .pointer (some ⟨w.heap.size + 1 + 1, 0, none⟩), .int .i64 1, .string (wordB wd), .int .i64 at_, u8, u9, c10, c11, c12, c13, c14, c15, c16, .pointer (some ⟨w.heap.size + 1 + 1 + 1, 0, none⟩), u18, u19, u20, u21, u22, u23, u24, u25, u26, u27, u28, u29, u30, u31, u32, u33, u34, u35, u36, u37, u38, u39, u40, u41, u42, u43, u44, u45, u46, u47, u48, u49, u50, u51, u52, u53, u54, u55, u56, u57, u58, u59, u60, u61, u62, u63, u64, u65, u66, u67, u68, u69, u70, u71, u72, u73, u74, u75, u76, u77, u78, u79, u80, u81, u82, u83, u84, u85, u86, u87, u88, u89, u90, u91, u92, u93, u94, u95, u96, u97, u98, u99, u100, u101, u102, u103, u104, u105, u106, u107, u108, u109, u110, u111, u112, u113, u114, u115, u116, u117, u118, u119, u120, u121, u122, u123, u124, u125, u126, u127, u128, u129, u130, u131, u132, u133, u134, u135, u136, u137, u138, u139, u140, u141, u142, u143, u144, u145, u146, u147, u148, u149, u150, u151, u152, u153, u154, u155, u156, u157, u158, u159, u160, u161, u162, u163, u164, u165, u166, c167, c168, c169, c170, c171, c172, c173], []⟩ wr := by
  obtain ⟨g0, g1, g2, g3, g4, gf⟩ := hA.gcells
  have HA : Hid (ScanAt w s (k + 1) neg en ds fr ex v W1) := hA
  have HS : Hid ((⟨1, neg, en, ds, fr, ex, wd, at_⟩ : Sc).step (bAt s k) = some ⟨9, neg, en, ds, fr, ex, 2, 1⟩) := by rw [← hc]; exact Sc.step_n hcv (by simp)
  have HQ : Hid (SNext s w wr Q c1 c3 c10 c11 c12 c13 c14 c15 c16 c167 c168 c169 c170 c171 c172 c173) := hq
  have HR : Hid (runTo s k = some ⟨1, neg, en, ds, fr, ex, wd, at_⟩) := hr
  have HI : Hid (wr.heap[w.heap.size + 3]? = some (.stringIter s k)) := hit
  have hb110 : (bits BinOp.or IntKind.i32 (c : Int) 32 == 110) = true := bits_yes (X := 110) (by omega) (by omega) (by omega) (by omega)
  have hb105 : (bits BinOp.or IntKind.i32 (c : Int) 32 == 105) = false := bits_no (X := 105) (by omega) (by omega) (by omega) (by omega)
  have hn43 : ((c : Int) == 43) = false := by rw [beq_eq_false_iff_ne]; omega
  have hn45 : ((c : Int) == 45) = false := by rw [beq_eq_false_iff_ne]; omega
  have hn46 : ((c : Int) == 46) = false := by rw [beq_eq_false_iff_ne]; omega
  have hc1 : 57 < c := by omega
  clear hcv
  clear hA hq hr hc hit
  conv => arg 2; whnf
  go_wp2
  all_goals exact HQ.out _ _ _ _ _ _ _ _ _ _ _ _ _ _ _ _ _ _ _ _ _ _ _ _ _ _ _ _ _ _ _ _ _ _ _ _ _ _ _ _ _ _ _ _ _ _ _ _ _ _ _ _ _ _ _ _ _ _ _ _ _ _ _ _ _ _ _ _ _ _ _ _ _ _ _ _ _ _ _ _ _ _ _ _ _ _ _ _ _ _ _ _ _ _ _ _ _ _ _ _ _ _ _ _ _ _ _ _ _ _ _ _ _ _ _ _ _ _ _ _ _ _ _ _ _ _ _ _ _ _ _ _ _ _ _ _ _ _ _ _ _ _ _ _ _ _ _ _ _ _ _ _ _ _ _ (srel_step HR.out hlt HS.out (HA.out) (by first | rfl | go_num) (by first | rfl | go_num) (by first | rfl | go_num) HI.out).1 (srel_step HR.out hlt HS.out (HA.out) rfl rfl rfl HI.out).2

set_option maxHeartbeats 2000000 in
set_option maxRecDepth 100000 in
theorem way_e2 (s : ByteArray) (w wr W1 : World) (k c : Nat) (neg en : Bool) (ds : List Int) (fr ex wd at_ : Nat) (v : Value) (Q : Exit → Act → World → Prop) (u8 u9 u18 u19 u20 u21 u22 u23 u24 u25 u26 u27 u28 u29 u30 u31 u32 u33 u34 u35 u36 u37 u38 u39 u40 u41 u42 u43 u44 u45 u46 u47 u48 u49 u50 u51 u52 u53 u54 u55 u56 u57 u58 u59 u60 u61 u62 u63 u64 u65 u66 u67 u68 u69 u70 u71 u72 u73 u74 u75 u76 u77 u78 u79 u80 u81 u82 u83 u84 u85 u86 u87 u88 u89 u90 u91 u92 u93 u94 u95 u96 u97 u98 u99 u100 u101 u102 u103 u104 u105 u106 u107 u108 u109 u110 u111 u112 u113 u114 u115 u116 u117 u118 u119 u120 u121 u122 u123 u124 u125 u126 u127 u128 u129 u130 u131 u132 u133 u134 u135 u136 u137 u138 u139 u140 u141 u142 u143 u144 u145 u146 u147 u148 u149 u150 u151 u152 u153 u154 u155 u156 u157 u158 u159 u160 u161 u162 u163 u164 u165 u166 c1 c3 c10 c11 c12 c13 c14 c15 c16 c167 c168 c169 c170 c171 c172 c173 : Value)
    (hnx : ∀ ty, (Instr.next (.pointer (some ⟨w.heap.size + 3, 0, none⟩)) true ty).run Oabg.prog wr = .ok (.tuple #[.bool true, .int .i64 k, .int .i32 c]) W1)
    (hA : ScanAt w s (k + 1) neg en ds fr ex v W1) (hit : wr.heap[w.heap.size + 3]? = some (.stringIter s k)) (hr : runTo s k = some ⟨2, neg, en, ds, fr, ex, wd, at_⟩) (hlt : k < s.size) (hc : c = bAt s k) (hasc : c < 128)
    (hfr : fr ≤ 1024) (hex : ex ≤ 1000000) (hdl : ds.length ≤ 2000) (hws : (wordB wd).size ≤ 8) (hwl : bAt (wordB wd) at_ < 128) (hcv : c = 69 ∨ c = 101)
    (hq : SNext s w wr Q c1 c3 c10 c11 c12 c13 c14 c15 c16 c167 c168 c169 c170 c171 c172 c173) :
    Code.wp Oabg.prog ((Oabg.f18.body.bind firstLoop).getD .skip) Q ⟨#[.string s, c1, .pointer (some ⟨w.heap.size, 0, none⟩), c3, .pointer (some ⟨w.heap.size + 1 + 1, 0, none⟩), .int .i64 2, .string (wordB wd), .int .i64 at_, u8, u9, c10, c11, c12, c13, c14, c15, c16, .pointer (some ⟨w.heap.size + 1 + 1 + 1, 0, none⟩), u18, u19, u20, u21, u22, u23, u24, u25, u26, u27, u28, u29, u30, u31, u32, u33, u34, u35, u36, u37, u38, u39, u40, u41, u42, u43, u44, u45, u46, u47, u48, u49, u50, u51, u52, u53, u54, u55, u56, u57, u58, u59, u60, u61, u62, u63, u64, u65, u66, u67, u68, u69, u70, u71, u72, u73, u74, u75, u76, u77, u78, u79, u80, u81, u82, u83, u84, u85, u86, u87, u88, u89, u90, u91, u92, u93, u94, u95, u96, u97, u98, u99, u100, u101, u102, u103, u104, u105, u106, u107, u108, u109, u110, u111, u112, u113, u114, u115, u116, u117, u118, u119, u120, u121, u122, u123, u124, u125, u126, u127, u128, u129, u130, u131, u132, u133, u134, u135, u136, u137, u138, u139, u140, u141, u142, u143, u144, u145, u146, u147, u148, u149, u150, u151, u152, u153, u154, u155, u156, u157, u158, u159, u160, u161, u162, u163, u164, u165, u166, c167, c168, c169, c170, c171, c172, c173], []⟩ wr := by
  obtain ⟨g0, g1, g2, g3, g4, gf⟩ := hA.gcells
  have HA : Hid (ScanAt w s (k + 1) neg en ds fr ex v W1) := hA
  have HS : Hid ((⟨2, neg, en, ds, fr, ex, wd, at_⟩ : Sc).step (bAt s k) = some ⟨6, neg, en, ds, fr, ex, wd, at_⟩) := by rw [← hc]; exact Sc.step_e hcv (by simp)
  have HQ : Hid (SNext s w wr Q c1 c3 c10 c11 c12 c13 c14 c15 c16 c167 c168 c169 c170 c171 c172 c173) := hq
  have HR : Hid (runTo s k = some ⟨2, neg, en, ds, fr, ex, wd, at_⟩) := hr
  have HI : Hid (wr.heap[w.heap.size + 3]? = some (.stringIter s k)) := hit
  have hb101 : (bits BinOp.or IntKind.i32 (c : Int) 32 == 101) = true := bits_yes (X := 101) (by omega) (by omega) (by omega) (by omega)
  have hn43 : ((c : Int) == 43) = false := by rw [beq_eq_false_iff_ne]; omega
  have hn45 : ((c : Int) == 45) = false := by rw [beq_eq_false_iff_ne]; omega
  have hn46 : ((c : Int) == 46) = false := by rw [beq_eq_false_iff_ne]; omega
  have hc1 : 57 < c := by omega
  clear hcv
  clear hA hq hr hc hit
  conv => arg 2; whnf
  go_wp2
  all_goals exact HQ.out _ _ _ _ _ _ _ _ _ _ _ _ _ _ _ _ _ _ _ _ _ _ _ _ _ _ _ _ _ _ _ _ _ _ _ _ _ _ _ _ _ _ _ _ _ _ _ _ _ _ _ _ _ _ _ _ _ _ _ _ _ _ _ _ _ _ _ _ _ _ _ _ _ _ _ _ _ _ _ _ _ _ _ _ _ _ _ _ _ _ _ _ _ _ _ _ _ _ _ _ _ _ _ _ _ _ _ _ _ _ _ _ _ _ _ _ _ _ _ _ _ _ _ _ _ _ _ _ _ _ _ _ _ _ _ _ _ _ _ _ _ _ _ _ _ _ _ _ _ _ _ _ _ _ _ (srel_step HR.out hlt HS.out (HA.out) (by first | rfl | go_num) (by first | rfl | go_num) (by first | rfl | go_num) HI.out).1 (srel_step HR.out hlt HS.out (HA.out) rfl rfl rfl HI.out).2

set_option maxHeartbeats 2000000 in
set_option maxRecDepth 100000 in
theorem way_e3 (s : ByteArray) (w wr W1 : World) (k c : Nat) (neg en : Bool) (ds : List Int) (fr ex wd at_ : Nat) (v : Value) (Q : Exit → Act → World → Prop) (u8 u9 u18 u19 u20 u21 u22 u23 u24 u25 u26 u27 u28 u29 u30 u31 u32 u33 u34 u35 u36 u37 u38 u39 u40 u41 u42 u43 u44 u45 u46 u47 u48 u49 u50 u51 u52 u53 u54 u55 u56 u57 u58 u59 u60 u61 u62 u63 u64 u65 u66 u67 u68 u69 u70 u71 u72 u73 u74 u75 u76 u77 u78 u79 u80 u81 u82 u83 u84 u85 u86 u87 u88 u89 u90 u91 u92 u93 u94 u95 u96 u97 u98 u99 u100 u101 u102 u103 u104 u105 u106 u107 u108 u109 u110 u111 u112 u113 u114 u115 u116 u117 u118 u119 u120 u121 u122 u123 u124 u125 u126 u127 u128 u129 u130 u131 u132 u133 u134 u135 u136 u137 u138 u139 u140 u141 u142 u143 u144 u145 u146 u147 u148 u149 u150 u151 u152 u153 u154 u155 u156 u157 u158 u159 u160 u161 u162 u163 u164 u165 u166 c1 c3 c10 c11 c12 c13 c14 c15 c16 c167 c168 c169 c170 c171 c172 c173 : Value)
    (hnx : ∀ ty, (Instr.next (.pointer (some ⟨w.heap.size + 3, 0, none⟩)) true ty).run Oabg.prog wr = .ok (.tuple #[.bool true, .int .i64 k, .int .i32 c]) W1)
    (hA : ScanAt w s (k + 1) neg en ds fr ex v W1) (hit : wr.heap[w.heap.size + 3]? = some (.stringIter s k)) (hr : runTo s k = some ⟨3, neg, en, ds, fr, ex, wd, at_⟩) (hlt : k < s.size) (hc : c = bAt s k) (hasc : c < 128)
    (hfr : fr ≤ 1024) (hex : ex ≤ 1000000) (hdl : ds.length ≤ 2000) (hws : (wordB wd).size ≤ 8) (hwl : bAt (wordB wd) at_ < 128) (hcv : c = 69 ∨ c = 101)
    (hq : SNext s w wr Q c1 c3 c10 c11 c12 c13 c14 c15 c16 c167 c168 c169 c170 c171 c172 c173) :
    Code.wp Oabg.prog ((Oabg.f18.body.bind firstLoop).getD .skip) Q ⟨#[.string s, c1, .pointer (some ⟨w.heap.size, 0, none⟩), c3, .pointer (some ⟨w.heap.size + 1 + 1, 0, none⟩), .int .i64 3, .string (wordB wd), .int .i64 at_, u8, u9, c10, c11, c12, c13, c14, c15, c16, .pointer (some ⟨w.heap.size + 1 + 1 + 1, 0, none⟩), u18, u19, u20, u21, u22, u23, u24, u25, u26, u27, u28, u29, u30, u31, u32, u33, u34, u35, u36, u37, u38, u39, u40, u41, u42, u43, u44, u45, u46, u47, u48, u49, u50, u51, u52, u53, u54, u55, u56, u57, u58, u59, u60, u61, u62, u63, u64, u65, u66, u67, u68, u69, u70, u71, u72, u73, u74, u75, u76, u77, u78, u79, u80, u81, u82, u83, u84, u85, u86, u87, u88, u89, u90, u91, u92, u93, u94, u95, u96, u97, u98, u99, u100, u101, u102, u103, u104, u105, u106, u107, u108, u109, u110, u111, u112, u113, u114, u115, u116, u117, u118, u119, u120, u121, u122, u123, u124, u125, u126, u127, u128, u129, u130, u131, u132, u133, u134, u135, u136, u137, u138, u139, u140, u141, u142, u143, u144, u145, u146, u147, u148, u149, u150, u151, u152, u153, u154, u155, u156, u157, u158, u159, u160, u161, u162, u163, u164, u165, u166, c167, c168, c169, c170, c171, c172, c173], []⟩ wr := by
  obtain ⟨g0, g1, g2, g3, g4, gf⟩ := hA.gcells
  have HA : Hid (ScanAt w s (k + 1) neg en ds fr ex v W1) := hA
  have HS : Hid ((⟨3, neg, en, ds, fr, ex, wd, at_⟩ : Sc).step (bAt s k) = some ⟨6, neg, en, ds, fr, ex, wd, at_⟩) := by rw [← hc]; exact Sc.step_e hcv (by simp)
  have HQ : Hid (SNext s w wr Q c1 c3 c10 c11 c12 c13 c14 c15 c16 c167 c168 c169 c170 c171 c172 c173) := hq
  have HR : Hid (runTo s k = some ⟨3, neg, en, ds, fr, ex, wd, at_⟩) := hr
  have HI : Hid (wr.heap[w.heap.size + 3]? = some (.stringIter s k)) := hit
  have hb101 : (bits BinOp.or IntKind.i32 (c : Int) 32 == 101) = true := bits_yes (X := 101) (by omega) (by omega) (by omega) (by omega)
  have hn43 : ((c : Int) == 43) = false := by rw [beq_eq_false_iff_ne]; omega
  have hn45 : ((c : Int) == 45) = false := by rw [beq_eq_false_iff_ne]; omega
  have hn46 : ((c : Int) == 46) = false := by rw [beq_eq_false_iff_ne]; omega
  have hc1 : 57 < c := by omega
  clear hcv
  clear hA hq hr hc hit
  conv => arg 2; whnf
  go_wp2
  all_goals exact HQ.out _ _ _ _ _ _ _ _ _ _ _ _ _ _ _ _ _ _ _ _ _ _ _ _ _ _ _ _ _ _ _ _ _ _ _ _ _ _ _ _ _ _ _ _ _ _ _ _ _ _ _ _ _ _ _ _ _ _ _ _ _ _ _ _ _ _ _ _ _ _ _ _ _ _ _ _ _ _ _ _ _ _ _ _ _ _ _ _ _ _ _ _ _ _ _ _ _ _ _ _ _ _ _ _ _ _ _ _ _ _ _ _ _ _ _ _ _ _ _ _ _ _ _ _ _ _ _ _ _ _ _ _ _ _ _ _ _ _ _ _ _ _ _ _ _ _ _ _ _ _ _ _ _ _ _ (srel_step HR.out hlt HS.out (HA.out) (by first | rfl | go_num) (by first | rfl | go_num) (by first | rfl | go_num) HI.out).1 (srel_step HR.out hlt HS.out (HA.out) rfl rfl rfl HI.out).2

set_option maxHeartbeats 2000000 in
set_option maxRecDepth 100000 in
theorem way_e5 (s : ByteArray) (w wr W1 : World) (k c : Nat) (neg en : Bool) (ds : List Int) (fr ex wd at_ : Nat) (v : Value) (Q : Exit → Act → World → Prop) (u8 u9 u18 u19 u20 u21 u22 u23 u24 u25 u26 u27 u28 u29 u30 u31 u32 u33 u34 u35 u36 u37 u38 u39 u40 u41 u42 u43 u44 u45 u46 u47 u48 u49 u50 u51 u52 u53 u54 u55 u56 u57 u58 u59 u60 u61 u62 u63 u64 u65 u66 u67 u68 u69 u70 u71 u72 u73 u74 u75 u76 u77 u78 u79 u80 u81 u82 u83 u84 u85 u86 u87 u88 u89 u90 u91 u92 u93 u94 u95 u96 u97 u98 u99 u100 u101 u102 u103 u104 u105 u106 u107 u108 u109 u110 u111 u112 u113 u114 u115 u116 u117 u118 u119 u120 u121 u122 u123 u124 u125 u126 u127 u128 u129 u130 u131 u132 u133 u134 u135 u136 u137 u138 u139 u140 u141 u142 u143 u144 u145 u146 u147 u148 u149 u150 u151 u152 u153 u154 u155 u156 u157 u158 u159 u160 u161 u162 u163 u164 u165 u166 c1 c3 c10 c11 c12 c13 c14 c15 c16 c167 c168 c169 c170 c171 c172 c173 : Value)
    (hnx : ∀ ty, (Instr.next (.pointer (some ⟨w.heap.size + 3, 0, none⟩)) true ty).run Oabg.prog wr = .ok (.tuple #[.bool true, .int .i64 k, .int .i32 c]) W1)
    (hA : ScanAt w s (k + 1) neg en ds fr ex v W1) (hit : wr.heap[w.heap.size + 3]? = some (.stringIter s k)) (hr : runTo s k = some ⟨5, neg, en, ds, fr, ex, wd, at_⟩) (hlt : k < s.size) (hc : c = bAt s k) (hasc : c < 128)
    (hfr : fr ≤ 1024) (hex : ex ≤ 1000000) (hdl : ds.length ≤ 2000) (hws : (wordB wd).size ≤ 8) (hwl : bAt (wordB wd) at_ < 128) (hcv : c = 69 ∨ c = 101)
    (hq : SNext s w wr Q c1 c3 c10 c11 c12 c13 c14 c15 c16 c167 c168 c169 c170 c171 c172 c173) :
    Code.wp Oabg.prog ((Oabg.f18.body.bind firstLoop).getD .skip) Q ⟨#[.string s, c1, .pointer (some ⟨w.heap.size, 0, none⟩), c3, .pointer (some ⟨w.heap.size + 1 + 1, 0, none⟩), .int .i64 5, .string (wordB wd), .int .i64 at_, u8, u9, c10, c11, c12, c13, c14, c15, c16, .pointer (some ⟨w.heap.size + 1 + 1 + 1, 0, none⟩), u18, u19, u20, u21, u22, u23, u24, u25, u26, u27, u28, u29, u30, u31, u32, u33, u34, u35, u36, u37, u38, u39, u40, u41, u42, u43, u44, u45, u46, u47, u48, u49, u50, u51, u52, u53, u54, u55, u56, u57, u58, u59, u60, u61, u62, u63, u64, u65, u66, u67, u68, u69, u70, u71, u72, u73, u74, u75, u76, u77, u78, u79, u80, u81, u82, u83, u84, u85, u86, u87, u88, u89, u90, u91, u92, u93, u94, u95, u96, u97, u98, u99, u100, u101, u102, u103, u104, u105, u106, u107, u108, u109, u110, u111, u112, u113, u114, u115, u116, u117, u118, u119, u120, u121, u122, u123, u124, u125, u126, u127, u128, u129, u130, u131, u132, u133, u134, u135, u136, u137, u138, u139, u140, u141, u142, u143, u144, u145, u146, u147, u148, u149, u150, u151, u152, u153, u154, u155, u156, u157, u158, u159, u160, u161, u162, u163, u164, u165, u166, c167, c168, c169, c170, c171, c172, c173], []⟩ wr := by
  obtain ⟨g0, g1, g2, g3, g4, gf⟩ := hA.gcells
  have HA : Hid (ScanAt w s (k + 1) neg en ds fr ex v W1) := hA
  have HS : Hid ((⟨5, neg, en, ds, fr, ex, wd, at_⟩ : Sc).step (bAt s k) = some ⟨6, neg, en, ds, fr, ex, wd, at_⟩) := by rw [← hc]; exact Sc.step_e hcv (by simp)
  have HQ : Hid (SNext s w wr Q c1 c3 c10 c11 c12 c13 c14 c15 c16 c167 c168 c169 c170 c171 c172 c173) := hq
  have HR : Hid (runTo s k = some ⟨5, neg, en, ds, fr, ex, wd, at_⟩) := hr
  have HI : Hid (wr.heap[w.heap.size + 3]? = some (.stringIter s k)) := hit
  have hb101 : (bits BinOp.or IntKind.i32 (c : Int) 32 == 101) = true := bits_yes (X := 101) (by omega) (by omega) (by omega) (by omega)
  have hn43 : ((c : Int) == 43) = false := by rw [beq_eq_false_iff_ne]; omega
  have hn45 : ((c : Int) == 45) = false := by rw [beq_eq_false_iff_ne]; omega
  have hn46 : ((c : Int) == 46) = false := by rw [beq_eq_false_iff_ne]; omega
  have hc1 : 57 < c := by omega
  clear hcv
  clear hA hq hr hc hit
  conv => arg 2; whnf
  go_wp2
  all_goals exact HQ.out _ _ _ _ _ _ _ _ _ _ _ _ _ _ _ _ _ _ _ _ _ _ _ _ _ _ _ _ _ _ _ _ _ _ _ _ _ _ _ _ _ _ _ _ _ _ _ _ _ _ _ _ _ _ _ _ _ _ _ _ _ _ _ _ _ _ _ _ _ _ _ _ _ _ _ _ _ _ _ _ _ _ _ _ _ _ _ _ _ _ _ _ _ _ _ _ _ _ _ _ _ _ _ _ _ _ _ _ _ _ _ _ _ _ _ _ _ _ _ _ _ _ _ _ _ _ _ _ _ _ _ _ _ _ _ _ _ _ _ _ _ _ _ _ _ _ _ _ _ _ _ _ _ _ _ (srel_step HR.out hlt HS.out (HA.out) (by first | rfl | go_num) (by first | rfl | go_num) (by first | rfl | go_num) HI.out).1 (srel_step HR.out hlt HS.out (HA.out) rfl rfl rfl HI.out).2

set_option maxHeartbeats 2000000 in
set_option maxRecDepth 100000 in
theorem way_w9 (s : ByteArray) (w wr W1 : World) (k c : Nat) (neg en : Bool) (ds : List Int) (fr ex wd at_ : Nat) (v : Value) (Q : Exit → Act → World → Prop) (u8 u9 u18 u19 u20 u21 u22 u23 u24 u25 u26 u27 u28 u29 u30 u31 u32 u33 u34 u35 u36 u37 u38 u39 u40 u41 u42 u43 u44 u45 u46 u47 u48 u49 u50 u51 u52 u53 u54 u55 u56 u57 u58 u59 u60 u61 u62 u63 u64 u65 u66 u67 u68 u69 u70 u71 u72 u73 u74 u75 u76 u77 u78 u79 u80 u81 u82 u83 u84 u85 u86 u87 u88 u89 u90 u91 u92 u93 u94 u95 u96 u97 u98 u99 u100 u101 u102 u103 u104 u105 u106 u107 u108 u109 u110 u111 u112 u113 u114 u115 u116 u117 u118 u119 u120 u121 u122 u123 u124 u125 u126 u127 u128 u129 u130 u131 u132 u133 u134 u135 u136 u137 u138 u139 u140 u141 u142 u143 u144 u145 u146 u147 u148 u149 u150 u151 u152 u153 u154 u155 u156 u157 u158 u159 u160 u161 u162 u163 u164 u165 u166 c1 c3 c10 c11 c12 c13 c14 c15 c16 c167 c168 c169 c170 c171 c172 c173 : Value)
    (hnx : ∀ ty, (Instr.next (.pointer (some ⟨w.heap.size + 3, 0, none⟩)) true ty).run Oabg.prog wr = .ok (.tuple #[.bool true, .int .i64 k, .int .i32 c]) W1)
    (hA : ScanAt w s (k + 1) neg en ds fr ex v W1) (hit : wr.heap[w.heap.size + 3]? = some (.stringIter s k)) (hr : runTo s k = some ⟨9, neg, en, ds, fr, ex, wd, at_⟩) (hlt : k < s.size) (hc : c = bAt s k) (hasc : c < 128)
    (hfr : fr ≤ 1024) (hex : ex ≤ 1000000) (hdl : ds.length ≤ 2000) (hws : (wordB wd).size ≤ 8) (hwl : bAt (wordB wd) at_ < 128) (hd : ¬ (48 ≤ c ∧ c ≤ 57)) (hw1 : at_ < (wordB wd).size) (hw2 : c = bAt (wordB wd) at_ ∨ c + 32 = bAt (wordB wd) at_)
    (hq : SNext s w wr Q c1 c3 c10 c11 c12 c13 c14 c15 c16 c167 c168 c169 c170 c171 c172 c173) :
    Code.wp Oabg.prog ((Oabg.f18.body.bind firstLoop).getD .skip) Q ⟨#[.string s, c1, .pointer (some ⟨w.heap.size, 0, none⟩), c3, .pointer (some ⟨w.heap.size + 1 + 1, 0, none⟩), .int .i64 9, .string (wordB wd), .int .i64 at_, u8, u9, c10, c11, c12, c13, c14, c15, c16, .pointer (some ⟨w.heap.size + 1 + 1 + 1, 0, none⟩), u18, u19, u20, u21, u22, u23, u24, u25, u26, u27, u28, u29, u30, u31, u32, u33, u34, u35, u36, u37, u38, u39, u40, u41, u42, u43, u44, u45, u46, u47, u48, u49, u50, u51, u52, u53, u54, u55, u56, u57, u58, u59, u60, u61, u62, u63, u64, u65, u66, u67, u68, u69, u70, u71, u72, u73, u74, u75, u76, u77, u78, u79, u80, u81, u82, u83, u84, u85, u86, u87, u88, u89, u90, u91, u92, u93, u94, u95, u96, u97, u98, u99, u100, u101, u102, u103, u104, u105, u106, u107, u108, u109, u110, u111, u112, u113, u114, u115, u116, u117, u118, u119, u120, u121, u122, u123, u124, u125, u126, u127, u128, u129, u130, u131, u132, u133, u134, u135, u136, u137, u138, u139, u140, u141, u142, u143, u144, u145, u146, u147, u148, u149, u150, u151, u152, u153, u154, u155, u156, u157, u158, u159, u160, u161, u162, u163, u164, u165, u166, c167, c168, c169, c170, c171, c172, c173], []⟩ wr := by
  obtain ⟨g0, g1, g2, g3, g4, gf⟩ := hA.gcells
  have HA : Hid (ScanAt w s (k + 1) neg en ds fr ex v W1) := hA
  have HS : Hid ((⟨9, neg, en, ds, fr, ex, wd, at_⟩ : Sc).step (bAt s k) = some ⟨9, neg, en, ds, fr, ex, wd, at_ + 1⟩) := by rw [← hc]; exact Sc.step_w hd ⟨hw1, hw2⟩ rfl
  have HQ : Hid (SNext s w wr Q c1 c3 c10 c11 c12 c13 c14 c15 c16 c167 c168 c169 c170 c171 c172 c173) := hq
  have HR : Hid (runTo s k = some ⟨9, neg, en, ds, fr, ex, wd, at_⟩) := hr
  have HI : Hid (wr.heap[w.heap.size + 3]? = some (.stringIter s k)) := hit
  have hge := word_ge wd at_ hw1
  have hb : (bits BinOp.or IntKind.i32 (c : Int) 32 == (bAt (wordB wd) at_ : Int)) = true := bits_yes (by omega) hge hwl hw2
  have hix := bAt_eq (wordB wd) at_ hw1
  have hc1 : 57 < c := by omega
  clear hw2 hd
  clear hA hq hr hc hit
  conv => arg 2; whnf
  go_wp2
  all_goals exact HQ.out _ _ _ _ _ _ _ _ _ _ _ _ _ _ _ _ _ _ _ _ _ _ _ _ _ _ _ _ _ _ _ _ _ _ _ _ _ _ _ _ _ _ _ _ _ _ _ _ _ _ _ _ _ _ _ _ _ _ _ _ _ _ _ _ _ _ _ _ _ _ _ _ _ _ _ _ _ _ _ _ _ _ _ _ _ _ _ _ _ _ _ _ _ _ _ _ _ _ _ _ _ _ _ _ _ _ _ _ _ _ _ _ _ _ _ _ _ _ _ _ _ _ _ _ _ _ _ _ _ _ _ _ _ _ _ _ _ _ _ _ _ _ _ _ _ _ _ _ _ _ _ _ _ _ _ (srel_step HR.out hlt HS.out (HA.out) (by first | rfl | go_num) (by first | rfl | go_num) (by first | rfl | go_num) HI.out).1 (srel_step HR.out hlt HS.out (HA.out) rfl rfl rfl HI.out).2

end Go.Proofs.Ygcoab
