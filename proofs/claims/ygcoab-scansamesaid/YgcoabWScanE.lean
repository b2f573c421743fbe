import Derived.Test.YgcoabScanBody
set_option linter.unusedVariables false
namespace Go.Proofs.Ygcoab
open Go.RowKit

set_option maxHeartbeats 2000000 in
set_option maxRecDepth 100000 in
theorem wrong_6 (s : ByteArray) (w wr W1 : World) (k p r : Nat) (neg en : Bool) (ds : List Int) (fr ex wd at_ : Nat) (v : Value) (Q : Exit → Act → World → Prop) (u8 u9 u18 u19 u20 u21 u22 u23 u24 u25 u26 u27 u28 u29 u30 u31 u32 u33 u34 u35 u36 u37 u38 u39 u40 u41 u42 u43 u44 u45 u46 u47 u48 u49 u50 u51 u52 u53 u54 u55 u56 u57 u58 u59 u60 u61 u62 u63 u64 u65 u66 u67 u68 u69 u70 u71 u72 u73 u74 u75 u76 u77 u78 u79 u80 u81 u82 u83 u84 u85 u86 u87 u88 u89 u90 u91 u92 u93 u94 u95 u96 u97 u98 u99 u100 u101 u102 u103 u104 u105 u106 u107 u108 u109 u110 u111 u112 u113 u114 u115 u116 u117 u118 u119 u120 u121 u122 u123 u124 u125 u126 u127 u128 u129 u130 u131 u132 u133 u134 u135 u136 u137 u138 u139 u140 u141 u142 u143 u144 u145 u146 u147 u148 u149 u150 u151 u152 u153 u154 u155 u156 u157 u158 u159 u160 u161 u162 u163 u164 u165 u166 b1 b3 b10 b11 b12 b13 b14 b15 b16 b167 b168 b169 b170 b171 b172 b173 : Value)
    (hnx : ∀ ty, (Instr.next (.pointer (some ⟨w.heap.size + 3, 0, none⟩)) true ty).run Oabg.prog wr = .ok (.tuple #[.bool true, .int .i64 k, .int .i32 r]) W1)
    (hA : ScanAt w s p neg en ds fr ex v W1) (hX : ScanIs s (Sd.wrong k r)) (hS : (⟨6, neg, en, ds, fr, ex, wd, at_⟩ : Sc).step r = none) (hrl : r ≤ 2147483647)
    (hws : (wordB wd).size ≤ 8) (hwl : bAt (wordB wd) at_ < 128) (hal : at_ ≤ 8)
    (hq : SRet s w Q) :
    Code.wp Oabg.prog ((Oabg.f18.body.bind firstLoop).getD .skip) Q ⟨#[.string s, b1, .pointer (some ⟨w.heap.size, 0, none⟩), b3, .pointer (some ⟨w.heap.size + 1 + 1, 0, none⟩), .int .i64 6, .string (wordB wd), .int .i64 at_, u8, u9, b10, b11, b12, b13, b14, b15, b16, .pointer (some ⟨w.heap.size + 1 + 1 + 1, 0, none⟩), u18, u19, u20, u21, u22, u23, u24, u25, u26, u27, u28, u29, u30, u31, u32, u33, u34, u35, u36, u37, u38, u39, u40, u41, u42, u43, u44, u45, u46, u47, u48, u49, u50, u51, u52, u53, u54, u55, u56, u57, u58, u59, u60, u61, u62, u63, u64, u65, u66, u67, u68, u69, u70, u71, u72, u73, u74, u75, u76, u77, u78, u79, u80, u81, u82, u83, u84, u85, u86, u87, u88, u89, u90, u91, u92, u93, u94, u95, u96, u97, u98, u99, u100, u101, u102, u103, u104, u105, u106, u107, u108, u109, u110, u111, u112, u113, u114, u115, u116, u117, u118, u119, u120, u121, u122, u123, u124, u125, u126, u127, u128, u129, u130, u131, u132, u133, u134, u135, u136, u137, u138, u139, u140, u141, u142, u143, u144, u145, u146, u147, u148, u149, u150, u151, u152, u153, u154, u155, u156, u157, u158, u159, u160, u161, u162, u163, u164, u165, u166, b167, b168, b169, b170, b171, b172, b173], []⟩ wr := by
  obtain ⟨c0, c1, c2, c3, c4, c5, cf⟩ := hA.rcells
  have HA : Hid (ScanAt w s p neg en ds fr ex v W1) := hA
  have HX : Hid (ScanIs s (Sd.wrong k r)) := hX
  have HQ : Hid (SRet s w Q) := hq
  have HS : Hid ((⟨6, neg, en, ds, fr, ex, wd, at_⟩ : Sc).step r = none) := hS
  have hnd : ¬ (48 ≤ r ∧ r ≤ 57) := fun hd => Sc.none_of hS (Sc.step_ex hd (by simp))
  have hsp : r < 48 ∨ 57 < r := by omega
  clear hnd
  have hn43 : ((r : Int) == 43) = false := by rw [beq_eq_false_iff_ne]; intro h; exact Sc.none_of hS (Sc.step_es (by omega) (by simp))
  have hn45 : ((r : Int) == 45) = false := by rw [beq_eq_false_iff_ne]; intro h; exact Sc.none_of hS (Sc.step_es (by omega) (by simp))
  clear hA hX hq hS
  conv => arg 2; whnf
  go_wp2
  all_goals (refine HQ.out _ _ ?_; exact bodyPost_ret (v := scV (Sd.wrong k r)) (by simp [results, Oabg.results18, go_sem, c0, c1, c2, c3, c4, c5]; rfl) rfl ⟨_, rfl, HX.out, wrong_below HA.out⟩)

set_option maxHeartbeats 2000000 in
set_option maxRecDepth 100000 in
theorem wrong_7 (s : ByteArray) (w wr W1 : World) (k p r : Nat) (neg en : Bool) (ds : List Int) (fr ex wd at_ : Nat) (v : Value) (Q : Exit → Act → World → Prop) (u8 u9 u18 u19 u20 u21 u22 u23 u24 u25 u26 u27 u28 u29 u30 u31 u32 u33 u34 u35 u36 u37 u38 u39 u40 u41 u42 u43 u44 u45 u46 u47 u48 u49 u50 u51 u52 u53 u54 u55 u56 u57 u58 u59 u60 u61 u62 u63 u64 u65 u66 u67 u68 u69 u70 u71 u72 u73 u74 u75 u76 u77 u78 u79 u80 u81 u82 u83 u84 u85 u86 u87 u88 u89 u90 u91 u92 u93 u94 u95 u96 u97 u98 u99 u100 u101 u102 u103 u104 u105 u106 u107 u108 u109 u110 u111 u112 u113 u114 u115 u116 u117 u118 u119 u120 u121 u122 u123 u124 u125 u126 u127 u128 u129 u130 u131 u132 u133 u134 u135 u136 u137 u138 u139 u140 u141 u142 u143 u144 u145 u146 u147 u148 u149 u150 u151 u152 u153 u154 u155 u156 u157 u158 u159 u160 u161 u162 u163 u164 u165 u166 b1 b3 b10 b11 b12 b13 b14 b15 b16 b167 b168 b169 b170 b171 b172 b173 : Value)
    (hnx : ∀ ty, (Instr.next (.pointer (some ⟨w.heap.size + 3, 0, none⟩)) true ty).run Oabg.prog wr = .ok (.tuple #[.bool true, .int .i64 k, .int .i32 r]) W1)
    (hA : ScanAt w s p neg en ds fr ex v W1) (hX : ScanIs s (Sd.wrong k r)) (hS : (⟨7, neg, en, ds, fr, ex, wd, at_⟩ : Sc).step r = none) (hrl : r ≤ 2147483647)
    (hws : (wordB wd).size ≤ 8) (hwl : bAt (wordB wd) at_ < 128) (hal : at_ ≤ 8)
    (hq : SRet s w Q) :
    Code.wp Oabg.prog ((Oabg.f18.body.bind firstLoop).getD .skip) Q ⟨#[.string s, b1, .pointer (some ⟨w.heap.size, 0, none⟩), b3, .pointer (some ⟨w.heap.size + 1 + 1, 0, none⟩), .int .i64 7, .string (wordB wd), .int .i64 at_, u8, u9, b10, b11, b12, b13, b14, b15, b16, .pointer (some ⟨w.heap.size + 1 + 1 + 1, 0, none⟩), u18, u19, u20, u21, u22, u23, u24, u25, u26, u27, u28, u29, u30, u31, u32, u33, u34, u35, u36, u37, u38, u39, u40, u41, u42, u43, u44, u45, u46, u47, u48, u49, u50, u51, u52, u53, u54, u55, u56, u57, u58, u59, u60, u61, u62, u63, u64, u65, u66, u67, u68, u69, u70, u71, u72, u73, u74, u75, u76, u77, u78, u79, u80, u81, u82, u83, u84, u85, u86, u87, u88, u89, u90, u91, u92, u93, u94, u95, u96, u97, u98, u99, u100, u101, u102, u103, u104, u105, u106, u107, u108, u109, u110, u111, u112, u113, u114, u115, u116, u117, u118, u119, u120, u121, u122, u123, u124, u125, u126, u127, u128, u129, u130, u131, u132, u133, u134, u135, u136, u137, u138, u139, u140, u141, u142, u143, u144, u145, u146, u147, u148, u149, u150, u151, u152, u153, u154, u155, u156, u157, u158, u159, u160, u161, u162, u163, u164, u165, u166, b167, b168, b169, b170, b171, b172, b173], []⟩ wr := by
  obtain ⟨c0, c1, c2, c3, c4, c5, cf⟩ := hA.rcells
  have HA : Hid (ScanAt w s p neg en ds fr ex v W1) := hA
  have HX : Hid (ScanIs s (Sd.wrong k r)) := hX
  have HQ : Hid (SRet s w Q) := hq
  have HS : Hid ((⟨7, neg, en, ds, fr, ex, wd, at_⟩ : Sc).step r = none) := hS
  have hnd : ¬ (48 ≤ r ∧ r ≤ 57) := fun hd => Sc.none_of hS (Sc.step_ex hd (by simp))
  have hsp : r < 48 ∨ 57 < r := by omega
  clear hnd
  clear hA hX hq hS
  conv => arg 2; whnf
  go_wp2
  all_goals (refine HQ.out _ _ ?_; exact bodyPost_ret (v := scV (Sd.wrong k r)) (by simp [results, Oabg.results18, go_sem, c0, c1, c2, c3, c4, c5]; rfl) rfl ⟨_, rfl, HX.out, wrong_below HA.out⟩)

set_option maxHeartbeats 2000000 in
set_option maxRecDepth 100000 in
theorem wrong_8 (s : ByteArray) (w wr W1 : World) (k p r : Nat) (neg en : Bool) (ds : List Int) (fr ex wd at_ : Nat) (v : Value) (Q : Exit → Act → World → Prop) (u8 u9 u18 u19 u20 u21 u22 u23 u24 u25 u26 u27 u28 u29 u30 u31 u32 u33 u34 u35 u36 u37 u38 u39 u40 u41 u42 u43 u44 u45 u46 u47 u48 u49 u50 u51 u52 u53 u54 u55 u56 u57 u58 u59 u60 u61 u62 u63 u64 u65 u66 u67 u68 u69 u70 u71 u72 u73 u74 u75 u76 u77 u78 u79 u80 u81 u82 u83 u84 u85 u86 u87 u88 u89 u90 u91 u92 u93 u94 u95 u96 u97 u98 u99 u100 u101 u102 u103 u104 u105 u106 u107 u108 u109 u110 u111 u112 u113 u114 u115 u116 u117 u118 u119 u120 u121 u122 u123 u124 u125 u126 u127 u128 u129 u130 u131 u132 u133 u134 u135 u136 u137 u138 u139 u140 u141 u142 u143 u144 u145 u146 u147 u148 u149 u150 u151 u152 u153 u154 u155 u156 u157 u158 u159 u160 u161 u162 u163 u164 u165 u166 b1 b3 b10 b11 b12 b13 b14 b15 b16 b167 b168 b169 b170 b171 b172 b173 : Value)
    (hnx : ∀ ty, (Instr.next (.pointer (some ⟨w.heap.size + 3, 0, none⟩)) true ty).run Oabg.prog wr = .ok (.tuple #[.bool true, .int .i64 k, .int .i32 r]) W1)
    (hA : ScanAt w s p neg en ds fr ex v W1) (hX : ScanIs s (Sd.wrong k r)) (hS : (⟨8, neg, en, ds, fr, ex, wd, at_⟩ : Sc).step r = none) (hrl : r ≤ 2147483647)
    (hws : (wordB wd).size ≤ 8) (hwl : bAt (wordB wd) at_ < 128) (hal : at_ ≤ 8)
    (hq : SRet s w Q) :
    Code.wp Oabg.prog ((Oabg.f18.body.bind firstLoop).getD .skip) Q ⟨#[.string s, b1, .pointer (some ⟨w.heap.size, 0, none⟩), b3, .pointer (some ⟨w.heap.size + 1 + 1, 0, none⟩), .int .i64 8, .string (wordB wd), .int .i64 at_, u8, u9, b10, b11, b12, b13, b14, b15, b16, .pointer (some ⟨w.heap.size + 1 + 1 + 1, 0, none⟩), u18, u19, u20, u21, u22, u23, u24, u25, u26, u27, u28, u29, u30, u31, u32, u33, u34, u35, u36, u37, u38, u39, u40, u41, u42, u43, u44, u45, u46, u47, u48, u49, u50, u51, u52, u53, u54, u55, u56, u57, u58, u59, u60, u61, u62, u63, u64, u65, u66, u67, u68, u69, u70, u71, u72, u73, u74, u75, u76, u77, u78, u79, u80, u81, u82, u83, u84, u85, u86, u87, u88, u89, u90, u91, u92, u93, u94, u95, u96, u97, u98, u99, u100, u101, u102, u103, u104, u105, u106, u107, u108, u109, u110, u111, u112, u113, u114, u115, u116, u117, u118, u119, u120, u121, u122, u123, u124, u125, u126, u127, u128, u129, u130, u131, u132, u133, u134, u135, u136, u137, u138, u139, u140, u141, u142, u143, u144, u145, u146, u147, u148, u149, u150, u151, u152, u153, u154, u155, u156, u157, u158, u159, u160, u161, u162, u163, u164, u165, u166, b167, b168, b169, b170, b171, b172, b173], []⟩ wr := by
  obtain ⟨c0, c1, c2, c3, c4, c5, cf⟩ := hA.rcells
  have HA : Hid (ScanAt w s p neg en ds fr ex v W1) := hA
  have HX : Hid (ScanIs s (Sd.wrong k r)) := hX
  have HQ : Hid (SRet s w Q) := hq
  have HS : Hid ((⟨8, neg, en, ds, fr, ex, wd, at_⟩ : Sc).step r = none) := hS
  have hnd : ¬ (48 ≤ r ∧ r ≤ 57) := fun hd => Sc.none_of hS (Sc.step_ex hd (by simp))
  have hsp : r < 48 ∨ 57 < r := by omega
  clear hnd
  clear hA hX hq hS
  conv => arg 2; whnf
  go_wp2
  all_goals (refine HQ.out _ _ ?_; exact bodyPost_ret (v := scV (Sd.wrong k r)) (by simp [results, Oabg.results18, go_sem, c0, c1, c2, c3, c4, c5]; rfl) rfl ⟨_, rfl, HX.out, wrong_below HA.out⟩)

set_option maxHeartbeats 2000000 in
set_option maxRecDepth 100000 in
theorem wrong_9d (s : ByteArray) (w wr W1 : World) (k p r : Nat) (neg en : Bool) (ds : List Int) (fr ex wd at_ : Nat) (v : Value) (Q : Exit → Act → World → Prop) (u8 u9 u18 u19 u20 u21 u22 u23 u24 u25 u26 u27 u28 u29 u30 u31 u32 u33 u34 u35 u36 u37 u38 u39 u40 u41 u42 u43 u44 u45 u46 u47 u48 u49 u50 u51 u52 u53 u54 u55 u56 u57 u58 u59 u60 u61 u62 u63 u64 u65 u66 u67 u68 u69 u70 u71 u72 u73 u74 u75 u76 u77 u78 u79 u80 u81 u82 u83 u84 u85 u86 u87 u88 u89 u90 u91 u92 u93 u94 u95 u96 u97 u98 u99 u100 u101 u102 u103 u104 u105 u106 u107 u108 u109 u110 u111 u112 u113 u114 u115 u116 u117 u118 u119 u120 u121 u122 u123 u124 u125 u126 u127 u128 u129 u130 u131 u132 u133 u134 u135 u136 u137 u138 u139 u140 u141 u142 u143 u144 u145 u146 u147 u148 u149 u150 u151 u152 u153 u154 u155 u156 u157 u158 u159 u160 u161 u162 u163 u164 u165 u166 b1 b3 b10 b11 b12 b13 b14 b15 b16 b167 b168 b169 b170 b171 b172 b173 : Value)
    (hnx : ∀ ty, (Instr.next (.pointer (some ⟨w.heap.size + 3, 0, none⟩)) true ty).run Oabg.prog wr = .ok (.tuple #[.bool true, .int .i64 k, .int .i32 r]) W1)
    (hA : ScanAt w s p neg en ds fr ex v W1) (hX : ScanIs s (Sd.wrong k r)) (hS : (⟨9, neg, en, ds, fr, ex, wd, at_⟩ : Sc).step r = none) (hrl : r ≤ 2147483647)
    (hws : (wordB wd).size ≤ 8) (hwl : bAt (wordB wd) at_ < 128) (hal : at_ ≤ 8) (hd1 : 48 ≤ r) (hd2 : r ≤ 57)
    (hq : SRet s w Q) :
    Code.wp Oabg.prog ((Oabg.f18.body.bind firstLoop).getD .skip) Q ⟨#[.string s, b1, .pointer (some ⟨w.heap.size, 0, none⟩), b3, .pointer (some ⟨w.heap.size + 1 + 1, 0, none⟩), .int .i64 9, .string (wordB wd), .int .i64 at_, u8, u9, b10, b11, b12, b13, b14, b15, b16, .pointer (some ⟨w.heap.size + 1 + 1 + 1, 0, none⟩), u18, u19, u20, u21, u22, u23, u24, u25, u26, u27, u28, u29, u30, u31, u32, u33, u34, u35, u36, u37, u38, u39, u40, u41, u42, u43, u44, u45, u46, u47, u48, u49, u50, u51, u52, u53, u54, u55, u56, u57, u58, u59, u60, u61, u62, u63, u64, u65, u66, u67, u68, u69, u70, u71, u72, u73, u74, u75, u76, u77, u78, u79, u80, u81, u82, u83, u84, u85, u86, u87, u88, u89, u90, u91, u92, u93, u94, u95, u96, u97, u98, u99, u100, u101, u102, u103, u104, u105, u106, u107, u108, u109, u110, u111, u112, u113, u114, u115, u116, u117, u118, u119, u120, u121, u122, u123, u124, u125, u126, u127, u128, u129, u130, u131, u132, u133, u134, u135, u136, u137, u138, u139, u140, u141, u142, u143, u144, u145, u146, u147, u148, u149, u150, u151, u152, u153, u154, u155, u156, u157, u158, u159, u160, u161, u162, u163, u164, u165, u166, b167, b168, b169, b170, b171, b172, b173], []⟩ wr := by
  obtain ⟨c0, c1, c2, c3, c4, c5, cf⟩ := hA.rcells
  have HA : Hid (ScanAt w s p neg en ds fr ex v W1) := hA
  have HX : Hid (ScanIs s (Sd.wrong k r)) := hX
  have HQ : Hid (SRet s w Q) := hq
  have HS : Hid ((⟨9, neg, en, ds, fr, ex, wd, at_⟩ : Sc).step r = none) := hS
  clear hA hX hq hS
  conv => arg 2; whnf
  go_wp2
  all_goals (refine HQ.out _ _ ?_; exact bodyPost_ret (v := scV (Sd.wrong k r)) (by simp [results, Oabg.results18, go_sem, c0, c1, c2, c3, c4, c5]; rfl) rfl ⟨_, rfl, HX.out, wrong_below HA.out⟩)

set_option maxHeartbeats 2000000 in
set_option maxRecDepth 100000 in
theorem wrong_9w (s : ByteArray) (w wr W1 : World) (k p r : Nat) (neg en : Bool) (ds : List Int) (fr ex wd at_ : Nat) (v : Value) (Q : Exit → Act → World → Prop) (u8 u9 u18 u19 u20 u21 u22 u23 u24 u25 u26 u27 u28 u29 u30 u31 u32 u33 u34 u35 u36 u37 u38 u39 u40 u41 u42 u43 u44 u45 u46 u47 u48 u49 u50 u51 u52 u53 u54 u55 u56 u57 u58 u59 u60 u61 u62 u63 u64 u65 u66 u67 u68 u69 u70 u71 u72 u73 u74 u75 u76 u77 u78 u79 u80 u81 u82 u83 u84 u85 u86 u87 u88 u89 u90 u91 u92 u93 u94 u95 u96 u97 u98 u99 u100 u101 u102 u103 u104 u105 u106 u107 u108 u109 u110 u111 u112 u113 u114 u115 u116 u117 u118 u119 u120 u121 u122 u123 u124 u125 u126 u127 u128 u129 u130 u131 u132 u133 u134 u135 u136 u137 u138 u139 u140 u141 u142 u143 u144 u145 u146 u147 u148 u149 u150 u151 u152 u153 u154 u155 u156 u157 u158 u159 u160 u161 u162 u163 u164 u165 u166 b1 b3 b10 b11 b12 b13 b14 b15 b16 b167 b168 b169 b170 b171 b172 b173 : Value)
    (hnx : ∀ ty, (Instr.next (.pointer (some ⟨w.heap.size + 3, 0, none⟩)) true ty).run Oabg.prog wr = .ok (.tuple #[.bool true, .int .i64 k, .int .i32 r]) W1)
    (hA : ScanAt w s p neg en ds fr ex v W1) (hX : ScanIs s (Sd.wrong k r)) (hS : (⟨9, neg, en, ds, fr, ex, wd, at_⟩ : Sc).step r = none) (hrl : r ≤ 2147483647)
    (hws : (wordB wd).size ≤ 8) (hwl : bAt (wordB wd) at_ < 128) (hal : at_ ≤ 8) (hd : ¬ (48 ≤ r ∧ r ≤ 57)) (hw : at_ < (wordB wd).size)
    (hq : SRet s w Q) :
    Code.wp Oabg.prog ((Oabg.f18.body.bind firstLoop).getD .skip) Q ⟨#[.string s, b1, .pointer (some ⟨w.heap.size, 0, none⟩), b3, .pointer (some ⟨w.heap.size + 1 + 1, 0, none⟩), .int .i64 9, .string (wordB wd), .int .i64 at_, u8, u9, b10, b11, b12, b13, b14, b15, b16, .pointer (some ⟨w.heap.size + 1 + 1 + 1, 0, none⟩), u18, u19, u20, u21, u22, u23, u24, u25, u26, u27, u28, u29, u30, u31, u32, u33, u34, u35, u36, u37, u38, u39, u40, u41, u42, u43, u44, u45, u46, u47, u48, u49, u50, u51, u52, u53, u54, u55, u56, u57, u58, u59, u60, u61, u62, u63, u64, u65, u66, u67, u68, u69, u70, u71, u72, u73, u74, u75, u76, u77, u78, u79, u80, u81, u82, u83, u84, u85, u86, u87, u88, u89, u90, u91, u92, u93, u94, u95, u96, u97, u98, u99, u100, u101, u102, u103, u104, u105, u106, u107, u108, u109, u110, u111, u112, u113, u114, u115, u116, u117, u118, u119, u120, u121, u122, u123, u124, u125, u126, u127, u128, u129, u130, u131, u132, u133, u134, u135, u136, u137, u138, u139, u140, u141, u142, u143, u144, u145, u146, u147, u148, u149, u150, u151, u152, u153, u154, u155, u156, u157, u158, u159, u160, u161, u162, u163, u164, u165, u166, b167, b168, b169, b170, b171, b172, b173], []⟩ wr := by
  obtain ⟨c0, c1, c2, c3, c4, c5, cf⟩ := hA.rcells
  have HA : Hid (ScanAt w s p neg en ds fr ex v W1) := hA
  have HX : Hid (ScanIs s (Sd.wrong k r)) := hX
  have HQ : Hid (SRet s w Q) := hq
  have HS : Hid ((⟨9, neg, en, ds, fr, ex, wd, at_⟩ : Sc).step r = none) := hS
  have hsp : r < 48 ∨ 57 < r := by omega
  have hge := word_ge wd at_ hw
  have hb : (bits BinOp.or IntKind.i32 (r : Int) 32 == (bAt (wordB wd) at_ : Int)) = false := bits_no hrl hge hwl (fun h => Sc.none_of hS (Sc.step_w hd ⟨hw, h⟩ rfl))
  have hix := bAt_eq (wordB wd) at_ hw
  clear hd
  clear hA hX hq hS
  conv => arg 2; whnf
  go_wp2
  all_goals (refine HQ.out _ _ ?_; exact bodyPost_ret (v := scV (Sd.wrong k r)) (by simp [results, Oabg.results18, go_sem, c0, c1, c2, c3, c4, c5]; rfl) rfl ⟨_, rfl, HX.out, wrong_below HA.out⟩)

set_option maxHeartbeats 2000000 in
set_option maxRecDepth 100000 in
theorem wrong_9e (s : ByteArray) (w wr W1 : World) (k p r : Nat) (neg en : Bool) (ds : List Int) (fr ex wd at_ : Nat) (v : Value) (Q : Exit → Act → World → Prop) (u8 u9 u18 u19 u20 u21 u22 u23 u24 u25 u26 u27 u28 u29 u30 u31 u32 u33 u34 u35 u36 u37 u38 u39 u40 u41 u42 u43 u44 u45 u46 u47 u48 u49 u50 u51 u52 u53 u54 u55 u56 u57 u58 u59 u60 u61 u62 u63 u64 u65 u66 u67 u68 u69 u70 u71 u72 u73 u74 u75 u76 u77 u78 u79 u80 u81 u82 u83 u84 u85 u86 u87 u88 u89 u90 u91 u92 u93 u94 u95 u96 u97 u98 u99 u100 u101 u102 u103 u104 u105 u106 u107 u108 u109 u110 u111 u112 u113 u114 u115 u116 u117 u118 u119 u120 u121 u122 u123 u124 u125 u126 u127 u128 u129 u130 u131 u132 u133 u134 u135 u136 u137 u138 u139 u140 u141 u142 u143 u144 u145 u146 u147 u148 u149 u150 u151 u152 u153 u154 u155 u156 u157 u158 u159 u160 u161 u162 u163 u164 u165 u166 b1 b3 b10 b11 b12 b13 b14 b15 b16 b167 b168 b169 b170 b171 b172 b173 : Value)
    (hnx : ∀ ty, (Instr.next (.pointer (some ⟨w.heap.size + 3, 0, none⟩)) true ty).run Oabg.prog wr = .ok (.tuple #[.bool true, .int .i64 k, .int .i32 r]) W1)
    (hA : ScanAt w s p neg en ds fr ex v W1) (hX : ScanIs s (Sd.wrong k r)) (hS : (⟨9, neg, en, ds, fr, ex, wd, at_⟩ : Sc).step r = none) (hrl : r ≤ 2147483647)
    (hws : (wordB wd).size ≤ 8) (hwl : bAt (wordB wd) at_ < 128) (hal : at_ ≤ 8) (hd : ¬ (48 ≤ r ∧ r ≤ 57)) (hw : ¬ at_ < (wordB wd).size)
    (hq : SRet s w Q) :
    Code.wp Oabg.prog ((Oabg.f18.body.bind firstLoop).getD .skip) Q ⟨#[.string s, b1, .pointer (some ⟨w.heap.size, 0, none⟩), b3, .pointer (some ⟨w.heap.size + 1 + 1, 0, none⟩), .int .i64 9, .string (wordB wd), .int .i64 at_, u8, u9, b10, b11, b12, b13, b14, b15, b16, .pointer (some ⟨w.heap.size + 1 + 1 + 1, 0, none⟩), u18, u19, u20, u21, u22, u23, u24, u25, u26, u27, u28, u29, u30, u31, u32, u33, u34, u35, u36, u37, u38, u39, u40, u41, u42, u43, u44, u45, u46, u47, u48, u49, u50, u51, u52, u53, u54, u55, u56, u57, u58, u59, u60, u61, u62, u63, u64, u65, u66, u67, u68, u69, u70, u71, u72, u73, u74, u75, u76, u77, u78, u79, u80, u81, u82, u83, u84, u85, u86, u87, u88, u89, u90, u91, u92, u93, u94, u95, u96, u97, u98, u99, u100, u101, u102, u103, u104, u105, u106, u107, u108, u109, u110, u111, u112, u113, u114, u115, u116, u117, u118, u119, u120, u121, u122, u123, u124, u125, u126, u127, u128, u129, u130, u131, u132, u133, u134, u135, u136, u137, u138, u139, u140, u141, u142, u143, u144, u145, u146, u147, u148, u149, u150, u151, u152, u153, u154, u155, u156, u157, u158, u159, u160, u161, u162, u163, u164, u165, u166, b167, b168, b169, b170, b171, b172, b173], []⟩ wr := by
  obtain ⟨c0, c1, c2, c3, c4, c5, cf⟩ := hA.rcells
  have HA : Hid (ScanAt w s p neg en ds fr ex v W1) := hA
  have HX : Hid (ScanIs s (Sd.wrong k r)) := hX
  have HQ : Hid (SRet s w Q) := hq
  have HS : Hid ((⟨9, neg, en, ds, fr, ex, wd, at_⟩ : Sc).step r = none) := hS
  have hsp : r < 48 ∨ 57 < r := by omega
  clear hd
  clear hA hX hq hS
  conv => arg 2; whnf
  go_wp2
  all_goals (refine HQ.out _ _ ?_; exact bodyPost_ret (v := scV (Sd.wrong k r)) (by simp [results, Oabg.results18, go_sem, c0, c1, c2, c3, c4, c5]; rfl) rfl ⟨_, rfl, HX.out, wrong_below HA.out⟩)

end Go.Proofs.Ygcoab
