/- WireMemory: the second half of the walk, from the first list of rows on. (tools/memgen.py prints it.) -/
import Derived.Test.YtbcmjjcbjojakaaPk15
import Derived.Test.YtbcmjjcbjojakaaPk11
import Derived.Test.YtbcmjjcbjojakaaPk14
import Derived.Test.YtbcmjjcbjojakaaApartT
import Derived.Deep.Cut
import Derived.Deep.CutRange
namespace Go.Proofs.Ytbcmjjcbjojakaa
open Go.RowKit
set_option linter.unusedVariables false
set_option linter.unusedSimpArgs false
/-- What follows the first statements of a function's code. -/
def snO : Option Code → Option Code
 | some (.seq _ y) => some y
 | _ => none
def snN : Nat → Option Code → Option Code
 | 0, o => o
 | n + 1, o => snN n (snO o)
set_option maxRecDepth 20000 in
set_option maxHeartbeats 64000000 in
theorem memory_tail {AR AB AK AG A5 Af1 Af2 At1 At2 Au1 A3r Af3 Ba Bb Bc Va Vb Vc Wa Wb Wc Ya Yb Yc Za Zb Zc Iqa Jqa Jqb Jqc Kqa Kqb Kqc : Option Addr} {cR dB dK dG d5 cf1 cf2 ct1 ct2 cu1 c3r cf3 ea eb ec va vb vc xa xb xc ya yb yc za zb zc Iqd Jqd Jqe Jqf Kqd Kqe Kqf b2 b3 g5 ga gt g20 g22 g24 g26 g28 g29 g30 : Nat} {w w17 w48 : World} {P P3 : Rq} {Q G : An} {F1 T1 U1 F3 XA XT : List Nat} {v0 v1 u4 u7 u9 u11 u13 u15 u17 u21 u23 u25 u27 u31 u32 u33 u34 u35 u36 u37 u38 u39 u40 u41 u42 u43 u44 u45 u46 u47 u48 u49 u50 u51 u52 u53 u54 u55 u56 u57 u58 u59 u60 u61 u62 u63 u64 u65 u66 u67 u68 u69 u70 u71 u72 u73 u74 u75 u76 u77 u78 u79 u80 u81 u82 u83 u84 u85 u86 u87 u88 u89 u90 u91 u92 u93 u94 u95 u96 u97 u98 u99 u100 u101 u102 u103 u104 u105 u106 u107 u108 u109 u110 u111 u112 u113 u114 u115 u116 u117 u118 u119 u120 u121 u122 u123 u124 u125 u126 u127 u128 u129 u130 u131 u132 u133 u134 u135 u136 u137 u138 u139 u140 u141 u142 u143 u144 u145 u146 u147 u148 u149 u150 u151 u152 u153 u154 u155 u156 u157 u158 u159 u160 u161 u162 u163 u164 u165 u166 u167 u168 u169 u170 u171 u172 u173 u174 u175 u176 u177 u178 u179 u180 u181 u182 u183 u184 u185 u186 u187 u188 u189 u190 u191 u192 u193 u194 u195 u196 u197 u198 u199 u200 u201 u202 u203 u204 u205 u206 u207 u208 u209 u210 u211 u212 u213 u214 u215 u216 u217 u218 u219 u220 u221 u222 u223 u224 u225 u226 u227 u228 u229 u230 u231 u232 u233 u234 u235 u236 u237 u238 u239 u240 u241 u242 u243 u244 u245 u246 u247 u248 u249 u250 u251 u252 u253 u254 u255 u256 u257 u258 u259 u260 u261 u262 u263 u264 u265 u266 u267 u268 u269 u270 u271 u272 u273 u274 u275 u276 u277 u278 u279 u280 u281 u282 u283 u284 u285 u286 u287 u288 u289 u290 u291 u292 : Value} (HP : Hd (PRq P F1)) (HQ : Hd (PAn Q T1)) (HGB : Hd (PAn G U1 ∧ G.body = P.body ∧ G.keys = [] ∧ G.groups = [] ∧ b3 < g5 ∧ P.body.length ≤ d5)) (H3r : Hd (PRq P3 F3 ∧ Rd w17 w17.heap.size A3r P3.body.length (cb P3.body) ∧ P3.body.length ≤ c3r)) (HLR : Hd (P.body.length ≤ cR)) (HLA : Hd (Q.body.length ≤ dB)) (HLW : Hd (P.body.length ≤ Iqd)) (HB : Hd (b2 < b3 ∧ w.heap.size = b2))
  (H48 : Hd (Mr w w48 ((5, .slice AR P.body.length cR, cb P.body) :: (5, .slice AB Q.body.length dB, cb Q.body) :: (9, .slice AK Q.keys.length dK, cs Q.keys) :: (9, .slice AG Q.groups.length dG, cs Q.groups) :: (5, .slice A5 P.body.length d5, cb P.body) :: (5, .slice Af1 F1.length cf1, cb F1) :: (5, .slice Af2 F1.length cf2, cb F1) :: (5, .slice At1 T1.length ct1, cb T1) :: (5, .slice At2 T1.length ct2, cb T1) :: (5, .slice Au1 U1.length cu1, cb U1) :: (5, .slice Af3 F3.length cf3, cb F3) :: (5, .slice Ba P.body.length ea, cb P.body) :: (5, .slice Bb P.body.length eb, cb P.body) :: (5, .slice Bc P.body.length ec, cb P.body) :: (5, .slice Va Q.body.length va, cb Q.body) :: (9, .slice Vb Q.keys.length vb, cs Q.keys) :: (9, .slice Vc Q.groups.length vc, cs Q.groups) :: (5, .slice Wa G.body.length xa, cb G.body) :: (9, .slice Wb 0 xb, cs G.keys) :: (9, .slice Wc 0 xc, cs G.groups) :: (5, .slice Ya Q.body.length ya, cb Q.body) :: (9, .slice Yb Q.keys.length yb, cs Q.keys) :: (9, .slice Yc Q.groups.length yc, cs Q.groups) :: (5, .slice Za G.body.length za, cb G.body) :: (9, .slice Zb 0 zb, cs G.keys) :: (9, .slice Zc 0 zc, cs G.groups) :: (5, .slice Iqa P.body.length Iqd, cb P.body) :: (5, .slice Jqa Q.body.length Jqd, cb Q.body) :: (9, .slice Jqb Q.keys.length Jqe, cs Q.keys) :: (9, .slice Jqc Q.groups.length Jqf, cs Q.groups) :: (5, .slice Kqa G.body.length Kqd, cb G.body) :: (9, .slice Kqb 0 Kqe, cs G.keys) :: (9, .slice Kqc 0 Kqf, cs G.groups) :: [] : List Row) ([] ++ [b2] ++ [b3] ++ [g5] ++ XA ++ XT ++ [g20] ++ [g22] ++ [g24] ++ [g26] ++ [g28] ++ [g29] ++ [g30]) ([(b2, #[.int .i64 P.kind, .int .u64 (P.tag : Int), .string P.key, .string P.after, .int .i64 P.off, .int .i64 P.num, .int .i64 P.delim, .slice AR P.body.length cR], 28), (b3, #[.int .i64 Q.kind, .int .u64 (Q.tag : Int), .int .i64 Q.code, .slice AB Q.body.length dB, .slice AK Q.keys.length dK, .slice AG Q.groups.length dG, .string Q.next, .bool Q.more, .int .i64 Q.ge, .int .i64 Q.gc, .int .i64 Q.size, .int .i64 Q.h1, .int .i64 Q.h2, .int .i64 Q.h3, .int .i64 Q.h4], 43)] ++ [(g5, #[.int .i64 G.kind, .int .u64 (G.tag : Int), .int .i64 G.code, .slice A5 P.body.length d5, .slice none 0 0, .slice none 0 0, .string G.next, .bool G.more, .int .i64 G.ge, .int .i64 G.gc, .int .i64 G.size, .int .i64 G.h1, .int .i64 G.h2, .int .i64 G.h3, .int .i64 G.h4], 43)] ++ [(g20, #[.int .i64 P.kind, .int .u64 (P.tag : Int), .string P.key, .string P.after, .int .i64 P.off, .int .i64 P.num, .int .i64 P.delim, .slice Ba P.body.length ea], 28)] ++ [(g22, #[.int .i64 P.kind, .int .u64 (P.tag : Int), .string P.key, .string P.after, .int .i64 P.off, .int .i64 P.num, .int .i64 P.delim, .slice Bb P.body.length eb], 28)] ++ [(g24, #[.int .i64 Q.kind, .int .u64 (Q.tag : Int), .int .i64 Q.code, .slice Va Q.body.length va, .slice Vb Q.keys.length vb, .slice Vc Q.groups.length vc, .string Q.next, .bool Q.more, .int .i64 Q.ge, .int .i64 Q.gc, .int .i64 Q.size, .int .i64 Q.h1, .int .i64 Q.h2, .int .i64 Q.h3, .int .i64 Q.h4], 43)] ++ [(g26, #[.int .i64 G.kind, .int .u64 (G.tag : Int), .int .i64 G.code, .slice Wa G.body.length xa, .slice Wb 0 xb, .slice Wc 0 xc, .string G.next, .bool G.more, .int .i64 G.ge, .int .i64 G.gc, .int .i64 G.size, .int .i64 G.h1, .int .i64 G.h2, .int .i64 G.h3, .int .i64 G.h4], 43)] ++ [(g28, #[.int .i64 P.kind, .int .u64 (P.tag : Int), .string P.key, .string P.after, .int .i64 P.off, .int .i64 P.num, .int .i64 P.delim, .slice Iqa P.body.length Iqd], 28)] ++ [(g29, #[.int .i64 Q.kind, .int .u64 (Q.tag : Int), .int .i64 Q.code, .slice Jqa Q.body.length Jqd, .slice Jqb Q.keys.length Jqe, .slice Jqc Q.groups.length Jqf, .string Q.next, .bool Q.more, .int .i64 Q.ge, .int .i64 Q.gc, .int .i64 Q.size, .int .i64 Q.h1, .int .i64 Q.h2, .int .i64 Q.h3, .int .i64 Q.h4], 43)] ++ [(g30, #[.int .i64 G.kind, .int .u64 (G.tag : Int), .int .i64 G.code, .slice Kqa G.body.length Kqd, .slice Kqb 0 Kqe, .slice Kqc 0 Kqf, .string G.next, .bool G.more, .int .i64 G.ge, .int .i64 G.gc, .int .i64 G.size, .int .i64 G.h1, .int .i64 G.h2, .int .i64 G.h3, .int .i64 G.h4], 43)]) ga gt XA XT [rqW P (.slice Bc P.body.length ec)] [P] [anW Q (.slice Ya Q.body.length ya) (.slice Yb Q.keys.length yb) (.slice Yc Q.groups.length yc), anW G (.slice Za G.body.length za) (.slice Zb 0 zb) (.slice Zc 0 zc)] [Q, G])) :
  let QQ : Exit → Act → World → Prop := bodyPost Try.prog Try.f9 fun e w' => e = .returned (.bool true) ∧ Below w.heap.size w w'
  ∀ (KB KA : Act → World → Prop) (c32 cA cB : Code), snN 27 Try.f9.body = some (.seq (.seq c32 cA) cB) →
   (∀ a w, Code.wp Try.prog cB QQ a w → KB a w) → (∀ a w, Code.wp Try.prog cA (Exit.then KB QQ) a w → KA a w) → Code.wp Try.prog c32 (Exit.then KA (Exit.then KB QQ)) ⟨#[v0, v1, .pointer (some ⟨b2, 0, none⟩), .pointer (some ⟨b3, 0, none⟩), u4, .pointer (some ⟨g5, 0, none⟩), .slice Af1 F1.length cf1, u7, .slice Af2 F1.length cf2, u9, .slice At1 T1.length ct1, u11, .slice At2 T1.length ct2, u13, .slice Au1 U1.length cu1, u15, .slice Af3 F3.length cf3, u17, .pointer (some ⟨ga, 0, none⟩), .pointer (some ⟨gt, 0, none⟩), .pointer (some ⟨g20, 0, none⟩), u21, .pointer (some ⟨g22, 0, none⟩), u23, .pointer (some ⟨g24, 0, none⟩), u25, .pointer (some ⟨g26, 0, none⟩), u27, .pointer (some ⟨g28, 0, none⟩), .pointer (some ⟨g29, 0, none⟩), .pointer (some ⟨g30, 0, none⟩), u31, u32, u33, u34, u35, u36, u37, u38, u39, u40, u41, u42, u43, u44, u45, u46, u47, u48, u49, u50, u51, u52, u53, u54, u55, u56, u57, u58, u59, u60, u61, u62, u63, u64, u65, u66, u67, u68, u69, u70, u71, u72, u73, u74, u75, u76, u77, u78, u79, u80, u81, u82, u83, u84, u85, u86, u87, u88, u89, u90, u91, u92, u93, u94, u95, u96, u97, u98, u99, u100, u101, u102, u103, u104, u105, u106, u107, u108, u109, u110, u111, u112, u113, u114, u115, u116, u117, u118, u119, u120, u121, u122, u123, u124, u125, u126, u127, u128, u129, u130, u131, u132, u133, u134, u135, u136, u137, u138, u139, u140, u141, u142, u143, u144, u145, u146, u147, u148, u149, u150, u151, u152, u153, u154, u155, u156, u157, u158, u159, u160, u161, u162, u163, u164, u165, u166, u167, u168, u169, u170, u171, u172, u173, u174, u175, u176, u177, u178, u179, u180, u181, u182, u183, u184, u185, u186, u187, u188, u189, u190, u191, u192, u193, u194, u195, u196, u197, u198, u199, u200, u201, u202, u203, u204, u205, u206, u207, u208, u209, u210, u211, u212, u213, u214, u215, u216, u217, u218, u219, u220, u221, u222, u223, u224, u225, u226, u227, u228, u229, u230, u231, u232, u233, u234, u235, u236, u237, u238, u239, u240, u241, u242, u243, u244, u245, u246, u247, u248, u249, u250, u251, u252, u253, u254, u255, u256, u257, u258, u259, u260, u261, u262, u263, u264, u265, u266, u267, u268, u269, u270, u271, u272, u273, u274, u275, u276, u277, u278, u279, u280, u281, u282, u283, u284, u285, u286, u287, u288, u289, u290, u291, u292], []⟩ w48 := by
 intro QQ KB KA c32 cA cB h32 hkB hkA
 have e0 : Code.seq (.seq _ _) _ = .seq (.seq c32 cA) cB := Option.some.inj ((rfl : snN 27 Try.f9.body = some (.seq (.seq _ _) _)).symm.trans h32)
 obtain ⟨e1, e3⟩ := Code.seq.inj e0
 obtain ⟨e1, e2⟩ := Code.seq.inj e1
 clear h32 e0
 subst e1 e2 e3
 have r1 : w48.cell? ⟨g20, 7, none⟩ = some (.slice Ba P.body.length ea) := H48.out.ms.at_ 3 rfl 7 rfl
 have r2 : w48.cell? ⟨g22, 7, none⟩ = some (.slice Bb P.body.length eb) := H48.out.ms.at_ 4 rfl 7 rfl
 have r3 : w48.cell? ⟨g26, 3, none⟩ = some (.slice Wa G.body.length xa) := H48.out.ms.at_ 6 rfl 3 rfl
 have r4 : w48.cell? ⟨b2, 7, none⟩ = some (.slice AR P.body.length cR) := H48.out.ms.at_ 0 rfl 7 rfl
 have r5 : w48.cell? ⟨g5, 3, none⟩ = some (.slice A5 P.body.length d5) := H48.out.ms.at_ 2 rfl 3 rfl
 try simp only [Act.put]
 go_wp2_with fail
 clear r1 r2 r3 r4 r5
 have k1 := HP.out.len
 have k2 := H3r.out.1.len
 have k3 := HQ.out.len
 have k4 := HGB.out.1.len
 have k5 := HP.out.fit.2.2
 have k6 := HGB.out.1.fit.1
 refine (H48.out.bytes2 (us := [.slice Af1 F1.length cf1, .slice Af2 F1.length cf2, .slice Af3 F3.length cf3, .slice At1 T1.length ct1, .slice At2 T1.length ct2, .slice Au1 U1.length cu1, .slice Ba P.body.length ea, .slice Bb P.body.length eb, .slice Wa G.body.length xa, .slice AR P.body.length cR, .slice A5 P.body.length d5]) (I := [5, 6, 10, 7, 8, 9, 11, 12, 17, 0, 4]) (RL2 := ((9, .slice AK Q.keys.length dK, cs Q.keys) :: (9, .slice AG Q.groups.length dG, cs Q.groups) :: (5, .slice Bc P.body.length ec, cb P.body) :: (9, .slice Vb Q.keys.length vb, cs Q.keys) :: (9, .slice Vc Q.groups.length vc, cs Q.groups) :: (5, .slice Ya Q.body.length ya, cb Q.body) :: (9, .slice Yb Q.keys.length yb, cs Q.keys) :: (9, .slice Yc Q.groups.length yc, cs Q.groups) :: (5, .slice Za G.body.length za, cb G.body) :: (9, .slice Zb 0 zb, cs G.keys) :: (9, .slice Zc 0 zc, cs G.groups) :: (5, .slice Iqa P.body.length Iqd, cb P.body) :: (5, .slice Jqa Q.body.length Jqd, cb Q.body) :: (9, .slice Jqb Q.keys.length Jqe, cs Q.keys) :: (9, .slice Jqc Q.groups.length Jqf, cs Q.groups) :: (5, .slice Kqa G.body.length Kqd, cb G.body) :: (9, .slice Kqb 0 Kqe, cs G.keys) :: (9, .slice Kqc 0 Kqf, cs G.groups) :: [] : List Row)) [2, 3, 13, 15, 16, 20, 21, 22, 23, 24, 25, 26, 27, 28, 29, 30, 31, 32] (by kernel_rfl) (by decide) (by kernel_rfl) (by kernel_rfl) (by simp) (by intro i hi x hx; simp only [List.mem_cons, List.not_mem_nil, or_false] at hi; rcases hi with rfl | rfl | rfl | rfl | rfl | rfl | rfl | rfl | rfl | rfl | rfl <;> (have e := Option.some.inj hx; rw [← e]; (first | (rw [cb_length]; omega) | (rw [cs_len]; omega)))) (by decide) (by decide) (by kernel_rfl) (fun W hW => (fun hW => (List.mem_cons.1 hW).elim (fun e => by rw [e]; exact (fun r hr => by rw [List.mem_singleton.1 hr]; exact List.mem_of_getElem? (i := 2) (by kernel_rfl))) (fun hW => absurd hW List.not_mem_nil)) hW) (fun W hW => (fun hW => (List.mem_cons.1 hW).elim (fun e => by rw [e]; exact (fun r hr => (List.mem_cons.1 hr).elim (fun e => by rw [e]; exact List.mem_of_getElem? (i := 5) (by kernel_rfl)) (fun hr => (List.mem_cons.1 hr).elim (fun e => by rw [e]; exact List.mem_of_getElem? (i := 6) (by kernel_rfl)) (fun hr => by rw [List.mem_singleton.1 hr]; exact List.mem_of_getElem? (i := 7) (by kernel_rfl))))) (fun hW => (List.mem_cons.1 hW).elim (fun e => by rw [e]; exact (fun r hr => (List.mem_cons.1 hr).elim (fun e => by rw [e]; exact List.mem_of_getElem? (i := 8) (by kernel_rfl)) (fun hr => (List.mem_cons.1 hr).elim (fun e => by rw [e]; exact List.mem_of_getElem? (i := 9) (by kernel_rfl)) (fun hr => by rw [List.mem_singleton.1 hr]; exact List.mem_of_getElem? (i := 10) (by kernel_rfl))))) (fun hW => absurd hW List.not_mem_nil))) hW)).mono ?_
 rintro e w49 ⟨rfl, hM⟩
 have H49 := Hd.mk hM
 clear hM H48 k1 k2 k3 k4 k5 k6
 as_aux_lemma =>
  have r1 : w49.cell? ⟨g24, 4, none⟩ = some (.slice Vb Q.keys.length vb) := H49.out.ms.at_ 5 rfl 4 rfl
  have r2 : w49.cell? ⟨g24, 5, none⟩ = some (.slice Vc Q.groups.length vc) := H49.out.ms.at_ 5 rfl 5 rfl
  have r3 : w49.cell? ⟨b3, 4, none⟩ = some (.slice AK Q.keys.length dK) := H49.out.ms.at_ 1 rfl 4 rfl
  have r4 : w49.cell? ⟨b3, 5, none⟩ = some (.slice AG Q.groups.length dG) := H49.out.ms.at_ 1 rfl 5 rfl
  go_wp2_with fail
  clear r1 r2 r3 r4
  have k1 := HQ.out.fit.2.1.1
  have k2 : Q.keys.length ≤ 65536 := by split at k1 <;> omega
  have k3 := HQ.out.fit.2.2.1.1
  clear k1
  refine (H49.out.texts2 (us := [.slice Vb Q.keys.length vb, .slice Vc Q.groups.length vc, .slice AK Q.keys.length dK, .slice AG Q.groups.length dG]) (I := [3, 4, 0, 1]) (RL2 := ((5, .slice Bc P.body.length ec, cb P.body) :: (5, .slice Ya Q.body.length ya, cb Q.body) :: (9, .slice Yb Q.keys.length yb, cs Q.keys) :: (9, .slice Yc Q.groups.length yc, cs Q.groups) :: (5, .slice Za G.body.length za, cb G.body) :: (9, .slice Zb 0 zb, cs G.keys) :: (9, .slice Zc 0 zc, cs G.groups) :: (5, .slice Iqa P.body.length Iqd, cb P.body) :: (5, .slice Jqa Q.body.length Jqd, cb Q.body) :: (9, .slice Jqb Q.keys.length Jqe, cs Q.keys) :: (9, .slice Jqc Q.groups.length Jqf, cs Q.groups) :: (5, .slice Kqa G.body.length Kqd, cb G.body) :: (9, .slice Kqb 0 Kqe, cs G.keys) :: (9, .slice Kqc 0 Kqf, cs G.groups) :: [] : List Row)) [2, 5, 6, 7, 8, 9, 10, 11, 12, 13, 14, 15, 16, 17] (by kernel_rfl) (by decide) (by kernel_rfl) (by kernel_rfl) (by simp) (by intro i hi x hx; simp only [List.mem_cons, List.not_mem_nil, or_false] at hi; rcases hi with rfl | rfl | rfl | rfl <;> (have e := Option.some.inj hx; rw [← e]; (first | (rw [cb_length]; omega) | (rw [cs_len]; omega)))) (by decide) (by decide) (by kernel_rfl) (fun W hW => (fun hW => (List.mem_cons.1 hW).elim (fun e => by rw [e]; exact (fun r hr => by rw [List.mem_singleton.1 hr]; exact List.mem_of_getElem? (i := 0) (by kernel_rfl))) (fun hW => absurd hW List.not_mem_nil)) hW) (fun W hW => (fun hW => (List.mem_cons.1 hW).elim (fun e => by rw [e]; exact (fun r hr => (List.mem_cons.1 hr).elim (fun e => by rw [e]; exact List.mem_of_getElem? (i := 1) (by kernel_rfl)) (fun hr => (List.mem_cons.1 hr).elim (fun e => by rw [e]; exact List.mem_of_getElem? (i := 2) (by kernel_rfl)) (fun hr => by rw [List.mem_singleton.1 hr]; exact List.mem_of_getElem? (i := 3) (by kernel_rfl))))) (fun hW => (List.mem_cons.1 hW).elim (fun e => by rw [e]; exact (fun r hr => (List.mem_cons.1 hr).elim (fun e => by rw [e]; exact List.mem_of_getElem? (i := 4) (by kernel_rfl)) (fun hr => (List.mem_cons.1 hr).elim (fun e => by rw [e]; exact List.mem_of_getElem? (i := 5) (by kernel_rfl)) (fun hr => by rw [List.mem_singleton.1 hr]; exact List.mem_of_getElem? (i := 6) (by kernel_rfl))))) (fun hW => absurd hW List.not_mem_nil))) hW)).mono ?_
  rintro e w50 ⟨rfl, hM⟩
  have H50 := Hd.mk hM
  clear hM H49 k2 k3
  go_upto_if 235 with fail
  go_cut [] from 43 (fun wx => wx = w50)
  case first =>
   go_wp2_with fail
   go_meet
   case rel => rfl
  rw [hcut]
  clear hcut
  as_aux_lemma =>
   go_wp2_with fail
   refine (H50.out.pop).mono ?_
   rintro e w51 ⟨rfl, hM⟩
   have H51 := Hd.mk hM
   clear hM H50
   go_upto_region 35 with (refine at_store (x := .tmp 31) ?_; refine wpList_boxed rfl 28 (.tmp 31) (.tmp 239) rfl w51.heap.size rfl #[.int .i64 P.kind, .int .u64 (P.tag : Int), .string P.key, .string P.after, .int .i64 P.off, .int .i64 P.num, .int .i64 P.delim, .slice Bc P.body.length ec] rfl rfl infoRq8 rfl (by simp [Value.oneCell']) ?_; intro w52 hB)
   obtain ⟨g31, hg⟩ : ∃ q, w51.heap.size = q := ⟨_, rfl⟩
   have hbe : Below w51.heap.size w51 w52 := hB.out.2.1
   rw [hg] at hB
   have H52 := Hd.mk (H51.out.box hbe hg hB.out.1)
   try rw [hg]
   clear hB hbe hg H51
   go_wp2_with fail
   refine (H52.out.popA).mono ?_
   rintro e w53 ⟨rfl, hM⟩
   have H53 := Hd.mk hM
   clear hM H52
   go_upto_region 36 with (refine at_store (x := .tmp 33) ?_; refine wpList_boxed rfl 43 (.tmp 33) (.tmp 244) rfl w53.heap.size rfl #[.int .i64 Q.kind, .int .u64 (Q.tag : Int), .int .i64 Q.code, .slice Ya Q.body.length ya, .slice Yb Q.keys.length yb, .slice Yc Q.groups.length yc, .string Q.next, .bool Q.more, .int .i64 Q.ge, .int .i64 Q.gc, .int .i64 Q.size, .int .i64 Q.h1, .int .i64 Q.h2, .int .i64 Q.h3, .int .i64 Q.h4] rfl rfl infoAn15 rfl (by simp [Value.oneCell']) ?_; intro w54 hB)
   obtain ⟨g33, hg⟩ : ∃ q, w53.heap.size = q := ⟨_, rfl⟩
   have hbe : Below w53.heap.size w53 w54 := hB.out.2.1
   rw [hg] at hB
   have H54 := Hd.mk (H53.out.box hbe hg hB.out.1)
   try rw [hg]
   clear hB hbe hg H53
   go_wp2_with fail
   refine (H54.out.popA).mono ?_
   rintro e w55 ⟨rfl, hM⟩
   have H55 := Hd.mk hM
   clear hM H54
   go_upto_region 37 with (refine at_store (x := .tmp 35) ?_; refine wpList_boxed rfl 43 (.tmp 35) (.tmp 249) rfl w55.heap.size rfl #[.int .i64 G.kind, .int .u64 (G.tag : Int), .int .i64 G.code, .slice Za G.body.length za, .slice Zb 0 zb, .slice Zc 0 zc, .string G.next, .bool G.more, .int .i64 G.ge, .int .i64 G.gc, .int .i64 G.size, .int .i64 G.h1, .int .i64 G.h2, .int .i64 G.h3, .int .i64 G.h4] rfl rfl infoAn15 rfl (by simp [Value.oneCell']) ?_; intro w56 hB)
   obtain ⟨g35, hg⟩ : ∃ q, w55.heap.size = q := ⟨_, rfl⟩
   have hbe : Below w55.heap.size w55 w56 := hB.out.2.1
   rw [hg] at hB
   have H56 := Hd.mk (H55.out.box hbe hg hB.out.1)
   try rw [hg]
   clear hB hbe hg H55
   as_aux_lemma =>
    go_wp2_with (first | (refine at_load (x := .tmp 31) ?_; refine wpList_load_row rfl 28 (.tmp 31) rfl g31 rfl 28 #[.int .i64 P.kind, .int .u64 (P.tag : Int), .string P.key, .string P.after, .int .i64 P.off, .int .i64 P.num, .int .i64 P.delim, .slice Bc P.body.length ec] (0, 0) _ (H56.out.ms.box_ 10 rfl) Try.underlying28 rfl infoRq8 ?_) | (refine at_load (x := .tmp 28) ?_; refine wpList_load_row rfl 28 (.tmp 28) rfl g28 rfl 28 #[.int .i64 P.kind, .int .u64 (P.tag : Int), .string P.key, .string P.after, .int .i64 P.off, .int .i64 P.num, .int .i64 P.delim, .slice Iqa P.body.length Iqd] (0, 0) _ (H56.out.ms.box_ 7 rfl) Try.underlying28 rfl infoRq8 ?_))
    refine (equal_any w56 P.kind P.tag P.key P.after P.off P.num P.delim P.body Bc Iqa _ _ ec Iqd w56.heap.size (H56.out.ms.rd 0 rfl) (H56.out.ms.rd 7 rfl) (Nat.le_refl _)).mono ?_
    rintro e w57 ⟨rfl, hbe⟩
    have H57 := Hd.mk (H56.out.below hbe)
    clear hbe H56
    have p0 : w57.cell? ⟨g33, 0, none⟩ = some (.int .i64 Q.kind) := H57.out.ms.at_ 11 rfl 0 rfl
    have p1 : w57.cell? ⟨g33, 1, none⟩ = some (.int .u64 (Q.tag : Int)) := H57.out.ms.at_ 11 rfl 1 rfl
    have p2 : w57.cell? ⟨g33, 2, none⟩ = some (.int .i64 Q.code) := H57.out.ms.at_ 11 rfl 2 rfl
    have p3 : w57.cell? ⟨g33, 3, none⟩ = some (.slice Ya Q.body.length ya) := H57.out.ms.at_ 11 rfl 3 rfl
    have p4 : w57.cell? ⟨g33, 4, none⟩ = some (.slice Yb Q.keys.length yb) := H57.out.ms.at_ 11 rfl 4 rfl
    have p5 : w57.cell? ⟨g33, 5, none⟩ = some (.slice Yc Q.groups.length yc) := H57.out.ms.at_ 11 rfl 5 rfl
    have p6 : w57.cell? ⟨g33, 6, none⟩ = some (.string Q.next) := H57.out.ms.at_ 11 rfl 6 rfl
    have p7 : w57.cell? ⟨g33, 7, none⟩ = some (.bool Q.more) := H57.out.ms.at_ 11 rfl 7 rfl
    have p8 : w57.cell? ⟨g33, 8, none⟩ = some (.int .i64 Q.ge) := H57.out.ms.at_ 11 rfl 8 rfl
    have p9 : w57.cell? ⟨g33, 9, none⟩ = some (.int .i64 Q.gc) := H57.out.ms.at_ 11 rfl 9 rfl
    have p10 : w57.cell? ⟨g33, 10, none⟩ = some (.int .i64 Q.size) := H57.out.ms.at_ 11 rfl 10 rfl
    have p11 : w57.cell? ⟨g33, 11, none⟩ = some (.int .i64 Q.h1) := H57.out.ms.at_ 11 rfl 11 rfl
    have p12 : w57.cell? ⟨g33, 12, none⟩ = some (.int .i64 Q.h2) := H57.out.ms.at_ 11 rfl 12 rfl
    have p13 : w57.cell? ⟨g33, 13, none⟩ = some (.int .i64 Q.h3) := H57.out.ms.at_ 11 rfl 13 rfl
    have p14 : w57.cell? ⟨g33, 14, none⟩ = some (.int .i64 Q.h4) := H57.out.ms.at_ 11 rfl 14 rfl
    have s0 : w57.cell? ⟨g29, 0, none⟩ = some (.int .i64 Q.kind) := H57.out.ms.at_ 8 rfl 0 rfl
    have s1 : w57.cell? ⟨g29, 1, none⟩ = some (.int .u64 (Q.tag : Int)) := H57.out.ms.at_ 8 rfl 1 rfl
    have s2 : w57.cell? ⟨g29, 2, none⟩ = some (.int .i64 Q.code) := H57.out.ms.at_ 8 rfl 2 rfl
    have s3 : w57.cell? ⟨g29, 3, none⟩ = some (.slice Jqa Q.body.length Jqd) := H57.out.ms.at_ 8 rfl 3 rfl
    have s4 : w57.cell? ⟨g29, 4, none⟩ = some (.slice Jqb Q.keys.length Jqe) := H57.out.ms.at_ 8 rfl 4 rfl
    have s5 : w57.cell? ⟨g29, 5, none⟩ = some (.slice Jqc Q.groups.length Jqf) := H57.out.ms.at_ 8 rfl 5 rfl
    have s6 : w57.cell? ⟨g29, 6, none⟩ = some (.string Q.next) := H57.out.ms.at_ 8 rfl 6 rfl
    have s7 : w57.cell? ⟨g29, 7, none⟩ = some (.bool Q.more) := H57.out.ms.at_ 8 rfl 7 rfl
    have s8 : w57.cell? ⟨g29, 8, none⟩ = some (.int .i64 Q.ge) := H57.out.ms.at_ 8 rfl 8 rfl
    have s9 : w57.cell? ⟨g29, 9, none⟩ = some (.int .i64 Q.gc) := H57.out.ms.at_ 8 rfl 9 rfl
    have s10 : w57.cell? ⟨g29, 10, none⟩ = some (.int .i64 Q.size) := H57.out.ms.at_ 8 rfl 10 rfl
    have s11 : w57.cell? ⟨g29, 11, none⟩ = some (.int .i64 Q.h1) := H57.out.ms.at_ 8 rfl 11 rfl
    have s12 : w57.cell? ⟨g29, 12, none⟩ = some (.int .i64 Q.h2) := H57.out.ms.at_ 8 rfl 12 rfl
    have s13 : w57.cell? ⟨g29, 13, none⟩ = some (.int .i64 Q.h3) := H57.out.ms.at_ 8 rfl 13 rfl
    have s14 : w57.cell? ⟨g29, 14, none⟩ = some (.int .i64 Q.h4) := H57.out.ms.at_ 8 rfl 14 rfl
    go_wp2_with fail
    refine (equalAn_any w57 Q.kind Q.tag Q.code Q.next Q.more Q.ge Q.gc Q.size Q.h1 Q.h2 Q.h3 Q.h4 Q.body Q.keys Q.groups Ya Jqa Yb Jqb Yc Jqc _ _ ya Jqd _ yb Jqe _ yc Jqf w57.heap.size (H57.out.ms.rd 1 rfl) (H57.out.ms.rd 8 rfl) (H57.out.ms.rd 2 rfl) (H57.out.ms.rd 9 rfl) (H57.out.ms.rd 3 rfl) (H57.out.ms.rd 10 rfl) (Nat.le_refl _) (by have := HQ.out.fit.2.1.1; split at this <;> omega) (by have := HQ.out.fit.2.2.1.1; omega)).mono ?_
    rintro e w58 ⟨rfl, hbe⟩
    have H58 := Hd.mk (H57.out.below hbe)
    clear p0 s0 p1 s1 p2 s2 p3 s3 p4 s4 p5 s5 p6 s6 p7 s7 p8 s8 p9 s9 p10 s10 p11 s11 p12 s12 p13 s13 p14 s14
    clear hbe H57
    have p0 : w58.cell? ⟨g35, 0, none⟩ = some (.int .i64 G.kind) := H58.out.ms.at_ 12 rfl 0 rfl
    have p1 : w58.cell? ⟨g35, 1, none⟩ = some (.int .u64 (G.tag : Int)) := H58.out.ms.at_ 12 rfl 1 rfl
    have p2 : w58.cell? ⟨g35, 2, none⟩ = some (.int .i64 G.code) := H58.out.ms.at_ 12 rfl 2 rfl
    have p3 : w58.cell? ⟨g35, 3, none⟩ = some (.slice Za G.body.length za) := H58.out.ms.at_ 12 rfl 3 rfl
    have p4 : w58.cell? ⟨g35, 4, none⟩ = some (.slice Zb 0 zb) := H58.out.ms.at_ 12 rfl 4 rfl
    have p5 : w58.cell? ⟨g35, 5, none⟩ = some (.slice Zc 0 zc) := H58.out.ms.at_ 12 rfl 5 rfl
    have p6 : w58.cell? ⟨g35, 6, none⟩ = some (.string G.next) := H58.out.ms.at_ 12 rfl 6 rfl
    have p7 : w58.cell? ⟨g35, 7, none⟩ = some (.bool G.more) := H58.out.ms.at_ 12 rfl 7 rfl
    have p8 : w58.cell? ⟨g35, 8, none⟩ = some (.int .i64 G.ge) := H58.out.ms.at_ 12 rfl 8 rfl
    have p9 : w58.cell? ⟨g35, 9, none⟩ = some (.int .i64 G.gc) := H58.out.ms.at_ 12 rfl 9 rfl
    have p10 : w58.cell? ⟨g35, 10, none⟩ = some (.int .i64 G.size) := H58.out.ms.at_ 12 rfl 10 rfl
    have p11 : w58.cell? ⟨g35, 11, none⟩ = some (.int .i64 G.h1) := H58.out.ms.at_ 12 rfl 11 rfl
    have p12 : w58.cell? ⟨g35, 12, none⟩ = some (.int .i64 G.h2) := H58.out.ms.at_ 12 rfl 12 rfl
    have p13 : w58.cell? ⟨g35, 13, none⟩ = some (.int .i64 G.h3) := H58.out.ms.at_ 12 rfl 13 rfl
    have p14 : w58.cell? ⟨g35, 14, none⟩ = some (.int .i64 G.h4) := H58.out.ms.at_ 12 rfl 14 rfl
    have s0 : w58.cell? ⟨g30, 0, none⟩ = some (.int .i64 G.kind) := H58.out.ms.at_ 9 rfl 0 rfl
    have s1 : w58.cell? ⟨g30, 1, none⟩ = some (.int .u64 (G.tag : Int)) := H58.out.ms.at_ 9 rfl 1 rfl
    have s2 : w58.cell? ⟨g30, 2, none⟩ = some (.int .i64 G.code) := H58.out.ms.at_ 9 rfl 2 rfl
    have s3 : w58.cell? ⟨g30, 3, none⟩ = some (.slice Kqa G.body.length Kqd) := H58.out.ms.at_ 9 rfl 3 rfl
    have s4 : w58.cell? ⟨g30, 4, none⟩ = some (.slice Kqb 0 Kqe) := H58.out.ms.at_ 9 rfl 4 rfl
    have s5 : w58.cell? ⟨g30, 5, none⟩ = some (.slice Kqc 0 Kqf) := H58.out.ms.at_ 9 rfl 5 rfl
    have s6 : w58.cell? ⟨g30, 6, none⟩ = some (.string G.next) := H58.out.ms.at_ 9 rfl 6 rfl
    have s7 : w58.cell? ⟨g30, 7, none⟩ = some (.bool G.more) := H58.out.ms.at_ 9 rfl 7 rfl
    have s8 : w58.cell? ⟨g30, 8, none⟩ = some (.int .i64 G.ge) := H58.out.ms.at_ 9 rfl 8 rfl
    have s9 : w58.cell? ⟨g30, 9, none⟩ = some (.int .i64 G.gc) := H58.out.ms.at_ 9 rfl 9 rfl
    have s10 : w58.cell? ⟨g30, 10, none⟩ = some (.int .i64 G.size) := H58.out.ms.at_ 9 rfl 10 rfl
    have s11 : w58.cell? ⟨g30, 11, none⟩ = some (.int .i64 G.h1) := H58.out.ms.at_ 9 rfl 11 rfl
    have s12 : w58.cell? ⟨g30, 12, none⟩ = some (.int .i64 G.h2) := H58.out.ms.at_ 9 rfl 12 rfl
    have s13 : w58.cell? ⟨g30, 13, none⟩ = some (.int .i64 G.h3) := H58.out.ms.at_ 9 rfl 13 rfl
    have s14 : w58.cell? ⟨g30, 14, none⟩ = some (.int .i64 G.h4) := H58.out.ms.at_ 9 rfl 14 rfl
    go_wp2_with fail
    refine (equalAn_any w58 G.kind G.tag G.code G.next G.more G.ge G.gc G.size G.h1 G.h2 G.h3 G.h4 G.body G.keys G.groups Za Kqa Zb Kqb Zc Kqc _ _ za Kqd _ zb Kqe _ zc Kqf w58.heap.size (H58.out.ms.rd 4 rfl) (H58.out.ms.rd 11 rfl) (H58.out.ms.rd 5 rfl) (H58.out.ms.rd 12 rfl) (H58.out.ms.rd 6 rfl) (H58.out.ms.rd 13 rfl) (Nat.le_refl _) (by omega) (by omega)).mono ?_
    rintro e w59 ⟨rfl, hbe⟩
    have H59 := Hd.mk (H58.out.below hbe)
    clear p0 s0 p1 s1 p2 s2 p3 s3 p4 s4 p5 s5 p6 s6 p7 s7 p8 s8 p9 s9 p10 s10 p11 s11 p12 s12 p13 s13 p14 s14
    clear hbe H58
    go_upto_if 266 with fail
    go_cut [] from 43 (fun wx => wx = w59)
    case first =>
     go_wp2_with fail
     go_meet
     case rel => rfl
    rw [hcut]
    clear hcut
    as_aux_lemma =>
     go_wp2_with (refine at_load (x := .tmp 28) ?_; refine wpList_load_row rfl 28 (.tmp 28) rfl g28 rfl 28 #[.int .i64 P.kind, .int .u64 (P.tag : Int), .string P.key, .string P.after, .int .i64 P.off, .int .i64 P.num, .int .i64 P.delim, .slice Iqa P.body.length Iqd] (0, 0) _ (H59.out.ms.box_ 7 rfl) Try.underlying28 rfl infoRq8 ?_)
     refine (ask_m HP.out (H59.out.ms.rd 7 rfl) HLW.out).mono ?_
     rintro e w60 ⟨Af4, cf4, rfl, ho, hbe⟩
     have H60 := Hd.mk (H59.out.rows (NR := [(5, .slice Af4 F1.length cf4, cb F1)]) hbe (fun r hr => by rw [List.mem_singleton.1 hr]; simpa only [cb_length] using ho) (List.pairwise_singleton _ _))
     clear ho hbe H59
     go_wp2_with (refine at_load (x := .tmp 28) ?_; refine wpList_load_row rfl 28 (.tmp 28) rfl g28 rfl 28 #[.int .i64 P.kind, .int .u64 (P.tag : Int), .string P.key, .string P.after, .int .i64 P.off, .int .i64 P.num, .int .i64 P.delim, .slice Iqa P.body.length Iqd] (0, 0) _ (H60.out.ms.box_ 7 rfl) Try.underlying28 rfl infoRq8 ?_)
     refine (ask_m HP.out (H60.out.ms.rd 7 rfl) HLW.out).mono ?_
     rintro e w61 ⟨Af5, cf5, rfl, ho, hbe⟩
     have H61 := Hd.mk (H60.out.rows (NR := [(5, .slice Af5 F1.length cf5, cb F1)]) hbe (fun r hr => by rw [List.mem_singleton.1 hr]; simpa only [cb_length] using ho) (List.pairwise_singleton _ _))
     clear ho hbe H60
     obtain ⟨S1, hS1⟩ : ∃ S, bstr F1 = S := ⟨_, rfl⟩
     have q1 : (convert 26 9 (.slice Af4 F1.length cf4)).run Try.prog w61 = .ok (.string S1) w61 := by rw [← hS1]; exact conv_any (H61.out.ms.rd 14 rfl)
     have q2 : (convert 26 9 (.slice Af5 F1.length cf5)).run Try.prog w61 = .ok (.string S1) w61 := by rw [← hS1]; exact conv_any (H61.out.ms.rd 15 rfl)
     have e1 : (S1.toList == S1.toList) = true := by simp
     clear hS1
     go_wp2_with fail
     refine (H61.out.last (P := P) (bs := F1) (H61.out.ms.rd 14 rfl) HP.out.lt (by have := HP.out.len; omega) HP.out.go1).mono ?_
     rintro e w62 ⟨rfl, hbe, hheld⟩
     have HHD := Hd.mk hheld
     clear q1 q2 e1 hbe hheld H61
     go_wp2_with fail
     refine HHD.out.mono ?_
     rintro e w63 ⟨rfl, hbe⟩
     have HE := Hd.mk hbe
     clear hbe HHD
     go_wp2_with fail
     go_ret
     exact ⟨rfl, HE.out⟩
end Go.Proofs.Ytbcmjjcbjojakaa
