/- Contract of the reference's readAnswer. (tools/rrangen.py prints it.) -/
import Derived.Test.YtbcmjjcbjojakaaPk11
import Derived.Test.YtbcmjjcbjojakaaAnW
import Derived.Deep.MidRow
namespace Go.Proofs.Ytbcmjjcbjojakaa
open Go.RowKit
set_option linter.unusedVariables false
set_option linter.unusedSimpArgs false
section
variable {w W : World} {t gx gq gr n c : Nat} {A : Option Addr} {s : Nat × Int} {bs : List Nat} {zs : Array Value} {M M' : Wm}
theorem QR.there (h : QR w W t gx gq gr A n c s bs zs M) (o k : Nat) (hl : o + k ≤ M.cells.length) : W.there gq o k := fun j hj =>
 ⟨by rw [h.at_ (o + j) (List.getElem?_eq_getElem (by omega))]; rfl, h.z _⟩
theorem QR.set2 (h : QR w W t gx gq gr A n c s bs zs M) (o : Nat) (a b : Value) (hM : M'.cells = (M.cells.set o a).set (o + 1) b) (hok : M'.ok W (gq + 1)) : QR w (W.setCells gq o [a, b]) t gx gq gr A n c s bs zs M' := by
 have h1 := h.set (M' := ⟨M.cells.set o a, M'.rows⟩) o a rfl hok
 exact h1.set (M' := M') (o + 1) b hM (fun r hr => h1.ok r hr)
theorem QR.set4 (h : QR w W t gx gq gr A n c s bs zs M) (o : Nat) (a b d e : Value) (hM : M'.cells = (((M.cells.set o a).set (o + 1) b).set (o + 1 + 1) d).set (o + 1 + 1 + 1) e) (hok : M'.ok W (gq + 1)) : QR w (W.setCells gq o [a, b, d, e]) t gx gq gr A n c s bs zs M' := by
 have h1 := h.set (M' := ⟨M.cells.set o a, M'.rows⟩) o a rfl hok
 have h2 := h1.set (M' := ⟨(M.cells.set o a).set (o + 1) b, M'.rows⟩) (o + 1) b rfl (fun r hr => h1.ok r hr)
 have h3 := h2.set (M' := ⟨((M.cells.set o a).set (o + 1) b).set (o + 1 + 1) d, M'.rows⟩) (o + 1 + 1) d rfl (fun r hr => h2.ok r hr)
 have h4 := h3.set (M' := M') (o + 1 + 1 + 1) e hM (fun r hr => h3.ok r hr)
 simp only [World.setCells]
 exact h4
end
theorem infoHl : (Try.prog.info? 41).map (·.size) = some 4 := by kernel_rfl
theorem infoGn : (Try.prog.info? 39).map (·.size) = some 2 := by kernel_rfl
set_option maxRecDepth 20000 in
set_option maxHeartbeats 16000000 in
theorem ranw_any (w : World) (A0 : Option Addr) (n c0 B : Nat) (bs : List Nat) (hr : Rd w B A0 n (cb bs)) (hB : B ≤ w.heap.size) (hn : n ≤ 4398046511104) (hb : ∀ x ∈ bs, x < 256) :
  Calls Try.prog 110 #[.slice A0 n c0] w (RMsg An rdAn anIs 15 w bs) := by
 obtain ⟨gx, hgx⟩ : ∃ gx, w.heap.size = gx := ⟨_, rfl⟩
 obtain ⟨w0, hw0⟩ : ∃ W, w.alloc (.cells #[.int .i64 0, .int .u64 0, .int .i64 0, .slice none 0 0, .slice none 0 0, .slice none 0 0, .string emS, .bool false, .int .i64 0, .int .i64 0, .int .i64 0, .int .i64 0, .int .i64 0, .int .i64 0, .int .i64 0] 43) = W := ⟨_, rfl⟩
 have H0 : Hd (Rd w0 B A0 n (cb bs) ∧ w0.heap[gx]? = some (.cells an0 43) ∧ Chg [] w w0 ∧ gx < w0.heap.size ∧ B ≤ w0.heap.size ∧ n ≤ 4398046511104 ∧ ∀ x ∈ bs, x < 256) := ⟨by rw [← hw0]; exact hr.alloc hB _, by rw [← hw0, ← hgx]; exact heap_alloc_new w _, by rw [← hw0]; exact (Chg.refl _ w).alloc _, by rw [← hw0]; simp; omega, by rw [← hw0]; simp; omega, hn, hb⟩
 have HG := Hd.mk hgx
 clear hr hB hn hb hgx
 go_enter Try.func110, Try.ntmps110
 go_upto_region 1 with fail
 have hz : (⟨#[]⟩ : ByteArray) = emS := rfl
 try rw [hz]
 rw [hw0, HG.out]
 clear hw0 hz
 go_wp2_with fail
 refine (ropen_any w0 A0 n c0 B bs H0.out.1 H0.out.2.2.2.2.1 H0.out.2.2.2.2.2.1 H0.out.2.2.2.2.2.2).mono ?_
 rintro e w1 ⟨gr, A, c, rfl, hc, hR, hgr, hA⟩
 have H1 : Hd (Rr w1 gr A n c (0, 0).1 (0, 0).2 bs ∧ w1.heap[gx]? = some (.cells an0 43) ∧ Chg [] w w1 ∧ gx < gr ∧ gr < w1.heap.size ∧ (∀ g off, A = some ⟨g, off, none⟩ → 0 < n → g ≠ gx)) := ⟨hR, by rw [hc.block gx H0.out.2.2.2.1 (by simp)]; exact H0.out.2.1, H0.out.2.2.1.trans hc, by have := H0.out.2.2.2.1; omega, hR.lt, fun g off he hn => by have := hA g off he hn; have := H0.out.2.2.2.1; omega⟩
 clear hc hR hgr hA H0
 go_wp2_with fail
 refine (dFix1 (s := (0, 0)) H1.out.1).mono ?_
 rintro e w2 ⟨v1, s1, e1, rfl, hv1, hc, hR⟩
 have H2 : Hd (Rr w2 gr A n c s1.1 s1.2 bs ∧ w2.heap[gx]? = some (.cells an0 43) ∧ Chg [] w w2 ∧ gx < gr ∧ gr < w2.heap.size ∧ (∀ g off, A = some ⟨g, off, none⟩ → 0 < n → g ≠ gx)) := ⟨hR, by rw [hc.block gx (by have := H1.out.2.2.2.1; have := H1.out.2.2.2.2.1; omega) (by have := H1.out.2.2.2.1; simp; omega)]; exact H1.out.2.1, H1.out.2.2.1.newOne hc (by have := H1.out.2.2.2.1; have := HG.out; omega), H1.out.2.2.2.1, hR.lt, H1.out.2.2.2.2.2⟩
 have E1 := Hd.mk e1
 have wv : IntKind.i64.wrap (v1 : Int) = (v1 : Int) := by rw [IntKind.wrap_i64]; omega
 clear hc hR e1 H1
 go_wp2_with fail
 refine (dFix8 (s := s1) H2.out.1).mono ?_
 rintro e w3 ⟨v2, s2, e2, rfl, hv2, hc, hR⟩
 have H3 : Hd (Rr w3 gr A n c s2.1 s2.2 bs ∧ w3.heap[gx]? = some (.cells an0 43) ∧ Chg [] w w3 ∧ gx < gr ∧ gr < w3.heap.size ∧ (∀ g off, A = some ⟨g, off, none⟩ → 0 < n → g ≠ gx)) := ⟨hR, by rw [hc.block gx (by have := H2.out.2.2.2.1; have := H2.out.2.2.2.2.1; omega) (by have := H2.out.2.2.2.1; simp; omega)]; exact H2.out.2.1, H2.out.2.2.1.newOne hc (by have := H2.out.2.2.2.1; have := HG.out; omega), H2.out.2.2.2.1, hR.lt, H2.out.2.2.2.2.2⟩
 have E2 := Hd.mk e2
 clear hc hR e2 H2
 go_upto_region 3 with (refine at_store (x := .tmp 5) ?_; refine wpList_boxed rfl 43 (.tmp 5) (.tmp 15) rfl w3.heap.size rfl (anW (anX v1 v2 0 [] [] [] [] false 0 0 0 0 0 0 0) (.slice none 0 0) (.slice none 0 0) (.slice none 0 0)).cells.toArray rfl rfl infoAn15 rfl (by simp [anW, anX, Value.oneCell']) ?_; intro wb4 hB4)
 simp only [Act.put]
 clear wv
 obtain ⟨gq, hgq⟩ : ∃ gq, w3.heap.size = gq := ⟨_, rfl⟩
 rw [hgq] at hB4 ⊢
 have hc4 : Chg [] w3 wb4 := ⟨hB4.out.2.1.os, hB4.out.2.1.tape, hB4.out.2.1.output, hB4.out.2.1.size, fun k hk _ => hB4.out.2.1.block k (by omega)⟩
 have HH4 : Hd (QR w wb4 43 gx gq gr A n c s2 bs an0 (anW (anX v1 v2 0 [] [] [] [] false 0 0 0 0 0 0 0) (.slice none 0 0) (.slice none 0 0) (.slice none 0 0))) := ⟨hB4.out.1, by rw [hc4.block gx (by have := H3.out.2.2.2.1; have := H3.out.2.2.2.2.1; omega) (by simp)]; exact H3.out.2.1, H3.out.1.keep hc4 (by simp) (by simp), H3.out.2.2.1.trans hc4, an_ok (World.ownsRow_nil _ _ _ _) (World.ownsRow_nil _ _ _ _) (World.ownsRow_nil _ _ _ _), by have := HG.out; omega, H3.out.2.2.2.1, by have := H3.out.2.2.2.2.1; omega, H3.out.2.2.2.2.2⟩
 clear hB4 hc4 hgq H3
 go_wp2_with fail
 refine (dNumU (s := s2) HH4.out.rdr).mono ?_
 rintro e w4 ⟨v3, s3, e3, rfl, hv3, hc, hR⟩
 have H4 : Hd (QR w w4 43 gx gq gr A n c s3 bs an0 (anW (anX v1 v2 0 [] [] [] [] false 0 0 0 0 0 0 0) (.slice none 0 0) (.slice none 0 0) (.slice none 0 0))) := ⟨HH4.out.call hc hR⟩
 have E3 := Hd.mk e3
 clear hc hR e3 HH4
 have c0 : w4.cell? ⟨gq, 0, none⟩ = some (.int .i64 (v1 : Int)) := H4.out.at_ 0 rfl
 by_cases m2 : v1 < 1
 ·have m2i : decide ((v1 : Int) < 1) = true := by simp; omega
  have HNO : Hd (rdAn bs = none) := ⟨by
   unfold rdAn; simp only [E1.out, E2.out, E3.out]; rw [if_neg (fun h => (by have := h.1; omega))]⟩
  have hrow := H4.out.res
  have hch := Hd.mk (And.intro H4.out.ch H4.out.l1)
  go_wp2_with (refine at_store (x := .tmp 2) ?_; refine wpList_stored rfl 43 (.tmp 2) (.tmp 30) rfl gx an0 rfl rfl 43 an0 hrow infoAn15 rfl (by simp [an0, Value.oneCell']) ?_; intro w9 hB9)
  (try simp only [Exit.inBlock, Exit.then])
  refine bodyPost_ret (results_cell_tmp rfl _ _ gx 43 an0 (0, 0) _ rfl hB9.out.1 Try.underlying43 rfl infoAn15) rfl ?_
  exact ⟨⟨an0.toList, []⟩, false, rfl, ⟨hB9.out.2.1.os.trans hch.out.1.os, hB9.out.2.1.tape.trans hch.out.1.tape, hB9.out.2.1.output.trans hch.out.1.output, Nat.le_trans hch.out.1.size hB9.out.2.1.size, fun k hk hm => (hB9.out.2.1.block k (Nat.lt_of_lt_of_le hk hch.out.1.size) (by have := hch.out.2; intro h; injection h; omega)).trans (hch.out.1.block k hk hm)⟩, rfl, by simp [an0, Value.oneCell'], .inr ⟨rfl, HNO.out⟩⟩
 have m2i : decide ((v1 : Int) < 1) = false := by simp; omega
 by_cases m3 : 8 < v1
 ·have m3i : decide ((8 : Int) < (v1 : Int)) = true := by simp; omega
  have HNO : Hd (rdAn bs = none) := ⟨by
   unfold rdAn; simp only [E1.out, E2.out, E3.out]; rw [if_neg (fun h => (by have := h.2.1; omega))]⟩
  have hrow := H4.out.res
  have hch := Hd.mk (And.intro H4.out.ch H4.out.l1)
  go_wp2_with (refine at_store (x := .tmp 2) ?_; refine wpList_stored rfl 43 (.tmp 2) (.tmp 30) rfl gx an0 rfl rfl 43 an0 hrow infoAn15 rfl (by simp [an0, Value.oneCell']) ?_; intro w9 hB9)
  (try simp only [Exit.inBlock, Exit.then])
  refine bodyPost_ret (results_cell_tmp rfl _ _ gx 43 an0 (0, 0) _ rfl hB9.out.1 Try.underlying43 rfl infoAn15) rfl ?_
  exact ⟨⟨an0.toList, []⟩, false, rfl, ⟨hB9.out.2.1.os.trans hch.out.1.os, hB9.out.2.1.tape.trans hch.out.1.tape, hB9.out.2.1.output.trans hch.out.1.output, Nat.le_trans hch.out.1.size hB9.out.2.1.size, fun k hk hm => (hB9.out.2.1.block k (Nat.lt_of_lt_of_le hk hch.out.1.size) (by have := hch.out.2; intro h; injection h; omega)).trans (hch.out.1.block k hk hm)⟩, rfl, by simp [an0, Value.oneCell'], .inr ⟨rfl, HNO.out⟩⟩
 have m3i : decide ((8 : Int) < (v1 : Int)) = false := by simp; omega
 by_cases m1 : 2147483647 < v3
 ·have m1i : decide ((2147483647 : Int) < (v3 : Int)) = true := by simp; omega
  have HNO : Hd (rdAn bs = none) := ⟨by
   unfold rdAn; simp only [E1.out, E2.out, E3.out]; rw [if_neg (fun h => (by have := h.2.2.1; omega))]⟩
  have hrow := H4.out.res
  have hch := Hd.mk (And.intro H4.out.ch H4.out.l1)
  go_wp2_with (refine at_store (x := .tmp 2) ?_; refine wpList_stored rfl 43 (.tmp 2) (.tmp 30) rfl gx an0 rfl rfl 43 an0 hrow infoAn15 rfl (by simp [an0, Value.oneCell']) ?_; intro w9 hB9)
  (try simp only [Exit.inBlock, Exit.then])
  refine bodyPost_ret (results_cell_tmp rfl _ _ gx 43 an0 (0, 0) _ rfl hB9.out.1 Try.underlying43 rfl infoAn15) rfl ?_
  exact ⟨⟨an0.toList, []⟩, false, rfl, ⟨hB9.out.2.1.os.trans hch.out.1.os, hB9.out.2.1.tape.trans hch.out.1.tape, hB9.out.2.1.output.trans hch.out.1.output, Nat.le_trans hch.out.1.size hB9.out.2.1.size, fun k hk hm => (hB9.out.2.1.block k (Nat.lt_of_lt_of_le hk hch.out.1.size) (by have := hch.out.2; intro h; injection h; omega)).trans (hch.out.1.block k hk hm)⟩, rfl, by simp [an0, Value.oneCell'], .inr ⟨rfl, HNO.out⟩⟩
 have m1i : decide ((2147483647 : Int) < (v3 : Int)) = false := by simp; omega
 have HYES : Hd (1 ≤ v1 ∧ v1 ≤ 8 ∧ v3 ≤ 2147483647) := ⟨by omega⟩
 have d2 : w4.cell? ⟨gq, 2, none⟩ = some (.int .i64 0) := H4.out.at_ 2 rfl
 have z2 := H4.out.z 2
 have hwr : IntKind.i64.wrap (v3 : Int) = (v3 : Int) := by rw [IntKind.wrap_i64]; omega
 go_upto_region 7 with fail
 try simp only [Act.put]
 obtain ⟨w5, hw5⟩ : ∃ W, w4.setCell ⟨gq, 2, none⟩ (.int .i64 (v3 : Int)) = W := ⟨_, rfl⟩
 rw [hw5]
 have H5 : Hd (QR w w5 43 gx gq gr A n c s3 bs an0 (anW (anX v1 v2 v3 [] [] [] [] false 0 0 0 0 0 0 0) (.slice none 0 0) (.slice none 0 0) (.slice none 0 0))) := ⟨by rw [← hw5]; exact H4.out.set (M' := (anW (anX v1 v2 v3 [] [] [] [] false 0 0 0 0 0 0 0) (.slice none 0 0) (.slice none 0 0) (.slice none 0 0))) 2 _ rfl (an_re H4.out.ok)⟩
 clear hw5 H4 c0 d2 z2 hwr m1 m2 m3 m1i m2i m3i
 have c0 : w5.cell? ⟨gq, 0, none⟩ = some (.int .i64 (v1 : Int)) := H5.out.at_ 0 rfl
 have c2 : w5.cell? ⟨gq, 2, none⟩ = some (.int .i64 (v3 : Int)) := H5.out.at_ 2 rfl
 by_cases k8 : v1 = 8
 ·have k8b : ((v1 : Int) == 8) = true := by subst k8; rfl
  have q2 : ((v1 : Int) == 2) = false := by subst k8; rfl
  have q3 : ((v1 : Int) == 3) = false := by subst k8; rfl
  have q4 : ((v1 : Int) == 4) = false := by subst k8; rfl
  have q6 : ((v1 : Int) == 6) = false := by subst k8; rfl
  have q7 : ((v1 : Int) == 7) = false := by subst k8; rfl
  have HK8 := Hd.mk k8
  clear k8
  go_wp2_with fail
  refine (dNumV (s := s3) H5.out.rdr).mono ?_
  rintro e wz101 ⟨x101, s101, ez, rfl, hzb101, hc, hR⟩
  have HN101 : Hd (QR w wz101 43 gx gq gr A n c s101 bs an0 (anW (anX v1 v2 v3 [] [] [] [] false 0 0 0 0 0 0 0) (.slice none 0 0) (.slice none 0 0) (.slice none 0 0))) := ⟨H5.out.call hc hR⟩
  have E101 : Hd (rNum bs s3 = (x101, s101)) := ⟨ez⟩
  obtain ⟨u101q, hu⟩ : ∃ u, unz (x101 : Int) = u := ⟨_, rfl⟩
  rw [hu] at hzb101 ⊢
  have HU101 := Hd.mk hu
  clear hu hc hR ez H5
  try clear c0
  try clear c2
  go_wp2_with fail
  refine (dNumV (s := s101) HN101.out.rdr).mono ?_
  rintro e wz102 ⟨x102, s102, ez, rfl, hzb102, hc, hR⟩
  have HN102 : Hd (QR w wz102 43 gx gq gr A n c s102 bs an0 (anW (anX v1 v2 v3 [] [] [] [] false 0 0 0 0 0 0 0) (.slice none 0 0) (.slice none 0 0) (.slice none 0 0))) := ⟨HN101.out.call hc hR⟩
  have E102 : Hd (rNum bs s101 = (x102, s102)) := ⟨ez⟩
  obtain ⟨u102q, hu⟩ : ∃ u, unz (x102 : Int) = u := ⟨_, rfl⟩
  rw [hu] at hzb102 ⊢
  have HU102 := Hd.mk hu
  clear hu hc hR ez HN101
  try clear c0
  try clear c2
  go_wp2_with fail
  refine (dNumV (s := s102) HN102.out.rdr).mono ?_
  rintro e wz103 ⟨x103, s103, ez, rfl, hzb103, hc, hR⟩
  have HN103 : Hd (QR w wz103 43 gx gq gr A n c s103 bs an0 (anW (anX v1 v2 v3 [] [] [] [] false 0 0 0 0 0 0 0) (.slice none 0 0) (.slice none 0 0) (.slice none 0 0))) := ⟨HN102.out.call hc hR⟩
  have E103 : Hd (rNum bs s102 = (x103, s103)) := ⟨ez⟩
  obtain ⟨u103q, hu⟩ : ∃ u, unz (x103 : Int) = u := ⟨_, rfl⟩
  rw [hu] at hzb103 ⊢
  have HU103 := Hd.mk hu
  clear hu hc hR ez HN102
  try clear c0
  try clear c2
  go_wp2_with fail
  refine (dNumV (s := s103) HN103.out.rdr).mono ?_
  rintro e wz104 ⟨x104, s104, ez, rfl, hzb104, hc, hR⟩
  have HN104 : Hd (QR w wz104 43 gx gq gr A n c s104 bs an0 (anW (anX v1 v2 v3 [] [] [] [] false 0 0 0 0 0 0 0) (.slice none 0 0) (.slice none 0 0) (.slice none 0 0))) := ⟨HN103.out.call hc hR⟩
  have E104 : Hd (rNum bs s103 = (x104, s104)) := ⟨ez⟩
  obtain ⟨u104q, hu⟩ : ∃ u, unz (x104 : Int) = u := ⟨_, rfl⟩
  rw [hu] at hzb104 ⊢
  have HU104 := Hd.mk hu
  clear hu hc hR ez HN103
  try clear c0
  try clear c2
  go_upto_region 9 with (refine at_store (x := .tmp 46) ?_; refine wpList_store_mid rfl 41 (.tmp 46) (.tmp 45) rfl gq 11 #[.int .i64 u101q, .int .i64 u102q, .int .i64 u103q, .int .i64 u104q] rfl rfl (HN104.out.there 11 4 (by first | decide | rfl | simp [anW])) infoHl (by simp [Value.oneCell']) ?_)
  try simp only [Act.put]
  generalize hww : World.setCells _ _ _ _ = w8
  rw [← HU101.out, ← HU102.out, ← HU103.out, ← HU104.out] at hww
  have HE : Hd (QR w w8 43 gx gq gr A n c s104 bs an0 (anW (anX v1 v2 v3 [] [] [] [] false 0 0 0 x101 x102 x103 x104) (.slice none 0 0) (.slice none 0 0) (.slice none 0 0))) := ⟨by rw [← hww]; exact HN104.out.set4 (M' := (anW (anX v1 v2 v3 [] [] [] [] false 0 0 0 x101 x102 x103 x104) (.slice none 0 0) (.slice none 0 0) (.slice none 0 0))) 11 _ _ _ _ rfl (an_re HN104.out.ok)⟩
  clear hww HN104 hzb101 HU101 hzb102 HU102 hzb103 HU103 hzb104 HU104
  have c0 : w8.cell? ⟨gq, 0, none⟩ = some (.int .i64 (v1 : Int)) := HE.out.at_ 0 rfl
  by_cases k0 : v3 = 0
  ·have k0b : ((v3 : Int) == 0) = true := by subst k0; rfl
   have HK0 := Hd.mk k0
   clear k0
   try clear c0
   have c0 : w8.cell? ⟨gq, 0, none⟩ = some (.int .i64 (v1 : Int)) := HE.out.at_ 0 rfl
   go_upto_region 24 with fail
   try simp only [Act.put]
   have HW := Hd.mk HE.out
   clear HE
   try clear c0
   try clear c2
   obtain ⟨M, hM⟩ : ∃ M, (anW (anX v1 v2 v3 [] [] [] [] false 0 0 0 x101 x102 x103 x104) (.slice none 0 0) (.slice none 0 0) (.slice none 0 0)) = M := ⟨_, rfl⟩
   have HM1 : Hd (M.cells.length = 15 ∧ M.cells.toArray.all (·.oneCell') = true) := ⟨by rw [← hM]; exact anW_one HW.out.ok⟩
   have HMI : Hd (anIs M (anX v1 v2 v3 [] [] [] [] false 0 0 0 x101 x102 x103 x104)) := ⟨_, _, _, hM.symm⟩
   rw [hM] at HW
   clear hM
   obtain ⟨fe, hfe⟩ : ∃ f, endF n s104.1 s104.2 = f := ⟨_, rfl⟩
   have HFE := Hd.mk hfe
   have hn : bs.length = n := HW.out.rdr.len
   have HRD : Hd (rdAn bs = if fe = 0 then some (anX v1 v2 v3 [] [] [] [] false 0 0 0 x101 x102 x103 x104) else none) := ⟨by
    have ky := HYES.out
    have z0 : unz ((0 : Nat) : Int) = 0 := by decide
    have B8 : decide ((v1 : Int) = 8) = true := by (try unfold qBody); (try unfold qGen); (try unfold qKeys); (try unfold qPage); exact decide_eq_true (by have := HK8.out; omega)
    have BB : qBody (v1 : Int) (v3 : Int) = false := by (try unfold qBody); (try unfold qGen); (try unfold qKeys); (try unfold qPage); exact decide_eq_false (by have := HK8.out; omega)
    have BG : qGen (v1 : Int) (v3 : Int) = false := by (try unfold qBody); (try unfold qGen); (try unfold qKeys); (try unfold qPage); exact decide_eq_false (by have := HK8.out; omega)
    have BK : qKeys (v1 : Int) (v3 : Int) = false := by (try unfold qBody); (try unfold qGen); (try unfold qKeys); (try unfold qPage); exact decide_eq_false (by have := HK8.out; omega)
    have BP : qPage (v1 : Int) (v3 : Int) = false := by (try unfold qBody); (try unfold qGen); (try unfold qKeys); (try unfold qPage); exact decide_eq_false (by have := HK8.out; omega)
    unfold rdAn
    simp only [E1.out, E2.out, E3.out, B8, BB, BG, BK, BP, opt_t, opt_f, E101.out, E102.out, E103.out, E104.out]
    rw [hn, hfe]
    by_cases h0 : fe = 0
    ·rw [if_pos h0, if_pos ⟨by omega, by omega, by omega, by omega, h0⟩]; rfl
    ·rw [if_neg h0, if_neg (fun h => h0 h.2.2.2.2)]⟩
   clear hn hfe
   refine wp_region_held_drew (S := fun W => ∃ zs : Array Value, zs.size = 15 ∧ QR w W 43 gx gq gr A n c s104 bs zs M) (by kernel_rfl) ⟨an0, rfl, HW.out.below (Chg.refl _ _).drew⟩ (fun hHeld => ?_)
   refine wpAnyH_take (i := 0) (oi := ?oiR100) (v := .agg M.cells.toArray) ?hiR100 (by kernel_rfl) (by kernel_rfl) (by kernel_rfl) ?hQR100 ?hyR100 (by assumption) ?restR100
   case hiR100 => simp only [List.getElem?_toArray, List.getElem?_cons_succ, List.getElem?_cons_zero]; rfl
   case hQR100 => exact fun _ _ _ h => h
   case hyR100 => exact yieldsIf_load_mid rfl 43 (.tmp 5) rfl gq 0 rfl M.cells _ (fun W hW => let ⟨_, _, h⟩ := hW; h.range) Try.underlying43 rfl (by rw [infoAn15, HM1.out.1])
   simp only [Act.put, List.setIfInBounds_toArray, List.set_cons_zero, List.set_cons_succ]
   refine wpAnyH_take (i := 1) (oi := ?oi201) (v := ?v201) ?hi201 (by kernel_rfl) (by kernel_rfl) (by kernel_rfl) ?hQ201 (Or.inl ⟨?hw201, ?hy201⟩) (by assumption) ?rest201
   case hi201 => simp only [List.getElem?_toArray, List.getElem?_cons_succ, List.getElem?_cons_zero]; rfl
   case hQ201 => exact fun _ _ _ h => h
   case hw201 => rfl
   case hy201 => (intro W hW; skip; go_simp; all_goals rfl)
   simp only [Act.put, List.setIfInBounds_toArray, List.set_cons_zero, List.set_cons_succ]
   refine wpAnyH_ready (rs := [2]) (by kernel_rfl) (by simp) ?_
   refine AllReadyH.cons (i := 2) (o := ?o202) ?ho202 (fun Kq hK => ?step202) AllReadyH.nil
   case ho202 => simp only [List.getElem?_toArray, List.getElem?_cons_succ, List.getElem?_cons_zero]; rfl
   go_simp
   (obtain ⟨zs, hz8, hQ⟩ := hHeld; go_at_call 125; refine (rend_any _ gr n c s104.1 s104.2 A bs hQ.rdr).mono ?_; rw [HFE.out]; rintro e w7 ⟨rfl, hc7⟩)
   have hF : ∃ zs : Array Value, zs.size = 15 ∧ QR w w7 43 gx gq gr A n c s104 bs zs M := ⟨zs, hz8, hQ.below hc7⟩
   refine hK.out _ _ hF (fun _ => ?_)
   clear hK Kq hQ hz8 hc7
   have hHeld := hF
   clear hF
   try simp only [Act.put, List.setIfInBounds_toArray, List.set_cons_zero, List.set_cons_succ]
   refine wpAnyH_take (i := 3) (oi := ?oi203) (v := ?v203) ?hi203 (by kernel_rfl) (by kernel_rfl) (by kernel_rfl) ?hQ203 (Or.inl ⟨?hw203, ?hy203⟩) (by assumption) ?rest203
   case hi203 => simp only [List.getElem?_toArray, List.getElem?_cons_succ, List.getElem?_cons_zero]; rfl
   case hQ203 => exact fun _ _ _ h => h
   case hw203 => rfl
   case hy203 => (intro W hW; skip; go_simp; all_goals rfl)
   simp only [Act.put, List.setIfInBounds_toArray, List.set_cons_zero, List.set_cons_succ]
   refine wpAnyH_ready (rs := [4]) (by kernel_rfl) (by simp) ?_
   refine AllReadyH.cons (i := 4) (o := ?oS100) ?hoS100 (fun Kq hK => ?stepS100) AllReadyH.nil
   case hoS100 => simp only [List.getElem?_toArray, List.getElem?_cons_succ, List.getElem?_cons_zero]; rfl
   obtain ⟨zs, hz8, hQ⟩ := hHeld
   refine step_store rfl 43 (.tmp 2) (.tmp 113) rfl gx M.cells.toArray rfl rfl 43 zs hQ.res (by rw [infoAn15]; simp [HM1.out.1]) (by rw [hz8]; simp [HM1.out.1]) HM1.out.2 ?_
   intro w8 hs8 hg8
   have hF : ∃ zs : Array Value, zs.size = 15 ∧ QR w w8 43 gx gq gr A n c s104 bs zs M := ⟨M.cells.toArray, by simp [HM1.out.1], hQ.stored hs8 hg8⟩
   have HRES : Hd (w8.heap[gx]? = some (.cells M.cells.toArray 43) ∧ QR w w8 43 gx gq gr A n c s104 bs M.cells.toArray M) := ⟨hs8, hQ.stored hs8 hg8⟩
   refine hK.out _ _ hF (fun _ => ?_)
   clear hK Kq hQ hz8 hs8 hg8
   have hHeld := hF
   clear hF
   try simp only [Act.put, List.setIfInBounds_toArray, List.set_cons_zero, List.set_cons_succ]
   refine wpAnyH_take (i := 5) (oi := ?oi301) (v := ?v301) ?hi301 (by kernel_rfl) (by kernel_rfl) (by kernel_rfl) ?hQ301 (Or.inl ⟨?hw301, ?hy301⟩) (by assumption) ?rest301
   case hi301 => simp only [List.getElem?_toArray, List.getElem?_cons_succ, List.getElem?_cons_zero]; rfl
   case hQ301 => exact fun _ _ _ h => h
   case hw301 => rfl
   case hy301 => (intro W hW; skip; go_simp; all_goals rfl)
   simp only [Act.put, List.setIfInBounds_toArray, List.set_cons_zero, List.set_cons_succ]
   refine wpAnyH_done (by kernel_rfl) ?_ _
   clear hHeld
   go_wp2_with fail
   (try simp only [Exit.inBlock, Exit.then])
   refine bodyPost_ret (results_cell_tmp rfl _ _ gx 43 M.cells.toArray (0, 0) _ rfl HRES.out.1 Try.underlying43 rfl (by rw [infoAn15]; simp [HM1.out.1])) rfl ?_
   refine ⟨M, decide (fe = 0), by (first | rfl | (simp [Act.put]; rfl) | skip), HRES.out.2.ch, HM1.out.1, HM1.out.2, ?_⟩
   rw [HRD.out]
   by_cases h0 : fe = 0
   ·exact .inl ⟨_, decide_eq_true h0, if_pos h0, HMI.out, HRES.out.2.ok.lower (by have := HRES.out.2.l1; have := HRES.out.2.l2; have := HRES.out.2.l3; omega)⟩
   ·exact .inr ⟨decide_eq_false h0, if_neg h0⟩
  ·have k0b : ((v3 : Int) == 0) = false := beq_eq_false_iff_ne.2 (by omega)
   have HK0 := Hd.mk k0
   clear k0
   try clear c0
   have c0 : w8.cell? ⟨gq, 0, none⟩ = some (.int .i64 (v1 : Int)) := HE.out.at_ 0 rfl
   go_upto_region 24 with fail
   try simp only [Act.put]
   have HW := Hd.mk HE.out
   clear HE
   try clear c0
   try clear c2
   obtain ⟨M, hM⟩ : ∃ M, (anW (anX v1 v2 v3 [] [] [] [] false 0 0 0 x101 x102 x103 x104) (.slice none 0 0) (.slice none 0 0) (.slice none 0 0)) = M := ⟨_, rfl⟩
   have HM1 : Hd (M.cells.length = 15 ∧ M.cells.toArray.all (·.oneCell') = true) := ⟨by rw [← hM]; exact anW_one HW.out.ok⟩
   have HMI : Hd (anIs M (anX v1 v2 v3 [] [] [] [] false 0 0 0 x101 x102 x103 x104)) := ⟨_, _, _, hM.symm⟩
   rw [hM] at HW
   clear hM
   obtain ⟨fe, hfe⟩ : ∃ f, endF n s104.1 s104.2 = f := ⟨_, rfl⟩
   have HFE := Hd.mk hfe
   have hn : bs.length = n := HW.out.rdr.len
   have HRD : Hd (rdAn bs = if fe = 0 then some (anX v1 v2 v3 [] [] [] [] false 0 0 0 x101 x102 x103 x104) else none) := ⟨by
    have ky := HYES.out
    have z0 : unz ((0 : Nat) : Int) = 0 := by decide
    have B8 : decide ((v1 : Int) = 8) = true := by (try unfold qBody); (try unfold qGen); (try unfold qKeys); (try unfold qPage); exact decide_eq_true (by have := HK8.out; omega)
    have BB : qBody (v1 : Int) (v3 : Int) = false := by (try unfold qBody); (try unfold qGen); (try unfold qKeys); (try unfold qPage); exact decide_eq_false (by have := HK8.out; omega)
    have BG : qGen (v1 : Int) (v3 : Int) = false := by (try unfold qBody); (try unfold qGen); (try unfold qKeys); (try unfold qPage); exact decide_eq_false (by have := HK8.out; omega)
    have BK : qKeys (v1 : Int) (v3 : Int) = false := by (try unfold qBody); (try unfold qGen); (try unfold qKeys); (try unfold qPage); exact decide_eq_false (by have := HK8.out; omega)
    have BP : qPage (v1 : Int) (v3 : Int) = false := by (try unfold qBody); (try unfold qGen); (try unfold qKeys); (try unfold qPage); exact decide_eq_false (by have := HK8.out; omega)
    unfold rdAn
    simp only [E1.out, E2.out, E3.out, B8, BB, BG, BK, BP, opt_t, opt_f, E101.out, E102.out, E103.out, E104.out]
    rw [hn, hfe]
    by_cases h0 : fe = 0
    ·rw [if_pos h0, if_pos ⟨by omega, by omega, by omega, by omega, h0⟩]; rfl
    ·rw [if_neg h0, if_neg (fun h => h0 h.2.2.2.2)]⟩
   clear hn hfe
   refine wp_region_held_drew (S := fun W => ∃ zs : Array Value, zs.size = 15 ∧ QR w W 43 gx gq gr A n c s104 bs zs M) (by kernel_rfl) ⟨an0, rfl, HW.out.below (Chg.refl _ _).drew⟩ (fun hHeld => ?_)
   refine wpAnyH_take (i := 0) (oi := ?oiR400) (v := .agg M.cells.toArray) ?hiR400 (by kernel_rfl) (by kernel_rfl) (by kernel_rfl) ?hQR400 ?hyR400 (by assumption) ?restR400
   case hiR400 => simp only [List.getElem?_toArray, List.getElem?_cons_succ, List.getElem?_cons_zero]; rfl
   case hQR400 => exact fun _ _ _ h => h
   case hyR400 => exact yieldsIf_load_mid rfl 43 (.tmp 5) rfl gq 0 rfl M.cells _ (fun W hW => let ⟨_, _, h⟩ := hW; h.range) Try.underlying43 rfl (by rw [infoAn15, HM1.out.1])
   simp only [Act.put, List.setIfInBounds_toArray, List.set_cons_zero, List.set_cons_succ]
   refine wpAnyH_take (i := 1) (oi := ?oi501) (v := ?v501) ?hi501 (by kernel_rfl) (by kernel_rfl) (by kernel_rfl) ?hQ501 (Or.inl ⟨?hw501, ?hy501⟩) (by assumption) ?rest501
   case hi501 => simp only [List.getElem?_toArray, List.getElem?_cons_succ, List.getElem?_cons_zero]; rfl
   case hQ501 => exact fun _ _ _ h => h
   case hw501 => rfl
   case hy501 => (intro W hW; skip; go_simp; all_goals rfl)
   simp only [Act.put, List.setIfInBounds_toArray, List.set_cons_zero, List.set_cons_succ]
   refine wpAnyH_ready (rs := [2]) (by kernel_rfl) (by simp) ?_
   refine AllReadyH.cons (i := 2) (o := ?o502) ?ho502 (fun Kq hK => ?step502) AllReadyH.nil
   case ho502 => simp only [List.getElem?_toArray, List.getElem?_cons_succ, List.getElem?_cons_zero]; rfl
   go_simp
   (obtain ⟨zs, hz8, hQ⟩ := hHeld; go_at_call 125; refine (rend_any _ gr n c s104.1 s104.2 A bs hQ.rdr).mono ?_; rw [HFE.out]; rintro e w7 ⟨rfl, hc7⟩)
   have hF : ∃ zs : Array Value, zs.size = 15 ∧ QR w w7 43 gx gq gr A n c s104 bs zs M := ⟨zs, hz8, hQ.below hc7⟩
   refine hK.out _ _ hF (fun _ => ?_)
   clear hK Kq hQ hz8 hc7
   have hHeld := hF
   clear hF
   try simp only [Act.put, List.setIfInBounds_toArray, List.set_cons_zero, List.set_cons_succ]
   refine wpAnyH_take (i := 3) (oi := ?oi503) (v := ?v503) ?hi503 (by kernel_rfl) (by kernel_rfl) (by kernel_rfl) ?hQ503 (Or.inl ⟨?hw503, ?hy503⟩) (by assumption) ?rest503
   case hi503 => simp only [List.getElem?_toArray, List.getElem?_cons_succ, List.getElem?_cons_zero]; rfl
   case hQ503 => exact fun _ _ _ h => h
   case hw503 => rfl
   case hy503 => (intro W hW; skip; go_simp; all_goals rfl)
   simp only [Act.put, List.setIfInBounds_toArray, List.set_cons_zero, List.set_cons_succ]
   refine wpAnyH_ready (rs := [4]) (by kernel_rfl) (by simp) ?_
   refine AllReadyH.cons (i := 4) (o := ?oS400) ?hoS400 (fun Kq hK => ?stepS400) AllReadyH.nil
   case hoS400 => simp only [List.getElem?_toArray, List.getElem?_cons_succ, List.getElem?_cons_zero]; rfl
   obtain ⟨zs, hz8, hQ⟩ := hHeld
   refine step_store rfl 43 (.tmp 2) (.tmp 113) rfl gx M.cells.toArray rfl rfl 43 zs hQ.res (by rw [infoAn15]; simp [HM1.out.1]) (by rw [hz8]; simp [HM1.out.1]) HM1.out.2 ?_
   intro w8 hs8 hg8
   have hF : ∃ zs : Array Value, zs.size = 15 ∧ QR w w8 43 gx gq gr A n c s104 bs zs M := ⟨M.cells.toArray, by simp [HM1.out.1], hQ.stored hs8 hg8⟩
   have HRES : Hd (w8.heap[gx]? = some (.cells M.cells.toArray 43) ∧ QR w w8 43 gx gq gr A n c s104 bs M.cells.toArray M) := ⟨hs8, hQ.stored hs8 hg8⟩
   refine hK.out _ _ hF (fun _ => ?_)
   clear hK Kq hQ hz8 hs8 hg8
   have hHeld := hF
   clear hF
   try simp only [Act.put, List.setIfInBounds_toArray, List.set_cons_zero, List.set_cons_succ]
   refine wpAnyH_take (i := 5) (oi := ?oi601) (v := ?v601) ?hi601 (by kernel_rfl) (by kernel_rfl) (by kernel_rfl) ?hQ601 (Or.inl ⟨?hw601, ?hy601⟩) (by assumption) ?rest601
   case hi601 => simp only [List.getElem?_toArray, List.getElem?_cons_succ, List.getElem?_cons_zero]; rfl
   case hQ601 => exact fun _ _ _ h => h
   case hw601 => rfl
   case hy601 => (intro W hW; skip; go_simp; all_goals rfl)
   simp only [Act.put, List.setIfInBounds_toArray, List.set_cons_zero, List.set_cons_succ]
   refine wpAnyH_done (by kernel_rfl) ?_ _
   clear hHeld
   go_wp2_with fail
   (try simp only [Exit.inBlock, Exit.then])
   refine bodyPost_ret (results_cell_tmp rfl _ _ gx 43 M.cells.toArray (0, 0) _ rfl HRES.out.1 Try.underlying43 rfl (by rw [infoAn15]; simp [HM1.out.1])) rfl ?_
   refine ⟨M, decide (fe = 0), by (first | rfl | (simp [Act.put]; rfl) | skip), HRES.out.2.ch, HM1.out.1, HM1.out.2, ?_⟩
   rw [HRD.out]
   by_cases h0 : fe = 0
   ·exact .inl ⟨_, decide_eq_true h0, if_pos h0, HMI.out, HRES.out.2.ok.lower (by have := HRES.out.2.l1; have := HRES.out.2.l2; have := HRES.out.2.l3; omega)⟩
   ·exact .inr ⟨decide_eq_false h0, if_neg h0⟩
 have k8b : ((v1 : Int) == 8) = false := beq_eq_false_iff_ne.2 (by omega)
 by_cases k0 : v3 = 0
 case neg =>
  have k0b : ((v3 : Int) == 0) = false := beq_eq_false_iff_ne.2 (by omega)
  have HK0 := Hd.mk (And.intro k0 k8)
  clear k0 k8
  try clear c0
  have c0 : w5.cell? ⟨gq, 0, none⟩ = some (.int .i64 (v1 : Int)) := H5.out.at_ 0 rfl
  go_upto_region 24 with fail
  try simp only [Act.put]
  have HW := Hd.mk H5.out
  clear H5
  try clear c0
  try clear c2
  obtain ⟨M, hM⟩ : ∃ M, (anW (anX v1 v2 v3 [] [] [] [] false 0 0 0 0 0 0 0) (.slice none 0 0) (.slice none 0 0) (.slice none 0 0)) = M := ⟨_, rfl⟩
  have HM1 : Hd (M.cells.length = 15 ∧ M.cells.toArray.all (·.oneCell') = true) := ⟨by rw [← hM]; exact anW_one HW.out.ok⟩
  have HMI : Hd (anIs M (anX v1 v2 v3 [] [] [] [] false 0 0 0 0 0 0 0)) := ⟨_, _, _, hM.symm⟩
  rw [hM] at HW
  clear hM
  obtain ⟨fe, hfe⟩ : ∃ f, endF n s3.1 s3.2 = f := ⟨_, rfl⟩
  have HFE := Hd.mk hfe
  have hn : bs.length = n := HW.out.rdr.len
  have HRD : Hd (rdAn bs = if fe = 0 then some (anX v1 v2 v3 [] [] [] [] false 0 0 0 0 0 0 0) else none) := ⟨by
   have ky := HYES.out
   have z0 : unz ((0 : Nat) : Int) = 0 := by decide
   have B8 : decide ((v1 : Int) = 8) = false := by (try unfold qBody); (try unfold qGen); (try unfold qKeys); (try unfold qPage); exact decide_eq_false (by have := HK0.out; omega)
   have BB : qBody (v1 : Int) (v3 : Int) = false := by (try unfold qBody); (try unfold qGen); (try unfold qKeys); (try unfold qPage); exact decide_eq_false (by have := HK0.out; omega)
   have BG : qGen (v1 : Int) (v3 : Int) = false := by (try unfold qBody); (try unfold qGen); (try unfold qKeys); (try unfold qPage); exact decide_eq_false (by have := HK0.out; omega)
   have BK : qKeys (v1 : Int) (v3 : Int) = false := by (try unfold qBody); (try unfold qGen); (try unfold qKeys); (try unfold qPage); exact decide_eq_false (by have := HK0.out; omega)
   have BP : qPage (v1 : Int) (v3 : Int) = false := by (try unfold qBody); (try unfold qGen); (try unfold qKeys); (try unfold qPage); exact decide_eq_false (by have := HK0.out; omega)
   unfold rdAn
   simp only [E1.out, E2.out, E3.out, B8, BB, BG, BK, BP, opt_t, opt_f]
   rw [hn, hfe]
   by_cases h0 : fe = 0
   ·rw [if_pos h0, if_pos ⟨by omega, by omega, by omega, by omega, h0⟩]; rfl
   ·rw [if_neg h0, if_neg (fun h => h0 h.2.2.2.2)]⟩
  clear hn hfe
  refine wp_region_held_drew (S := fun W => ∃ zs : Array Value, zs.size = 15 ∧ QR w W 43 gx gq gr A n c s3 bs zs M) (by kernel_rfl) ⟨an0, rfl, HW.out.below (Chg.refl _ _).drew⟩ (fun hHeld => ?_)
  refine wpAnyH_take (i := 0) (oi := ?oiR700) (v := .agg M.cells.toArray) ?hiR700 (by kernel_rfl) (by kernel_rfl) (by kernel_rfl) ?hQR700 ?hyR700 (by assumption) ?restR700
  case hiR700 => simp only [List.getElem?_toArray, List.getElem?_cons_succ, List.getElem?_cons_zero]; rfl
  case hQR700 => exact fun _ _ _ h => h
  case hyR700 => exact yieldsIf_load_mid rfl 43 (.tmp 5) rfl gq 0 rfl M.cells _ (fun W hW => let ⟨_, _, h⟩ := hW; h.range) Try.underlying43 rfl (by rw [infoAn15, HM1.out.1])
  simp only [Act.put, List.setIfInBounds_toArray, List.set_cons_zero, List.set_cons_succ]
  refine wpAnyH_take (i := 1) (oi := ?oi801) (v := ?v801) ?hi801 (by kernel_rfl) (by kernel_rfl) (by kernel_rfl) ?hQ801 (Or.inl ⟨?hw801, ?hy801⟩) (by assumption) ?rest801
  case hi801 => simp only [List.getElem?_toArray, List.getElem?_cons_succ, List.getElem?_cons_zero]; rfl
  case hQ801 => exact fun _ _ _ h => h
  case hw801 => rfl
  case hy801 => (intro W hW; skip; go_simp; all_goals rfl)
  simp only [Act.put, List.setIfInBounds_toArray, List.set_cons_zero, List.set_cons_succ]
  refine wpAnyH_ready (rs := [2]) (by kernel_rfl) (by simp) ?_
  refine AllReadyH.cons (i := 2) (o := ?o802) ?ho802 (fun Kq hK => ?step802) AllReadyH.nil
  case ho802 => simp only [List.getElem?_toArray, List.getElem?_cons_succ, List.getElem?_cons_zero]; rfl
  go_simp
  (obtain ⟨zs, hz8, hQ⟩ := hHeld; go_at_call 125; refine (rend_any _ gr n c s3.1 s3.2 A bs hQ.rdr).mono ?_; rw [HFE.out]; rintro e w7 ⟨rfl, hc7⟩)
  have hF : ∃ zs : Array Value, zs.size = 15 ∧ QR w w7 43 gx gq gr A n c s3 bs zs M := ⟨zs, hz8, hQ.below hc7⟩
  refine hK.out _ _ hF (fun _ => ?_)
  clear hK Kq hQ hz8 hc7
  have hHeld := hF
  clear hF
  try simp only [Act.put, List.setIfInBounds_toArray, List.set_cons_zero, List.set_cons_succ]
  refine wpAnyH_take (i := 3) (oi := ?oi803) (v := ?v803) ?hi803 (by kernel_rfl) (by kernel_rfl) (by kernel_rfl) ?hQ803 (Or.inl ⟨?hw803, ?hy803⟩) (by assumption) ?rest803
  case hi803 => simp only [List.getElem?_toArray, List.getElem?_cons_succ, List.getElem?_cons_zero]; rfl
  case hQ803 => exact fun _ _ _ h => h
  case hw803 => rfl
  case hy803 => (intro W hW; skip; go_simp; all_goals rfl)
  simp only [Act.put, List.setIfInBounds_toArray, List.set_cons_zero, List.set_cons_succ]
  refine wpAnyH_ready (rs := [4]) (by kernel_rfl) (by simp) ?_
  refine AllReadyH.cons (i := 4) (o := ?oS700) ?hoS700 (fun Kq hK => ?stepS700) AllReadyH.nil
  case hoS700 => simp only [List.getElem?_toArray, List.getElem?_cons_succ, List.getElem?_cons_zero]; rfl
  obtain ⟨zs, hz8, hQ⟩ := hHeld
  refine step_store rfl 43 (.tmp 2) (.tmp 113) rfl gx M.cells.toArray rfl rfl 43 zs hQ.res (by rw [infoAn15]; simp [HM1.out.1]) (by rw [hz8]; simp [HM1.out.1]) HM1.out.2 ?_
  intro w8 hs8 hg8
  have hF : ∃ zs : Array Value, zs.size = 15 ∧ QR w w8 43 gx gq gr A n c s3 bs zs M := ⟨M.cells.toArray, by simp [HM1.out.1], hQ.stored hs8 hg8⟩
  have HRES : Hd (w8.heap[gx]? = some (.cells M.cells.toArray 43) ∧ QR w w8 43 gx gq gr A n c s3 bs M.cells.toArray M) := ⟨hs8, hQ.stored hs8 hg8⟩
  refine hK.out _ _ hF (fun _ => ?_)
  clear hK Kq hQ hz8 hs8 hg8
  have hHeld := hF
  clear hF
  try simp only [Act.put, List.setIfInBounds_toArray, List.set_cons_zero, List.set_cons_succ]
  refine wpAnyH_take (i := 5) (oi := ?oi901) (v := ?v901) ?hi901 (by kernel_rfl) (by kernel_rfl) (by kernel_rfl) ?hQ901 (Or.inl ⟨?hw901, ?hy901⟩) (by assumption) ?rest901
  case hi901 => simp only [List.getElem?_toArray, List.getElem?_cons_succ, List.getElem?_cons_zero]; rfl
  case hQ901 => exact fun _ _ _ h => h
  case hw901 => rfl
  case hy901 => (intro W hW; skip; go_simp; all_goals rfl)
  simp only [Act.put, List.setIfInBounds_toArray, List.set_cons_zero, List.set_cons_succ]
  refine wpAnyH_done (by kernel_rfl) ?_ _
  clear hHeld
  go_wp2_with fail
  (try simp only [Exit.inBlock, Exit.then])
  refine bodyPost_ret (results_cell_tmp rfl _ _ gx 43 M.cells.toArray (0, 0) _ rfl HRES.out.1 Try.underlying43 rfl (by rw [infoAn15]; simp [HM1.out.1])) rfl ?_
  refine ⟨M, decide (fe = 0), by (first | rfl | (simp [Act.put]; rfl) | skip), HRES.out.2.ch, HM1.out.1, HM1.out.2, ?_⟩
  rw [HRD.out]
  by_cases h0 : fe = 0
  ·exact .inl ⟨_, decide_eq_true h0, if_pos h0, HMI.out, HRES.out.2.ok.lower (by have := HRES.out.2.l1; have := HRES.out.2.l2; have := HRES.out.2.l3; omega)⟩
  ·exact .inr ⟨decide_eq_false h0, if_neg h0⟩
 have k0b : ((v3 : Int) == 0) = true := by subst k0; rfl
 by_cases k2 : v1 = 2
 ·have kk := k2
  have q2 : ((v1 : Int) == 2) = true := by rw [kk]; rfl
  have q3 : ((v1 : Int) == 3) = false := beq_eq_false_iff_ne.2 (by omega)
  have q4 : ((v1 : Int) == 4) = false := beq_eq_false_iff_ne.2 (by omega)
  have q6 : ((v1 : Int) == 6) = false := beq_eq_false_iff_ne.2 (by omega)
  have q7 : ((v1 : Int) == 7) = false := beq_eq_false_iff_ne.2 (by omega)
  have HK0 := Hd.mk (And.intro kk k0)
  clear kk k2 k0 k8
  go_wp2_with fail
  refine (dBlk (s := s3) 1048576 (by omega) H5.out.rdr).mono ?_
  rintro e wz105 ⟨x105, s105, p105, q105, ez, rfl, hoz, hc, hR⟩
  have HZ : Hd (QR w wz105 43 gx gq gr A n c s105 bs an0 (anW (anX v1 v2 v3 [] [] [] [] false 0 0 0 0 0 0 0) (.slice none 0 0) (.slice none 0 0) (.slice none 0 0))) := ⟨H5.out.call hc hR⟩
  have E105 : Hd (rBlk bs 1048576 s3 = (x105, s105)) := ⟨ez⟩
  have HOZ := Hd.mk (own_base hoz (base' := gq + 1) H5.out.lt)
  clear hoz hc hR ez
  have d0 : wz105.cell? ⟨gq, 3, none⟩ = some (.slice none 0 0) := HZ.out.at_ 3 rfl
  have d1 := HZ.out.z 3
  try clear c0
  try clear c2
  go_upto_region 11 with fail
  try simp only [Act.put]
  obtain ⟨ww105, hww⟩ : ∃ W, wz105.setCell ⟨gq, 3, none⟩ (.slice p105 x105.length q105) = W := ⟨_, rfl⟩
  rw [hww]
  have HB105 : Hd (QR w ww105 43 gx gq gr A n c s105 bs an0 (anW (anX v1 v2 v3 x105 [] [] [] false 0 0 0 0 0 0 0) (.slice p105 x105.length q105) (.slice none 0 0) (.slice none 0 0))) := ⟨by rw [← hww]; exact HZ.out.set (M' := (anW (anX v1 v2 v3 x105 [] [] [] false 0 0 0 0 0 0 0) (.slice p105 x105.length q105) (.slice none 0 0) (.slice none 0 0))) 3 _ rfl (an_ok HOZ.out (an_own HZ.out.ok).2.1 (an_own HZ.out.ok).2.2)⟩
  clear hww HZ d0 d1 H5
  try clear c0
  have c0 : ww105.cell? ⟨gq, 0, none⟩ = some (.int .i64 (v1 : Int)) := HB105.out.at_ 0 rfl
  go_upto_region 24 with fail
  try simp only [Act.put]
  have HW := Hd.mk HB105.out
  clear HB105
  try clear c0
  try clear c2
  obtain ⟨M, hM⟩ : ∃ M, (anW (anX v1 v2 v3 x105 [] [] [] false 0 0 0 0 0 0 0) (.slice p105 x105.length q105) (.slice none 0 0) (.slice none 0 0)) = M := ⟨_, rfl⟩
  have HM1 : Hd (M.cells.length = 15 ∧ M.cells.toArray.all (·.oneCell') = true) := ⟨by rw [← hM]; exact anW_one HW.out.ok⟩
  have HMI : Hd (anIs M (anX v1 v2 v3 x105 [] [] [] false 0 0 0 0 0 0 0)) := ⟨_, _, _, hM.symm⟩
  rw [hM] at HW
  clear hM
  obtain ⟨fe, hfe⟩ : ∃ f, endF n s105.1 s105.2 = f := ⟨_, rfl⟩
  have HFE := Hd.mk hfe
  have hn : bs.length = n := HW.out.rdr.len
  have HRD : Hd (rdAn bs = if fe = 0 then some (anX v1 v2 v3 x105 [] [] [] false 0 0 0 0 0 0 0) else none) := ⟨by
   have ky := HYES.out
   have z0 : unz ((0 : Nat) : Int) = 0 := by decide
   have B8 : decide ((v1 : Int) = 8) = false := by (try unfold qBody); (try unfold qGen); (try unfold qKeys); (try unfold qPage); exact decide_eq_false (by have := HK0.out; omega)
   have BB : qBody (v1 : Int) (v3 : Int) = true := by (try unfold qBody); (try unfold qGen); (try unfold qKeys); (try unfold qPage); exact decide_eq_true (by have := HK0.out; omega)
   have BG : qGen (v1 : Int) (v3 : Int) = false := by (try unfold qBody); (try unfold qGen); (try unfold qKeys); (try unfold qPage); exact decide_eq_false (by have := HK0.out; omega)
   have BK : qKeys (v1 : Int) (v3 : Int) = false := by (try unfold qBody); (try unfold qGen); (try unfold qKeys); (try unfold qPage); exact decide_eq_false (by have := HK0.out; omega)
   have BP : qPage (v1 : Int) (v3 : Int) = false := by (try unfold qBody); (try unfold qGen); (try unfold qKeys); (try unfold qPage); exact decide_eq_false (by have := HK0.out; omega)
   unfold rdAn
   simp only [E1.out, E2.out, E3.out, B8, BB, BG, BK, BP, opt_t, opt_f, E105.out]
   rw [hn, hfe]
   by_cases h0 : fe = 0
   ·rw [if_pos h0, if_pos ⟨by omega, by omega, by omega, by omega, h0⟩]; rfl
   ·rw [if_neg h0, if_neg (fun h => h0 h.2.2.2.2)]⟩
  clear hn hfe
  refine wp_region_held_drew (S := fun W => ∃ zs : Array Value, zs.size = 15 ∧ QR w W 43 gx gq gr A n c s105 bs zs M) (by kernel_rfl) ⟨an0, rfl, HW.out.below (Chg.refl _ _).drew⟩ (fun hHeld => ?_)
  refine wpAnyH_take (i := 0) (oi := ?oiR1000) (v := .agg M.cells.toArray) ?hiR1000 (by kernel_rfl) (by kernel_rfl) (by kernel_rfl) ?hQR1000 ?hyR1000 (by assumption) ?restR1000
  case hiR1000 => simp only [List.getElem?_toArray, List.getElem?_cons_succ, List.getElem?_cons_zero]; rfl
  case hQR1000 => exact fun _ _ _ h => h
  case hyR1000 => exact yieldsIf_load_mid rfl 43 (.tmp 5) rfl gq 0 rfl M.cells _ (fun W hW => let ⟨_, _, h⟩ := hW; h.range) Try.underlying43 rfl (by rw [infoAn15, HM1.out.1])
  simp only [Act.put, List.setIfInBounds_toArray, List.set_cons_zero, List.set_cons_succ]
  refine wpAnyH_take (i := 1) (oi := ?oi1101) (v := ?v1101) ?hi1101 (by kernel_rfl) (by kernel_rfl) (by kernel_rfl) ?hQ1101 (Or.inl ⟨?hw1101, ?hy1101⟩) (by assumption) ?rest1101
  case hi1101 => simp only [List.getElem?_toArray, List.getElem?_cons_succ, List.getElem?_cons_zero]; rfl
  case hQ1101 => exact fun _ _ _ h => h
  case hw1101 => rfl
  case hy1101 => (intro W hW; skip; go_simp; all_goals rfl)
  simp only [Act.put, List.setIfInBounds_toArray, List.set_cons_zero, List.set_cons_succ]
  refine wpAnyH_ready (rs := [2]) (by kernel_rfl) (by simp) ?_
  refine AllReadyH.cons (i := 2) (o := ?o1102) ?ho1102 (fun Kq hK => ?step1102) AllReadyH.nil
  case ho1102 => simp only [List.getElem?_toArray, List.getElem?_cons_succ, List.getElem?_cons_zero]; rfl
  go_simp
  (obtain ⟨zs, hz8, hQ⟩ := hHeld; go_at_call 125; refine (rend_any _ gr n c s105.1 s105.2 A bs hQ.rdr).mono ?_; rw [HFE.out]; rintro e w7 ⟨rfl, hc7⟩)
  have hF : ∃ zs : Array Value, zs.size = 15 ∧ QR w w7 43 gx gq gr A n c s105 bs zs M := ⟨zs, hz8, hQ.below hc7⟩
  refine hK.out _ _ hF (fun _ => ?_)
  clear hK Kq hQ hz8 hc7
  have hHeld := hF
  clear hF
  try simp only [Act.put, List.setIfInBounds_toArray, List.set_cons_zero, List.set_cons_succ]
  refine wpAnyH_take (i := 3) (oi := ?oi1103) (v := ?v1103) ?hi1103 (by kernel_rfl) (by kernel_rfl) (by kernel_rfl) ?hQ1103 (Or.inl ⟨?hw1103, ?hy1103⟩) (by assumption) ?rest1103
  case hi1103 => simp only [List.getElem?_toArray, List.getElem?_cons_succ, List.getElem?_cons_zero]; rfl
  case hQ1103 => exact fun _ _ _ h => h
  case hw1103 => rfl
  case hy1103 => (intro W hW; skip; go_simp; all_goals rfl)
  simp only [Act.put, List.setIfInBounds_toArray, List.set_cons_zero, List.set_cons_succ]
  refine wpAnyH_ready (rs := [4]) (by kernel_rfl) (by simp) ?_
  refine AllReadyH.cons (i := 4) (o := ?oS1000) ?hoS1000 (fun Kq hK => ?stepS1000) AllReadyH.nil
  case hoS1000 => simp only [List.getElem?_toArray, List.getElem?_cons_succ, List.getElem?_cons_zero]; rfl
  obtain ⟨zs, hz8, hQ⟩ := hHeld
  refine step_store rfl 43 (.tmp 2) (.tmp 113) rfl gx M.cells.toArray rfl rfl 43 zs hQ.res (by rw [infoAn15]; simp [HM1.out.1]) (by rw [hz8]; simp [HM1.out.1]) HM1.out.2 ?_
  intro w8 hs8 hg8
  have hF : ∃ zs : Array Value, zs.size = 15 ∧ QR w w8 43 gx gq gr A n c s105 bs zs M := ⟨M.cells.toArray, by simp [HM1.out.1], hQ.stored hs8 hg8⟩
  have HRES : Hd (w8.heap[gx]? = some (.cells M.cells.toArray 43) ∧ QR w w8 43 gx gq gr A n c s105 bs M.cells.toArray M) := ⟨hs8, hQ.stored hs8 hg8⟩
  refine hK.out _ _ hF (fun _ => ?_)
  clear hK Kq hQ hz8 hs8 hg8
  have hHeld := hF
  clear hF
  try simp only [Act.put, List.setIfInBounds_toArray, List.set_cons_zero, List.set_cons_succ]
  refine wpAnyH_take (i := 5) (oi := ?oi1201) (v := ?v1201) ?hi1201 (by kernel_rfl) (by kernel_rfl) (by kernel_rfl) ?hQ1201 (Or.inl ⟨?hw1201, ?hy1201⟩) (by assumption) ?rest1201
  case hi1201 => simp only [List.getElem?_toArray, List.getElem?_cons_succ, List.getElem?_cons_zero]; rfl
  case hQ1201 => exact fun _ _ _ h => h
  case hw1201 => rfl
  case hy1201 => (intro W hW; skip; go_simp; all_goals rfl)
  simp only [Act.put, List.setIfInBounds_toArray, List.set_cons_zero, List.set_cons_succ]
  refine wpAnyH_done (by kernel_rfl) ?_ _
  clear hHeld
  go_wp2_with fail
  (try simp only [Exit.inBlock, Exit.then])
  refine bodyPost_ret (results_cell_tmp rfl _ _ gx 43 M.cells.toArray (0, 0) _ rfl HRES.out.1 Try.underlying43 rfl (by rw [infoAn15]; simp [HM1.out.1])) rfl ?_
  refine ⟨M, decide (fe = 0), by (first | rfl | (simp [Act.put]; rfl) | skip), HRES.out.2.ch, HM1.out.1, HM1.out.2, ?_⟩
  rw [HRD.out]
  by_cases h0 : fe = 0
  ·exact .inl ⟨_, decide_eq_true h0, if_pos h0, HMI.out, HRES.out.2.ok.lower (by have := HRES.out.2.l1; have := HRES.out.2.l2; have := HRES.out.2.l3; omega)⟩
  ·exact .inr ⟨decide_eq_false h0, if_neg h0⟩
 by_cases k3 : v1 = 3
 ·have kk := k3
  have q2 : ((v1 : Int) == 2) = false := beq_eq_false_iff_ne.2 (by omega)
  have q3 : ((v1 : Int) == 3) = true := by rw [kk]; rfl
  have q4 : ((v1 : Int) == 4) = false := beq_eq_false_iff_ne.2 (by omega)
  have q6 : ((v1 : Int) == 6) = false := beq_eq_false_iff_ne.2 (by omega)
  have q7 : ((v1 : Int) == 7) = false := beq_eq_false_iff_ne.2 (by omega)
  have HK0 := Hd.mk (And.intro kk k0)
  clear kk k3 k0 k8 k2
  go_wp2_with fail
  refine (dBlk (s := s3) 1048576 (by omega) H5.out.rdr).mono ?_
  rintro e wz106 ⟨x106, s106, p106, q106, ez, rfl, hoz, hc, hR⟩
  have HZ : Hd (QR w wz106 43 gx gq gr A n c s106 bs an0 (anW (anX v1 v2 v3 [] [] [] [] false 0 0 0 0 0 0 0) (.slice none 0 0) (.slice none 0 0) (.slice none 0 0))) := ⟨H5.out.call hc hR⟩
  have E106 : Hd (rBlk bs 1048576 s3 = (x106, s106)) := ⟨ez⟩
  have HOZ := Hd.mk (own_base hoz (base' := gq + 1) H5.out.lt)
  clear hoz hc hR ez
  have d0 : wz106.cell? ⟨gq, 3, none⟩ = some (.slice none 0 0) := HZ.out.at_ 3 rfl
  have d1 := HZ.out.z 3
  try clear c0
  try clear c2
  go_upto_region 11 with fail
  try simp only [Act.put]
  obtain ⟨ww106, hww⟩ : ∃ W, wz106.setCell ⟨gq, 3, none⟩ (.slice p106 x106.length q106) = W := ⟨_, rfl⟩
  rw [hww]
  have HB106 : Hd (QR w ww106 43 gx gq gr A n c s106 bs an0 (anW (anX v1 v2 v3 x106 [] [] [] false 0 0 0 0 0 0 0) (.slice p106 x106.length q106) (.slice none 0 0) (.slice none 0 0))) := ⟨by rw [← hww]; exact HZ.out.set (M' := (anW (anX v1 v2 v3 x106 [] [] [] false 0 0 0 0 0 0 0) (.slice p106 x106.length q106) (.slice none 0 0) (.slice none 0 0))) 3 _ rfl (an_ok HOZ.out (an_own HZ.out.ok).2.1 (an_own HZ.out.ok).2.2)⟩
  clear hww HZ d0 d1 H5
  try clear c0
  have c0 : ww106.cell? ⟨gq, 0, none⟩ = some (.int .i64 (v1 : Int)) := HB106.out.at_ 0 rfl
  go_upto_region 24 with fail
  try simp only [Act.put]
  have HW := Hd.mk HB106.out
  clear HB106
  try clear c0
  try clear c2
  obtain ⟨M, hM⟩ : ∃ M, (anW (anX v1 v2 v3 x106 [] [] [] false 0 0 0 0 0 0 0) (.slice p106 x106.length q106) (.slice none 0 0) (.slice none 0 0)) = M := ⟨_, rfl⟩
  have HM1 : Hd (M.cells.length = 15 ∧ M.cells.toArray.all (·.oneCell') = true) := ⟨by rw [← hM]; exact anW_one HW.out.ok⟩
  have HMI : Hd (anIs M (anX v1 v2 v3 x106 [] [] [] false 0 0 0 0 0 0 0)) := ⟨_, _, _, hM.symm⟩
  rw [hM] at HW
  clear hM
  obtain ⟨fe, hfe⟩ : ∃ f, endF n s106.1 s106.2 = f := ⟨_, rfl⟩
  have HFE := Hd.mk hfe
  have hn : bs.length = n := HW.out.rdr.len
  have HRD : Hd (rdAn bs = if fe = 0 then some (anX v1 v2 v3 x106 [] [] [] false 0 0 0 0 0 0 0) else none) := ⟨by
   have ky := HYES.out
   have z0 : unz ((0 : Nat) : Int) = 0 := by decide
   have B8 : decide ((v1 : Int) = 8) = false := by (try unfold qBody); (try unfold qGen); (try unfold qKeys); (try unfold qPage); exact decide_eq_false (by have := HK0.out; omega)
   have BB : qBody (v1 : Int) (v3 : Int) = true := by (try unfold qBody); (try unfold qGen); (try unfold qKeys); (try unfold qPage); exact decide_eq_true (by have := HK0.out; omega)
   have BG : qGen (v1 : Int) (v3 : Int) = false := by (try unfold qBody); (try unfold qGen); (try unfold qKeys); (try unfold qPage); exact decide_eq_false (by have := HK0.out; omega)
   have BK : qKeys (v1 : Int) (v3 : Int) = false := by (try unfold qBody); (try unfold qGen); (try unfold qKeys); (try unfold qPage); exact decide_eq_false (by have := HK0.out; omega)
   have BP : qPage (v1 : Int) (v3 : Int) = false := by (try unfold qBody); (try unfold qGen); (try unfold qKeys); (try unfold qPage); exact decide_eq_false (by have := HK0.out; omega)
   unfold rdAn
   simp only [E1.out, E2.out, E3.out, B8, BB, BG, BK, BP, opt_t, opt_f, E106.out]
   rw [hn, hfe]
   by_cases h0 : fe = 0
   ·rw [if_pos h0, if_pos ⟨by omega, by omega, by omega, by omega, h0⟩]; rfl
   ·rw [if_neg h0, if_neg (fun h => h0 h.2.2.2.2)]⟩
  clear hn hfe
  refine wp_region_held_drew (S := fun W => ∃ zs : Array Value, zs.size = 15 ∧ QR w W 43 gx gq gr A n c s106 bs zs M) (by kernel_rfl) ⟨an0, rfl, HW.out.below (Chg.refl _ _).drew⟩ (fun hHeld => ?_)
  refine wpAnyH_take (i := 0) (oi := ?oiR1300) (v := .agg M.cells.toArray) ?hiR1300 (by kernel_rfl) (by kernel_rfl) (by kernel_rfl) ?hQR1300 ?hyR1300 (by assumption) ?restR1300
  case hiR1300 => simp only [List.getElem?_toArray, List.getElem?_cons_succ, List.getElem?_cons_zero]; rfl
  case hQR1300 => exact fun _ _ _ h => h
  case hyR1300 => exact yieldsIf_load_mid rfl 43 (.tmp 5) rfl gq 0 rfl M.cells _ (fun W hW => let ⟨_, _, h⟩ := hW; h.range) Try.underlying43 rfl (by rw [infoAn15, HM1.out.1])
  simp only [Act.put, List.setIfInBounds_toArray, List.set_cons_zero, List.set_cons_succ]
  refine wpAnyH_take (i := 1) (oi := ?oi1401) (v := ?v1401) ?hi1401 (by kernel_rfl) (by kernel_rfl) (by kernel_rfl) ?hQ1401 (Or.inl ⟨?hw1401, ?hy1401⟩) (by assumption) ?rest1401
  case hi1401 => simp only [List.getElem?_toArray, List.getElem?_cons_succ, List.getElem?_cons_zero]; rfl
  case hQ1401 => exact fun _ _ _ h => h
  case hw1401 => rfl
  case hy1401 => (intro W hW; skip; go_simp; all_goals rfl)
  simp only [Act.put, List.setIfInBounds_toArray, List.set_cons_zero, List.set_cons_succ]
  refine wpAnyH_ready (rs := [2]) (by kernel_rfl) (by simp) ?_
  refine AllReadyH.cons (i := 2) (o := ?o1402) ?ho1402 (fun Kq hK => ?step1402) AllReadyH.nil
  case ho1402 => simp only [List.getElem?_toArray, List.getElem?_cons_succ, List.getElem?_cons_zero]; rfl
  go_simp
  (obtain ⟨zs, hz8, hQ⟩ := hHeld; go_at_call 125; refine (rend_any _ gr n c s106.1 s106.2 A bs hQ.rdr).mono ?_; rw [HFE.out]; rintro e w7 ⟨rfl, hc7⟩)
  have hF : ∃ zs : Array Value, zs.size = 15 ∧ QR w w7 43 gx gq gr A n c s106 bs zs M := ⟨zs, hz8, hQ.below hc7⟩
  refine hK.out _ _ hF (fun _ => ?_)
  clear hK Kq hQ hz8 hc7
  have hHeld := hF
  clear hF
  try simp only [Act.put, List.setIfInBounds_toArray, List.set_cons_zero, List.set_cons_succ]
  refine wpAnyH_take (i := 3) (oi := ?oi1403) (v := ?v1403) ?hi1403 (by kernel_rfl) (by kernel_rfl) (by kernel_rfl) ?hQ1403 (Or.inl ⟨?hw1403, ?hy1403⟩) (by assumption) ?rest1403
  case hi1403 => simp only [List.getElem?_toArray, List.getElem?_cons_succ, List.getElem?_cons_zero]; rfl
  case hQ1403 => exact fun _ _ _ h => h
  case hw1403 => rfl
  case hy1403 => (intro W hW; skip; go_simp; all_goals rfl)
  simp only [Act.put, List.setIfInBounds_toArray, List.set_cons_zero, List.set_cons_succ]
  refine wpAnyH_ready (rs := [4]) (by kernel_rfl) (by simp) ?_
  refine AllReadyH.cons (i := 4) (o := ?oS1300) ?hoS1300 (fun Kq hK => ?stepS1300) AllReadyH.nil
  case hoS1300 => simp only [List.getElem?_toArray, List.getElem?_cons_succ, List.getElem?_cons_zero]; rfl
  obtain ⟨zs, hz8, hQ⟩ := hHeld
  refine step_store rfl 43 (.tmp 2) (.tmp 113) rfl gx M.cells.toArray rfl rfl 43 zs hQ.res (by rw [infoAn15]; simp [HM1.out.1]) (by rw [hz8]; simp [HM1.out.1]) HM1.out.2 ?_
  intro w8 hs8 hg8
  have hF : ∃ zs : Array Value, zs.size = 15 ∧ QR w w8 43 gx gq gr A n c s106 bs zs M := ⟨M.cells.toArray, by simp [HM1.out.1], hQ.stored hs8 hg8⟩
  have HRES : Hd (w8.heap[gx]? = some (.cells M.cells.toArray 43) ∧ QR w w8 43 gx gq gr A n c s106 bs M.cells.toArray M) := ⟨hs8, hQ.stored hs8 hg8⟩
  refine hK.out _ _ hF (fun _ => ?_)
  clear hK Kq hQ hz8 hs8 hg8
  have hHeld := hF
  clear hF
  try simp only [Act.put, List.setIfInBounds_toArray, List.set_cons_zero, List.set_cons_succ]
  refine wpAnyH_take (i := 5) (oi := ?oi1501) (v := ?v1501) ?hi1501 (by kernel_rfl) (by kernel_rfl) (by kernel_rfl) ?hQ1501 (Or.inl ⟨?hw1501, ?hy1501⟩) (by assumption) ?rest1501
  case hi1501 => simp only [List.getElem?_toArray, List.getElem?_cons_succ, List.getElem?_cons_zero]; rfl
  case hQ1501 => exact fun _ _ _ h => h
  case hw1501 => rfl
  case hy1501 => (intro W hW; skip; go_simp; all_goals rfl)
  simp only [Act.put, List.setIfInBounds_toArray, List.set_cons_zero, List.set_cons_succ]
  refine wpAnyH_done (by kernel_rfl) ?_ _
  clear hHeld
  go_wp2_with fail
  (try simp only [Exit.inBlock, Exit.then])
  refine bodyPost_ret (results_cell_tmp rfl _ _ gx 43 M.cells.toArray (0, 0) _ rfl HRES.out.1 Try.underlying43 rfl (by rw [infoAn15]; simp [HM1.out.1])) rfl ?_
  refine ⟨M, decide (fe = 0), by (first | rfl | (simp [Act.put]; rfl) | skip), HRES.out.2.ch, HM1.out.1, HM1.out.2, ?_⟩
  rw [HRD.out]
  by_cases h0 : fe = 0
  ·exact .inl ⟨_, decide_eq_true h0, if_pos h0, HMI.out, HRES.out.2.ok.lower (by have := HRES.out.2.l1; have := HRES.out.2.l2; have := HRES.out.2.l3; omega)⟩
  ·exact .inr ⟨decide_eq_false h0, if_neg h0⟩
 by_cases k4 : v1 = 4
 ·have kk := k4
  have q2 : ((v1 : Int) == 2) = false := beq_eq_false_iff_ne.2 (by omega)
  have q3 : ((v1 : Int) == 3) = false := beq_eq_false_iff_ne.2 (by omega)
  have q4 : ((v1 : Int) == 4) = true := by rw [kk]; rfl
  have q6 : ((v1 : Int) == 6) = false := beq_eq_false_iff_ne.2 (by omega)
  have q7 : ((v1 : Int) == 7) = false := beq_eq_false_iff_ne.2 (by omega)
  have HK0 := Hd.mk (And.intro kk k0)
  clear kk k4 k0 k8 k2 k3
  go_wp2_with fail
  refine (dNumV (s := s3) H5.out.rdr).mono ?_
  rintro e wz107 ⟨x107, s107, ez, rfl, hzb107, hc, hR⟩
  have HN107 : Hd (QR w wz107 43 gx gq gr A n c s107 bs an0 (anW (anX v1 v2 v3 [] [] [] [] false 0 0 0 0 0 0 0) (.slice none 0 0) (.slice none 0 0) (.slice none 0 0))) := ⟨H5.out.call hc hR⟩
  have E107 : Hd (rNum bs s3 = (x107, s107)) := ⟨ez⟩
  obtain ⟨u107q, hu⟩ : ∃ u, unz (x107 : Int) = u := ⟨_, rfl⟩
  rw [hu] at hzb107 ⊢
  have HU107 := Hd.mk hu
  clear hu hc hR ez H5
  try clear c0
  try clear c2
  go_wp2_with fail
  refine (dNumV (s := s107) HN107.out.rdr).mono ?_
  rintro e wz108 ⟨x108, s108, ez, rfl, hzb108, hc, hR⟩
  have HN108 : Hd (QR w wz108 43 gx gq gr A n c s108 bs an0 (anW (anX v1 v2 v3 [] [] [] [] false 0 0 0 0 0 0 0) (.slice none 0 0) (.slice none 0 0) (.slice none 0 0))) := ⟨HN107.out.call hc hR⟩
  have E108 : Hd (rNum bs s107 = (x108, s108)) := ⟨ez⟩
  obtain ⟨u108q, hu⟩ : ∃ u, unz (x108 : Int) = u := ⟨_, rfl⟩
  rw [hu] at hzb108 ⊢
  have HU108 := Hd.mk hu
  clear hu hc hR ez HN107
  try clear c0
  try clear c2
  go_upto_region 13 with (refine at_store (x := .tmp 74) ?_; refine wpList_store_mid rfl 39 (.tmp 74) (.tmp 73) rfl gq 8 #[.int .i64 u107q, .int .i64 u108q] rfl rfl (HN108.out.there 8 2 (by first | decide | rfl | simp [anW])) infoGn (by simp [Value.oneCell']) ?_)
  try simp only [Act.put]
  generalize hww : World.setCells _ _ _ _ = w8
  rw [← HU107.out, ← HU108.out] at hww
  have HE : Hd (QR w w8 43 gx gq gr A n c s108 bs an0 (anW (anX v1 v2 v3 [] [] [] [] false x107 x108 0 0 0 0 0) (.slice none 0 0) (.slice none 0 0) (.slice none 0 0))) := ⟨by rw [← hww]; exact HN108.out.set2 (M' := (anW (anX v1 v2 v3 [] [] [] [] false x107 x108 0 0 0 0 0) (.slice none 0 0) (.slice none 0 0) (.slice none 0 0))) 8 _ _ rfl (an_re HN108.out.ok)⟩
  clear hww HN108 hzb107 HU107 hzb108 HU108
  go_wp2_with fail
  refine (dNumV (s := s108) HE.out.rdr).mono ?_
  rintro e wz109 ⟨x109, s109, ez, rfl, hzb, hc, hR⟩
  have HZ : Hd (QR w wz109 43 gx gq gr A n c s109 bs an0 (anW (anX v1 v2 v3 [] [] [] [] false x107 x108 0 0 0 0 0) (.slice none 0 0) (.slice none 0 0) (.slice none 0 0))) := ⟨HE.out.call hc hR⟩
  have E109 : Hd (rNum bs s108 = (x109, s109)) := ⟨ez⟩
  obtain ⟨u109, hu⟩ : ∃ u, unz (x109 : Int) = u := ⟨_, rfl⟩
  rw [hu] at hzb ⊢
  have HU := Hd.mk hu
  clear hu hc hR ez
  have d0 : wz109.cell? ⟨gq, 10, none⟩ = some (.int .i64 0) := HZ.out.at_ 10 rfl
  have d1 := HZ.out.z 10
  try clear c0
  try clear c2
  go_upto_region 14 with fail
  try simp only [Act.put]
  obtain ⟨ww109, hww⟩ : ∃ W, wz109.setCell ⟨gq, 10, none⟩ (.int .i64 u109) = W := ⟨_, rfl⟩
  rw [hww]
  rw [← HU.out] at hww
  have HB109 : Hd (QR w ww109 43 gx gq gr A n c s109 bs an0 (anW (anX v1 v2 v3 [] [] [] [] false x107 x108 x109 0 0 0 0) (.slice none 0 0) (.slice none 0 0) (.slice none 0 0))) := ⟨by rw [← hww]; exact HZ.out.set (M' := (anW (anX v1 v2 v3 [] [] [] [] false x107 x108 x109 0 0 0 0) (.slice none 0 0) (.slice none 0 0) (.slice none 0 0))) 10 _ rfl (an_re HZ.out.ok)⟩
  clear hww HZ d0 d1 HE
  clear HU
  clear hzb
  try clear hcv
  try clear c0
  have c0 : ww109.cell? ⟨gq, 0, none⟩ = some (.int .i64 (v1 : Int)) := HB109.out.at_ 0 rfl
  go_upto_region 24 with fail
  try simp only [Act.put]
  have HW := Hd.mk HB109.out
  clear HB109
  try clear c0
  try clear c2
  obtain ⟨M, hM⟩ : ∃ M, (anW (anX v1 v2 v3 [] [] [] [] false x107 x108 x109 0 0 0 0) (.slice none 0 0) (.slice none 0 0) (.slice none 0 0)) = M := ⟨_, rfl⟩
  have HM1 : Hd (M.cells.length = 15 ∧ M.cells.toArray.all (·.oneCell') = true) := ⟨by rw [← hM]; exact anW_one HW.out.ok⟩
  have HMI : Hd (anIs M (anX v1 v2 v3 [] [] [] [] false x107 x108 x109 0 0 0 0)) := ⟨_, _, _, hM.symm⟩
  rw [hM] at HW
  clear hM
  obtain ⟨fe, hfe⟩ : ∃ f, endF n s109.1 s109.2 = f := ⟨_, rfl⟩
  have HFE := Hd.mk hfe
  have hn : bs.length = n := HW.out.rdr.len
  have HRD : Hd (rdAn bs = if fe = 0 then some (anX v1 v2 v3 [] [] [] [] false x107 x108 x109 0 0 0 0) else none) := ⟨by
   have ky := HYES.out
   have z0 : unz ((0 : Nat) : Int) = 0 := by decide
   have B8 : decide ((v1 : Int) = 8) = false := by (try unfold qBody); (try unfold qGen); (try unfold qKeys); (try unfold qPage); exact decide_eq_false (by have := HK0.out; omega)
   have BB : qBody (v1 : Int) (v3 : Int) = false := by (try unfold qBody); (try unfold qGen); (try unfold qKeys); (try unfold qPage); exact decide_eq_false (by have := HK0.out; omega)
   have BG : qGen (v1 : Int) (v3 : Int) = true := by (try unfold qBody); (try unfold qGen); (try unfold qKeys); (try unfold qPage); exact decide_eq_true (by have := HK0.out; omega)
   have BK : qKeys (v1 : Int) (v3 : Int) = false := by (try unfold qBody); (try unfold qGen); (try unfold qKeys); (try unfold qPage); exact decide_eq_false (by have := HK0.out; omega)
   have BP : qPage (v1 : Int) (v3 : Int) = false := by (try unfold qBody); (try unfold qGen); (try unfold qKeys); (try unfold qPage); exact decide_eq_false (by have := HK0.out; omega)
   unfold rdAn
   simp only [E1.out, E2.out, E3.out, B8, BB, BG, BK, BP, opt_t, opt_f, E107.out, E108.out, E109.out]
   rw [hn, hfe]
   by_cases h0 : fe = 0
   ·rw [if_pos h0, if_pos ⟨by omega, by omega, by omega, by omega, h0⟩]; rfl
   ·rw [if_neg h0, if_neg (fun h => h0 h.2.2.2.2)]⟩
  clear hn hfe
  refine wp_region_held_drew (S := fun W => ∃ zs : Array Value, zs.size = 15 ∧ QR w W 43 gx gq gr A n c s109 bs zs M) (by kernel_rfl) ⟨an0, rfl, HW.out.below (Chg.refl _ _).drew⟩ (fun hHeld => ?_)
  refine wpAnyH_take (i := 0) (oi := ?oiR1600) (v := .agg M.cells.toArray) ?hiR1600 (by kernel_rfl) (by kernel_rfl) (by kernel_rfl) ?hQR1600 ?hyR1600 (by assumption) ?restR1600
  case hiR1600 => simp only [List.getElem?_toArray, List.getElem?_cons_succ, List.getElem?_cons_zero]; rfl
  case hQR1600 => exact fun _ _ _ h => h
  case hyR1600 => exact yieldsIf_load_mid rfl 43 (.tmp 5) rfl gq 0 rfl M.cells _ (fun W hW => let ⟨_, _, h⟩ := hW; h.range) Try.underlying43 rfl (by rw [infoAn15, HM1.out.1])
  simp only [Act.put, List.setIfInBounds_toArray, List.set_cons_zero, List.set_cons_succ]
  refine wpAnyH_take (i := 1) (oi := ?oi1701) (v := ?v1701) ?hi1701 (by kernel_rfl) (by kernel_rfl) (by kernel_rfl) ?hQ1701 (Or.inl ⟨?hw1701, ?hy1701⟩) (by assumption) ?rest1701
  case hi1701 => simp only [List.getElem?_toArray, List.getElem?_cons_succ, List.getElem?_cons_zero]; rfl
  case hQ1701 => exact fun _ _ _ h => h
  case hw1701 => rfl
  case hy1701 => (intro W hW; skip; go_simp; all_goals rfl)
  simp only [Act.put, List.setIfInBounds_toArray, List.set_cons_zero, List.set_cons_succ]
  refine wpAnyH_ready (rs := [2]) (by kernel_rfl) (by simp) ?_
  refine AllReadyH.cons (i := 2) (o := ?o1702) ?ho1702 (fun Kq hK => ?step1702) AllReadyH.nil
  case ho1702 => simp only [List.getElem?_toArray, List.getElem?_cons_succ, List.getElem?_cons_zero]; rfl
  go_simp
  (obtain ⟨zs, hz8, hQ⟩ := hHeld; go_at_call 125; refine (rend_any _ gr n c s109.1 s109.2 A bs hQ.rdr).mono ?_; rw [HFE.out]; rintro e w7 ⟨rfl, hc7⟩)
  have hF : ∃ zs : Array Value, zs.size = 15 ∧ QR w w7 43 gx gq gr A n c s109 bs zs M := ⟨zs, hz8, hQ.below hc7⟩
  refine hK.out _ _ hF (fun _ => ?_)
  clear hK Kq hQ hz8 hc7
  have hHeld := hF
  clear hF
  try simp only [Act.put, List.setIfInBounds_toArray, List.set_cons_zero, List.set_cons_succ]
  refine wpAnyH_take (i := 3) (oi := ?oi1703) (v := ?v1703) ?hi1703 (by kernel_rfl) (by kernel_rfl) (by kernel_rfl) ?hQ1703 (Or.inl ⟨?hw1703, ?hy1703⟩) (by assumption) ?rest1703
  case hi1703 => simp only [List.getElem?_toArray, List.getElem?_cons_succ, List.getElem?_cons_zero]; rfl
  case hQ1703 => exact fun _ _ _ h => h
  case hw1703 => rfl
  case hy1703 => (intro W hW; skip; go_simp; all_goals rfl)
  simp only [Act.put, List.setIfInBounds_toArray, List.set_cons_zero, List.set_cons_succ]
  refine wpAnyH_ready (rs := [4]) (by kernel_rfl) (by simp) ?_
  refine AllReadyH.cons (i := 4) (o := ?oS1600) ?hoS1600 (fun Kq hK => ?stepS1600) AllReadyH.nil
  case hoS1600 => simp only [List.getElem?_toArray, List.getElem?_cons_succ, List.getElem?_cons_zero]; rfl
  obtain ⟨zs, hz8, hQ⟩ := hHeld
  refine step_store rfl 43 (.tmp 2) (.tmp 113) rfl gx M.cells.toArray rfl rfl 43 zs hQ.res (by rw [infoAn15]; simp [HM1.out.1]) (by rw [hz8]; simp [HM1.out.1]) HM1.out.2 ?_
  intro w8 hs8 hg8
  have hF : ∃ zs : Array Value, zs.size = 15 ∧ QR w w8 43 gx gq gr A n c s109 bs zs M := ⟨M.cells.toArray, by simp [HM1.out.1], hQ.stored hs8 hg8⟩
  have HRES : Hd (w8.heap[gx]? = some (.cells M.cells.toArray 43) ∧ QR w w8 43 gx gq gr A n c s109 bs M.cells.toArray M) := ⟨hs8, hQ.stored hs8 hg8⟩
  refine hK.out _ _ hF (fun _ => ?_)
  clear hK Kq hQ hz8 hs8 hg8
  have hHeld := hF
  clear hF
  try simp only [Act.put, List.setIfInBounds_toArray, List.set_cons_zero, List.set_cons_succ]
  refine wpAnyH_take (i := 5) (oi := ?oi1801) (v := ?v1801) ?hi1801 (by kernel_rfl) (by kernel_rfl) (by kernel_rfl) ?hQ1801 (Or.inl ⟨?hw1801, ?hy1801⟩) (by assumption) ?rest1801
  case hi1801 => simp only [List.getElem?_toArray, List.getElem?_cons_succ, List.getElem?_cons_zero]; rfl
  case hQ1801 => exact fun _ _ _ h => h
  case hw1801 => rfl
  case hy1801 => (intro W hW; skip; go_simp; all_goals rfl)
  simp only [Act.put, List.setIfInBounds_toArray, List.set_cons_zero, List.set_cons_succ]
  refine wpAnyH_done (by kernel_rfl) ?_ _
  clear hHeld
  go_wp2_with fail
  (try simp only [Exit.inBlock, Exit.then])
  refine bodyPost_ret (results_cell_tmp rfl _ _ gx 43 M.cells.toArray (0, 0) _ rfl HRES.out.1 Try.underlying43 rfl (by rw [infoAn15]; simp [HM1.out.1])) rfl ?_
  refine ⟨M, decide (fe = 0), by (first | rfl | (simp [Act.put]; rfl) | skip), HRES.out.2.ch, HM1.out.1, HM1.out.2, ?_⟩
  rw [HRD.out]
  by_cases h0 : fe = 0
  ·exact .inl ⟨_, decide_eq_true h0, if_pos h0, HMI.out, HRES.out.2.ok.lower (by have := HRES.out.2.l1; have := HRES.out.2.l2; have := HRES.out.2.l3; omega)⟩
  ·exact .inr ⟨decide_eq_false h0, if_neg h0⟩
 by_cases k6 : v1 = 6
 ·have kk := k6
  have q2 : ((v1 : Int) == 2) = false := beq_eq_false_iff_ne.2 (by omega)
  have q3 : ((v1 : Int) == 3) = false := beq_eq_false_iff_ne.2 (by omega)
  have q4 : ((v1 : Int) == 4) = false := beq_eq_false_iff_ne.2 (by omega)
  have q6 : ((v1 : Int) == 6) = true := by rw [kk]; rfl
  have q7 : ((v1 : Int) == 7) = false := beq_eq_false_iff_ne.2 (by omega)
  have HK0 := Hd.mk (And.intro kk k0)
  have HM6 : Hd (qMost (v1 : Int) = 65536) := ⟨by unfold qMost; rw [if_pos (by omega)]⟩
  clear kk k6 k0 k8 k2 k3 k4
  go_wp2_with fail
  refine (dTxt (s := s3) 65536 255 (by omega) (by omega) H5.out.rdr).mono ?_
  rintro e wz110 ⟨x110, s110, p110, q110, ez, rfl, hoz, hc, hR⟩
  have HZ : Hd (QR w wz110 43 gx gq gr A n c s110 bs an0 (anW (anX v1 v2 v3 [] [] [] [] false 0 0 0 0 0 0 0) (.slice none 0 0) (.slice none 0 0) (.slice none 0 0))) := ⟨H5.out.call hc hR⟩
  have E110 : Hd (rTxt bs 65536 255 s3 = (x110, s110)) := ⟨ez⟩
  have HOZ := Hd.mk (own_base hoz (base' := gq + 1) H5.out.lt)
  clear hoz hc hR ez
  have d0 : wz110.cell? ⟨gq, 4, none⟩ = some (.slice none 0 0) := HZ.out.at_ 4 rfl
  have d1 := HZ.out.z 4
  try clear c0
  try clear c2
  go_upto_region 16 with fail
  try simp only [Act.put]
  obtain ⟨ww110, hww⟩ : ∃ W, wz110.setCell ⟨gq, 4, none⟩ (.slice p110 x110.length q110) = W := ⟨_, rfl⟩
  rw [hww]
  have HB110 : Hd (QR w ww110 43 gx gq gr A n c s110 bs an0 (anW (anX v1 v2 v3 [] x110 [] [] false 0 0 0 0 0 0 0) (.slice none 0 0) (.slice p110 x110.length q110) (.slice none 0 0))) := ⟨by rw [← hww]; exact HZ.out.set (M' := (anW (anX v1 v2 v3 [] x110 [] [] false 0 0 0 0 0 0 0) (.slice none 0 0) (.slice p110 x110.length q110) (.slice none 0 0))) 4 _ rfl (an_ok (an_own HZ.out.ok).1 HOZ.out (an_own HZ.out.ok).2.2)⟩
  clear hww HZ d0 d1 H5
  try clear c0
  have c0 : ww110.cell? ⟨gq, 0, none⟩ = some (.int .i64 (v1 : Int)) := HB110.out.at_ 0 rfl
  go_upto_region 24 with fail
  try simp only [Act.put]
  have HW := Hd.mk HB110.out
  clear HB110
  try clear c0
  try clear c2
  obtain ⟨M, hM⟩ : ∃ M, (anW (anX v1 v2 v3 [] x110 [] [] false 0 0 0 0 0 0 0) (.slice none 0 0) (.slice p110 x110.length q110) (.slice none 0 0)) = M := ⟨_, rfl⟩
  have HM1 : Hd (M.cells.length = 15 ∧ M.cells.toArray.all (·.oneCell') = true) := ⟨by rw [← hM]; exact anW_one HW.out.ok⟩
  have HMI : Hd (anIs M (anX v1 v2 v3 [] x110 [] [] false 0 0 0 0 0 0 0)) := ⟨_, _, _, hM.symm⟩
  rw [hM] at HW
  clear hM
  obtain ⟨fe, hfe⟩ : ∃ f, endF n s110.1 s110.2 = f := ⟨_, rfl⟩
  have HFE := Hd.mk hfe
  have hn : bs.length = n := HW.out.rdr.len
  have HRD : Hd (rdAn bs = if fe = 0 then some (anX v1 v2 v3 [] x110 [] [] false 0 0 0 0 0 0 0) else none) := ⟨by
   have ky := HYES.out
   have z0 : unz ((0 : Nat) : Int) = 0 := by decide
   have B8 : decide ((v1 : Int) = 8) = false := by (try unfold qBody); (try unfold qGen); (try unfold qKeys); (try unfold qPage); exact decide_eq_false (by have := HK0.out; omega)
   have BB : qBody (v1 : Int) (v3 : Int) = false := by (try unfold qBody); (try unfold qGen); (try unfold qKeys); (try unfold qPage); exact decide_eq_false (by have := HK0.out; omega)
   have BG : qGen (v1 : Int) (v3 : Int) = false := by (try unfold qBody); (try unfold qGen); (try unfold qKeys); (try unfold qPage); exact decide_eq_false (by have := HK0.out; omega)
   have BK : qKeys (v1 : Int) (v3 : Int) = true := by (try unfold qBody); (try unfold qGen); (try unfold qKeys); (try unfold qPage); exact decide_eq_true (by have := HK0.out; omega)
   have BP : qPage (v1 : Int) (v3 : Int) = false := by (try unfold qBody); (try unfold qGen); (try unfold qKeys); (try unfold qPage); exact decide_eq_false (by have := HK0.out; omega)
   unfold rdAn
   simp only [E1.out, E2.out, E3.out, B8, BB, BG, BK, BP, opt_t, opt_f, HM6.out, E110.out]
   rw [hn, hfe]
   by_cases h0 : fe = 0
   ·rw [if_pos h0, if_pos ⟨by omega, by omega, by omega, by omega, h0⟩]; rfl
   ·rw [if_neg h0, if_neg (fun h => h0 h.2.2.2.2)]⟩
  clear hn hfe
  refine wp_region_held_drew (S := fun W => ∃ zs : Array Value, zs.size = 15 ∧ QR w W 43 gx gq gr A n c s110 bs zs M) (by kernel_rfl) ⟨an0, rfl, HW.out.below (Chg.refl _ _).drew⟩ (fun hHeld => ?_)
  refine wpAnyH_take (i := 0) (oi := ?oiR1900) (v := .agg M.cells.toArray) ?hiR1900 (by kernel_rfl) (by kernel_rfl) (by kernel_rfl) ?hQR1900 ?hyR1900 (by assumption) ?restR1900
  case hiR1900 => simp only [List.getElem?_toArray, List.getElem?_cons_succ, List.getElem?_cons_zero]; rfl
  case hQR1900 => exact fun _ _ _ h => h
  case hyR1900 => exact yieldsIf_load_mid rfl 43 (.tmp 5) rfl gq 0 rfl M.cells _ (fun W hW => let ⟨_, _, h⟩ := hW; h.range) Try.underlying43 rfl (by rw [infoAn15, HM1.out.1])
  simp only [Act.put, List.setIfInBounds_toArray, List.set_cons_zero, List.set_cons_succ]
  refine wpAnyH_take (i := 1) (oi := ?oi2001) (v := ?v2001) ?hi2001 (by kernel_rfl) (by kernel_rfl) (by kernel_rfl) ?hQ2001 (Or.inl ⟨?hw2001, ?hy2001⟩) (by assumption) ?rest2001
  case hi2001 => simp only [List.getElem?_toArray, List.getElem?_cons_succ, List.getElem?_cons_zero]; rfl
  case hQ2001 => exact fun _ _ _ h => h
  case hw2001 => rfl
  case hy2001 => (intro W hW; skip; go_simp; all_goals rfl)
  simp only [Act.put, List.setIfInBounds_toArray, List.set_cons_zero, List.set_cons_succ]
  refine wpAnyH_ready (rs := [2]) (by kernel_rfl) (by simp) ?_
  refine AllReadyH.cons (i := 2) (o := ?o2002) ?ho2002 (fun Kq hK => ?step2002) AllReadyH.nil
  case ho2002 => simp only [List.getElem?_toArray, List.getElem?_cons_succ, List.getElem?_cons_zero]; rfl
  go_simp
  (obtain ⟨zs, hz8, hQ⟩ := hHeld; go_at_call 125; refine (rend_any _ gr n c s110.1 s110.2 A bs hQ.rdr).mono ?_; rw [HFE.out]; rintro e w7 ⟨rfl, hc7⟩)
  have hF : ∃ zs : Array Value, zs.size = 15 ∧ QR w w7 43 gx gq gr A n c s110 bs zs M := ⟨zs, hz8, hQ.below hc7⟩
  refine hK.out _ _ hF (fun _ => ?_)
  clear hK Kq hQ hz8 hc7
  have hHeld := hF
  clear hF
  try simp only [Act.put, List.setIfInBounds_toArray, List.set_cons_zero, List.set_cons_succ]
  refine wpAnyH_take (i := 3) (oi := ?oi2003) (v := ?v2003) ?hi2003 (by kernel_rfl) (by kernel_rfl) (by kernel_rfl) ?hQ2003 (Or.inl ⟨?hw2003, ?hy2003⟩) (by assumption) ?rest2003
  case hi2003 => simp only [List.getElem?_toArray, List.getElem?_cons_succ, List.getElem?_cons_zero]; rfl
  case hQ2003 => exact fun _ _ _ h => h
  case hw2003 => rfl
  case hy2003 => (intro W hW; skip; go_simp; all_goals rfl)
  simp only [Act.put, List.setIfInBounds_toArray, List.set_cons_zero, List.set_cons_succ]
  refine wpAnyH_ready (rs := [4]) (by kernel_rfl) (by simp) ?_
  refine AllReadyH.cons (i := 4) (o := ?oS1900) ?hoS1900 (fun Kq hK => ?stepS1900) AllReadyH.nil
  case hoS1900 => simp only [List.getElem?_toArray, List.getElem?_cons_succ, List.getElem?_cons_zero]; rfl
  obtain ⟨zs, hz8, hQ⟩ := hHeld
  refine step_store rfl 43 (.tmp 2) (.tmp 113) rfl gx M.cells.toArray rfl rfl 43 zs hQ.res (by rw [infoAn15]; simp [HM1.out.1]) (by rw [hz8]; simp [HM1.out.1]) HM1.out.2 ?_
  intro w8 hs8 hg8
  have hF : ∃ zs : Array Value, zs.size = 15 ∧ QR w w8 43 gx gq gr A n c s110 bs zs M := ⟨M.cells.toArray, by simp [HM1.out.1], hQ.stored hs8 hg8⟩
  have HRES : Hd (w8.heap[gx]? = some (.cells M.cells.toArray 43) ∧ QR w w8 43 gx gq gr A n c s110 bs M.cells.toArray M) := ⟨hs8, hQ.stored hs8 hg8⟩
  refine hK.out _ _ hF (fun _ => ?_)
  clear hK Kq hQ hz8 hs8 hg8
  have hHeld := hF
  clear hF
  try simp only [Act.put, List.setIfInBounds_toArray, List.set_cons_zero, List.set_cons_succ]
  refine wpAnyH_take (i := 5) (oi := ?oi2101) (v := ?v2101) ?hi2101 (by kernel_rfl) (by kernel_rfl) (by kernel_rfl) ?hQ2101 (Or.inl ⟨?hw2101, ?hy2101⟩) (by assumption) ?rest2101
  case hi2101 => simp only [List.getElem?_toArray, List.getElem?_cons_succ, List.getElem?_cons_zero]; rfl
  case hQ2101 => exact fun _ _ _ h => h
  case hw2101 => rfl
  case hy2101 => (intro W hW; skip; go_simp; all_goals rfl)
  simp only [Act.put, List.setIfInBounds_toArray, List.set_cons_zero, List.set_cons_succ]
  refine wpAnyH_done (by kernel_rfl) ?_ _
  clear hHeld
  go_wp2_with fail
  (try simp only [Exit.inBlock, Exit.then])
  refine bodyPost_ret (results_cell_tmp rfl _ _ gx 43 M.cells.toArray (0, 0) _ rfl HRES.out.1 Try.underlying43 rfl (by rw [infoAn15]; simp [HM1.out.1])) rfl ?_
  refine ⟨M, decide (fe = 0), by (first | rfl | (simp [Act.put]; rfl) | skip), HRES.out.2.ch, HM1.out.1, HM1.out.2, ?_⟩
  rw [HRD.out]
  by_cases h0 : fe = 0
  ·exact .inl ⟨_, decide_eq_true h0, if_pos h0, HMI.out, HRES.out.2.ok.lower (by have := HRES.out.2.l1; have := HRES.out.2.l2; have := HRES.out.2.l3; omega)⟩
  ·exact .inr ⟨decide_eq_false h0, if_neg h0⟩
 by_cases k7 : v1 = 7
 ·have kk := k7
  have q2 : ((v1 : Int) == 2) = false := beq_eq_false_iff_ne.2 (by omega)
  have q3 : ((v1 : Int) == 3) = false := beq_eq_false_iff_ne.2 (by omega)
  have q4 : ((v1 : Int) == 4) = false := beq_eq_false_iff_ne.2 (by omega)
  have q6 : ((v1 : Int) == 6) = false := beq_eq_false_iff_ne.2 (by omega)
  have q7 : ((v1 : Int) == 7) = true := by rw [kk]; rfl
  have HK0 := Hd.mk (And.intro kk k0)
  have HM6 : Hd (qMost (v1 : Int) = 1000) := ⟨by unfold qMost; rw [if_neg (by omega)]⟩
  clear kk k7 k0 k8 k2 k3 k4 k6
  go_wp2_with fail
  refine (dTxt (s := s3) 1000 255 (by omega) (by omega) H5.out.rdr).mono ?_
  rintro e wz111 ⟨x111, s111, p111, q111, ez, rfl, hoz, hc, hR⟩
  have HZ : Hd (QR w wz111 43 gx gq gr A n c s111 bs an0 (anW (anX v1 v2 v3 [] [] [] [] false 0 0 0 0 0 0 0) (.slice none 0 0) (.slice none 0 0) (.slice none 0 0))) := ⟨H5.out.call hc hR⟩
  have E111 : Hd (rTxt bs 1000 255 s3 = (x111, s111)) := ⟨ez⟩
  have HOZ := Hd.mk (own_base hoz (base' := gq + 1) H5.out.lt)
  clear hoz hc hR ez
  have d0 : wz111.cell? ⟨gq, 4, none⟩ = some (.slice none 0 0) := HZ.out.at_ 4 rfl
  have d1 := HZ.out.z 4
  try clear c0
  try clear c2
  go_upto_region 18 with fail
  try simp only [Act.put]
  obtain ⟨ww111, hww⟩ : ∃ W, wz111.setCell ⟨gq, 4, none⟩ (.slice p111 x111.length q111) = W := ⟨_, rfl⟩
  rw [hww]
  have HB111 : Hd (QR w ww111 43 gx gq gr A n c s111 bs an0 (anW (anX v1 v2 v3 [] x111 [] [] false 0 0 0 0 0 0 0) (.slice none 0 0) (.slice p111 x111.length q111) (.slice none 0 0))) := ⟨by rw [← hww]; exact HZ.out.set (M' := (anW (anX v1 v2 v3 [] x111 [] [] false 0 0 0 0 0 0 0) (.slice none 0 0) (.slice p111 x111.length q111) (.slice none 0 0))) 4 _ rfl (an_ok (an_own HZ.out.ok).1 HOZ.out (an_own HZ.out.ok).2.2)⟩
  clear hww HZ d0 d1 H5
  go_wp2_with fail
  refine (dTxt (s := s111) 1000 255 (by omega) (by omega) HB111.out.rdr).mono ?_
  rintro e wz112 ⟨x112, s112, p112, q112, ez, rfl, hoz, hc, hR⟩
  have HZ : Hd (QR w wz112 43 gx gq gr A n c s112 bs an0 (anW (anX v1 v2 v3 [] x111 [] [] false 0 0 0 0 0 0 0) (.slice none 0 0) (.slice p111 x111.length q111) (.slice none 0 0))) := ⟨HB111.out.call hc hR⟩
  have E112 : Hd (rTxt bs 1000 255 s111 = (x112, s112)) := ⟨ez⟩
  have HOZ := Hd.mk (own_base hoz (base' := gq + 1) HB111.out.lt)
  clear hoz hc hR ez
  have d0 : wz112.cell? ⟨gq, 5, none⟩ = some (.slice none 0 0) := HZ.out.at_ 5 rfl
  have d1 := HZ.out.z 5
  try clear c0
  try clear c2
  go_upto_region 19 with fail
  try simp only [Act.put]
  obtain ⟨ww112, hww⟩ : ∃ W, wz112.setCell ⟨gq, 5, none⟩ (.slice p112 x112.length q112) = W := ⟨_, rfl⟩
  rw [hww]
  have HB112 : Hd (QR w ww112 43 gx gq gr A n c s112 bs an0 (anW (anX v1 v2 v3 [] x111 x112 [] false 0 0 0 0 0 0 0) (.slice none 0 0) (.slice p111 x111.length q111) (.slice p112 x112.length q112))) := ⟨by rw [← hww]; exact HZ.out.set (M' := (anW (anX v1 v2 v3 [] x111 x112 [] false 0 0 0 0 0 0 0) (.slice none 0 0) (.slice p111 x111.length q111) (.slice p112 x112.length q112))) 5 _ rfl (an_ok (an_own HZ.out.ok).1 (an_own HZ.out.ok).2.1 HOZ.out)⟩
  clear hww HZ d0 d1 HB111
  go_wp2_with fail
  refine (dBlk (s := s112) 255 (by omega) HB112.out.rdr).mono ?_
  rintro e wz113 ⟨x113, s113, p113, q113, ez, rfl, hoz, hc, hR⟩
  have HZ : Hd (QR w wz113 43 gx gq gr A n c s113 bs an0 (anW (anX v1 v2 v3 [] x111 x112 [] false 0 0 0 0 0 0 0) (.slice none 0 0) (.slice p111 x111.length q111) (.slice p112 x112.length q112))) := ⟨HB112.out.call hc hR⟩
  have E113 : Hd (rBlk bs 255 s112 = (x113, s113)) := ⟨ez⟩
  have hcv : (convert 26 9 (.slice p113 x113.length q113)).run Try.prog wz113 = .ok (.string (bstr x113)) wz113 := conv_any (Rd.of_own hoz)
  generalize hS : bstr x113 = S113 at hcv
  have HU := Hd.mk hS
  clear hS hoz hc hR ez
  have d0 : wz113.cell? ⟨gq, 6, none⟩ = some (.string emS) := HZ.out.at_ 6 rfl
  have d1 := HZ.out.z 6
  try clear c0
  try clear c2
  go_upto_region 20 with fail
  try simp only [Act.put]
  obtain ⟨ww113, hww⟩ : ∃ W, wz113.setCell ⟨gq, 6, none⟩ (.string S113) = W := ⟨_, rfl⟩
  rw [hww]
  rw [← HU.out] at hww
  have HB113 : Hd (QR w ww113 43 gx gq gr A n c s113 bs an0 (anW (anX v1 v2 v3 [] x111 x112 x113 false 0 0 0 0 0 0 0) (.slice none 0 0) (.slice p111 x111.length q111) (.slice p112 x112.length q112))) := ⟨by rw [← hww]; exact HZ.out.set (M' := (anW (anX v1 v2 v3 [] x111 x112 x113 false 0 0 0 0 0 0 0) (.slice none 0 0) (.slice p111 x111.length q111) (.slice p112 x112.length q112))) 6 _ rfl (an_re HZ.out.ok)⟩
  clear hww HZ d0 d1 HB112
  clear HU
  try clear hcv
  go_wp2_with fail
  refine (dFix1 (s := s113) HB113.out.rdr).mono ?_
  rintro e wf ⟨vf, sf, ef, rfl, hvf, hc, hR⟩
  have HF : Hd (QR w wf 43 gx gq gr A n c sf bs an0 (anW (anX v1 v2 v3 [] x111 x112 x113 false 0 0 0 0 0 0 0) (.slice none 0 0) (.slice p111 x111.length q111) (.slice p112 x112.length q112))) := ⟨HB113.out.call hc hR⟩
  have EF := Hd.mk ef
  clear hc hR ef HB113
  by_cases hm1 : 1 < vf
  ·have hm1i : (1 : Int) < (vf : Int) := by omega
   have HNO : Hd (rdAn bs = none) := ⟨by
    have ky := HYES.out
    have B8 : decide ((v1 : Int) = 8) = false := by (try unfold qBody); (try unfold qGen); (try unfold qKeys); (try unfold qPage); exact decide_eq_false (by have := HK0.out; omega)
    have BB : qBody (v1 : Int) (v3 : Int) = false := by (try unfold qBody); (try unfold qGen); (try unfold qKeys); (try unfold qPage); exact decide_eq_false (by have := HK0.out; omega)
    have BG : qGen (v1 : Int) (v3 : Int) = false := by (try unfold qBody); (try unfold qGen); (try unfold qKeys); (try unfold qPage); exact decide_eq_false (by have := HK0.out; omega)
    have BK : qKeys (v1 : Int) (v3 : Int) = true := by (try unfold qBody); (try unfold qGen); (try unfold qKeys); (try unfold qPage); exact decide_eq_true (by have := HK0.out; omega)
    have BP : qPage (v1 : Int) (v3 : Int) = true := by (try unfold qBody); (try unfold qGen); (try unfold qKeys); (try unfold qPage); exact decide_eq_true (by have := HK0.out; omega)
    unfold rdAn
    simp only [E1.out, E2.out, E3.out, B8, BB, BG, BK, BP, opt_t, opt_f, HM6.out, E111.out, E112.out, E113.out, EF.out]
    rw [if_neg (fun h => (by have := h.2.2.2.1; omega))]⟩
   have hrow := HF.out.res
   have hch := Hd.mk (And.intro HF.out.ch HF.out.l1)
   go_wp2_with (refine at_store (x := .tmp 2) ?_; refine wpList_stored rfl 43 (.tmp 2) (.tmp 109) rfl gx an0 rfl rfl 43 an0 hrow infoAn15 rfl (by simp [an0, Value.oneCell']) ?_; intro w9 hB9)
   (try simp only [Exit.inBlock, Exit.then])
   refine bodyPost_ret (results_cell_tmp rfl _ _ gx 43 an0 (0, 0) _ rfl hB9.out.1 Try.underlying43 rfl infoAn15) rfl ?_
   exact ⟨⟨an0.toList, []⟩, false, rfl, ⟨hB9.out.2.1.os.trans hch.out.1.os, hB9.out.2.1.tape.trans hch.out.1.tape, hB9.out.2.1.output.trans hch.out.1.output, Nat.le_trans hch.out.1.size hB9.out.2.1.size, fun k hk hm => (hB9.out.2.1.block k (Nat.lt_of_lt_of_le hk hch.out.1.size) (by have := hch.out.2; intro h; injection h; omega)).trans (hch.out.1.block k hk hm)⟩, rfl, by simp [an0, Value.oneCell'], .inr ⟨rfl, HNO.out⟩⟩
  have hm1i : ¬ (1 : Int) < (vf : Int) := by omega
  have HVF : Hd (vf ≤ 1) := ⟨by omega⟩
  have hvb : ((vf : Int) == 1) = decide (vf = 1) := by rw [Bool.eq_iff_iff]; simp; omega
  clear hm1
  have d7 : wf.cell? ⟨gq, 7, none⟩ = some (.bool false) := HF.out.at_ 7 rfl
  have z7 := HF.out.z 7
  generalize hdv : decide (vf = 1) = dv at hvb
  have HDV := Hd.mk hdv
  clear hdv
  go_upto_region 24 with fail
  try simp only [Act.put]
  obtain ⟨wg, hwg⟩ : ∃ W, wf.setCell ⟨gq, 7, none⟩ (.bool dv) = W := ⟨_, rfl⟩
  rw [hwg]
  rw [← HDV.out] at hwg
  have HBF : Hd (QR w wg 43 gx gq gr A n c sf bs an0 (anW (anX v1 v2 v3 [] x111 x112 x113 (decide (vf = 1)) 0 0 0 0 0 0 0) (.slice none 0 0) (.slice p111 x111.length q111) (.slice p112 x112.length q112))) := ⟨by rw [← hwg]; exact HF.out.set (M' := (anW (anX v1 v2 v3 [] x111 x112 x113 (decide (vf = 1)) 0 0 0 0 0 0 0) (.slice none 0 0) (.slice p111 x111.length q111) (.slice p112 x112.length q112))) 7 _ rfl (an_re HF.out.ok)⟩
  clear hwg HF d7 z7 HDV hvb
  try clear c0
  have c0 : wg.cell? ⟨gq, 0, none⟩ = some (.int .i64 (v1 : Int)) := HBF.out.at_ 0 rfl
  go_upto_region 24 with fail
  try simp only [Act.put]
  have HW := Hd.mk HBF.out
  clear HBF
  try clear c0
  try clear c2
  obtain ⟨M, hM⟩ : ∃ M, (anW (anX v1 v2 v3 [] x111 x112 x113 (decide (vf = 1)) 0 0 0 0 0 0 0) (.slice none 0 0) (.slice p111 x111.length q111) (.slice p112 x112.length q112)) = M := ⟨_, rfl⟩
  have HM1 : Hd (M.cells.length = 15 ∧ M.cells.toArray.all (·.oneCell') = true) := ⟨by rw [← hM]; exact anW_one HW.out.ok⟩
  have HMI : Hd (anIs M (anX v1 v2 v3 [] x111 x112 x113 (decide (vf = 1)) 0 0 0 0 0 0 0)) := ⟨_, _, _, hM.symm⟩
  rw [hM] at HW
  clear hM
  obtain ⟨fe, hfe⟩ : ∃ f, endF n sf.1 sf.2 = f := ⟨_, rfl⟩
  have HFE := Hd.mk hfe
  have hn : bs.length = n := HW.out.rdr.len
  have HRD : Hd (rdAn bs = if fe = 0 then some (anX v1 v2 v3 [] x111 x112 x113 (decide (vf = 1)) 0 0 0 0 0 0 0) else none) := ⟨by
   have ky := HYES.out
   have z0 : unz ((0 : Nat) : Int) = 0 := by decide
   have hvf1 := HVF.out
   have B8 : decide ((v1 : Int) = 8) = false := by (try unfold qBody); (try unfold qGen); (try unfold qKeys); (try unfold qPage); exact decide_eq_false (by have := HK0.out; omega)
   have BB : qBody (v1 : Int) (v3 : Int) = false := by (try unfold qBody); (try unfold qGen); (try unfold qKeys); (try unfold qPage); exact decide_eq_false (by have := HK0.out; omega)
   have BG : qGen (v1 : Int) (v3 : Int) = false := by (try unfold qBody); (try unfold qGen); (try unfold qKeys); (try unfold qPage); exact decide_eq_false (by have := HK0.out; omega)
   have BK : qKeys (v1 : Int) (v3 : Int) = true := by (try unfold qBody); (try unfold qGen); (try unfold qKeys); (try unfold qPage); exact decide_eq_true (by have := HK0.out; omega)
   have BP : qPage (v1 : Int) (v3 : Int) = true := by (try unfold qBody); (try unfold qGen); (try unfold qKeys); (try unfold qPage); exact decide_eq_true (by have := HK0.out; omega)
   unfold rdAn
   simp only [E1.out, E2.out, E3.out, B8, BB, BG, BK, BP, opt_t, opt_f, HM6.out, E111.out, E112.out, E113.out, EF.out]
   rw [hn, hfe]
   by_cases h0 : fe = 0
   ·rw [if_pos h0, if_pos ⟨by omega, by omega, by omega, by omega, h0⟩]; rfl
   ·rw [if_neg h0, if_neg (fun h => h0 h.2.2.2.2)]⟩
  clear hn hfe
  refine wp_region_held_drew (S := fun W => ∃ zs : Array Value, zs.size = 15 ∧ QR w W 43 gx gq gr A n c sf bs zs M) (by kernel_rfl) ⟨an0, rfl, HW.out.below (Chg.refl _ _).drew⟩ (fun hHeld => ?_)
  refine wpAnyH_take (i := 0) (oi := ?oiR2200) (v := .agg M.cells.toArray) ?hiR2200 (by kernel_rfl) (by kernel_rfl) (by kernel_rfl) ?hQR2200 ?hyR2200 (by assumption) ?restR2200
  case hiR2200 => simp only [List.getElem?_toArray, List.getElem?_cons_succ, List.getElem?_cons_zero]; rfl
  case hQR2200 => exact fun _ _ _ h => h
  case hyR2200 => exact yieldsIf_load_mid rfl 43 (.tmp 5) rfl gq 0 rfl M.cells _ (fun W hW => let ⟨_, _, h⟩ := hW; h.range) Try.underlying43 rfl (by rw [infoAn15, HM1.out.1])
  simp only [Act.put, List.setIfInBounds_toArray, List.set_cons_zero, List.set_cons_succ]
  refine wpAnyH_take (i := 1) (oi := ?oi2301) (v := ?v2301) ?hi2301 (by kernel_rfl) (by kernel_rfl) (by kernel_rfl) ?hQ2301 (Or.inl ⟨?hw2301, ?hy2301⟩) (by assumption) ?rest2301
  case hi2301 => simp only [List.getElem?_toArray, List.getElem?_cons_succ, List.getElem?_cons_zero]; rfl
  case hQ2301 => exact fun _ _ _ h => h
  case hw2301 => rfl
  case hy2301 => (intro W hW; skip; go_simp; all_goals rfl)
  simp only [Act.put, List.setIfInBounds_toArray, List.set_cons_zero, List.set_cons_succ]
  refine wpAnyH_ready (rs := [2]) (by kernel_rfl) (by simp) ?_
  refine AllReadyH.cons (i := 2) (o := ?o2302) ?ho2302 (fun Kq hK => ?step2302) AllReadyH.nil
  case ho2302 => simp only [List.getElem?_toArray, List.getElem?_cons_succ, List.getElem?_cons_zero]; rfl
  go_simp
  (obtain ⟨zs, hz8, hQ⟩ := hHeld; go_at_call 125; refine (rend_any _ gr n c sf.1 sf.2 A bs hQ.rdr).mono ?_; rw [HFE.out]; rintro e w7 ⟨rfl, hc7⟩)
  have hF : ∃ zs : Array Value, zs.size = 15 ∧ QR w w7 43 gx gq gr A n c sf bs zs M := ⟨zs, hz8, hQ.below hc7⟩
  refine hK.out _ _ hF (fun _ => ?_)
  clear hK Kq hQ hz8 hc7
  have hHeld := hF
  clear hF
  try simp only [Act.put, List.setIfInBounds_toArray, List.set_cons_zero, List.set_cons_succ]
  refine wpAnyH_take (i := 3) (oi := ?oi2303) (v := ?v2303) ?hi2303 (by kernel_rfl) (by kernel_rfl) (by kernel_rfl) ?hQ2303 (Or.inl ⟨?hw2303, ?hy2303⟩) (by assumption) ?rest2303
  case hi2303 => simp only [List.getElem?_toArray, List.getElem?_cons_succ, List.getElem?_cons_zero]; rfl
  case hQ2303 => exact fun _ _ _ h => h
  case hw2303 => rfl
  case hy2303 => (intro W hW; skip; go_simp; all_goals rfl)
  simp only [Act.put, List.setIfInBounds_toArray, List.set_cons_zero, List.set_cons_succ]
  refine wpAnyH_ready (rs := [4]) (by kernel_rfl) (by simp) ?_
  refine AllReadyH.cons (i := 4) (o := ?oS2200) ?hoS2200 (fun Kq hK => ?stepS2200) AllReadyH.nil
  case hoS2200 => simp only [List.getElem?_toArray, List.getElem?_cons_succ, List.getElem?_cons_zero]; rfl
  obtain ⟨zs, hz8, hQ⟩ := hHeld
  refine step_store rfl 43 (.tmp 2) (.tmp 113) rfl gx M.cells.toArray rfl rfl 43 zs hQ.res (by rw [infoAn15]; simp [HM1.out.1]) (by rw [hz8]; simp [HM1.out.1]) HM1.out.2 ?_
  intro w8 hs8 hg8
  have hF : ∃ zs : Array Value, zs.size = 15 ∧ QR w w8 43 gx gq gr A n c sf bs zs M := ⟨M.cells.toArray, by simp [HM1.out.1], hQ.stored hs8 hg8⟩
  have HRES : Hd (w8.heap[gx]? = some (.cells M.cells.toArray 43) ∧ QR w w8 43 gx gq gr A n c sf bs M.cells.toArray M) := ⟨hs8, hQ.stored hs8 hg8⟩
  refine hK.out _ _ hF (fun _ => ?_)
  clear hK Kq hQ hz8 hs8 hg8
  have hHeld := hF
  clear hF
  try simp only [Act.put, List.setIfInBounds_toArray, List.set_cons_zero, List.set_cons_succ]
  refine wpAnyH_take (i := 5) (oi := ?oi2401) (v := ?v2401) ?hi2401 (by kernel_rfl) (by kernel_rfl) (by kernel_rfl) ?hQ2401 (Or.inl ⟨?hw2401, ?hy2401⟩) (by assumption) ?rest2401
  case hi2401 => simp only [List.getElem?_toArray, List.getElem?_cons_succ, List.getElem?_cons_zero]; rfl
  case hQ2401 => exact fun _ _ _ h => h
  case hw2401 => rfl
  case hy2401 => (intro W hW; skip; go_simp; all_goals rfl)
  simp only [Act.put, List.setIfInBounds_toArray, List.set_cons_zero, List.set_cons_succ]
  refine wpAnyH_done (by kernel_rfl) ?_ _
  clear hHeld
  go_wp2_with fail
  (try simp only [Exit.inBlock, Exit.then])
  refine bodyPost_ret (results_cell_tmp rfl _ _ gx 43 M.cells.toArray (0, 0) _ rfl HRES.out.1 Try.underlying43 rfl (by rw [infoAn15]; simp [HM1.out.1])) rfl ?_
  refine ⟨M, decide (fe = 0), by (first | rfl | (simp [Act.put]; rfl) | skip), HRES.out.2.ch, HM1.out.1, HM1.out.2, ?_⟩
  rw [HRD.out]
  by_cases h0 : fe = 0
  ·exact .inl ⟨_, decide_eq_true h0, if_pos h0, HMI.out, HRES.out.2.ok.lower (by have := HRES.out.2.l1; have := HRES.out.2.l2; have := HRES.out.2.l3; omega)⟩
  ·exact .inr ⟨decide_eq_false h0, if_neg h0⟩
 have HKE : Hd (v3 = 0 ∧ v1 ≠ 8 ∧ v1 ≠ 2 ∧ v1 ≠ 3 ∧ v1 ≠ 4 ∧ v1 ≠ 6 ∧ v1 ≠ 7) := ⟨k0, k8, k2, k3, k4, k6, k7⟩
 have q2 : ((v1 : Int) == 2) = false := beq_eq_false_iff_ne.2 (by omega)
 have q3 : ((v1 : Int) == 3) = false := beq_eq_false_iff_ne.2 (by omega)
 have q4 : ((v1 : Int) == 4) = false := beq_eq_false_iff_ne.2 (by omega)
 have q6 : ((v1 : Int) == 6) = false := beq_eq_false_iff_ne.2 (by omega)
 have q7 : ((v1 : Int) == 7) = false := beq_eq_false_iff_ne.2 (by omega)
 clear k0 k8 k2 k3 k4 k6 k7
 try clear c0
 have c0 : w5.cell? ⟨gq, 0, none⟩ = some (.int .i64 (v1 : Int)) := H5.out.at_ 0 rfl
 go_upto_region 24 with fail
 try simp only [Act.put]
 have HW := Hd.mk H5.out
 clear H5
 try clear c0
 try clear c2
 obtain ⟨M, hM⟩ : ∃ M, (anW (anX v1 v2 v3 [] [] [] [] false 0 0 0 0 0 0 0) (.slice none 0 0) (.slice none 0 0) (.slice none 0 0)) = M := ⟨_, rfl⟩
 have HM1 : Hd (M.cells.length = 15 ∧ M.cells.toArray.all (·.oneCell') = true) := ⟨by rw [← hM]; exact anW_one HW.out.ok⟩
 have HMI : Hd (anIs M (anX v1 v2 v3 [] [] [] [] false 0 0 0 0 0 0 0)) := ⟨_, _, _, hM.symm⟩
 rw [hM] at HW
 clear hM
 obtain ⟨fe, hfe⟩ : ∃ f, endF n s3.1 s3.2 = f := ⟨_, rfl⟩
 have HFE := Hd.mk hfe
 have hn : bs.length = n := HW.out.rdr.len
 have HRD : Hd (rdAn bs = if fe = 0 then some (anX v1 v2 v3 [] [] [] [] false 0 0 0 0 0 0 0) else none) := ⟨by
  have ky := HYES.out
  have z0 : unz ((0 : Nat) : Int) = 0 := by decide
  have B8 : decide ((v1 : Int) = 8) = false := by (try unfold qBody); (try unfold qGen); (try unfold qKeys); (try unfold qPage); exact decide_eq_false (by have := HKE.out; omega)
  have BB : qBody (v1 : Int) (v3 : Int) = false := by (try unfold qBody); (try unfold qGen); (try unfold qKeys); (try unfold qPage); exact decide_eq_false (by have := HKE.out; omega)
  have BG : qGen (v1 : Int) (v3 : Int) = false := by (try unfold qBody); (try unfold qGen); (try unfold qKeys); (try unfold qPage); exact decide_eq_false (by have := HKE.out; omega)
  have BK : qKeys (v1 : Int) (v3 : Int) = false := by (try unfold qBody); (try unfold qGen); (try unfold qKeys); (try unfold qPage); exact decide_eq_false (by have := HKE.out; omega)
  have BP : qPage (v1 : Int) (v3 : Int) = false := by (try unfold qBody); (try unfold qGen); (try unfold qKeys); (try unfold qPage); exact decide_eq_false (by have := HKE.out; omega)
  unfold rdAn
  simp only [E1.out, E2.out, E3.out, B8, BB, BG, BK, BP, opt_t, opt_f]
  rw [hn, hfe]
  by_cases h0 : fe = 0
  ·rw [if_pos h0, if_pos ⟨by omega, by omega, by omega, by omega, h0⟩]; rfl
  ·rw [if_neg h0, if_neg (fun h => h0 h.2.2.2.2)]⟩
 clear hn hfe
 refine wp_region_held_drew (S := fun W => ∃ zs : Array Value, zs.size = 15 ∧ QR w W 43 gx gq gr A n c s3 bs zs M) (by kernel_rfl) ⟨an0, rfl, HW.out.below (Chg.refl _ _).drew⟩ (fun hHeld => ?_)
 refine wpAnyH_take (i := 0) (oi := ?oiR2500) (v := .agg M.cells.toArray) ?hiR2500 (by kernel_rfl) (by kernel_rfl) (by kernel_rfl) ?hQR2500 ?hyR2500 (by assumption) ?restR2500
 case hiR2500 => simp only [List.getElem?_toArray, List.getElem?_cons_succ, List.getElem?_cons_zero]; rfl
 case hQR2500 => exact fun _ _ _ h => h
 case hyR2500 => exact yieldsIf_load_mid rfl 43 (.tmp 5) rfl gq 0 rfl M.cells _ (fun W hW => let ⟨_, _, h⟩ := hW; h.range) Try.underlying43 rfl (by rw [infoAn15, HM1.out.1])
 simp only [Act.put, List.setIfInBounds_toArray, List.set_cons_zero, List.set_cons_succ]
 refine wpAnyH_take (i := 1) (oi := ?oi2601) (v := ?v2601) ?hi2601 (by kernel_rfl) (by kernel_rfl) (by kernel_rfl) ?hQ2601 (Or.inl ⟨?hw2601, ?hy2601⟩) (by assumption) ?rest2601
 case hi2601 => simp only [List.getElem?_toArray, List.getElem?_cons_succ, List.getElem?_cons_zero]; rfl
 case hQ2601 => exact fun _ _ _ h => h
 case hw2601 => rfl
 case hy2601 => (intro W hW; skip; go_simp; all_goals rfl)
 simp only [Act.put, List.setIfInBounds_toArray, List.set_cons_zero, List.set_cons_succ]
 refine wpAnyH_ready (rs := [2]) (by kernel_rfl) (by simp) ?_
 refine AllReadyH.cons (i := 2) (o := ?o2602) ?ho2602 (fun Kq hK => ?step2602) AllReadyH.nil
 case ho2602 => simp only [List.getElem?_toArray, List.getElem?_cons_succ, List.getElem?_cons_zero]; rfl
 go_simp
 (obtain ⟨zs, hz8, hQ⟩ := hHeld; go_at_call 125; refine (rend_any _ gr n c s3.1 s3.2 A bs hQ.rdr).mono ?_; rw [HFE.out]; rintro e w7 ⟨rfl, hc7⟩)
 have hF : ∃ zs : Array Value, zs.size = 15 ∧ QR w w7 43 gx gq gr A n c s3 bs zs M := ⟨zs, hz8, hQ.below hc7⟩
 refine hK.out _ _ hF (fun _ => ?_)
 clear hK Kq hQ hz8 hc7
 have hHeld := hF
 clear hF
 try simp only [Act.put, List.setIfInBounds_toArray, List.set_cons_zero, List.set_cons_succ]
 refine wpAnyH_take (i := 3) (oi := ?oi2603) (v := ?v2603) ?hi2603 (by kernel_rfl) (by kernel_rfl) (by kernel_rfl) ?hQ2603 (Or.inl ⟨?hw2603, ?hy2603⟩) (by assumption) ?rest2603
 case hi2603 => simp only [List.getElem?_toArray, List.getElem?_cons_succ, List.getElem?_cons_zero]; rfl
 case hQ2603 => exact fun _ _ _ h => h
 case hw2603 => rfl
 case hy2603 => (intro W hW; skip; go_simp; all_goals rfl)
 simp only [Act.put, List.setIfInBounds_toArray, List.set_cons_zero, List.set_cons_succ]
 refine wpAnyH_ready (rs := [4]) (by kernel_rfl) (by simp) ?_
 refine AllReadyH.cons (i := 4) (o := ?oS2500) ?hoS2500 (fun Kq hK => ?stepS2500) AllReadyH.nil
 case hoS2500 => simp only [List.getElem?_toArray, List.getElem?_cons_succ, List.getElem?_cons_zero]; rfl
 obtain ⟨zs, hz8, hQ⟩ := hHeld
 refine step_store rfl 43 (.tmp 2) (.tmp 113) rfl gx M.cells.toArray rfl rfl 43 zs hQ.res (by rw [infoAn15]; simp [HM1.out.1]) (by rw [hz8]; simp [HM1.out.1]) HM1.out.2 ?_
 intro w8 hs8 hg8
 have hF : ∃ zs : Array Value, zs.size = 15 ∧ QR w w8 43 gx gq gr A n c s3 bs zs M := ⟨M.cells.toArray, by simp [HM1.out.1], hQ.stored hs8 hg8⟩
 have HRES : Hd (w8.heap[gx]? = some (.cells M.cells.toArray 43) ∧ QR w w8 43 gx gq gr A n c s3 bs M.cells.toArray M) := ⟨hs8, hQ.stored hs8 hg8⟩
 refine hK.out _ _ hF (fun _ => ?_)
 clear hK Kq hQ hz8 hs8 hg8
 have hHeld := hF
 clear hF
 try simp only [Act.put, List.setIfInBounds_toArray, List.set_cons_zero, List.set_cons_succ]
 refine wpAnyH_take (i := 5) (oi := ?oi2701) (v := ?v2701) ?hi2701 (by kernel_rfl) (by kernel_rfl) (by kernel_rfl) ?hQ2701 (Or.inl ⟨?hw2701, ?hy2701⟩) (by assumption) ?rest2701
 case hi2701 => simp only [List.getElem?_toArray, List.getElem?_cons_succ, List.getElem?_cons_zero]; rfl
 case hQ2701 => exact fun _ _ _ h => h
 case hw2701 => rfl
 case hy2701 => (intro W hW; skip; go_simp; all_goals rfl)
 simp only [Act.put, List.setIfInBounds_toArray, List.set_cons_zero, List.set_cons_succ]
 refine wpAnyH_done (by kernel_rfl) ?_ _
 clear hHeld
 go_wp2_with fail
 (try simp only [Exit.inBlock, Exit.then])
 refine bodyPost_ret (results_cell_tmp rfl _ _ gx 43 M.cells.toArray (0, 0) _ rfl HRES.out.1 Try.underlying43 rfl (by rw [infoAn15]; simp [HM1.out.1])) rfl ?_
 refine ⟨M, decide (fe = 0), by (first | rfl | (simp [Act.put]; rfl) | skip), HRES.out.2.ch, HM1.out.1, HM1.out.2, ?_⟩
 rw [HRD.out]
 by_cases h0 : fe = 0
 ·exact .inl ⟨_, decide_eq_true h0, if_pos h0, HMI.out, HRES.out.2.ok.lower (by have := HRES.out.2.l1; have := HRES.out.2.l2; have := HRES.out.2.l3; omega)⟩
 ·exact .inr ⟨decide_eq_false h0, if_neg h0⟩
end Go.Proofs.Ytbcmjjcbjojakaa
