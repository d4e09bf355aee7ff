/- Contract of the reference's readRequest. (tools/rrqgen.py prints it.) -/
import Derived.Test.YtbcmjjcbjojakaaPk11
import Derived.Test.YtbcmjjcbjojakaaRqW
namespace Go.Proofs.Ytbcmjjcbjojakaa
open Go.RowKit
set_option linter.unusedVariables false
set_option linter.unusedSimpArgs false
theorem rdRq_way {bs : List Nat} {K fe : Int} {v1 v2 v6 v7 v8 v9 n : Nat} {l3 l4 l5 : List Nat} {s1 s2 s3 s4 s5 s6 sp sq s7 : Nat × Int} {b1 b2 b3 b4 : Bool}
  (hn : bs.length = n) (hK : (v1 : Int) = K) (hc : cKey K = b1 ∧ cBody K = b2 ∧ cOff K = b3 ∧ cAfter K = b4)
  (e1 : rFix bs 1 (0, 0) = (v1, s1)) (e2 : rFix bs 8 s1 = (v2, s2)) (e3 : opt b1 [] (rBlk bs 1024) s2 = (l3, s3)) (e4 : opt b2 [] (rBlk bs 1048576) s3 = (l4, s4))
  (e5 : opt b3 0 (rNum bs) s4 = (v6, s5)) (e6 : opt b3 0 (rNum bs) s5 = (v8, s6))
  (e7 : opt b4 [] (rBlk bs 1024) s6 = (l5, sp)) (e8 : opt b4 0 (rNum bs) sp = (v7, sq)) (e9 : opt b4 v8 (rNum bs) sq = (v9, s7)) (hfe : endF n s7.1 s7.2 = fe) :
  rdRq bs = if 1 ≤ K ∧ K ≤ 8 ∧ fe = 0 then some (rqX v1 v2 l3 l5 v6 v9 v7 l4) else none := by
 obtain ⟨c1, c2, c3, c4⟩ := hc
 have c5 : cDelim K = b4 := c4
 unfold rdRq
 simp only [e1, e2, hK, c1, c2, c3, c4, c5, e3, e4]
 have c6 : cNum K = (b3 || b4) := by rw [← c3, ← c4]; unfold cNum cOff cAfter; by_cases h3 : K = 3 <;> by_cases h7 : K = 7 <;> simp [h3, h7]
 rw [c6]
 subst hn
 rcases b4 with _ | _
 ·simp only [opt, if_neg (Bool.false_ne_true)] at e7 e8 e9 ⊢
  cases e7
  cases e8
  cases e9
  simp only [opt] at e5 e6
  rcases b3 with _ | _
  ·simp only [if_neg (Bool.false_ne_true)] at e5 e6
   cases e5
   cases e6
   simp only [Bool.or_false, if_neg (Bool.false_ne_true), hfe, rqX, hK]
  ·simp only [if_true] at e5 e6
   simp only [Bool.or_false, if_true, e5, e6, hfe, rqX, hK]
 ·have hb3 : b3 = false := by rw [← c3]; unfold cAfter at c4; unfold cOff; have := of_decide_eq_true c4; subst this; decide
  subst hb3
  simp only [opt, if_neg (Bool.false_ne_true), if_true] at e5 e6 e7 e8 e9 ⊢
  cases e5
  cases e6
  simp only [e7, e8, e9, hfe, rqX, hK, Bool.or_true, if_true]
set_option maxRecDepth 20000 in
set_option maxHeartbeats 8000000 in
theorem rreq_any (w : World) (A0 : Option Addr) (n c0 B : Nat) (bs : List Nat) (hr : Rd w B A0 n (cb bs)) (hB : B ≤ w.heap.size) (hn : n ≤ 4398046511104) (hb : ∀ x ∈ bs, x < 256) :
  Calls Try.prog 111 #[.slice A0 n c0] w (RMsg Rq rdRq rqIs 8 w bs) := by
 obtain ⟨gx, hgx⟩ : ∃ gx, w.heap.size = gx := ⟨_, rfl⟩
 obtain ⟨w0, hw0⟩ : ∃ W, w.alloc (.cells #[.int .i64 0, .int .u64 0, .string emS, .string emS, .int .i64 0, .int .i64 0, .int .i64 0, .slice none 0 0] 28) = W := ⟨_, rfl⟩
 have H0 : Hd (Rd w0 B A0 n (cb bs) ∧ w0.heap[gx]? = some (.cells rq0 28) ∧ Chg [] w w0 ∧ gx < w0.heap.size ∧ B ≤ w0.heap.size ∧ n ≤ 4398046511104 ∧ ∀ x ∈ bs, x < 256) := ⟨by rw [← hw0]; exact hr.alloc hB _, by rw [← hw0, ← hgx]; exact heap_alloc_new w _, by rw [← hw0]; exact (Chg.refl _ w).alloc _, by rw [← hw0]; simp; omega, by rw [← hw0]; simp; omega, hn, hb⟩
 have HG := Hd.mk hgx
 clear hr hB hn hb hgx
 go_enter Try.func111, Try.ntmps111
 go_upto_region 1 with fail
 have hz : (⟨#[]⟩ : ByteArray) = emS := rfl
 try rw [hz]
 rw [hw0, HG.out]
 clear hw0 hz
 go_wp2_with fail
 refine (ropen_any w0 A0 n c0 B bs H0.out.1 H0.out.2.2.2.2.1 H0.out.2.2.2.2.2.1 H0.out.2.2.2.2.2.2).mono ?_
 rintro e w1 ⟨gr, A, c, rfl, hc, hR, hgr, hA⟩
 have H1 : Hd (Rr w1 gr A n c (0, 0).1 (0, 0).2 bs ∧ w1.heap[gx]? = some (.cells rq0 28) ∧ Chg [] w w1 ∧ gx < gr ∧ gr < w1.heap.size ∧ (∀ g off, A = some ⟨g, off, none⟩ → 0 < n → g ≠ gx)) := ⟨hR, by rw [hc.block gx H0.out.2.2.2.1 (by simp)]; exact H0.out.2.1, H0.out.2.2.1.trans hc, by have := H0.out.2.2.2.1; omega, hR.lt, fun g off he hn => by have := hA g off he hn; have := H0.out.2.2.2.1; omega⟩
 clear hc hR hgr hA H0
 go_wp2_with fail
 refine (dFix1 (s := (0, 0)) H1.out.1).mono ?_
 rintro e w2 ⟨v1, s1, e1, rfl, hv1, hc, hR⟩
 have H2 : Hd (Rr w2 gr A n c s1.1 s1.2 bs ∧ w2.heap[gx]? = some (.cells rq0 28) ∧ Chg [] w w2 ∧ gx < gr ∧ gr < w2.heap.size ∧ (∀ g off, A = some ⟨g, off, none⟩ → 0 < n → g ≠ gx)) := ⟨hR, by rw [hc.block gx (by have := H1.out.2.2.2.1; have := H1.out.2.2.2.2.1; omega) (by have := H1.out.2.2.2.1; simp; omega)]; exact H1.out.2.1, H1.out.2.2.1.newOne hc (by have := H1.out.2.2.2.1; have := HG.out; omega), H1.out.2.2.2.1, hR.lt, H1.out.2.2.2.2.2⟩
 have E1 := Hd.mk e1
 have wv : IntKind.i64.wrap (v1 : Int) = (v1 : Int) := by rw [IntKind.wrap_i64]; omega
 clear hc hR e1 H1
 go_wp2_with fail
 refine (dFix8 (s := s1) H2.out.1).mono ?_
 rintro e w3 ⟨v2, s2, e2, rfl, hv2, hc, hR⟩
 have H3 : Hd (Rr w3 gr A n c s2.1 s2.2 bs ∧ w3.heap[gx]? = some (.cells rq0 28) ∧ Chg [] w w3 ∧ gx < gr ∧ gr < w3.heap.size ∧ (∀ g off, A = some ⟨g, off, none⟩ → 0 < n → g ≠ gx)) := ⟨hR, by rw [hc.block gx (by have := H2.out.2.2.2.1; have := H2.out.2.2.2.2.1; omega) (by have := H2.out.2.2.2.1; simp; omega)]; exact H2.out.2.1, H2.out.2.2.1.newOne hc (by have := H2.out.2.2.2.1; have := HG.out; omega), H2.out.2.2.2.1, hR.lt, H2.out.2.2.2.2.2⟩
 have E2 := Hd.mk e2
 clear hc hR e2 H2
 go_upto_region 3 with (refine at_store (x := .tmp 5) ?_; refine wpList_boxed rfl 28 (.tmp 5) (.tmp 13) rfl w3.heap.size rfl (rqW (rqX v1 v2 [] [] 0 0 0 []) (.slice none 0 0)).cells.toArray rfl rfl infoRq8 rfl (by simp [rqW, rqX, Value.oneCell']) ?_; intro w4 hB4)
 clear wv
 obtain ⟨gq, hgq⟩ : ∃ gq, w3.heap.size = gq := ⟨_, rfl⟩
 rw [hgq] at hB4 ⊢
 have hc4 : Chg [] w3 w4 := ⟨hB4.out.2.1.os, hB4.out.2.1.tape, hB4.out.2.1.output, hB4.out.2.1.size, fun k hk _ => hB4.out.2.1.block k (by omega)⟩
 have H4 : Hd (QR w w4 28 gx gq gr A n c s2 bs rq0 (rqW (rqX v1 v2 [] [] 0 0 0 []) (.slice none 0 0))) := ⟨hB4.out.1, by rw [hc4.block gx (by have := H3.out.2.2.2.1; have := H3.out.2.2.2.2.1; omega) (by simp)]; exact H3.out.2.1, H3.out.1.keep hc4 (by simp) (by simp), H3.out.2.2.1.trans hc4, nil_ok _ _ _ _ _ _ _ _ _, by have := HG.out; omega, H3.out.2.2.2.1, by have := H3.out.2.2.2.2.1; omega, H3.out.2.2.2.2.2⟩
 clear hB4 hc4 hgq H3
 obtain ⟨K, hK⟩ : ∃ K : Int, (v1 : Int) = K := ⟨_, rfl⟩
 have HKV := Hd.mk hK
 have k0 : 0 ≤ K := by omega
 have k1 : K < 256 := by omega
 obtain ⟨b1, h1⟩ : ∃ b, cKey K = b := ⟨_, rfl⟩
 obtain ⟨b2, h2⟩ : ∃ b, cBody K = b := ⟨_, rfl⟩
 obtain ⟨b3, h3⟩ : ∃ b, cOff K = b := ⟨_, rfl⟩
 obtain ⟨b4, h4⟩ : ∃ b, cAfter K = b := ⟨_, rfl⟩
 have HK : Hd (cKey K = b1 ∧ cBody K = b2 ∧ cOff K = b3 ∧ cAfter K = b4) := ⟨h1, h2, h3, h4⟩
 clear h1 h2 h3 h4 hK hv1 hv2
 have c0 : w4.cell? ⟨gq, 0, none⟩ = some (.int .i64 K) := by rw [← HKV.out]; exact H4.out.at_ 0 rfl
 simp only [Act.put]
 go_cut [21] from 6 (fun v wx => v = .bool b1 ∧ wx = w4)
 case first =>
  rcases Int.lt_or_le K 1 with h | h
  ·have hd : decide (1 ≤ K) = false := by simp; omega
   go_wp2_with fail
   go_meet
   case rel => exact ⟨by rw [← HK.out.1]; unfold cKey; simp; omega, rfl⟩
  ·have hd : decide (1 ≤ K) = true := by simp; omega
   obtain ⟨d, hd7⟩ : ∃ d, decide (K ≤ 7) = d := ⟨_, rfl⟩
   have HD := Hd.mk hd7
   go_wp2_with fail
   go_meet
   case rel => exact ⟨by rw [← HK.out.1]; first | (rw [← HD.out]; unfold cKey; simp; omega) | (unfold cKey; simp; omega), rfl⟩
 case rest =>
  obtain ⟨rfl, rfl⟩ := hcut
  go_upto_if 21 with fail
  go_cut [] from 6 (fun wx => ∃ (l3' : List Nat) (s' : Nat × Int), opt b1 [] (rBlk bs 1024) s2 = (l3', s') ∧ QR w wx 28 gx gq gr A n c s' bs rq0 (rqW (rqX v1 v2 l3' [] 0 0 0 []) (.slice none 0 0)))
  case first =>
   rcases hb : b1 with _ | _
   ·subst hb
    go_wp2_with fail
    go_meet
    case rel => exact ⟨[], s2, rfl, H4.out⟩
   ·subst hb
    go_wp2_with fail
    refine (dBlk (s := s2) 1024 (by omega) H4.out.rdr).mono ?_
    rintro e wz ⟨lz, sz, vz, cz, elz, rfl, hoz, hc, hR⟩
    have Hlz : Hd (QR w wz 28 gx gq gr A n c sz bs rq0 (rqW (rqX v1 v2 [] [] 0 0 0 []) (.slice none 0 0))) := ⟨H4.out.call hc hR⟩
    have Elz := Hd.mk elz
    have hcv : (convert 26 9 (.slice vz lz.length cz)).run Try.prog wz = .ok (.string (bstr lz)) wz := conv_any (Rd.of_own hoz)
    generalize hS : bstr lz = S at hcv
    have HSlz := Hd.mk hS
    clear hS hoz hc hR elz
    have d0 : wz.cell? ⟨gq, 2, none⟩ = some (.string emS) := Hlz.out.at_ 2 rfl
    have d1 := Hlz.out.z 2
    go_wp2_with fail
    go_meet
    case rel =>
     rw [← HSlz.out]
     exact ⟨lz, sz, Elz.out, Hlz.out.set (M' := (rqW (rqX v1 v2 lz [] 0 0 0 []) (.slice none 0 0))) 2 (.string (bstr lz)) rfl (fun r hr => Hlz.out.ok r hr)⟩
  case rest =>
   obtain ⟨l3, s3, e3, hQ⟩ := hcut
   have E3 := Hd.mk e3
   have H5 := Hd.mk hQ
   clear hQ e3 H4
   obtain ⟨W5, hW5⟩ : ∃ W : World, wc = W := ⟨_, rfl⟩
   subst hW5
   have c0 : wc.cell? ⟨gq, 0, none⟩ = some (.int .i64 K) := by rw [← HKV.out]; exact H5.out.at_ 0 rfl
   have q2 : (K == 1) = b2 := HK.out.2.1
   go_upto_if 28 with fail
   clear q2 c0
   go_cut [] from 6 (fun wx => ∃ (l4' : List Nat) (s' : Nat × Int) (vb' : Value), opt b2 [] (rBlk bs 1048576) s3 = (l4', s') ∧ QR w wx 28 gx gq gr A n c s' bs rq0 (rqW (rqX v1 v2 l3 [] 0 0 0 l4') vb'))
   case first =>
    rcases hb : b2 with _ | _
    ·subst hb
     go_wp2_with fail
     go_meet
     case rel => exact ⟨[], s3, (.slice none 0 0), rfl, H5.out⟩
    ·subst hb
     go_wp2_with fail
     refine (dBlk (s := s3) 1048576 (by omega) H5.out.rdr).mono ?_
     rintro e wz ⟨lz, sz, vz, cz, elz, rfl, hoz, hc, hR⟩
     have Hlz : Hd (QR w wz 28 gx gq gr A n c sz bs rq0 (rqW (rqX v1 v2 l3 [] 0 0 0 []) (.slice none 0 0))) := ⟨H5.out.call hc hR⟩
     have Elz := Hd.mk elz
     have HOZ := Hd.mk (own_base hoz (base' := gq + 1) H5.out.lt)
     clear hoz hc hR elz
     have d0 : wz.cell? ⟨gq, 7, none⟩ = some (.slice none 0 0) := Hlz.out.at_ 7 rfl
     have d1 := Hlz.out.z 7
     go_wp2_with fail
     go_meet
     case rel => exact ⟨lz, sz, _, Elz.out, Hlz.out.set (M' := (rqW (rqX v1 v2 l3 [] 0 0 0 lz) (.slice vz lz.length cz))) 7 (.slice vz lz.length cz) rfl (bod_ok HOZ.out)⟩
   case rest =>
    obtain ⟨l4, s4, vb, e4, hQ⟩ := hcut
    have E4 := Hd.mk e4
    have H6 := Hd.mk hQ
    clear hQ e4 H5
    obtain ⟨W6, hW6⟩ : ∃ W : World, wc = W := ⟨_, rfl⟩
    subst hW6
    have c0 : wc.cell? ⟨gq, 0, none⟩ = some (.int .i64 K) := by rw [← HKV.out]; exact H6.out.at_ 0 rfl
    have q3 : (K == 3) = b3 := HK.out.2.2.1
    go_upto_if 34 with fail
    clear q3 c0
    go_cut [] from 6 (fun wx => ∃ (v6' v8' : Nat) (sa s' : Nat × Int), opt b3 0 (rNum bs) s4 = (v6', sa) ∧ opt b3 0 (rNum bs) sa = (v8', s') ∧ QR w wx 28 gx gq gr A n c s' bs rq0 (rqW (rqX v1 v2 l3 [] v6' v8' 0 l4) vb))
    case first =>
     rcases hb : b3 with _ | _
     ·subst hb
      go_wp2_with fail
      go_meet
      case rel => exact ⟨0, 0, s4, s4, rfl, rfl, H6.out⟩
     ·subst hb
      go_wp2_with fail
      refine (dNumV (s := s4) H6.out.rdr).mono ?_
      rintro e wz ⟨va, sz, eva, rfl, hzb, hc, hR⟩
      have Hva : Hd (QR w wz 28 gx gq gr A n c sz bs rq0 (rqW (rqX v1 v2 l3 [] 0 0 0 l4) vb)) := ⟨H6.out.call hc hR⟩
      have Eva := Hd.mk eva
      obtain ⟨uva, hu⟩ : ∃ u, unz (va : Int) = u := ⟨_, rfl⟩
      rw [hu] at hzb ⊢
      have HUva := Hd.mk hu
      clear hu hc hR eva
      have d0 : wz.cell? ⟨gq, 4, none⟩ = some (.int .i64 0) := Hva.out.at_ 4 rfl
      have d1 := Hva.out.z 4
      go_wp2_with fail
      obtain ⟨wy, hwy⟩ : ∃ W : World, wz.setCell ⟨gq, 4, none⟩ (.int .i64 uva) = W := ⟨_, rfl⟩
      have Hy : Hd (QR w wy 28 gx gq gr A n c sz bs rq0 (rqW (rqX v1 v2 l3 [] va 0 0 l4) vb)) := ⟨by rw [← hwy, ← HUva.out]; exact Hva.out.set (M' := (rqW (rqX v1 v2 l3 [] va 0 0 l4) vb)) 4 (.int .i64 (unz (va : Int))) rfl (fun r hr => Hva.out.ok r hr)⟩
      rw [hwy]
      clear hwy d0 d1 hzb
      refine (dNumV (s := sz) Hy.out.rdr).mono ?_
      rintro e wk ⟨vc, sk, evc, rfl, hzb, hc, hR⟩
      have Hvc : Hd (QR w wk 28 gx gq gr A n c sk bs rq0 (rqW (rqX v1 v2 l3 [] va 0 0 l4) vb)) := ⟨Hy.out.call hc hR⟩
      have Evc := Hd.mk evc
      obtain ⟨uvc, hu⟩ : ∃ u, unz (vc : Int) = u := ⟨_, rfl⟩
      rw [hu] at hzb ⊢
      have HUvc := Hd.mk hu
      clear hu hc hR evc
      have d0 : wk.cell? ⟨gq, 5, none⟩ = some (.int .i64 0) := Hvc.out.at_ 5 rfl
      have d1 := Hvc.out.z 5
      go_wp2_with fail
      go_meet
      case rel =>
       rw [← HUvc.out]
       exact ⟨va, vc, sz, sk, Eva.out, Evc.out, Hvc.out.set (M' := (rqW (rqX v1 v2 l3 [] va vc 0 l4) vb)) 5 (.int .i64 (unz (vc : Int))) rfl (fun r hr => Hvc.out.ok r hr)⟩
    case rest =>
     obtain ⟨v6, v8, s5, s6, e5, e6, hQ⟩ := hcut
     have E5 := Hd.mk e5
     have E6 := Hd.mk e6
     have H7 := Hd.mk hQ
     clear hQ e5 e6 H6
     obtain ⟨W7, hW7⟩ : ∃ W : World, wc = W := ⟨_, rfl⟩
     subst hW7
     have c0 : wc.cell? ⟨gq, 0, none⟩ = some (.int .i64 K) := by rw [← HKV.out]; exact H7.out.at_ 0 rfl
     have q4 : (K == 7) = b4 := HK.out.2.2.2
     go_upto_if 43 with fail
     clear q4 c0
     go_cut [] from 6 (fun wx => ∃ (l5' : List Nat) (v7' v9' : Nat) (sp sq s' : Nat × Int), opt b4 [] (rBlk bs 1024) s6 = (l5', sp) ∧ opt b4 0 (rNum bs) sp = (v7', sq) ∧ opt b4 v8 (rNum bs) sq = (v9', s') ∧ QR w wx 28 gx gq gr A n c s' bs rq0 (rqW (rqX v1 v2 l3 l5' v6 v9' v7' l4) vb))
     case first =>
      rcases hb : b4 with _ | _
      ·subst hb
       go_wp2_with fail
       go_meet
       case rel => exact ⟨[], 0, v8, s6, s6, s6, rfl, rfl, rfl, H7.out⟩
      ·subst hb
       go_wp2_with fail
       refine (dBlk (s := s6) 1024 (by omega) H7.out.rdr).mono ?_
       rintro e wz ⟨lz, sz, vz, cz, elz, rfl, hoz, hc, hR⟩
       have Hlz : Hd (QR w wz 28 gx gq gr A n c sz bs rq0 (rqW (rqX v1 v2 l3 [] v6 v8 0 l4) vb)) := ⟨H7.out.call hc hR⟩
       have Elz := Hd.mk elz
       have hcv : (convert 26 9 (.slice vz lz.length cz)).run Try.prog wz = .ok (.string (bstr lz)) wz := conv_any (Rd.of_own hoz)
       generalize hS : bstr lz = S at hcv
       have HSlz := Hd.mk hS
       clear hS hoz hc hR elz
       have d0 : wz.cell? ⟨gq, 3, none⟩ = some (.string emS) := Hlz.out.at_ 3 rfl
       have d1 := Hlz.out.z 3
       go_wp2_with fail
       obtain ⟨wy, hwy⟩ : ∃ W : World, wz.setCell ⟨gq, 3, none⟩ (.string S) = W := ⟨_, rfl⟩
       have Hy : Hd (QR w wy 28 gx gq gr A n c sz bs rq0 (rqW (rqX v1 v2 l3 lz v6 v8 0 l4) vb)) := ⟨by rw [← hwy, ← HSlz.out]; exact Hlz.out.set (M' := (rqW (rqX v1 v2 l3 lz v6 v8 0 l4) vb)) 3 (.string (bstr lz)) rfl (fun r hr => Hlz.out.ok r hr)⟩
       rw [hwy]
       clear hwy d0 d1 hcv
       refine (dNumV (s := sz) Hy.out.rdr).mono ?_
       rintro e wk ⟨va, sk, eva, rfl, hzb, hc, hR⟩
       have Hva : Hd (QR w wk 28 gx gq gr A n c sk bs rq0 (rqW (rqX v1 v2 l3 lz v6 v8 0 l4) vb)) := ⟨Hy.out.call hc hR⟩
       have Eva := Hd.mk eva
       obtain ⟨uva, hu⟩ : ∃ u, unz (va : Int) = u := ⟨_, rfl⟩
       rw [hu] at hzb ⊢
       have HUva := Hd.mk hu
       clear hu hc hR eva
       have d0 : wk.cell? ⟨gq, 6, none⟩ = some (.int .i64 0) := Hva.out.at_ 6 rfl
       have d1 := Hva.out.z 6
       go_wp2_with fail
       obtain ⟨wy2, hwy⟩ : ∃ W : World, wk.setCell ⟨gq, 6, none⟩ (.int .i64 uva) = W := ⟨_, rfl⟩
       have Hy2 : Hd (QR w wy2 28 gx gq gr A n c sk bs rq0 (rqW (rqX v1 v2 l3 lz v6 v8 va l4) vb)) := ⟨by rw [← hwy, ← HUva.out]; exact Hva.out.set (M' := (rqW (rqX v1 v2 l3 lz v6 v8 va l4) vb)) 6 (.int .i64 (unz (va : Int))) rfl (fun r hr => Hva.out.ok r hr)⟩
       rw [hwy]
       clear hwy d0 d1 hzb
       refine (dNumV (s := sk) Hy2.out.rdr).mono ?_
       rintro e wm ⟨vc, sm, evc, rfl, hzb, hc, hR⟩
       have Hvc : Hd (QR w wm 28 gx gq gr A n c sm bs rq0 (rqW (rqX v1 v2 l3 lz v6 v8 va l4) vb)) := ⟨Hy2.out.call hc hR⟩
       have Evc := Hd.mk evc
       obtain ⟨uvc, hu⟩ : ∃ u, unz (vc : Int) = u := ⟨_, rfl⟩
       rw [hu] at hzb ⊢
       have HUvc := Hd.mk hu
       clear hu hc hR evc
       have d0 : wm.cell? ⟨gq, 5, none⟩ = some (.int .i64 (unz (v8 : Int))) := Hvc.out.at_ 5 rfl
       have d1 := Hvc.out.z 5
       go_wp2_with fail
       go_meet
       case rel =>
        rw [← HUvc.out]
        exact ⟨lz, va, vc, sz, sk, sm, Elz.out, Eva.out, Evc.out, Hvc.out.set (M' := (rqW (rqX v1 v2 l3 lz v6 vc va l4) vb)) 5 (.int .i64 (unz (vc : Int))) rfl (fun r hr => Hvc.out.ok r hr)⟩
     case rest =>
      obtain ⟨l5, v7, v9, sp, sq, s7, e7, e8, e9, hQ⟩ := hcut
      obtain ⟨fe, hfe⟩ : ∃ f, endF n s7.1 s7.2 = f := ⟨_, rfl⟩
      have HRD : Hd (rdRq bs = if 1 ≤ K ∧ K ≤ 8 ∧ fe = 0 then some (rqX v1 v2 l3 l5 v6 v9 v7 l4) else none) := ⟨rdRq_way hQ.rdr.len HKV.out HK.out E1.out E2.out E3.out E4.out E5.out E6.out e7 e8 e9 hfe⟩
      have HFE := Hd.mk hfe
      have HW := Hd.mk hQ
      clear hQ e7 e8 e9 hfe H7 E1 E2 E3 E4 E5 E6 HK
      obtain ⟨W8, hW8⟩ : ∃ W : World, wc = W := ⟨_, rfl⟩
      subst hW8
      obtain ⟨M, hM⟩ : ∃ M, (rqW (rqX v1 v2 l3 l5 v6 v9 v7 l4) vb) = M := ⟨_, rfl⟩
      have HM1 : Hd (M.cells.length = 8 ∧ M.cells.toArray.all (·.oneCell') = true) := ⟨by rw [← hM]; exact rqW_one HW.out.ok⟩
      have HMI : Hd (rqIs M (rqX v1 v2 l3 l5 v6 v9 v7 l4)) := ⟨vb, hM.symm⟩
      have HM0 : Hd (M.cells[0]? = some (.int .i64 K)) := ⟨by rw [← hM, ← HKV.out]; rfl⟩
      rw [hM] at HW
      clear hM HKV
      go_upto_region 14 with fail
      by_cases h0 : fe = 0
      ·subst h0
       rcases Int.lt_or_le K 1 with h1 | h1
       ·have HN := Hd.mk h1
        have hd : decide (1 ≤ K) = false := by simp; omega
        clear h1 k0 k1
        refine wp_region_held_drew (S := fun W => ∃ zs : Array Value, zs.size = 8 ∧ QR w W 28 gx gq gr A n c s7 bs zs M) (by kernel_rfl) ⟨rq0, rfl, HW.out.below (Chg.refl _ _).drew⟩ (fun hHeld => ?_)
        refine wpAnyH_take (i := 0) (oi := ?oiR1) (v := .agg M.cells.toArray) ?hiR1 (by kernel_rfl) (by kernel_rfl) (by kernel_rfl) ?hQR1 ?hyR1 (by assumption) ?restR1
        case hiR1 => simp only [List.getElem?_toArray, List.getElem?_cons_succ, List.getElem?_cons_zero]; rfl
        case hQR1 => exact fun _ _ _ h => h
        case hyR1 => exact yieldsIf_load_mid rfl 28 (.tmp 5) rfl gq 0 rfl M.cells _ (fun W hW => let ⟨_, _, h⟩ := hW; h.range) Try.underlying28 rfl (by rw [infoRq8, HM1.out.1])
        simp only [Act.put, List.setIfInBounds_toArray, List.set_cons_zero, List.set_cons_succ]
        refine wpAnyH_take (i := 1) (oi := ?oi101) (v := ?v101) ?hi101 (by kernel_rfl) (by kernel_rfl) (by kernel_rfl) ?hQ101 (Or.inl ⟨?hw101, ?hy101⟩) (by assumption) ?rest101
        case hi101 => simp only [List.getElem?_toArray, List.getElem?_cons_succ, List.getElem?_cons_zero]; rfl
        case hQ101 => exact fun _ _ _ h => h
        case hw101 => rfl
        case hy101 => (intro W hW; skip; go_simp; all_goals rfl)
        simp only [Act.put, List.setIfInBounds_toArray, List.set_cons_zero, List.set_cons_succ]
        refine wpAnyH_ready (rs := [2]) (by kernel_rfl) (by simp) ?_
        refine AllReadyH.cons (i := 2) (o := ?o102) ?ho102 (fun Kq hK => ?step102) AllReadyH.nil
        case ho102 => simp only [List.getElem?_toArray, List.getElem?_cons_succ, List.getElem?_cons_zero]; rfl
        go_simp
        (obtain ⟨zs, hz8, hQ⟩ := hHeld; go_at_call 125; refine (rend_any _ gr n c s7.1 s7.2 A bs hQ.rdr).mono ?_; rw [HFE.out]; rintro e w7 ⟨rfl, hc7⟩)
        have hF : ∃ zs : Array Value, zs.size = 8 ∧ QR w w7 28 gx gq gr A n c s7 bs zs M := ⟨zs, hz8, hQ.below hc7⟩
        refine hK.out _ _ hF (fun _ => ?_)
        clear hK Kq hQ hz8 hc7
        have hHeld := hF
        clear hF
        try simp only [Act.put, List.setIfInBounds_toArray, List.set_cons_zero, List.set_cons_succ]
        refine wpAnyH_take (i := 3) (oi := ?oi103) (v := ?v103) ?hi103 (by kernel_rfl) (by kernel_rfl) (by kernel_rfl) ?hQ103 (Or.inl ⟨?hw103, ?hy103⟩) (by assumption) ?rest103
        case hi103 => simp only [List.getElem?_toArray, List.getElem?_cons_succ, List.getElem?_cons_zero]; rfl
        case hQ103 => exact fun _ _ _ h => h
        case hw103 => rfl
        case hy103 => (intro W hW; skip; go_simp; all_goals rfl)
        simp only [Act.put, List.setIfInBounds_toArray, List.set_cons_zero, List.set_cons_succ]
        refine wpAnyH_take (i := 4) (oi := ?oi104) (v := ?v104) ?hi104 (by kernel_rfl) (by kernel_rfl) (by kernel_rfl) ?hQ104 (Or.inl ⟨?hw104, ?hy104⟩) (by assumption) ?rest104
        case hi104 => simp only [List.getElem?_toArray, List.getElem?_cons_succ, List.getElem?_cons_zero]; rfl
        case hQ104 => exact fun _ _ _ h => h
        case hw104 => rfl
        case hy104 => (intro W hW; skip; go_simp; all_goals rfl)
        simp only [Act.put, List.setIfInBounds_toArray, List.set_cons_zero, List.set_cons_succ]
        refine wpAnyH_take (i := 5) (oi := ?oi105) (v := ?v105) ?hi105 (by kernel_rfl) (by kernel_rfl) (by kernel_rfl) ?hQ105 (Or.inl ⟨?hw105, ?hy105⟩) (by assumption) ?rest105
        case hi105 => simp only [List.getElem?_toArray, List.getElem?_cons_succ, List.getElem?_cons_zero]; rfl
        case hQ105 => exact fun _ _ _ h => h
        case hw105 => rfl
        case hy105 => (intro W hW; have cz := (let ⟨_, _, h⟩ := hW; h.at_ 0 HM0.out); clear hW; go_simp; all_goals rfl)
        simp only [Act.put, List.setIfInBounds_toArray, List.set_cons_zero, List.set_cons_succ]
        refine wpAnyH_take (i := 6) (oi := ?oi106) (v := ?v106) ?hi106 (by kernel_rfl) (by kernel_rfl) (by kernel_rfl) ?hQ106 (Or.inl ⟨?hw106, ?hy106⟩) (by assumption) ?rest106
        case hi106 => simp only [List.getElem?_toArray, List.getElem?_cons_succ, List.getElem?_cons_zero]; rfl
        case hQ106 => exact fun _ _ _ h => h
        case hw106 => rfl
        case hy106 => (intro W hW; have cz := (let ⟨_, _, h⟩ := hW; h.at_ 0 HM0.out); clear hW; go_simp; all_goals rfl)
        simp only [Act.put, List.setIfInBounds_toArray, List.set_cons_zero, List.set_cons_succ]
        refine wpAnyH_take (i := 7) (oi := ?oi107) (v := ?v107) ?hi107 (by kernel_rfl) (by kernel_rfl) (by kernel_rfl) ?hQ107 (Or.inl ⟨?hw107, ?hy107⟩) (by assumption) ?rest107
        case hi107 => simp only [List.getElem?_toArray, List.getElem?_cons_succ, List.getElem?_cons_zero]; rfl
        case hQ107 => exact fun _ _ _ h => h
        case hw107 => rfl
        case hy107 => (intro W hW; have cz := (let ⟨_, _, h⟩ := hW; h.at_ 0 HM0.out); clear hW; go_simp; all_goals rfl)
        simp only [Act.put, List.setIfInBounds_toArray, List.set_cons_zero, List.set_cons_succ]
        refine wpAnyH_take (i := 8) (oi := ?oi108) (v := ?v108) ?hi108 (by kernel_rfl) (by kernel_rfl) (by kernel_rfl) ?hQ108 (Or.inl ⟨?hw108, ?hy108⟩) (by assumption) ?rest108
        case hi108 => simp only [List.getElem?_toArray, List.getElem?_cons_succ, List.getElem?_cons_zero]; rfl
        case hQ108 => exact fun _ _ _ h => h
        case hw108 => rfl
        case hy108 => (intro W hW; have cz := (let ⟨_, _, h⟩ := hW; h.at_ 0 HM0.out); clear hW; go_simp; all_goals rfl)
        simp only [Act.put, List.setIfInBounds_toArray, List.set_cons_zero, List.set_cons_succ]
        refine wpAnyH_take (i := 9) (oi := ?oi109) (v := ?v109) ?hi109 (by kernel_rfl) (by kernel_rfl) (by kernel_rfl) ?hQ109 (Or.inl ⟨?hw109, ?hy109⟩) (by assumption) ?rest109
        case hi109 => simp only [List.getElem?_toArray, List.getElem?_cons_succ, List.getElem?_cons_zero]; rfl
        case hQ109 => exact fun _ _ _ h => h
        case hw109 => rfl
        case hy109 => (intro W hW; have cz := (let ⟨_, _, h⟩ := hW; h.at_ 0 HM0.out); clear hW; go_simp; all_goals rfl)
        simp only [Act.put, List.setIfInBounds_toArray, List.set_cons_zero, List.set_cons_succ]
        refine wpAnyH_take (i := 10) (oi := ?oi110) (v := ?v110) ?hi110 (by kernel_rfl) (by kernel_rfl) (by kernel_rfl) ?hQ110 (Or.inr ⟨?hw110, ?hv110⟩) (by assumption) ?rest110
        case hi110 => simp only [List.getElem?_toArray, List.getElem?_cons_succ, List.getElem?_cons_zero]; rfl
        case hQ110 => exact fun _ _ _ h => h
        case hw110 => rfl
        case hv110 => rfl
        simp only [Act.put, List.setIfInBounds_toArray, List.set_cons_zero, List.set_cons_succ]
        refine wpAnyH_take (i := 11) (oi := ?oi111) (v := ?v111) ?hi111 (by kernel_rfl) (by kernel_rfl) (by kernel_rfl) ?hQ111 (Or.inr ⟨?hw111, ?hv111⟩) (by assumption) ?rest111
        case hi111 => simp only [List.getElem?_toArray, List.getElem?_cons_succ, List.getElem?_cons_zero]; rfl
        case hQ111 => exact fun _ _ _ h => h
        case hw111 => rfl
        case hv111 => rfl
        simp only [Act.put, List.setIfInBounds_toArray, List.set_cons_zero, List.set_cons_succ]
        refine wpAnyH_take (i := 12) (oi := ?oi112) (v := ?v112) ?hi112 (by kernel_rfl) (by kernel_rfl) (by kernel_rfl) ?hQ112 (Or.inr ⟨?hw112, ?hv112⟩) (by assumption) ?rest112
        case hi112 => simp only [List.getElem?_toArray, List.getElem?_cons_succ, List.getElem?_cons_zero]; rfl
        case hQ112 => exact fun _ _ _ h => h
        case hw112 => rfl
        case hv112 => rfl
        simp only [Act.put, List.setIfInBounds_toArray, List.set_cons_zero, List.set_cons_succ]
        refine wpAnyH_take (i := 13) (oi := ?oi113) (v := ?v113) ?hi113 (by kernel_rfl) (by kernel_rfl) (by kernel_rfl) ?hQ113 (Or.inl ⟨?hw113, ?hy113⟩) (by assumption) ?rest113
        case hi113 => simp only [List.getElem?_toArray, List.getElem?_cons_succ, List.getElem?_cons_zero]; rfl
        case hQ113 => exact fun _ _ _ h => h
        case hw113 => rfl
        case hy113 => (intro W hW; have cz := (let ⟨_, _, h⟩ := hW; h.at_ 0 HM0.out); clear hW; go_simp; all_goals rfl)
        simp only [Act.put, List.setIfInBounds_toArray, List.set_cons_zero, List.set_cons_succ]
        refine wpAnyH_ready (rs := [14]) (by kernel_rfl) (by simp) ?_
        refine AllReadyH.cons (i := 14) (o := ?oS1) ?hoS1 (fun Kq hK => ?stepS1) AllReadyH.nil
        case hoS1 => simp only [List.getElem?_toArray, List.getElem?_cons_succ, List.getElem?_cons_zero]; rfl
        obtain ⟨zs, hz8, hQ⟩ := hHeld
        refine step_store rfl 28 (.tmp 2) (.tmp 54) rfl gx M.cells.toArray rfl rfl 28 zs hQ.res (by rw [infoRq8]; simp [HM1.out.1]) (by rw [hz8]; simp [HM1.out.1]) HM1.out.2 ?_
        intro w8 hs8 hg8
        have hF : ∃ zs : Array Value, zs.size = 8 ∧ QR w w8 28 gx gq gr A n c s7 bs zs M := ⟨M.cells.toArray, by simp [HM1.out.1], hQ.stored hs8 hg8⟩
        have HRES : Hd (w8.heap[gx]? = some (.cells M.cells.toArray 28) ∧ QR w w8 28 gx gq gr A n c s7 bs M.cells.toArray M) := ⟨hs8, hQ.stored hs8 hg8⟩
        refine hK.out _ _ hF (fun _ => ?_)
        clear hK Kq hQ hz8 hs8 hg8
        have hHeld := hF
        clear hF
        try simp only [Act.put, List.setIfInBounds_toArray, List.set_cons_zero, List.set_cons_succ]
        refine wpAnyH_take (i := 15) (oi := ?oi201) (v := ?v201) ?hi201 (by kernel_rfl) (by kernel_rfl) (by kernel_rfl) ?hQ201 (Or.inl ⟨?hw201, ?hy201⟩) (by assumption) ?rest201
        case hi201 => simp only [List.getElem?_toArray, List.getElem?_cons_succ, List.getElem?_cons_zero]; rfl
        case hQ201 => exact fun _ _ _ h => h
        case hw201 => rfl
        case hy201 => (intro W hW; skip; go_simp; all_goals rfl)
        simp only [Act.put, List.setIfInBounds_toArray, List.set_cons_zero, List.set_cons_succ]
        refine wpAnyH_done (by kernel_rfl) ?_ _
        clear hHeld
        go_wp2_with fail
        (try simp only [Exit.inBlock, Exit.then])
        refine bodyPost_ret (results_cell_tmp rfl _ _ gx 28 M.cells.toArray (0, 0) _ rfl HRES.out.1 Try.underlying28 rfl (by rw [infoRq8]; simp [HM1.out.1])) rfl ?_
        refine ⟨M, false, by (first | rfl | (simp [Act.put]; rfl) | skip), HRES.out.2.ch, HM1.out.1, HM1.out.2, ?_⟩
        rw [HRD.out]
        exact .inr ⟨rfl, if_neg (fun h => by have := HN.out; omega)⟩
       ·have HN := Hd.mk h1
        have hd : decide (1 ≤ K) = true := by simp; omega
        clear h1 k0 k1
        refine wp_region_held_drew (S := fun W => ∃ zs : Array Value, zs.size = 8 ∧ QR w W 28 gx gq gr A n c s7 bs zs M) (by kernel_rfl) ⟨rq0, rfl, HW.out.below (Chg.refl _ _).drew⟩ (fun hHeld => ?_)
        refine wpAnyH_take (i := 0) (oi := ?oiR2) (v := .agg M.cells.toArray) ?hiR2 (by kernel_rfl) (by kernel_rfl) (by kernel_rfl) ?hQR2 ?hyR2 (by assumption) ?restR2
        case hiR2 => simp only [List.getElem?_toArray, List.getElem?_cons_succ, List.getElem?_cons_zero]; rfl
        case hQR2 => exact fun _ _ _ h => h
        case hyR2 => exact yieldsIf_load_mid rfl 28 (.tmp 5) rfl gq 0 rfl M.cells _ (fun W hW => let ⟨_, _, h⟩ := hW; h.range) Try.underlying28 rfl (by rw [infoRq8, HM1.out.1])
        simp only [Act.put, List.setIfInBounds_toArray, List.set_cons_zero, List.set_cons_succ]
        refine wpAnyH_take (i := 1) (oi := ?oi301) (v := ?v301) ?hi301 (by kernel_rfl) (by kernel_rfl) (by kernel_rfl) ?hQ301 (Or.inl ⟨?hw301, ?hy301⟩) (by assumption) ?rest301
        case hi301 => simp only [List.getElem?_toArray, List.getElem?_cons_succ, List.getElem?_cons_zero]; rfl
        case hQ301 => exact fun _ _ _ h => h
        case hw301 => rfl
        case hy301 => (intro W hW; skip; go_simp; all_goals rfl)
        simp only [Act.put, List.setIfInBounds_toArray, List.set_cons_zero, List.set_cons_succ]
        refine wpAnyH_ready (rs := [2]) (by kernel_rfl) (by simp) ?_
        refine AllReadyH.cons (i := 2) (o := ?o302) ?ho302 (fun Kq hK => ?step302) AllReadyH.nil
        case ho302 => simp only [List.getElem?_toArray, List.getElem?_cons_succ, List.getElem?_cons_zero]; rfl
        go_simp
        (obtain ⟨zs, hz8, hQ⟩ := hHeld; go_at_call 125; refine (rend_any _ gr n c s7.1 s7.2 A bs hQ.rdr).mono ?_; rw [HFE.out]; rintro e w7 ⟨rfl, hc7⟩)
        have hF : ∃ zs : Array Value, zs.size = 8 ∧ QR w w7 28 gx gq gr A n c s7 bs zs M := ⟨zs, hz8, hQ.below hc7⟩
        refine hK.out _ _ hF (fun _ => ?_)
        clear hK Kq hQ hz8 hc7
        have hHeld := hF
        clear hF
        try simp only [Act.put, List.setIfInBounds_toArray, List.set_cons_zero, List.set_cons_succ]
        refine wpAnyH_take (i := 3) (oi := ?oi303) (v := ?v303) ?hi303 (by kernel_rfl) (by kernel_rfl) (by kernel_rfl) ?hQ303 (Or.inl ⟨?hw303, ?hy303⟩) (by assumption) ?rest303
        case hi303 => simp only [List.getElem?_toArray, List.getElem?_cons_succ, List.getElem?_cons_zero]; rfl
        case hQ303 => exact fun _ _ _ h => h
        case hw303 => rfl
        case hy303 => (intro W hW; skip; go_simp; all_goals rfl)
        simp only [Act.put, List.setIfInBounds_toArray, List.set_cons_zero, List.set_cons_succ]
        refine wpAnyH_take (i := 4) (oi := ?oi304) (v := ?v304) ?hi304 (by kernel_rfl) (by kernel_rfl) (by kernel_rfl) ?hQ304 (Or.inl ⟨?hw304, ?hy304⟩) (by assumption) ?rest304
        case hi304 => simp only [List.getElem?_toArray, List.getElem?_cons_succ, List.getElem?_cons_zero]; rfl
        case hQ304 => exact fun _ _ _ h => h
        case hw304 => rfl
        case hy304 => (intro W hW; skip; go_simp; all_goals rfl)
        simp only [Act.put, List.setIfInBounds_toArray, List.set_cons_zero, List.set_cons_succ]
        refine wpAnyH_take (i := 5) (oi := ?oi305) (v := ?v305) ?hi305 (by kernel_rfl) (by kernel_rfl) (by kernel_rfl) ?hQ305 (Or.inl ⟨?hw305, ?hy305⟩) (by assumption) ?rest305
        case hi305 => simp only [List.getElem?_toArray, List.getElem?_cons_succ, List.getElem?_cons_zero]; rfl
        case hQ305 => exact fun _ _ _ h => h
        case hw305 => rfl
        case hy305 => (intro W hW; have cz := (let ⟨_, _, h⟩ := hW; h.at_ 0 HM0.out); clear hW; go_simp; all_goals rfl)
        simp only [Act.put, List.setIfInBounds_toArray, List.set_cons_zero, List.set_cons_succ]
        refine wpAnyH_take (i := 6) (oi := ?oi306) (v := ?v306) ?hi306 (by kernel_rfl) (by kernel_rfl) (by kernel_rfl) ?hQ306 (Or.inl ⟨?hw306, ?hy306⟩) (by assumption) ?rest306
        case hi306 => simp only [List.getElem?_toArray, List.getElem?_cons_succ, List.getElem?_cons_zero]; rfl
        case hQ306 => exact fun _ _ _ h => h
        case hw306 => rfl
        case hy306 => (intro W hW; have cz := (let ⟨_, _, h⟩ := hW; h.at_ 0 HM0.out); clear hW; go_simp; all_goals rfl)
        simp only [Act.put, List.setIfInBounds_toArray, List.set_cons_zero, List.set_cons_succ]
        refine wpAnyH_take (i := 7) (oi := ?oi307) (v := ?v307) ?hi307 (by kernel_rfl) (by kernel_rfl) (by kernel_rfl) ?hQ307 (Or.inl ⟨?hw307, ?hy307⟩) (by assumption) ?rest307
        case hi307 => simp only [List.getElem?_toArray, List.getElem?_cons_succ, List.getElem?_cons_zero]; rfl
        case hQ307 => exact fun _ _ _ h => h
        case hw307 => rfl
        case hy307 => (intro W hW; have cz := (let ⟨_, _, h⟩ := hW; h.at_ 0 HM0.out); clear hW; go_simp; all_goals rfl)
        simp only [Act.put, List.setIfInBounds_toArray, List.set_cons_zero, List.set_cons_succ]
        refine wpAnyH_take (i := 8) (oi := ?oi308) (v := ?v308) ?hi308 (by kernel_rfl) (by kernel_rfl) (by kernel_rfl) ?hQ308 (Or.inl ⟨?hw308, ?hy308⟩) (by assumption) ?rest308
        case hi308 => simp only [List.getElem?_toArray, List.getElem?_cons_succ, List.getElem?_cons_zero]; rfl
        case hQ308 => exact fun _ _ _ h => h
        case hw308 => rfl
        case hy308 => (intro W hW; have cz := (let ⟨_, _, h⟩ := hW; h.at_ 0 HM0.out); clear hW; go_simp; all_goals rfl)
        simp only [Act.put, List.setIfInBounds_toArray, List.set_cons_zero, List.set_cons_succ]
        refine wpAnyH_take (i := 9) (oi := ?oi309) (v := ?v309) ?hi309 (by kernel_rfl) (by kernel_rfl) (by kernel_rfl) ?hQ309 (Or.inl ⟨?hw309, ?hy309⟩) (by assumption) ?rest309
        case hi309 => simp only [List.getElem?_toArray, List.getElem?_cons_succ, List.getElem?_cons_zero]; rfl
        case hQ309 => exact fun _ _ _ h => h
        case hw309 => rfl
        case hy309 => (intro W hW; have cz := (let ⟨_, _, h⟩ := hW; h.at_ 0 HM0.out); clear hW; go_simp; all_goals rfl)
        simp only [Act.put, List.setIfInBounds_toArray, List.set_cons_zero, List.set_cons_succ]
        refine wpAnyH_take (i := 10) (oi := ?oi310) (v := ?v310) ?hi310 (by kernel_rfl) (by kernel_rfl) (by kernel_rfl) ?hQ310 (Or.inl ⟨?hw310, ?hy310⟩) (by assumption) ?rest310
        case hi310 => simp only [List.getElem?_toArray, List.getElem?_cons_succ, List.getElem?_cons_zero]; rfl
        case hQ310 => exact fun _ _ _ h => h
        case hw310 => rfl
        case hy310 => (intro W hW; have cz := (let ⟨_, _, h⟩ := hW; h.at_ 0 HM0.out); clear hW; go_simp; all_goals rfl)
        simp only [Act.put, List.setIfInBounds_toArray, List.set_cons_zero, List.set_cons_succ]
        refine wpAnyH_take (i := 11) (oi := ?oi311) (v := ?v311) ?hi311 (by kernel_rfl) (by kernel_rfl) (by kernel_rfl) ?hQ311 (Or.inl ⟨?hw311, ?hy311⟩) (by assumption) ?rest311
        case hi311 => simp only [List.getElem?_toArray, List.getElem?_cons_succ, List.getElem?_cons_zero]; rfl
        case hQ311 => exact fun _ _ _ h => h
        case hw311 => rfl
        case hy311 => (intro W hW; have cz := (let ⟨_, _, h⟩ := hW; h.at_ 0 HM0.out); clear hW; go_simp; all_goals rfl)
        simp only [Act.put, List.setIfInBounds_toArray, List.set_cons_zero, List.set_cons_succ]
        refine wpAnyH_take (i := 12) (oi := ?oi312) (v := ?v312) ?hi312 (by kernel_rfl) (by kernel_rfl) (by kernel_rfl) ?hQ312 (Or.inl ⟨?hw312, ?hy312⟩) (by assumption) ?rest312
        case hi312 => simp only [List.getElem?_toArray, List.getElem?_cons_succ, List.getElem?_cons_zero]; rfl
        case hQ312 => exact fun _ _ _ h => h
        case hw312 => rfl
        case hy312 => (intro W hW; have cz := (let ⟨_, _, h⟩ := hW; h.at_ 0 HM0.out); clear hW; go_simp; all_goals rfl)
        simp only [Act.put, List.setIfInBounds_toArray, List.set_cons_zero, List.set_cons_succ]
        refine wpAnyH_take (i := 13) (oi := ?oi313) (v := ?v313) ?hi313 (by kernel_rfl) (by kernel_rfl) (by kernel_rfl) ?hQ313 (Or.inl ⟨?hw313, ?hy313⟩) (by assumption) ?rest313
        case hi313 => simp only [List.getElem?_toArray, List.getElem?_cons_succ, List.getElem?_cons_zero]; rfl
        case hQ313 => exact fun _ _ _ h => h
        case hw313 => rfl
        case hy313 => (intro W hW; have cz := (let ⟨_, _, h⟩ := hW; h.at_ 0 HM0.out); clear hW; go_simp; all_goals rfl)
        simp only [Act.put, List.setIfInBounds_toArray, List.set_cons_zero, List.set_cons_succ]
        refine wpAnyH_ready (rs := [14]) (by kernel_rfl) (by simp) ?_
        refine AllReadyH.cons (i := 14) (o := ?oS2) ?hoS2 (fun Kq hK => ?stepS2) AllReadyH.nil
        case hoS2 => simp only [List.getElem?_toArray, List.getElem?_cons_succ, List.getElem?_cons_zero]; rfl
        obtain ⟨zs, hz8, hQ⟩ := hHeld
        refine step_store rfl 28 (.tmp 2) (.tmp 54) rfl gx M.cells.toArray rfl rfl 28 zs hQ.res (by rw [infoRq8]; simp [HM1.out.1]) (by rw [hz8]; simp [HM1.out.1]) HM1.out.2 ?_
        intro w8 hs8 hg8
        have hF : ∃ zs : Array Value, zs.size = 8 ∧ QR w w8 28 gx gq gr A n c s7 bs zs M := ⟨M.cells.toArray, by simp [HM1.out.1], hQ.stored hs8 hg8⟩
        have HRES : Hd (w8.heap[gx]? = some (.cells M.cells.toArray 28) ∧ QR w w8 28 gx gq gr A n c s7 bs M.cells.toArray M) := ⟨hs8, hQ.stored hs8 hg8⟩
        refine hK.out _ _ hF (fun _ => ?_)
        clear hK Kq hQ hz8 hs8 hg8
        have hHeld := hF
        clear hF
        try simp only [Act.put, List.setIfInBounds_toArray, List.set_cons_zero, List.set_cons_succ]
        refine wpAnyH_take (i := 15) (oi := ?oi401) (v := ?v401) ?hi401 (by kernel_rfl) (by kernel_rfl) (by kernel_rfl) ?hQ401 (Or.inl ⟨?hw401, ?hy401⟩) (by assumption) ?rest401
        case hi401 => simp only [List.getElem?_toArray, List.getElem?_cons_succ, List.getElem?_cons_zero]; rfl
        case hQ401 => exact fun _ _ _ h => h
        case hw401 => rfl
        case hy401 => (intro W hW; skip; go_simp; all_goals rfl)
        simp only [Act.put, List.setIfInBounds_toArray, List.set_cons_zero, List.set_cons_succ]
        refine wpAnyH_done (by kernel_rfl) ?_ _
        clear hHeld
        go_wp2_with fail
        (try simp only [Exit.inBlock, Exit.then])
        refine bodyPost_ret (results_cell_tmp rfl _ _ gx 28 M.cells.toArray (0, 0) _ rfl HRES.out.1 Try.underlying28 rfl (by rw [infoRq8]; simp [HM1.out.1])) rfl ?_
        refine ⟨M, (decide (K ≤ 8)), by (first | rfl | (simp [Act.put]; rfl) | skip), HRES.out.2.ch, HM1.out.1, HM1.out.2, ?_⟩
        rw [HRD.out]
        by_cases h8 : K ≤ 8
        ·exact .inl ⟨_, decide_eq_true h8, if_pos ⟨HN.out, h8, by first | trivial | rfl⟩, HMI.out, HRES.out.2.ok.lower (by have := HRES.out.2.l1; have := HRES.out.2.l2; have := HRES.out.2.l3; omega)⟩
        ·exact .inr ⟨decide_eq_false h8, if_neg (fun h => h8 h.2.1)⟩
      ·have HN := Hd.mk h0
       have hd : (fe == 0) = false := by simp [h0]
       clear h0 k0 k1
       refine wp_region_held_drew (S := fun W => ∃ zs : Array Value, zs.size = 8 ∧ QR w W 28 gx gq gr A n c s7 bs zs M) (by kernel_rfl) ⟨rq0, rfl, HW.out.below (Chg.refl _ _).drew⟩ (fun hHeld => ?_)
       refine wpAnyH_take (i := 0) (oi := ?oiR3) (v := .agg M.cells.toArray) ?hiR3 (by kernel_rfl) (by kernel_rfl) (by kernel_rfl) ?hQR3 ?hyR3 (by assumption) ?restR3
       case hiR3 => simp only [List.getElem?_toArray, List.getElem?_cons_succ, List.getElem?_cons_zero]; rfl
       case hQR3 => exact fun _ _ _ h => h
       case hyR3 => exact yieldsIf_load_mid rfl 28 (.tmp 5) rfl gq 0 rfl M.cells _ (fun W hW => let ⟨_, _, h⟩ := hW; h.range) Try.underlying28 rfl (by rw [infoRq8, HM1.out.1])
       simp only [Act.put, List.setIfInBounds_toArray, List.set_cons_zero, List.set_cons_succ]
       refine wpAnyH_take (i := 1) (oi := ?oi501) (v := ?v501) ?hi501 (by kernel_rfl) (by kernel_rfl) (by kernel_rfl) ?hQ501 (Or.inl ⟨?hw501, ?hy501⟩) (by assumption) ?rest501
       case hi501 => simp only [List.getElem?_toArray, List.getElem?_cons_succ, List.getElem?_cons_zero]; rfl
       case hQ501 => exact fun _ _ _ h => h
       case hw501 => rfl
       case hy501 => (intro W hW; skip; go_simp; all_goals rfl)
       simp only [Act.put, List.setIfInBounds_toArray, List.set_cons_zero, List.set_cons_succ]
       refine wpAnyH_ready (rs := [2]) (by kernel_rfl) (by simp) ?_
       refine AllReadyH.cons (i := 2) (o := ?o502) ?ho502 (fun Kq hK => ?step502) AllReadyH.nil
       case ho502 => simp only [List.getElem?_toArray, List.getElem?_cons_succ, List.getElem?_cons_zero]; rfl
       go_simp
       (obtain ⟨zs, hz8, hQ⟩ := hHeld; go_at_call 125; refine (rend_any _ gr n c s7.1 s7.2 A bs hQ.rdr).mono ?_; rw [HFE.out]; rintro e w7 ⟨rfl, hc7⟩)
       have hF : ∃ zs : Array Value, zs.size = 8 ∧ QR w w7 28 gx gq gr A n c s7 bs zs M := ⟨zs, hz8, hQ.below hc7⟩
       refine hK.out _ _ hF (fun _ => ?_)
       clear hK Kq hQ hz8 hc7
       have hHeld := hF
       clear hF
       try simp only [Act.put, List.setIfInBounds_toArray, List.set_cons_zero, List.set_cons_succ]
       refine wpAnyH_take (i := 3) (oi := ?oi503) (v := ?v503) ?hi503 (by kernel_rfl) (by kernel_rfl) (by kernel_rfl) ?hQ503 (Or.inl ⟨?hw503, ?hy503⟩) (by assumption) ?rest503
       case hi503 => simp only [List.getElem?_toArray, List.getElem?_cons_succ, List.getElem?_cons_zero]; rfl
       case hQ503 => exact fun _ _ _ h => h
       case hw503 => rfl
       case hy503 => (intro W hW; skip; go_simp; all_goals rfl)
       simp only [Act.put, List.setIfInBounds_toArray, List.set_cons_zero, List.set_cons_succ]
       refine wpAnyH_take (i := 4) (oi := ?oi504) (v := ?v504) ?hi504 (by kernel_rfl) (by kernel_rfl) (by kernel_rfl) ?hQ504 (Or.inl ⟨?hw504, ?hy504⟩) (by assumption) ?rest504
       case hi504 => simp only [List.getElem?_toArray, List.getElem?_cons_succ, List.getElem?_cons_zero]; rfl
       case hQ504 => exact fun _ _ _ h => h
       case hw504 => rfl
       case hy504 => (intro W hW; skip; go_simp; all_goals rfl)
       simp only [Act.put, List.setIfInBounds_toArray, List.set_cons_zero, List.set_cons_succ]
       refine wpAnyH_take (i := 5) (oi := ?oi505) (v := ?v505) ?hi505 (by kernel_rfl) (by kernel_rfl) (by kernel_rfl) ?hQ505 (Or.inr ⟨?hw505, ?hv505⟩) (by assumption) ?rest505
       case hi505 => simp only [List.getElem?_toArray, List.getElem?_cons_succ, List.getElem?_cons_zero]; rfl
       case hQ505 => exact fun _ _ _ h => h
       case hw505 => rfl
       case hv505 => rfl
       simp only [Act.put, List.setIfInBounds_toArray, List.set_cons_zero, List.set_cons_succ]
       refine wpAnyH_take (i := 6) (oi := ?oi506) (v := ?v506) ?hi506 (by kernel_rfl) (by kernel_rfl) (by kernel_rfl) ?hQ506 (Or.inr ⟨?hw506, ?hv506⟩) (by assumption) ?rest506
       case hi506 => simp only [List.getElem?_toArray, List.getElem?_cons_succ, List.getElem?_cons_zero]; rfl
       case hQ506 => exact fun _ _ _ h => h
       case hw506 => rfl
       case hv506 => rfl
       simp only [Act.put, List.setIfInBounds_toArray, List.set_cons_zero, List.set_cons_succ]
       refine wpAnyH_take (i := 7) (oi := ?oi507) (v := ?v507) ?hi507 (by kernel_rfl) (by kernel_rfl) (by kernel_rfl) ?hQ507 (Or.inr ⟨?hw507, ?hv507⟩) (by assumption) ?rest507
       case hi507 => simp only [List.getElem?_toArray, List.getElem?_cons_succ, List.getElem?_cons_zero]; rfl
       case hQ507 => exact fun _ _ _ h => h
       case hw507 => rfl
       case hv507 => rfl
       simp only [Act.put, List.setIfInBounds_toArray, List.set_cons_zero, List.set_cons_succ]
       refine wpAnyH_take (i := 8) (oi := ?oi508) (v := ?v508) ?hi508 (by kernel_rfl) (by kernel_rfl) (by kernel_rfl) ?hQ508 (Or.inl ⟨?hw508, ?hy508⟩) (by assumption) ?rest508
       case hi508 => simp only [List.getElem?_toArray, List.getElem?_cons_succ, List.getElem?_cons_zero]; rfl
       case hQ508 => exact fun _ _ _ h => h
       case hw508 => rfl
       case hy508 => (intro W hW; have cz := (let ⟨_, _, h⟩ := hW; h.at_ 0 HM0.out); clear hW; go_simp; all_goals rfl)
       simp only [Act.put, List.setIfInBounds_toArray, List.set_cons_zero, List.set_cons_succ]
       refine wpAnyH_take (i := 9) (oi := ?oi509) (v := ?v509) ?hi509 (by kernel_rfl) (by kernel_rfl) (by kernel_rfl) ?hQ509 (Or.inl ⟨?hw509, ?hy509⟩) (by assumption) ?rest509
       case hi509 => simp only [List.getElem?_toArray, List.getElem?_cons_succ, List.getElem?_cons_zero]; rfl
       case hQ509 => exact fun _ _ _ h => h
       case hw509 => rfl
       case hy509 => (intro W hW; have cz := (let ⟨_, _, h⟩ := hW; h.at_ 0 HM0.out); clear hW; go_simp; all_goals rfl)
       simp only [Act.put, List.setIfInBounds_toArray, List.set_cons_zero, List.set_cons_succ]
       refine wpAnyH_take (i := 10) (oi := ?oi510) (v := ?v510) ?hi510 (by kernel_rfl) (by kernel_rfl) (by kernel_rfl) ?hQ510 (Or.inr ⟨?hw510, ?hv510⟩) (by assumption) ?rest510
       case hi510 => simp only [List.getElem?_toArray, List.getElem?_cons_succ, List.getElem?_cons_zero]; rfl
       case hQ510 => exact fun _ _ _ h => h
       case hw510 => rfl
       case hv510 => rfl
       simp only [Act.put, List.setIfInBounds_toArray, List.set_cons_zero, List.set_cons_succ]
       refine wpAnyH_take (i := 11) (oi := ?oi511) (v := ?v511) ?hi511 (by kernel_rfl) (by kernel_rfl) (by kernel_rfl) ?hQ511 (Or.inr ⟨?hw511, ?hv511⟩) (by assumption) ?rest511
       case hi511 => simp only [List.getElem?_toArray, List.getElem?_cons_succ, List.getElem?_cons_zero]; rfl
       case hQ511 => exact fun _ _ _ h => h
       case hw511 => rfl
       case hv511 => rfl
       simp only [Act.put, List.setIfInBounds_toArray, List.set_cons_zero, List.set_cons_succ]
       refine wpAnyH_take (i := 12) (oi := ?oi512) (v := ?v512) ?hi512 (by kernel_rfl) (by kernel_rfl) (by kernel_rfl) ?hQ512 (Or.inr ⟨?hw512, ?hv512⟩) (by assumption) ?rest512
       case hi512 => simp only [List.getElem?_toArray, List.getElem?_cons_succ, List.getElem?_cons_zero]; rfl
       case hQ512 => exact fun _ _ _ h => h
       case hw512 => rfl
       case hv512 => rfl
       simp only [Act.put, List.setIfInBounds_toArray, List.set_cons_zero, List.set_cons_succ]
       refine wpAnyH_take (i := 13) (oi := ?oi513) (v := ?v513) ?hi513 (by kernel_rfl) (by kernel_rfl) (by kernel_rfl) ?hQ513 (Or.inl ⟨?hw513, ?hy513⟩) (by assumption) ?rest513
       case hi513 => simp only [List.getElem?_toArray, List.getElem?_cons_succ, List.getElem?_cons_zero]; rfl
       case hQ513 => exact fun _ _ _ h => h
       case hw513 => rfl
       case hy513 => (intro W hW; have cz := (let ⟨_, _, h⟩ := hW; h.at_ 0 HM0.out); clear hW; go_simp; all_goals rfl)
       simp only [Act.put, List.setIfInBounds_toArray, List.set_cons_zero, List.set_cons_succ]
       refine wpAnyH_ready (rs := [14]) (by kernel_rfl) (by simp) ?_
       refine AllReadyH.cons (i := 14) (o := ?oS3) ?hoS3 (fun Kq hK => ?stepS3) AllReadyH.nil
       case hoS3 => simp only [List.getElem?_toArray, List.getElem?_cons_succ, List.getElem?_cons_zero]; rfl
       obtain ⟨zs, hz8, hQ⟩ := hHeld
       refine step_store rfl 28 (.tmp 2) (.tmp 54) rfl gx M.cells.toArray rfl rfl 28 zs hQ.res (by rw [infoRq8]; simp [HM1.out.1]) (by rw [hz8]; simp [HM1.out.1]) HM1.out.2 ?_
       intro w8 hs8 hg8
       have hF : ∃ zs : Array Value, zs.size = 8 ∧ QR w w8 28 gx gq gr A n c s7 bs zs M := ⟨M.cells.toArray, by simp [HM1.out.1], hQ.stored hs8 hg8⟩
       have HRES : Hd (w8.heap[gx]? = some (.cells M.cells.toArray 28) ∧ QR w w8 28 gx gq gr A n c s7 bs M.cells.toArray M) := ⟨hs8, hQ.stored hs8 hg8⟩
       refine hK.out _ _ hF (fun _ => ?_)
       clear hK Kq hQ hz8 hs8 hg8
       have hHeld := hF
       clear hF
       try simp only [Act.put, List.setIfInBounds_toArray, List.set_cons_zero, List.set_cons_succ]
       refine wpAnyH_take (i := 15) (oi := ?oi601) (v := ?v601) ?hi601 (by kernel_rfl) (by kernel_rfl) (by kernel_rfl) ?hQ601 (Or.inl ⟨?hw601, ?hy601⟩) (by assumption) ?rest601
       case hi601 => simp only [List.getElem?_toArray, List.getElem?_cons_succ, List.getElem?_cons_zero]; rfl
       case hQ601 => exact fun _ _ _ h => h
       case hw601 => rfl
       case hy601 => (intro W hW; skip; go_simp; all_goals rfl)
       simp only [Act.put, List.setIfInBounds_toArray, List.set_cons_zero, List.set_cons_succ]
       refine wpAnyH_done (by kernel_rfl) ?_ _
       clear hHeld
       go_wp2_with fail
       (try simp only [Exit.inBlock, Exit.then])
       refine bodyPost_ret (results_cell_tmp rfl _ _ gx 28 M.cells.toArray (0, 0) _ rfl HRES.out.1 Try.underlying28 rfl (by rw [infoRq8]; simp [HM1.out.1])) rfl ?_
       refine ⟨M, false, by (first | rfl | (simp [Act.put]; rfl) | skip), HRES.out.2.ch, HM1.out.1, HM1.out.2, ?_⟩
       rw [HRD.out]
       exact .inr ⟨rfl, if_neg (fun h => HN.out h.2.2)⟩
end Go.Proofs.Ytbcmjjcbjojakaa
