/- Contract of wire.answer: the answer's three lists lie apart. (tools/anxgen.py prints it.) -/
import Derived.Test.YtbcmjjcbjojakaaPk8
namespace Go.Proofs.Ytbcmjjcbjojakaa
open Go.RowKit
set_option linter.unusedVariables false
set_option linter.unusedSimpArgs false
/-- No two of a message's own rows share a block. -/
def RAp (W : Wm) : Prop := W.rows.Pairwise fun r s => Apart r.2.1 s.2.1
def anIs2 (W : Wm) (a : An) : Prop := anIs W a ∧ RAp W
theorem an_ap {a : An} {v1 v2 v3 : Value} (h12 : Apart v1 v2) (h13 : Apart v1 v3) (h23 : Apart v2 v3) : RAp (anW a v1 v2 v3) := by
 unfold RAp anW
 simp only [List.pairwise_cons, List.mem_cons, List.not_mem_nil, or_false, forall_eq_or_imp, forall_eq, false_imp_iff, implies_true, List.Pairwise.nil, and_true]
 exact ⟨⟨h12, h13⟩, h23⟩
theorem apart_new {w w' : World} {b1 e1 e2 n m : Nat} {v u : Value} {xs ys : List Value} (h1 : w.ownsRow b1 e1 1 v n xs) (h2 : w'.ownsRow w.heap.size e2 1 u m ys) : Apart v u := fun g hg hk => by
 have := (h1.lt g hg).2
 have := (h2.lt g hk).1
 omega
set_option maxRecDepth 20000 in
set_option maxHeartbeats 16000000 in
theorem answer_ap (w : World) (gr n c : Nat) (A : Option Addr) (bs : List Nat) (R : Rr w gr A n c 0 0 bs) :
  Calls Try.prog 114 #[.pointer (some ⟨gr, 0, none⟩)] w (MsgPost An rdAn anIs2 15 w gr bs) := by
 have HR := Hd.mk R
 have hlt := R.lt
 obtain ⟨gx, hgx⟩ : ∃ gx, w.heap.size = gx := ⟨_, rfl⟩
 obtain ⟨w0, hw0⟩ : ∃ W, w.alloc (.cells #[.int .i64 0, .int .u64 0, .int .i64 0, .slice none 0 0, .slice none 0 0, .slice none 0 0, .string emS, .bool false, .int .i64 0, .int .i64 0, .int .i64 0, .int .i64 0, .int .i64 0, .int .i64 0, .int .i64 0] 43) = W := ⟨_, rfl⟩
 have H0 : Hd (Rr w0 gr A n c (0, 0).1 (0, 0).2 bs ∧ w0.heap[gx]? = some (.cells an0 43) ∧ Chg [gr] w w0 ∧ gr < gx ∧ gx < w0.heap.size) := ⟨by rw [← hw0]; exact R.keep ((Chg.refl [] w).alloc _) (by simp) (by simp), by rw [← hw0, ← hgx]; exact heap_alloc_new w _, by rw [← hw0]; exact (Chg.refl _ w).alloc _, by omega, by rw [← hw0]; simp; omega⟩
 have HG := Hd.mk hgx
 clear R hlt hgx
 go_enter Try.func114, Try.ntmps114
 go_upto_region 1 with fail
 have hz : (⟨#[]⟩ : ByteArray) = emS := rfl
 try rw [hz]
 rw [hw0, HG.out]
 clear hw0 hz
 go_wp2_with fail
 refine (cFix1 (s := (0, 0)) H0.out.1).mono ?_
 rintro e w1 ⟨v1, s1, e1, rfl, hv1, hc, hR⟩
 have H1 : Hd (Rr w1 gr A n c s1.1 s1.2 bs ∧ w1.heap[gx]? = some (.cells an0 43) ∧ Chg [gr] w w1 ∧ gr < gx ∧ gx < w1.heap.size) := ⟨hR, by rw [hc.block gx H0.out.2.2.2.2 (by have := H0.out.2.2.2.1; simp; omega)]; exact H0.out.2.1, H0.out.2.2.1.trans hc, H0.out.2.2.2.1, Nat.lt_of_lt_of_le H0.out.2.2.2.2 hc.size⟩
 have E1 := Hd.mk e1
 clear hc hR e1 H0
 go_wp2_with fail
 refine (cFix8 (s := s1) H1.out.1).mono ?_
 rintro e w2 ⟨v2, s2, e2, rfl, hv2, hc, hR⟩
 have H2 : Hd (Rr w2 gr A n c s2.1 s2.2 bs ∧ w2.heap[gx]? = some (.cells an0 43) ∧ Chg [gr] w w2 ∧ gr < gx ∧ gx < w2.heap.size) := ⟨hR, by rw [hc.block gx H1.out.2.2.2.2 (by have := H1.out.2.2.2.1; simp; omega)]; exact H1.out.2.1, H1.out.2.2.1.trans hc, H1.out.2.2.2.1, Nat.lt_of_lt_of_le H1.out.2.2.2.2 hc.size⟩
 have E2 := Hd.mk e2
 clear hc hR e2 H1
 go_upto_region 2 with (refine at_store (x := .tmp 4) ?_; refine wpList_boxed rfl 43 (.tmp 4) (.tmp 14) rfl w2.heap.size rfl (anW (anX v1 v2 0 [] [] [] [] false 0 0 0 0 0 0 0) (.slice none 0 0) (.slice none 0 0) (.slice none 0 0)).cells.toArray rfl rfl infoAn15 rfl (by simp [anW, anX, Value.oneCell']) ?_; intro w3 hB3)
 obtain ⟨gq, hgq⟩ : ∃ gq, w2.heap.size = gq := ⟨_, rfl⟩
 rw [hgq] at hB3 ⊢
 have hc3 : Chg [gr] w2 w3 := ⟨hB3.out.2.1.os, hB3.out.2.1.tape, hB3.out.2.1.output, hB3.out.2.1.size, fun k hk _ => hB3.out.2.1.block k (by omega)⟩
 have H3 : Hd (QS w w3 43 gx gq gr A n c s2 bs an0 (anW (anX v1 v2 0 [] [] [] [] false 0 0 0 0 0 0 0) (.slice none 0 0) (.slice none 0 0) (.slice none 0 0))) := ⟨hB3.out.1, by rw [hc3.block gx H2.out.2.2.2.2 (by have := H2.out.2.2.2.1; simp; omega)]; exact H2.out.2.1, H2.out.1.keep (L := []) ⟨hc3.os, hc3.tape, hc3.output, hc3.size, fun k hk _ => hB3.out.2.1.block k (by omega)⟩ (by simp) (by simp), H2.out.2.2.1.trans hc3, an_ok (World.ownsRow_nil ..) (World.ownsRow_nil ..) (World.ownsRow_nil ..), by have := HG.out; have := H2.out.2.2.2.1; omega, by have := HG.out; omega, by have := H2.out.2.2.2.2; omega⟩
 clear hB3 hc3 hgq H2
 go_wp2_with fail
 refine (cNumU (s := s2) H3.out.rdr).mono ?_
 rintro e w4 ⟨v3, s3, e3, rfl, hv3, hc, hR⟩
 have H4 : Hd (QS w w4 43 gx gq gr A n c s3 bs an0 (anW (anX v1 v2 0 [] [] [] [] false 0 0 0 0 0 0 0) (.slice none 0 0) (.slice none 0 0) (.slice none 0 0))) := ⟨H3.out.call hc hR⟩
 have E3 := Hd.mk e3
 clear hc hR e3 H3
 have c0 : w4.cell? ⟨gq, 0, none⟩ = some (.int .i64 (v1 : Int)) := H4.out.at_ 0 rfl
 by_cases m1 : 2147483647 < v3
 ·have m1i : (2147483647 : Int) < (v3 : Int) := by omega
  have HNO : Hd (rdAn bs = none) := ⟨by
   unfold rdAn; simp only [E1.out, E2.out, E3.out]; rw [if_neg (fun h => (by have := h.2.2.1; omega))]⟩
  have hrow := H4.out.res
  have hch := Hd.mk (And.intro H4.out.ch H4.out.l2)
  go_wp2_with (refine at_store (x := .tmp 2) ?_; refine wpList_stored rfl 43 (.tmp 2) (.tmp 29) rfl gx an0 rfl rfl 43 an0 hrow infoAn15 rfl (by simp [an0, Value.oneCell']) ?_; intro w9 hB9)
  (try simp only [Exit.inBlock, Exit.then])
  refine bodyPost_ret (results_cell_tmp rfl _ _ gx 43 an0 (0, 0) _ rfl hB9.out.1 Try.underlying43 rfl infoAn15) rfl ?_
  exact ⟨⟨an0.toList, []⟩, false, rfl, ⟨hB9.out.2.1.os.trans hch.out.1.os, hB9.out.2.1.tape.trans hch.out.1.tape, hB9.out.2.1.output.trans hch.out.1.output, Nat.le_trans hch.out.1.size hB9.out.2.1.size, fun k hk hm => (hB9.out.2.1.block k (Nat.lt_of_lt_of_le hk hch.out.1.size) (by have := hch.out.2; intro h; injection h; omega)).trans (hch.out.1.block k hk hm)⟩, rfl, by simp [an0, Value.oneCell'], .inr ⟨rfl, HNO.out⟩⟩
 have m1i : ¬ (2147483647 : Int) < (v3 : Int) := by omega
 by_cases m2 : v1 < 1
 ·have m2i : (v1 : Int) < 1 := by omega
  have HNO : Hd (rdAn bs = none) := ⟨by
   unfold rdAn; simp only [E1.out, E2.out, E3.out]; rw [if_neg (fun h => (by have := h.1; omega))]⟩
  have hrow := H4.out.res
  have hch := Hd.mk (And.intro H4.out.ch H4.out.l2)
  go_wp2_with (refine at_store (x := .tmp 2) ?_; refine wpList_stored rfl 43 (.tmp 2) (.tmp 29) rfl gx an0 rfl rfl 43 an0 hrow infoAn15 rfl (by simp [an0, Value.oneCell']) ?_; intro w9 hB9)
  (try simp only [Exit.inBlock, Exit.then])
  refine bodyPost_ret (results_cell_tmp rfl _ _ gx 43 an0 (0, 0) _ rfl hB9.out.1 Try.underlying43 rfl infoAn15) rfl ?_
  exact ⟨⟨an0.toList, []⟩, false, rfl, ⟨hB9.out.2.1.os.trans hch.out.1.os, hB9.out.2.1.tape.trans hch.out.1.tape, hB9.out.2.1.output.trans hch.out.1.output, Nat.le_trans hch.out.1.size hB9.out.2.1.size, fun k hk hm => (hB9.out.2.1.block k (Nat.lt_of_lt_of_le hk hch.out.1.size) (by have := hch.out.2; intro h; injection h; omega)).trans (hch.out.1.block k hk hm)⟩, rfl, by simp [an0, Value.oneCell'], .inr ⟨rfl, HNO.out⟩⟩
 have m2i : ¬ (v1 : Int) < 1 := by omega
 by_cases m3 : 8 < v1
 ·have m3i : (8 : Int) < (v1 : Int) := by omega
  have HNO : Hd (rdAn bs = none) := ⟨by
   unfold rdAn; simp only [E1.out, E2.out, E3.out]; rw [if_neg (fun h => (by have := h.2.1; omega))]⟩
  have hrow := H4.out.res
  have hch := Hd.mk (And.intro H4.out.ch H4.out.l2)
  go_wp2_with (refine at_store (x := .tmp 2) ?_; refine wpList_stored rfl 43 (.tmp 2) (.tmp 29) rfl gx an0 rfl rfl 43 an0 hrow infoAn15 rfl (by simp [an0, Value.oneCell']) ?_; intro w9 hB9)
  (try simp only [Exit.inBlock, Exit.then])
  refine bodyPost_ret (results_cell_tmp rfl _ _ gx 43 an0 (0, 0) _ rfl hB9.out.1 Try.underlying43 rfl infoAn15) rfl ?_
  exact ⟨⟨an0.toList, []⟩, false, rfl, ⟨hB9.out.2.1.os.trans hch.out.1.os, hB9.out.2.1.tape.trans hch.out.1.tape, hB9.out.2.1.output.trans hch.out.1.output, Nat.le_trans hch.out.1.size hB9.out.2.1.size, fun k hk hm => (hB9.out.2.1.block k (Nat.lt_of_lt_of_le hk hch.out.1.size) (by have := hch.out.2; intro h; injection h; omega)).trans (hch.out.1.block k hk hm)⟩, rfl, by simp [an0, Value.oneCell'], .inr ⟨rfl, HNO.out⟩⟩
 have m3i : ¬ (8 : Int) < (v1 : Int) := by omega
 have HYES : Hd (1 ≤ v1 ∧ v1 ≤ 8 ∧ v3 ≤ 2147483647) := ⟨by omega⟩
 have d2 : w4.cell? ⟨gq, 2, none⟩ = some (.int .i64 0) := H4.out.at_ 2 rfl
 have z2 := H4.out.z 2
 have hwr : IntKind.i64.wrap (v3 : Int) = (v3 : Int) := by rw [IntKind.wrap_i64]; omega
 go_upto_region 6 with fail
 obtain ⟨w5, hw5⟩ : ∃ W, w4.setCell ⟨gq, 2, none⟩ (.int .i64 (v3 : Int)) = W := ⟨_, rfl⟩
 rw [hw5]
 have H5 : Hd (QS w w5 43 gx gq gr A n c s3 bs an0 (anW (anX v1 v2 v3 [] [] [] [] false 0 0 0 0 0 0 0) (.slice none 0 0) (.slice none 0 0) (.slice none 0 0))) := ⟨by rw [← hw5]; exact H4.out.set (M' := (anW (anX v1 v2 v3 [] [] [] [] false 0 0 0 0 0 0 0) (.slice none 0 0) (.slice none 0 0) (.slice none 0 0))) 2 _ rfl (an_re H4.out.ok)⟩
 clear hw5 H4 c0 d2 z2 hwr m1 m2 m3 m1i m2i m3i
 have c0 : w5.cell? ⟨gq, 0, none⟩ = some (.int .i64 (v1 : Int)) := H5.out.at_ 0 rfl
 have c2 : w5.cell? ⟨gq, 2, none⟩ = some (.int .i64 (v3 : Int)) := H5.out.at_ 2 rfl
 by_cases k8 : v1 = 8
 ·have k8b : ((v1 : Int) == 8) = true := by subst k8; rfl
  have q2 : ((v1 : Int) == 2) = false := by subst k8; rfl
  have q3 : ((v1 : Int) == 3) = false := by subst k8; rfl
  have q4 : ((v1 : Int) == 4) = false := by subst k8; rfl
  have q6 : ((v1 : Int) == 6) = false := by subst k8; rfl
  have q7 : ((v1 : Int) == 7) = false := by subst k8; rfl
  have HK8 := Hd.mk k8
  clear k8
  go_upto_region 8 with fail
  obtain ⟨g4, hg4⟩ : ∃ g4, w5.heap.size = g4 := ⟨_, rfl⟩
  obtain ⟨w6, hw6⟩ : ∃ W, w5.alloc (.cells #[.pointer (some ⟨gq, 11, none⟩), .pointer (some ⟨gq, 12, none⟩), .pointer (some ⟨gq, 13, none⟩), .pointer (some ⟨gq, 14, none⟩)] 171) = W := ⟨_, rfl⟩
  rw [hw6]
  try rw [hg4]
  have H6 : Hd (QS w w6 43 gx gq gr A n c s3 bs an0 (anW (anX v1 v2 v3 [] [] [] [] false 0 0 0 0 0 0 0) (.slice none 0 0) (.slice none 0 0) (.slice none 0 0)) ∧ w6.heap[g4]? = some (.cells #[.pointer (some ⟨gq, 11, none⟩), .pointer (some ⟨gq, 12, none⟩), .pointer (some ⟨gq, 13, none⟩), .pointer (some ⟨gq, 14, none⟩)] 171) ∧ gq < g4) := ⟨by rw [← hw6]; exact H5.out.below ((Chg.refl [] _).alloc _), by rw [← hw6, ← hg4]; exact heap_alloc_new _ _, by rw [← hg4]; exact H5.out.lt⟩
  clear hg4 hw6 H5 c0 c2
  go_loopw [46] (fun u46 wr => ∃ k : Nat, k ≤ 4 ∧ u46 = .int .i64 (k : Int) ∧ QS w wr 43 gx gq gr A n c (hsF bs s3 k).2 bs an0 (anW (anX v1 v2 v3 [] [] [] [] false 0 0 0 ((hsF bs s3 k).1.getD 0 0) ((hsF bs s3 k).1.getD 1 0) ((hsF bs s3 k).1.getD 2 0) ((hsF bs s3 k).1.getD 3 0)) (.slice none 0 0) (.slice none 0 0) (.slice none 0 0)) ∧ wr.heap[g4]? = some (.cells #[.pointer (some ⟨gq, 11, none⟩), .pointer (some ⟨gq, 12, none⟩), .pointer (some ⟨gq, 13, none⟩), .pointer (some ⟨gq, 14, none⟩)] 171)) (fun u46 _ => 4 - (intOf u46).toNat)
  case atStart => exact ⟨0, by omega, rfl, H6.out.1, H6.out.2.1⟩
  case round =>
   obtain ⟨k, hk, rfl, hQ, hg4⟩ := hrel
   have HT := Hd.mk (And.intro hQ hg4)
   have HG4 := Hd.mk H6.out.2.2
   clear hQ hg4
   by_cases hlt : k < 4
   ·rcases (by omega : k = 0 ∨ k = 1 ∨ k = 2 ∨ k = 3) with rfl | rfl | rfl | rfl
    ·have hcell : wr.cell? ⟨g4, 0, none⟩ = some (.pointer (some ⟨gq, 11, none⟩)) := by rw [cell_of_row wr g4 0 _ _ (0, 0) HT.out.2]; rfl
     go_wp2_with fail
     refine (cNumV (s := (hsF bs s3 0).2) HT.out.1.rdr).mono ?_
     rintro e wz ⟨x, s', ez, rfl, hzb, hc, hR⟩
     have HZ : Hd (QS w wz 43 gx gq gr A n c s' bs an0 (anW (anX v1 v2 v3 [] [] [] [] false 0 0 0 ((hsF bs s3 0).1.getD 0 0) ((hsF bs s3 0).1.getD 1 0) ((hsF bs s3 0).1.getD 2 0) ((hsF bs s3 0).1.getD 3 0)) (.slice none 0 0) (.slice none 0 0) (.slice none 0 0)) ∧ wz.heap[g4]? = some (.cells #[.pointer (some ⟨gq, 11, none⟩), .pointer (some ⟨gq, 12, none⟩), .pointer (some ⟨gq, 13, none⟩), .pointer (some ⟨gq, 14, none⟩)] 171)) := ⟨HT.out.1.call hc hR, by rw [hc.block g4 (Array.getElem?_eq_some_iff.1 HT.out.2).1 (by have := HT.out.1.l1; have := HT.out.1.l2; have := HT.out.1.l3; have := HG4.out; simp; omega)]; exact HT.out.2⟩
     obtain ⟨u, hu⟩ : ∃ u, unz (x : Int) = u := ⟨_, rfl⟩
     rw [hu] at hzb ⊢
     have HU := Hd.mk (And.intro hu ez)
     clear hu hc hR ez hcell HT
     have d0 : wz.cell? ⟨gq, 11, none⟩ = some (.int .i64 (unz (((hsF bs s3 0).1.getD 0 0 : Nat) : Int))) := HZ.out.1.at_ 11 rfl
     have d1 := HZ.out.1.z 11
     generalize unz (((hsF bs s3 0).1.getD 0 0 : Nat) : Int) = old at d0
     have HNX : Hd (hsF bs s3 1 = ((hsF bs s3 0).1 ++ [x], s')) := ⟨by show ((hsF bs s3 0).1 ++ [(rNum bs (hsF bs s3 0).2).1], (rNum bs (hsF bs s3 0).2).2) = _; rw [HU.out.2]⟩
     have HLN : Hd ((hsF bs s3 0).1.length = 0) := ⟨hsF_len bs s3 0⟩
     go_wp2_with fail
     go_roundw
     case rel =>
      have hq := HZ.out.1.set (M' := (anW (anX v1 v2 v3 [] [] [] [] false 0 0 0 ((hsF bs s3 1).1.getD 0 0) ((hsF bs s3 1).1.getD 1 0) ((hsF bs s3 1).1.getD 2 0) ((hsF bs s3 1).1.getD 3 0)) (.slice none 0 0) (.slice none 0 0) (.slice none 0 0))) 11 (.int .i64 u) (by rw [HNX.out, ← HU.out.1]; obtain ⟨l, hl⟩ : ∃ l, (hsF bs s3 0).1 = l := ⟨_, rfl⟩; have hll := HLN.out; rw [hl] at hll ⊢; obtain rfl := List.eq_nil_of_length_eq_zero hll; simp [anW, anX]) (an_re HZ.out.1.ok)
      have hs2 : (hsF bs s3 1).2 = s' := by rw [HNX.out]
      have hg5 : (wz.setCell ⟨gq, 11, none⟩ (.int .i64 u)).heap[g4]? = some (.cells #[.pointer (some ⟨gq, 11, none⟩), .pointer (some ⟨gq, 12, none⟩), .pointer (some ⟨gq, 13, none⟩), .pointer (some ⟨gq, 14, none⟩)] 171) := by rw [Below.heap_setCell _ _ _ _ (by show g4 ≠ gq; have := HG4.out; omega)]; exact HZ.out.2
      rw [← hs2] at hq
      first
       | exact ⟨1, by omega, by first | rfl | go_num, hq, hg5⟩
       | exact ⟨_, _, _, _, _, _, _, _, ⟨1, by omega, by first | rfl | go_num, hq, hg5⟩, rfl, rfl, rfl, rfl, rfl, rfl, rfl, rfl⟩
     case measure => simp [intOf]
    ·have hcell : wr.cell? ⟨g4, 1, none⟩ = some (.pointer (some ⟨gq, 12, none⟩)) := by rw [cell_of_row wr g4 1 _ _ (0, 0) HT.out.2]; rfl
     go_wp2_with fail
     refine (cNumV (s := (hsF bs s3 1).2) HT.out.1.rdr).mono ?_
     rintro e wz ⟨x, s', ez, rfl, hzb, hc, hR⟩
     have HZ : Hd (QS w wz 43 gx gq gr A n c s' bs an0 (anW (anX v1 v2 v3 [] [] [] [] false 0 0 0 ((hsF bs s3 1).1.getD 0 0) ((hsF bs s3 1).1.getD 1 0) ((hsF bs s3 1).1.getD 2 0) ((hsF bs s3 1).1.getD 3 0)) (.slice none 0 0) (.slice none 0 0) (.slice none 0 0)) ∧ wz.heap[g4]? = some (.cells #[.pointer (some ⟨gq, 11, none⟩), .pointer (some ⟨gq, 12, none⟩), .pointer (some ⟨gq, 13, none⟩), .pointer (some ⟨gq, 14, none⟩)] 171)) := ⟨HT.out.1.call hc hR, by rw [hc.block g4 (Array.getElem?_eq_some_iff.1 HT.out.2).1 (by have := HT.out.1.l1; have := HT.out.1.l2; have := HT.out.1.l3; have := HG4.out; simp; omega)]; exact HT.out.2⟩
     obtain ⟨u, hu⟩ : ∃ u, unz (x : Int) = u := ⟨_, rfl⟩
     rw [hu] at hzb ⊢
     have HU := Hd.mk (And.intro hu ez)
     clear hu hc hR ez hcell HT
     have d0 : wz.cell? ⟨gq, 12, none⟩ = some (.int .i64 (unz (((hsF bs s3 1).1.getD 1 0 : Nat) : Int))) := HZ.out.1.at_ 12 rfl
     have d1 := HZ.out.1.z 12
     generalize unz (((hsF bs s3 1).1.getD 1 0 : Nat) : Int) = old at d0
     have HNX : Hd (hsF bs s3 2 = ((hsF bs s3 1).1 ++ [x], s')) := ⟨by show ((hsF bs s3 1).1 ++ [(rNum bs (hsF bs s3 1).2).1], (rNum bs (hsF bs s3 1).2).2) = _; rw [HU.out.2]⟩
     have HLN : Hd ((hsF bs s3 1).1.length = 1) := ⟨hsF_len bs s3 1⟩
     go_wp2_with fail
     go_roundw
     case rel =>
      have hq := HZ.out.1.set (M' := (anW (anX v1 v2 v3 [] [] [] [] false 0 0 0 ((hsF bs s3 2).1.getD 0 0) ((hsF bs s3 2).1.getD 1 0) ((hsF bs s3 2).1.getD 2 0) ((hsF bs s3 2).1.getD 3 0)) (.slice none 0 0) (.slice none 0 0) (.slice none 0 0))) 12 (.int .i64 u) (by rw [HNX.out, ← HU.out.1]; obtain ⟨l, hl⟩ : ∃ l, (hsF bs s3 1).1 = l := ⟨_, rfl⟩; have hll := HLN.out; rw [hl] at hll ⊢; obtain ⟨a1, rfl⟩ := List.length_eq_one_iff.1 hll; simp [anW, anX]) (an_re HZ.out.1.ok)
      have hs2 : (hsF bs s3 2).2 = s' := by rw [HNX.out]
      have hg5 : (wz.setCell ⟨gq, 12, none⟩ (.int .i64 u)).heap[g4]? = some (.cells #[.pointer (some ⟨gq, 11, none⟩), .pointer (some ⟨gq, 12, none⟩), .pointer (some ⟨gq, 13, none⟩), .pointer (some ⟨gq, 14, none⟩)] 171) := by rw [Below.heap_setCell _ _ _ _ (by show g4 ≠ gq; have := HG4.out; omega)]; exact HZ.out.2
      rw [← hs2] at hq
      first
       | exact ⟨2, by omega, by first | rfl | go_num, hq, hg5⟩
       | exact ⟨_, _, _, _, _, _, _, _, ⟨2, by omega, by first | rfl | go_num, hq, hg5⟩, rfl, rfl, rfl, rfl, rfl, rfl, rfl, rfl⟩
     case measure => simp [intOf]
    ·have hcell : wr.cell? ⟨g4, 2, none⟩ = some (.pointer (some ⟨gq, 13, none⟩)) := by rw [cell_of_row wr g4 2 _ _ (0, 0) HT.out.2]; rfl
     go_wp2_with fail
     refine (cNumV (s := (hsF bs s3 2).2) HT.out.1.rdr).mono ?_
     rintro e wz ⟨x, s', ez, rfl, hzb, hc, hR⟩
     have HZ : Hd (QS w wz 43 gx gq gr A n c s' bs an0 (anW (anX v1 v2 v3 [] [] [] [] false 0 0 0 ((hsF bs s3 2).1.getD 0 0) ((hsF bs s3 2).1.getD 1 0) ((hsF bs s3 2).1.getD 2 0) ((hsF bs s3 2).1.getD 3 0)) (.slice none 0 0) (.slice none 0 0) (.slice none 0 0)) ∧ wz.heap[g4]? = some (.cells #[.pointer (some ⟨gq, 11, none⟩), .pointer (some ⟨gq, 12, none⟩), .pointer (some ⟨gq, 13, none⟩), .pointer (some ⟨gq, 14, none⟩)] 171)) := ⟨HT.out.1.call hc hR, by rw [hc.block g4 (Array.getElem?_eq_some_iff.1 HT.out.2).1 (by have := HT.out.1.l1; have := HT.out.1.l2; have := HT.out.1.l3; have := HG4.out; simp; omega)]; exact HT.out.2⟩
     obtain ⟨u, hu⟩ : ∃ u, unz (x : Int) = u := ⟨_, rfl⟩
     rw [hu] at hzb ⊢
     have HU := Hd.mk (And.intro hu ez)
     clear hu hc hR ez hcell HT
     have d0 : wz.cell? ⟨gq, 13, none⟩ = some (.int .i64 (unz (((hsF bs s3 2).1.getD 2 0 : Nat) : Int))) := HZ.out.1.at_ 13 rfl
     have d1 := HZ.out.1.z 13
     generalize unz (((hsF bs s3 2).1.getD 2 0 : Nat) : Int) = old at d0
     have HNX : Hd (hsF bs s3 3 = ((hsF bs s3 2).1 ++ [x], s')) := ⟨by show ((hsF bs s3 2).1 ++ [(rNum bs (hsF bs s3 2).2).1], (rNum bs (hsF bs s3 2).2).2) = _; rw [HU.out.2]⟩
     have HLN : Hd ((hsF bs s3 2).1.length = 2) := ⟨hsF_len bs s3 2⟩
     go_wp2_with fail
     go_roundw
     case rel =>
      have hq := HZ.out.1.set (M' := (anW (anX v1 v2 v3 [] [] [] [] false 0 0 0 ((hsF bs s3 3).1.getD 0 0) ((hsF bs s3 3).1.getD 1 0) ((hsF bs s3 3).1.getD 2 0) ((hsF bs s3 3).1.getD 3 0)) (.slice none 0 0) (.slice none 0 0) (.slice none 0 0))) 13 (.int .i64 u) (by rw [HNX.out, ← HU.out.1]; obtain ⟨l, hl⟩ : ∃ l, (hsF bs s3 2).1 = l := ⟨_, rfl⟩; have hll := HLN.out; rw [hl] at hll ⊢; obtain ⟨a1, a2, rfl⟩ := len2 hll; simp [anW, anX]) (an_re HZ.out.1.ok)
      have hs2 : (hsF bs s3 3).2 = s' := by rw [HNX.out]
      have hg5 : (wz.setCell ⟨gq, 13, none⟩ (.int .i64 u)).heap[g4]? = some (.cells #[.pointer (some ⟨gq, 11, none⟩), .pointer (some ⟨gq, 12, none⟩), .pointer (some ⟨gq, 13, none⟩), .pointer (some ⟨gq, 14, none⟩)] 171) := by rw [Below.heap_setCell _ _ _ _ (by show g4 ≠ gq; have := HG4.out; omega)]; exact HZ.out.2
      rw [← hs2] at hq
      first
       | exact ⟨3, by omega, by first | rfl | go_num, hq, hg5⟩
       | exact ⟨_, _, _, _, _, _, _, _, ⟨3, by omega, by first | rfl | go_num, hq, hg5⟩, rfl, rfl, rfl, rfl, rfl, rfl, rfl, rfl⟩
     case measure => simp [intOf]
    ·have hcell : wr.cell? ⟨g4, 3, none⟩ = some (.pointer (some ⟨gq, 14, none⟩)) := by rw [cell_of_row wr g4 3 _ _ (0, 0) HT.out.2]; rfl
     go_wp2_with fail
     refine (cNumV (s := (hsF bs s3 3).2) HT.out.1.rdr).mono ?_
     rintro e wz ⟨x, s', ez, rfl, hzb, hc, hR⟩
     have HZ : Hd (QS w wz 43 gx gq gr A n c s' bs an0 (anW (anX v1 v2 v3 [] [] [] [] false 0 0 0 ((hsF bs s3 3).1.getD 0 0) ((hsF bs s3 3).1.getD 1 0) ((hsF bs s3 3).1.getD 2 0) ((hsF bs s3 3).1.getD 3 0)) (.slice none 0 0) (.slice none 0 0) (.slice none 0 0)) ∧ wz.heap[g4]? = some (.cells #[.pointer (some ⟨gq, 11, none⟩), .pointer (some ⟨gq, 12, none⟩), .pointer (some ⟨gq, 13, none⟩), .pointer (some ⟨gq, 14, none⟩)] 171)) := ⟨HT.out.1.call hc hR, by rw [hc.block g4 (Array.getElem?_eq_some_iff.1 HT.out.2).1 (by have := HT.out.1.l1; have := HT.out.1.l2; have := HT.out.1.l3; have := HG4.out; simp; omega)]; exact HT.out.2⟩
     obtain ⟨u, hu⟩ : ∃ u, unz (x : Int) = u := ⟨_, rfl⟩
     rw [hu] at hzb ⊢
     have HU := Hd.mk (And.intro hu ez)
     clear hu hc hR ez hcell HT
     have d0 : wz.cell? ⟨gq, 14, none⟩ = some (.int .i64 (unz (((hsF bs s3 3).1.getD 3 0 : Nat) : Int))) := HZ.out.1.at_ 14 rfl
     have d1 := HZ.out.1.z 14
     generalize unz (((hsF bs s3 3).1.getD 3 0 : Nat) : Int) = old at d0
     have HNX : Hd (hsF bs s3 4 = ((hsF bs s3 3).1 ++ [x], s')) := ⟨by show ((hsF bs s3 3).1 ++ [(rNum bs (hsF bs s3 3).2).1], (rNum bs (hsF bs s3 3).2).2) = _; rw [HU.out.2]⟩
     have HLN : Hd ((hsF bs s3 3).1.length = 3) := ⟨hsF_len bs s3 3⟩
     go_wp2_with fail
     go_roundw
     case rel =>
      have hq := HZ.out.1.set (M' := (anW (anX v1 v2 v3 [] [] [] [] false 0 0 0 ((hsF bs s3 4).1.getD 0 0) ((hsF bs s3 4).1.getD 1 0) ((hsF bs s3 4).1.getD 2 0) ((hsF bs s3 4).1.getD 3 0)) (.slice none 0 0) (.slice none 0 0) (.slice none 0 0))) 14 (.int .i64 u) (by rw [HNX.out, ← HU.out.1]; obtain ⟨l, hl⟩ : ∃ l, (hsF bs s3 3).1 = l := ⟨_, rfl⟩; have hll := HLN.out; rw [hl] at hll ⊢; obtain ⟨a1, a2, a3, rfl⟩ := len3 hll; simp [anW, anX]) (an_re HZ.out.1.ok)
      have hs2 : (hsF bs s3 4).2 = s' := by rw [HNX.out]
      have hg5 : (wz.setCell ⟨gq, 14, none⟩ (.int .i64 u)).heap[g4]? = some (.cells #[.pointer (some ⟨gq, 11, none⟩), .pointer (some ⟨gq, 12, none⟩), .pointer (some ⟨gq, 13, none⟩), .pointer (some ⟨gq, 14, none⟩)] 171) := by rw [Below.heap_setCell _ _ _ _ (by show g4 ≠ gq; have := HG4.out; omega)]; exact HZ.out.2
      rw [← hs2] at hq
      first
       | exact ⟨4, by omega, by first | rfl | go_num, hq, hg5⟩
       | exact ⟨_, _, _, _, _, _, _, _, ⟨4, by omega, by first | rfl | go_num, hq, hg5⟩, rfl, rfl, rfl, rfl, rfl, rfl, rfl, rfl⟩
     case measure => simp [intOf]
   ·have hk4 : k = 4 := by omega
    subst hk4
    obtain ⟨x1, t1, r1⟩ : ∃ x t, rNum bs s3 = (x, t) := ⟨_, _, rfl⟩
    obtain ⟨x2, t2, r2⟩ : ∃ x t, rNum bs t1 = (x, t) := ⟨_, _, rfl⟩
    obtain ⟨x3, t3, r3⟩ : ∃ x t, rNum bs t2 = (x, t) := ⟨_, _, rfl⟩
    obtain ⟨x4, t4, r4⟩ : ∃ x t, rNum bs t3 = (x, t) := ⟨_, _, rfl⟩
    have hh : hsF bs s3 4 = ([x1, x2, x3, x4], t4) := by simp [hsF, r1, r2, r3, r4]
    have HE : Hd (QS w wr 43 gx gq gr A n c t4 bs an0 (anW (anX v1 v2 v3 [] [] [] [] false 0 0 0 x1 x2 x3 x4) (.slice none 0 0) (.slice none 0 0) (.slice none 0 0))) := ⟨by have := HT.out.1; rw [hh] at this; exact this⟩
    have E4 := Hd.mk r1
    have E5 := Hd.mk r2
    have E6 := Hd.mk r3
    have E7 := Hd.mk r4
    clear HT HG4 r1 r2 r3 r4 hh H6
    have c0 : wr.cell? ⟨gq, 0, none⟩ = some (.int .i64 (v1 : Int)) := HE.out.at_ 0 rfl
    have c2 : wr.cell? ⟨gq, 2, none⟩ = some (.int .i64 (v3 : Int)) := HE.out.at_ 2 rfl
    by_cases k0 : v3 = 0
    ·have k0b : ((v3 : Int) == 0) = true := by subst k0; rfl
     have HK0 := Hd.mk k0
     clear k0
     go_upto_region 32 with fail
     have HW := Hd.mk HE.out
     clear HE
     try clear c0
     try clear c2
     obtain ⟨M, hM⟩ : ∃ M, (anW (anX v1 v2 v3 [] [] [] [] false 0 0 0 x1 x2 x3 x4) (.slice none 0 0) (.slice none 0 0) (.slice none 0 0)) = M := ⟨_, rfl⟩
     have HM1 : Hd (M.cells.length = 15 ∧ M.cells.toArray.all (·.oneCell') = true) := ⟨by rw [← hM]; exact anW_one HW.out.ok⟩
     have HMI : Hd (anIs2 M (anX v1 v2 v3 [] [] [] [] false 0 0 0 x1 x2 x3 x4)) := ⟨⟨_, _, _, hM.symm⟩, by rw [← hM]; exact an_ap (by first | exact Apart.nil _ | exact (Apart.nil _).symm) (by first | exact Apart.nil _ | exact (Apart.nil _).symm) (by first | exact Apart.nil _ | exact (Apart.nil _).symm | exact HAP.out)⟩
     rw [hM] at HW
     clear hM
     obtain ⟨fe, hfe⟩ : ∃ f, endF n t4.1 t4.2 = f := ⟨_, rfl⟩
     have HFE := Hd.mk hfe
     have hn : bs.length = n := HW.out.rdr.len
     have HRD : Hd (rdAn bs = if fe = 0 then some (anX v1 v2 v3 [] [] [] [] false 0 0 0 x1 x2 x3 x4) else none) := ⟨by
      have ky := HYES.out
      have z0 : unz ((0 : Nat) : Int) = 0 := by decide
      have B8 : decide ((v1 : Int) = 8) = true := by (try unfold qBody); (try unfold qGen); (try unfold qKeys); (try unfold qPage); exact decide_eq_true (by have := HK8.out; omega)
      have BB : qBody (v1 : Int) (v3 : Int) = false := by (try unfold qBody); (try unfold qGen); (try unfold qKeys); (try unfold qPage); exact decide_eq_false (by have := HK8.out; omega)
      have BG : qGen (v1 : Int) (v3 : Int) = false := by (try unfold qBody); (try unfold qGen); (try unfold qKeys); (try unfold qPage); exact decide_eq_false (by have := HK8.out; omega)
      have BK : qKeys (v1 : Int) (v3 : Int) = false := by (try unfold qBody); (try unfold qGen); (try unfold qKeys); (try unfold qPage); exact decide_eq_false (by have := HK8.out; omega)
      have BP : qPage (v1 : Int) (v3 : Int) = false := by (try unfold qBody); (try unfold qGen); (try unfold qKeys); (try unfold qPage); exact decide_eq_false (by have := HK8.out; omega)
      unfold rdAn
      simp only [E1.out, E2.out, E3.out, B8, BB, BG, BK, BP, opt_t, opt_f, E4.out, E5.out, E6.out, E7.out]
      rw [hn, hfe]
      by_cases h0 : fe = 0
      ·rw [if_pos h0, if_pos ⟨by omega, by omega, by omega, by omega, h0⟩]; rfl
      ·rw [if_neg h0, if_neg (fun h => h0 h.2.2.2.2)]⟩
     clear hn hfe
     refine wp_region_held_drew (S := fun W => ∃ zs : Array Value, zs.size = 15 ∧ QS w W 43 gx gq gr A n c t4 bs zs M) (by kernel_rfl) ⟨an0, rfl, HW.out.below (Chg.refl _ _).drew⟩ (fun hHeld => ?_)
     refine wpAnyH_take (i := 0) (oi := ?oiR100) (v := .agg M.cells.toArray) ?hiR100 (by kernel_rfl) (by kernel_rfl) (by kernel_rfl) ?hQR100 ?hyR100 (by assumption) ?restR100
     case hiR100 => simp only [List.getElem?_toArray, List.getElem?_cons_succ, List.getElem?_cons_zero]; rfl
     case hQR100 => exact fun _ _ _ h => h
     case hyR100 => exact yieldsIf_load_mid rfl 43 (.tmp 4) rfl gq 0 rfl M.cells _ (fun W hW => let ⟨_, _, h⟩ := hW; h.range) Try.underlying43 rfl (by rw [infoAn15, HM1.out.1])
     simp only [Act.put, List.setIfInBounds_toArray, List.set_cons_zero, List.set_cons_succ]
     refine wpAnyH_take (i := 1) (oi := ?oi201) (v := ?v201) ?hi201 (by kernel_rfl) (by kernel_rfl) (by kernel_rfl) ?hQ201 (Or.inl ⟨?hw201, ?hy201⟩) (by assumption) ?rest201
     case hi201 => simp only [List.getElem?_toArray, List.getElem?_cons_succ, List.getElem?_cons_zero]; rfl
     case hQ201 => exact fun _ _ _ h => h
     case hw201 => rfl
     case hy201 => (intro W hW; skip; go_simp; all_goals rfl)
     simp only [Act.put, List.setIfInBounds_toArray, List.set_cons_zero, List.set_cons_succ]
     refine wpAnyH_ready (rs := [2]) (by kernel_rfl) (by simp) ?_
     refine AllReadyH.cons (i := 2) (o := ?o202) ?ho202 (fun Kq hK => ?step202) AllReadyH.nil
     case ho202 => simp only [List.getElem?_toArray, List.getElem?_cons_succ, List.getElem?_cons_zero]; rfl
     go_simp
     (obtain ⟨zs, hz8, hQ⟩ := hHeld; go_at_call 130; refine (end_any _ gr n c t4.1 t4.2 A bs hQ.rdr).mono ?_; rw [HFE.out]; rintro e w7 ⟨rfl, hc7⟩)
     have hF : ∃ zs : Array Value, zs.size = 15 ∧ QS w w7 43 gx gq gr A n c t4 bs zs M := ⟨zs, hz8, hQ.below hc7⟩
     refine hK.out _ _ hF (fun _ => ?_)
     clear hK Kq hQ hz8 hc7
     have hHeld := hF
     clear hF
     try simp only [Act.put, List.setIfInBounds_toArray, List.set_cons_zero, List.set_cons_succ]
     refine wpAnyH_take (i := 3) (oi := ?oi203) (v := ?v203) ?hi203 (by kernel_rfl) (by kernel_rfl) (by kernel_rfl) ?hQ203 (Or.inl ⟨?hw203, ?hy203⟩) (by assumption) ?rest203
     case hi203 => simp only [List.getElem?_toArray, List.getElem?_cons_succ, List.getElem?_cons_zero]; rfl
     case hQ203 => exact fun _ _ _ h => h
     case hw203 => rfl
     case hy203 => (intro W hW; skip; go_simp; all_goals rfl)
     simp only [Act.put, List.setIfInBounds_toArray, List.set_cons_zero, List.set_cons_succ]
     refine wpAnyH_ready (rs := [4]) (by kernel_rfl) (by simp) ?_
     refine AllReadyH.cons (i := 4) (o := ?oS100) ?hoS100 (fun Kq hK => ?stepS100) AllReadyH.nil
     case hoS100 => simp only [List.getElem?_toArray, List.getElem?_cons_succ, List.getElem?_cons_zero]; rfl
     obtain ⟨zs, hz8, hQ⟩ := hHeld
     refine step_store rfl 43 (.tmp 2) (.tmp 108) rfl gx M.cells.toArray rfl rfl 43 zs hQ.res (by rw [infoAn15]; simp [HM1.out.1]) (by rw [hz8]; simp [HM1.out.1]) HM1.out.2 ?_
     intro w8 hs8 hg8
     have hF : ∃ zs : Array Value, zs.size = 15 ∧ QS w w8 43 gx gq gr A n c t4 bs zs M := ⟨M.cells.toArray, by simp [HM1.out.1], hQ.stored hs8 hg8⟩
     have HRES : Hd (w8.heap[gx]? = some (.cells M.cells.toArray 43) ∧ QS w w8 43 gx gq gr A n c t4 bs M.cells.toArray M) := ⟨hs8, hQ.stored hs8 hg8⟩
     refine hK.out _ _ hF (fun _ => ?_)
     clear hK Kq hQ hz8 hs8 hg8
     have hHeld := hF
     clear hF
     try simp only [Act.put, List.setIfInBounds_toArray, List.set_cons_zero, List.set_cons_succ]
     refine wpAnyH_take (i := 5) (oi := ?oi301) (v := ?v301) ?hi301 (by kernel_rfl) (by kernel_rfl) (by kernel_rfl) ?hQ301 (Or.inl ⟨?hw301, ?hy301⟩) (by assumption) ?rest301
     case hi301 => simp only [List.getElem?_toArray, List.getElem?_cons_succ, List.getElem?_cons_zero]; rfl
     case hQ301 => exact fun _ _ _ h => h
     case hw301 => rfl
     case hy301 => (intro W hW; skip; go_simp; all_goals rfl)
     simp only [Act.put, List.setIfInBounds_toArray, List.set_cons_zero, List.set_cons_succ]
     refine wpAnyH_done (by kernel_rfl) ?_ _
     clear hHeld
     go_wp2_with fail
     (try simp only [Exit.inBlock, Exit.then])
     refine bodyPost_ret (results_cell_tmp rfl _ _ gx 43 M.cells.toArray (0, 0) _ rfl HRES.out.1 Try.underlying43 rfl (by rw [infoAn15]; simp [HM1.out.1])) rfl ?_
     refine ⟨M, decide (fe = 0), by (first | rfl | (simp [Act.put]; rfl) | skip), HRES.out.2.ch, HM1.out.1, HM1.out.2, ?_⟩
     rw [HRD.out]
     by_cases h0 : fe = 0
     ·exact .inl ⟨_, decide_eq_true h0, if_pos h0, HMI.out, HRES.out.2.ok.lower (by have := HRES.out.2.l2; have := HRES.out.2.l3; omega)⟩
     ·exact .inr ⟨decide_eq_false h0, if_neg h0⟩
    ·have k0b : ((v3 : Int) == 0) = false := beq_eq_false_iff_ne.2 (by omega)
     have HK0 := Hd.mk k0
     clear k0
     go_upto_region 13 with fail
     have HW := Hd.mk HE.out
     clear HE
     try clear c0
     try clear c2
     obtain ⟨M, hM⟩ : ∃ M, (anW (anX v1 v2 v3 [] [] [] [] false 0 0 0 x1 x2 x3 x4) (.slice none 0 0) (.slice none 0 0) (.slice none 0 0)) = M := ⟨_, rfl⟩
     have HM1 : Hd (M.cells.length = 15 ∧ M.cells.toArray.all (·.oneCell') = true) := ⟨by rw [← hM]; exact anW_one HW.out.ok⟩
     have HMI : Hd (anIs2 M (anX v1 v2 v3 [] [] [] [] false 0 0 0 x1 x2 x3 x4)) := ⟨⟨_, _, _, hM.symm⟩, by rw [← hM]; exact an_ap (by first | exact Apart.nil _ | exact (Apart.nil _).symm) (by first | exact Apart.nil _ | exact (Apart.nil _).symm) (by first | exact Apart.nil _ | exact (Apart.nil _).symm | exact HAP.out)⟩
     rw [hM] at HW
     clear hM
     obtain ⟨fe, hfe⟩ : ∃ f, endF n t4.1 t4.2 = f := ⟨_, rfl⟩
     have HFE := Hd.mk hfe
     have hn : bs.length = n := HW.out.rdr.len
     have HRD : Hd (rdAn bs = if fe = 0 then some (anX v1 v2 v3 [] [] [] [] false 0 0 0 x1 x2 x3 x4) else none) := ⟨by
      have ky := HYES.out
      have z0 : unz ((0 : Nat) : Int) = 0 := by decide
      have B8 : decide ((v1 : Int) = 8) = true := by (try unfold qBody); (try unfold qGen); (try unfold qKeys); (try unfold qPage); exact decide_eq_true (by have := HK8.out; omega)
      have BB : qBody (v1 : Int) (v3 : Int) = false := by (try unfold qBody); (try unfold qGen); (try unfold qKeys); (try unfold qPage); exact decide_eq_false (by have := HK8.out; omega)
      have BG : qGen (v1 : Int) (v3 : Int) = false := by (try unfold qBody); (try unfold qGen); (try unfold qKeys); (try unfold qPage); exact decide_eq_false (by have := HK8.out; omega)
      have BK : qKeys (v1 : Int) (v3 : Int) = false := by (try unfold qBody); (try unfold qGen); (try unfold qKeys); (try unfold qPage); exact decide_eq_false (by have := HK8.out; omega)
      have BP : qPage (v1 : Int) (v3 : Int) = false := by (try unfold qBody); (try unfold qGen); (try unfold qKeys); (try unfold qPage); exact decide_eq_false (by have := HK8.out; omega)
      unfold rdAn
      simp only [E1.out, E2.out, E3.out, B8, BB, BG, BK, BP, opt_t, opt_f, E4.out, E5.out, E6.out, E7.out]
      rw [hn, hfe]
      by_cases h0 : fe = 0
      ·rw [if_pos h0, if_pos ⟨by omega, by omega, by omega, by omega, h0⟩]; rfl
      ·rw [if_neg h0, if_neg (fun h => h0 h.2.2.2.2)]⟩
     clear hn hfe
     refine wp_region_held_drew (S := fun W => ∃ zs : Array Value, zs.size = 15 ∧ QS w W 43 gx gq gr A n c t4 bs zs M) (by kernel_rfl) ⟨an0, rfl, HW.out.below (Chg.refl _ _).drew⟩ (fun hHeld => ?_)
     refine wpAnyH_take (i := 0) (oi := ?oiR400) (v := .agg M.cells.toArray) ?hiR400 (by kernel_rfl) (by kernel_rfl) (by kernel_rfl) ?hQR400 ?hyR400 (by assumption) ?restR400
     case hiR400 => simp only [List.getElem?_toArray, List.getElem?_cons_succ, List.getElem?_cons_zero]; rfl
     case hQR400 => exact fun _ _ _ h => h
     case hyR400 => exact yieldsIf_load_mid rfl 43 (.tmp 4) rfl gq 0 rfl M.cells _ (fun W hW => let ⟨_, _, h⟩ := hW; h.range) Try.underlying43 rfl (by rw [infoAn15, HM1.out.1])
     simp only [Act.put, List.setIfInBounds_toArray, List.set_cons_zero, List.set_cons_succ]
     refine wpAnyH_take (i := 1) (oi := ?oi501) (v := ?v501) ?hi501 (by kernel_rfl) (by kernel_rfl) (by kernel_rfl) ?hQ501 (Or.inl ⟨?hw501, ?hy501⟩) (by assumption) ?rest501
     case hi501 => simp only [List.getElem?_toArray, List.getElem?_cons_succ, List.getElem?_cons_zero]; rfl
     case hQ501 => exact fun _ _ _ h => h
     case hw501 => rfl
     case hy501 => (intro W hW; skip; go_simp; all_goals rfl)
     simp only [Act.put, List.setIfInBounds_toArray, List.set_cons_zero, List.set_cons_succ]
     refine wpAnyH_ready (rs := [2]) (by kernel_rfl) (by simp) ?_
     refine AllReadyH.cons (i := 2) (o := ?o502) ?ho502 (fun Kq hK => ?step502) AllReadyH.nil
     case ho502 => simp only [List.getElem?_toArray, List.getElem?_cons_succ, List.getElem?_cons_zero]; rfl
     go_simp
     (obtain ⟨zs, hz8, hQ⟩ := hHeld; go_at_call 130; refine (end_any _ gr n c t4.1 t4.2 A bs hQ.rdr).mono ?_; rw [HFE.out]; rintro e w7 ⟨rfl, hc7⟩)
     have hF : ∃ zs : Array Value, zs.size = 15 ∧ QS w w7 43 gx gq gr A n c t4 bs zs M := ⟨zs, hz8, hQ.below hc7⟩
     refine hK.out _ _ hF (fun _ => ?_)
     clear hK Kq hQ hz8 hc7
     have hHeld := hF
     clear hF
     try simp only [Act.put, List.setIfInBounds_toArray, List.set_cons_zero, List.set_cons_succ]
     refine wpAnyH_take (i := 3) (oi := ?oi503) (v := ?v503) ?hi503 (by kernel_rfl) (by kernel_rfl) (by kernel_rfl) ?hQ503 (Or.inl ⟨?hw503, ?hy503⟩) (by assumption) ?rest503
     case hi503 => simp only [List.getElem?_toArray, List.getElem?_cons_succ, List.getElem?_cons_zero]; rfl
     case hQ503 => exact fun _ _ _ h => h
     case hw503 => rfl
     case hy503 => (intro W hW; skip; go_simp; all_goals rfl)
     simp only [Act.put, List.setIfInBounds_toArray, List.set_cons_zero, List.set_cons_succ]
     refine wpAnyH_ready (rs := [4]) (by kernel_rfl) (by simp) ?_
     refine AllReadyH.cons (i := 4) (o := ?oS400) ?hoS400 (fun Kq hK => ?stepS400) AllReadyH.nil
     case hoS400 => simp only [List.getElem?_toArray, List.getElem?_cons_succ, List.getElem?_cons_zero]; rfl
     obtain ⟨zs, hz8, hQ⟩ := hHeld
     refine step_store rfl 43 (.tmp 2) (.tmp 58) rfl gx M.cells.toArray rfl rfl 43 zs hQ.res (by rw [infoAn15]; simp [HM1.out.1]) (by rw [hz8]; simp [HM1.out.1]) HM1.out.2 ?_
     intro w8 hs8 hg8
     have hF : ∃ zs : Array Value, zs.size = 15 ∧ QS w w8 43 gx gq gr A n c t4 bs zs M := ⟨M.cells.toArray, by simp [HM1.out.1], hQ.stored hs8 hg8⟩
     have HRES : Hd (w8.heap[gx]? = some (.cells M.cells.toArray 43) ∧ QS w w8 43 gx gq gr A n c t4 bs M.cells.toArray M) := ⟨hs8, hQ.stored hs8 hg8⟩
     refine hK.out _ _ hF (fun _ => ?_)
     clear hK Kq hQ hz8 hs8 hg8
     have hHeld := hF
     clear hF
     try simp only [Act.put, List.setIfInBounds_toArray, List.set_cons_zero, List.set_cons_succ]
     refine wpAnyH_take (i := 5) (oi := ?oi601) (v := ?v601) ?hi601 (by kernel_rfl) (by kernel_rfl) (by kernel_rfl) ?hQ601 (Or.inl ⟨?hw601, ?hy601⟩) (by assumption) ?rest601
     case hi601 => simp only [List.getElem?_toArray, List.getElem?_cons_succ, List.getElem?_cons_zero]; rfl
     case hQ601 => exact fun _ _ _ h => h
     case hw601 => rfl
     case hy601 => (intro W hW; skip; go_simp; all_goals rfl)
     simp only [Act.put, List.setIfInBounds_toArray, List.set_cons_zero, List.set_cons_succ]
     refine wpAnyH_done (by kernel_rfl) ?_ _
     clear hHeld
     go_wp2_with fail
     (try simp only [Exit.inBlock, Exit.then])
     refine bodyPost_ret (results_cell_tmp rfl _ _ gx 43 M.cells.toArray (0, 0) _ rfl HRES.out.1 Try.underlying43 rfl (by rw [infoAn15]; simp [HM1.out.1])) rfl ?_
     refine ⟨M, decide (fe = 0), by (first | rfl | (simp [Act.put]; rfl) | skip), HRES.out.2.ch, HM1.out.1, HM1.out.2, ?_⟩
     rw [HRD.out]
     by_cases h0 : fe = 0
     ·exact .inl ⟨_, decide_eq_true h0, if_pos h0, HMI.out, HRES.out.2.ok.lower (by have := HRES.out.2.l2; have := HRES.out.2.l3; omega)⟩
     ·exact .inr ⟨decide_eq_false h0, if_neg h0⟩
 have k8b : ((v1 : Int) == 8) = false := beq_eq_false_iff_ne.2 (by omega)
 by_cases k0 : v3 = 0
 case neg =>
  have k0b : ((v3 : Int) == 0) = false := beq_eq_false_iff_ne.2 (by omega)
  have HK0 := Hd.mk (And.intro k0 k8)
  clear k0 k8
  go_upto_region 13 with fail
  have HW := Hd.mk H5.out
  clear H5
  try clear c0
  try clear c2
  obtain ⟨M, hM⟩ : ∃ M, (anW (anX v1 v2 v3 [] [] [] [] false 0 0 0 0 0 0 0) (.slice none 0 0) (.slice none 0 0) (.slice none 0 0)) = M := ⟨_, rfl⟩
  have HM1 : Hd (M.cells.length = 15 ∧ M.cells.toArray.all (·.oneCell') = true) := ⟨by rw [← hM]; exact anW_one HW.out.ok⟩
  have HMI : Hd (anIs2 M (anX v1 v2 v3 [] [] [] [] false 0 0 0 0 0 0 0)) := ⟨⟨_, _, _, hM.symm⟩, by rw [← hM]; exact an_ap (by first | exact Apart.nil _ | exact (Apart.nil _).symm) (by first | exact Apart.nil _ | exact (Apart.nil _).symm) (by first | exact Apart.nil _ | exact (Apart.nil _).symm | exact HAP.out)⟩
  rw [hM] at HW
  clear hM
  obtain ⟨fe, hfe⟩ : ∃ f, endF n s3.1 s3.2 = f := ⟨_, rfl⟩
  have HFE := Hd.mk hfe
  have hn : bs.length = n := HW.out.rdr.len
  have HRD : Hd (rdAn bs = if fe = 0 then some (anX v1 v2 v3 [] [] [] [] false 0 0 0 0 0 0 0) else none) := ⟨by
   have ky := HYES.out
   have z0 : unz ((0 : Nat) : Int) = 0 := by decide
   have B8 : decide ((v1 : Int) = 8) = false := by (try unfold qBody); (try unfold qGen); (try unfold qKeys); (try unfold qPage); exact decide_eq_false (by have := HK0.out; omega)
   have BB : qBody (v1 : Int) (v3 : Int) = false := by (try unfold qBody); (try unfold qGen); (try unfold qKeys); (try unfold qPage); exact decide_eq_false (by have := HK0.out; omega)
   have BG : qGen (v1 : Int) (v3 : Int) = false := by (try unfold qBody); (try unfold qGen); (try unfold qKeys); (try unfold qPage); exact decide_eq_false (by have := HK0.out; omega)
   have BK : qKeys (v1 : Int) (v3 : Int) = false := by (try unfold qBody); (try unfold qGen); (try unfold qKeys); (try unfold qPage); exact decide_eq_false (by have := HK0.out; omega)
   have BP : qPage (v1 : Int) (v3 : Int) = false := by (try unfold qBody); (try unfold qGen); (try unfold qKeys); (try unfold qPage); exact decide_eq_false (by have := HK0.out; omega)
   unfold rdAn
   simp only [E1.out, E2.out, E3.out, B8, BB, BG, BK, BP, opt_t, opt_f]
   rw [hn, hfe]
   by_cases h0 : fe = 0
   ·rw [if_pos h0, if_pos ⟨by omega, by omega, by omega, by omega, h0⟩]; rfl
   ·rw [if_neg h0, if_neg (fun h => h0 h.2.2.2.2)]⟩
  clear hn hfe
  refine wp_region_held_drew (S := fun W => ∃ zs : Array Value, zs.size = 15 ∧ QS w W 43 gx gq gr A n c s3 bs zs M) (by kernel_rfl) ⟨an0, rfl, HW.out.below (Chg.refl _ _).drew⟩ (fun hHeld => ?_)
  refine wpAnyH_take (i := 0) (oi := ?oiR700) (v := .agg M.cells.toArray) ?hiR700 (by kernel_rfl) (by kernel_rfl) (by kernel_rfl) ?hQR700 ?hyR700 (by assumption) ?restR700
  case hiR700 => simp only [List.getElem?_toArray, List.getElem?_cons_succ, List.getElem?_cons_zero]; rfl
  case hQR700 => exact fun _ _ _ h => h
  case hyR700 => exact yieldsIf_load_mid rfl 43 (.tmp 4) rfl gq 0 rfl M.cells _ (fun W hW => let ⟨_, _, h⟩ := hW; h.range) Try.underlying43 rfl (by rw [infoAn15, HM1.out.1])
  simp only [Act.put, List.setIfInBounds_toArray, List.set_cons_zero, List.set_cons_succ]
  refine wpAnyH_take (i := 1) (oi := ?oi801) (v := ?v801) ?hi801 (by kernel_rfl) (by kernel_rfl) (by kernel_rfl) ?hQ801 (Or.inl ⟨?hw801, ?hy801⟩) (by assumption) ?rest801
  case hi801 => simp only [List.getElem?_toArray, List.getElem?_cons_succ, List.getElem?_cons_zero]; rfl
  case hQ801 => exact fun _ _ _ h => h
  case hw801 => rfl
  case hy801 => (intro W hW; skip; go_simp; all_goals rfl)
  simp only [Act.put, List.setIfInBounds_toArray, List.set_cons_zero, List.set_cons_succ]
  refine wpAnyH_ready (rs := [2]) (by kernel_rfl) (by simp) ?_
  refine AllReadyH.cons (i := 2) (o := ?o802) ?ho802 (fun Kq hK => ?step802) AllReadyH.nil
  case ho802 => simp only [List.getElem?_toArray, List.getElem?_cons_succ, List.getElem?_cons_zero]; rfl
  go_simp
  (obtain ⟨zs, hz8, hQ⟩ := hHeld; go_at_call 130; refine (end_any _ gr n c s3.1 s3.2 A bs hQ.rdr).mono ?_; rw [HFE.out]; rintro e w7 ⟨rfl, hc7⟩)
  have hF : ∃ zs : Array Value, zs.size = 15 ∧ QS w w7 43 gx gq gr A n c s3 bs zs M := ⟨zs, hz8, hQ.below hc7⟩
  refine hK.out _ _ hF (fun _ => ?_)
  clear hK Kq hQ hz8 hc7
  have hHeld := hF
  clear hF
  try simp only [Act.put, List.setIfInBounds_toArray, List.set_cons_zero, List.set_cons_succ]
  refine wpAnyH_take (i := 3) (oi := ?oi803) (v := ?v803) ?hi803 (by kernel_rfl) (by kernel_rfl) (by kernel_rfl) ?hQ803 (Or.inl ⟨?hw803, ?hy803⟩) (by assumption) ?rest803
  case hi803 => simp only [List.getElem?_toArray, List.getElem?_cons_succ, List.getElem?_cons_zero]; rfl
  case hQ803 => exact fun _ _ _ h => h
  case hw803 => rfl
  case hy803 => (intro W hW; skip; go_simp; all_goals rfl)
  simp only [Act.put, List.setIfInBounds_toArray, List.set_cons_zero, List.set_cons_succ]
  refine wpAnyH_ready (rs := [4]) (by kernel_rfl) (by simp) ?_
  refine AllReadyH.cons (i := 4) (o := ?oS700) ?hoS700 (fun Kq hK => ?stepS700) AllReadyH.nil
  case hoS700 => simp only [List.getElem?_toArray, List.getElem?_cons_succ, List.getElem?_cons_zero]; rfl
  obtain ⟨zs, hz8, hQ⟩ := hHeld
  refine step_store rfl 43 (.tmp 2) (.tmp 58) rfl gx M.cells.toArray rfl rfl 43 zs hQ.res (by rw [infoAn15]; simp [HM1.out.1]) (by rw [hz8]; simp [HM1.out.1]) HM1.out.2 ?_
  intro w8 hs8 hg8
  have hF : ∃ zs : Array Value, zs.size = 15 ∧ QS w w8 43 gx gq gr A n c s3 bs zs M := ⟨M.cells.toArray, by simp [HM1.out.1], hQ.stored hs8 hg8⟩
  have HRES : Hd (w8.heap[gx]? = some (.cells M.cells.toArray 43) ∧ QS w w8 43 gx gq gr A n c s3 bs M.cells.toArray M) := ⟨hs8, hQ.stored hs8 hg8⟩
  refine hK.out _ _ hF (fun _ => ?_)
  clear hK Kq hQ hz8 hs8 hg8
  have hHeld := hF
  clear hF
  try simp only [Act.put, List.setIfInBounds_toArray, List.set_cons_zero, List.set_cons_succ]
  refine wpAnyH_take (i := 5) (oi := ?oi901) (v := ?v901) ?hi901 (by kernel_rfl) (by kernel_rfl) (by kernel_rfl) ?hQ901 (Or.inl ⟨?hw901, ?hy901⟩) (by assumption) ?rest901
  case hi901 => simp only [List.getElem?_toArray, List.getElem?_cons_succ, List.getElem?_cons_zero]; rfl
  case hQ901 => exact fun _ _ _ h => h
  case hw901 => rfl
  case hy901 => (intro W hW; skip; go_simp; all_goals rfl)
  simp only [Act.put, List.setIfInBounds_toArray, List.set_cons_zero, List.set_cons_succ]
  refine wpAnyH_done (by kernel_rfl) ?_ _
  clear hHeld
  go_wp2_with fail
  (try simp only [Exit.inBlock, Exit.then])
  refine bodyPost_ret (results_cell_tmp rfl _ _ gx 43 M.cells.toArray (0, 0) _ rfl HRES.out.1 Try.underlying43 rfl (by rw [infoAn15]; simp [HM1.out.1])) rfl ?_
  refine ⟨M, decide (fe = 0), by (first | rfl | (simp [Act.put]; rfl) | skip), HRES.out.2.ch, HM1.out.1, HM1.out.2, ?_⟩
  rw [HRD.out]
  by_cases h0 : fe = 0
  ·exact .inl ⟨_, decide_eq_true h0, if_pos h0, HMI.out, HRES.out.2.ok.lower (by have := HRES.out.2.l2; have := HRES.out.2.l3; omega)⟩
  ·exact .inr ⟨decide_eq_false h0, if_neg h0⟩
 have k0b : ((v3 : Int) == 0) = true := by subst k0; rfl
 by_cases k2 : v1 = 2
 ·have kk := k2
  have q2 : ((v1 : Int) == 2) = true := by rw [kk]; rfl
  have q3 : ((v1 : Int) == 3) = false := beq_eq_false_iff_ne.2 (by omega)
  have q4 : ((v1 : Int) == 4) = false := beq_eq_false_iff_ne.2 (by omega)
  have q6 : ((v1 : Int) == 6) = false := beq_eq_false_iff_ne.2 (by omega)
  have q7 : ((v1 : Int) == 7) = false := beq_eq_false_iff_ne.2 (by omega)
  have HK0 := Hd.mk (And.intro kk k0)
  clear kk k2 k0 k8
  go_wp2_with fail
  refine (cBlk (s := s3) 1048576 (by omega) H5.out.rdr).mono ?_
  rintro e wz101 ⟨x101, s101, p101, q101, ez, rfl, hoz, hc, hR⟩
  have HZ : Hd (QS w wz101 43 gx gq gr A n c s101 bs an0 (anW (anX v1 v2 v3 [] [] [] [] false 0 0 0 0 0 0 0) (.slice none 0 0) (.slice none 0 0) (.slice none 0 0))) := ⟨H5.out.call hc hR⟩
  have E101 : Hd (rBlk bs 1048576 s3 = (x101, s101)) := ⟨ez⟩
  have HOZ := Hd.mk (own_base hoz (base' := gq + 1) H5.out.lt)
  clear hoz hc hR ez
  have d0 : wz101.cell? ⟨gq, 3, none⟩ = some (.slice none 0 0) := HZ.out.at_ 3 rfl
  have d1 := HZ.out.z 3
  try clear c0
  try clear c2
  go_upto_region 32 with fail
  obtain ⟨ww101, hww⟩ : ∃ W, wz101.setCell ⟨gq, 3, none⟩ (.slice p101 x101.length q101) = W := ⟨_, rfl⟩
  rw [hww]
  have HB101 : Hd (QS w ww101 43 gx gq gr A n c s101 bs an0 (anW (anX v1 v2 v3 x101 [] [] [] false 0 0 0 0 0 0 0) (.slice p101 x101.length q101) (.slice none 0 0) (.slice none 0 0))) := ⟨by rw [← hww]; exact HZ.out.set (M' := (anW (anX v1 v2 v3 x101 [] [] [] false 0 0 0 0 0 0 0) (.slice p101 x101.length q101) (.slice none 0 0) (.slice none 0 0))) 3 _ rfl (an_ok HOZ.out (an_own HZ.out.ok).2.1 (an_own HZ.out.ok).2.2)⟩
  clear hww HZ d0 d1 H5
  have HW := Hd.mk HB101.out
  clear HB101
  try clear c0
  try clear c2
  obtain ⟨M, hM⟩ : ∃ M, (anW (anX v1 v2 v3 x101 [] [] [] false 0 0 0 0 0 0 0) (.slice p101 x101.length q101) (.slice none 0 0) (.slice none 0 0)) = M := ⟨_, rfl⟩
  have HM1 : Hd (M.cells.length = 15 ∧ M.cells.toArray.all (·.oneCell') = true) := ⟨by rw [← hM]; exact anW_one HW.out.ok⟩
  have HMI : Hd (anIs2 M (anX v1 v2 v3 x101 [] [] [] false 0 0 0 0 0 0 0)) := ⟨⟨_, _, _, hM.symm⟩, by rw [← hM]; exact an_ap (by first | exact Apart.nil _ | exact (Apart.nil _).symm) (by first | exact Apart.nil _ | exact (Apart.nil _).symm) (by first | exact Apart.nil _ | exact (Apart.nil _).symm | exact HAP.out)⟩
  rw [hM] at HW
  clear hM
  obtain ⟨fe, hfe⟩ : ∃ f, endF n s101.1 s101.2 = f := ⟨_, rfl⟩
  have HFE := Hd.mk hfe
  have hn : bs.length = n := HW.out.rdr.len
  have HRD : Hd (rdAn bs = if fe = 0 then some (anX v1 v2 v3 x101 [] [] [] false 0 0 0 0 0 0 0) else none) := ⟨by
   have ky := HYES.out
   have z0 : unz ((0 : Nat) : Int) = 0 := by decide
   have B8 : decide ((v1 : Int) = 8) = false := by (try unfold qBody); (try unfold qGen); (try unfold qKeys); (try unfold qPage); exact decide_eq_false (by have := HK0.out; omega)
   have BB : qBody (v1 : Int) (v3 : Int) = true := by (try unfold qBody); (try unfold qGen); (try unfold qKeys); (try unfold qPage); exact decide_eq_true (by have := HK0.out; omega)
   have BG : qGen (v1 : Int) (v3 : Int) = false := by (try unfold qBody); (try unfold qGen); (try unfold qKeys); (try unfold qPage); exact decide_eq_false (by have := HK0.out; omega)
   have BK : qKeys (v1 : Int) (v3 : Int) = false := by (try unfold qBody); (try unfold qGen); (try unfold qKeys); (try unfold qPage); exact decide_eq_false (by have := HK0.out; omega)
   have BP : qPage (v1 : Int) (v3 : Int) = false := by (try unfold qBody); (try unfold qGen); (try unfold qKeys); (try unfold qPage); exact decide_eq_false (by have := HK0.out; omega)
   unfold rdAn
   simp only [E1.out, E2.out, E3.out, B8, BB, BG, BK, BP, opt_t, opt_f, E101.out]
   rw [hn, hfe]
   by_cases h0 : fe = 0
   ·rw [if_pos h0, if_pos ⟨by omega, by omega, by omega, by omega, h0⟩]; rfl
   ·rw [if_neg h0, if_neg (fun h => h0 h.2.2.2.2)]⟩
  clear hn hfe
  refine wp_region_held_drew (S := fun W => ∃ zs : Array Value, zs.size = 15 ∧ QS w W 43 gx gq gr A n c s101 bs zs M) (by kernel_rfl) ⟨an0, rfl, HW.out.below (Chg.refl _ _).drew⟩ (fun hHeld => ?_)
  refine wpAnyH_take (i := 0) (oi := ?oiR1000) (v := .agg M.cells.toArray) ?hiR1000 (by kernel_rfl) (by kernel_rfl) (by kernel_rfl) ?hQR1000 ?hyR1000 (by assumption) ?restR1000
  case hiR1000 => simp only [List.getElem?_toArray, List.getElem?_cons_succ, List.getElem?_cons_zero]; rfl
  case hQR1000 => exact fun _ _ _ h => h
  case hyR1000 => exact yieldsIf_load_mid rfl 43 (.tmp 4) rfl gq 0 rfl M.cells _ (fun W hW => let ⟨_, _, h⟩ := hW; h.range) Try.underlying43 rfl (by rw [infoAn15, HM1.out.1])
  simp only [Act.put, List.setIfInBounds_toArray, List.set_cons_zero, List.set_cons_succ]
  refine wpAnyH_take (i := 1) (oi := ?oi1101) (v := ?v1101) ?hi1101 (by kernel_rfl) (by kernel_rfl) (by kernel_rfl) ?hQ1101 (Or.inl ⟨?hw1101, ?hy1101⟩) (by assumption) ?rest1101
  case hi1101 => simp only [List.getElem?_toArray, List.getElem?_cons_succ, List.getElem?_cons_zero]; rfl
  case hQ1101 => exact fun _ _ _ h => h
  case hw1101 => rfl
  case hy1101 => (intro W hW; skip; go_simp; all_goals rfl)
  simp only [Act.put, List.setIfInBounds_toArray, List.set_cons_zero, List.set_cons_succ]
  refine wpAnyH_ready (rs := [2]) (by kernel_rfl) (by simp) ?_
  refine AllReadyH.cons (i := 2) (o := ?o1102) ?ho1102 (fun Kq hK => ?step1102) AllReadyH.nil
  case ho1102 => simp only [List.getElem?_toArray, List.getElem?_cons_succ, List.getElem?_cons_zero]; rfl
  go_simp
  (obtain ⟨zs, hz8, hQ⟩ := hHeld; go_at_call 130; refine (end_any _ gr n c s101.1 s101.2 A bs hQ.rdr).mono ?_; rw [HFE.out]; rintro e w7 ⟨rfl, hc7⟩)
  have hF : ∃ zs : Array Value, zs.size = 15 ∧ QS w w7 43 gx gq gr A n c s101 bs zs M := ⟨zs, hz8, hQ.below hc7⟩
  refine hK.out _ _ hF (fun _ => ?_)
  clear hK Kq hQ hz8 hc7
  have hHeld := hF
  clear hF
  try simp only [Act.put, List.setIfInBounds_toArray, List.set_cons_zero, List.set_cons_succ]
  refine wpAnyH_take (i := 3) (oi := ?oi1103) (v := ?v1103) ?hi1103 (by kernel_rfl) (by kernel_rfl) (by kernel_rfl) ?hQ1103 (Or.inl ⟨?hw1103, ?hy1103⟩) (by assumption) ?rest1103
  case hi1103 => simp only [List.getElem?_toArray, List.getElem?_cons_succ, List.getElem?_cons_zero]; rfl
  case hQ1103 => exact fun _ _ _ h => h
  case hw1103 => rfl
  case hy1103 => (intro W hW; skip; go_simp; all_goals rfl)
  simp only [Act.put, List.setIfInBounds_toArray, List.set_cons_zero, List.set_cons_succ]
  refine wpAnyH_ready (rs := [4]) (by kernel_rfl) (by simp) ?_
  refine AllReadyH.cons (i := 4) (o := ?oS1000) ?hoS1000 (fun Kq hK => ?stepS1000) AllReadyH.nil
  case hoS1000 => simp only [List.getElem?_toArray, List.getElem?_cons_succ, List.getElem?_cons_zero]; rfl
  obtain ⟨zs, hz8, hQ⟩ := hHeld
  refine step_store rfl 43 (.tmp 2) (.tmp 108) rfl gx M.cells.toArray rfl rfl 43 zs hQ.res (by rw [infoAn15]; simp [HM1.out.1]) (by rw [hz8]; simp [HM1.out.1]) HM1.out.2 ?_
  intro w8 hs8 hg8
  have hF : ∃ zs : Array Value, zs.size = 15 ∧ QS w w8 43 gx gq gr A n c s101 bs zs M := ⟨M.cells.toArray, by simp [HM1.out.1], hQ.stored hs8 hg8⟩
  have HRES : Hd (w8.heap[gx]? = some (.cells M.cells.toArray 43) ∧ QS w w8 43 gx gq gr A n c s101 bs M.cells.toArray M) := ⟨hs8, hQ.stored hs8 hg8⟩
  refine hK.out _ _ hF (fun _ => ?_)
  clear hK Kq hQ hz8 hs8 hg8
  have hHeld := hF
  clear hF
  try simp only [Act.put, List.setIfInBounds_toArray, List.set_cons_zero, List.set_cons_succ]
  refine wpAnyH_take (i := 5) (oi := ?oi1201) (v := ?v1201) ?hi1201 (by kernel_rfl) (by kernel_rfl) (by kernel_rfl) ?hQ1201 (Or.inl ⟨?hw1201, ?hy1201⟩) (by assumption) ?rest1201
  case hi1201 => simp only [List.getElem?_toArray, List.getElem?_cons_succ, List.getElem?_cons_zero]; rfl
  case hQ1201 => exact fun _ _ _ h => h
  case hw1201 => rfl
  case hy1201 => (intro W hW; skip; go_simp; all_goals rfl)
  simp only [Act.put, List.setIfInBounds_toArray, List.set_cons_zero, List.set_cons_succ]
  refine wpAnyH_done (by kernel_rfl) ?_ _
  clear hHeld
  go_wp2_with fail
  (try simp only [Exit.inBlock, Exit.then])
  refine bodyPost_ret (results_cell_tmp rfl _ _ gx 43 M.cells.toArray (0, 0) _ rfl HRES.out.1 Try.underlying43 rfl (by rw [infoAn15]; simp [HM1.out.1])) rfl ?_
  refine ⟨M, decide (fe = 0), by (first | rfl | (simp [Act.put]; rfl) | skip), HRES.out.2.ch, HM1.out.1, HM1.out.2, ?_⟩
  rw [HRD.out]
  by_cases h0 : fe = 0
  ·exact .inl ⟨_, decide_eq_true h0, if_pos h0, HMI.out, HRES.out.2.ok.lower (by have := HRES.out.2.l2; have := HRES.out.2.l3; omega)⟩
  ·exact .inr ⟨decide_eq_false h0, if_neg h0⟩
 by_cases k3 : v1 = 3
 ·have kk := k3
  have q2 : ((v1 : Int) == 2) = false := beq_eq_false_iff_ne.2 (by omega)
  have q3 : ((v1 : Int) == 3) = true := by rw [kk]; rfl
  have q4 : ((v1 : Int) == 4) = false := beq_eq_false_iff_ne.2 (by omega)
  have q6 : ((v1 : Int) == 6) = false := beq_eq_false_iff_ne.2 (by omega)
  have q7 : ((v1 : Int) == 7) = false := beq_eq_false_iff_ne.2 (by omega)
  have HK0 := Hd.mk (And.intro kk k0)
  clear kk k3 k0 k8 k2
  go_wp2_with fail
  refine (cBlk (s := s3) 1048576 (by omega) H5.out.rdr).mono ?_
  rintro e wz102 ⟨x102, s102, p102, q102, ez, rfl, hoz, hc, hR⟩
  have HZ : Hd (QS w wz102 43 gx gq gr A n c s102 bs an0 (anW (anX v1 v2 v3 [] [] [] [] false 0 0 0 0 0 0 0) (.slice none 0 0) (.slice none 0 0) (.slice none 0 0))) := ⟨H5.out.call hc hR⟩
  have E102 : Hd (rBlk bs 1048576 s3 = (x102, s102)) := ⟨ez⟩
  have HOZ := Hd.mk (own_base hoz (base' := gq + 1) H5.out.lt)
  clear hoz hc hR ez
  have d0 : wz102.cell? ⟨gq, 3, none⟩ = some (.slice none 0 0) := HZ.out.at_ 3 rfl
  have d1 := HZ.out.z 3
  try clear c0
  try clear c2
  go_upto_region 32 with fail
  obtain ⟨ww102, hww⟩ : ∃ W, wz102.setCell ⟨gq, 3, none⟩ (.slice p102 x102.length q102) = W := ⟨_, rfl⟩
  rw [hww]
  have HB102 : Hd (QS w ww102 43 gx gq gr A n c s102 bs an0 (anW (anX v1 v2 v3 x102 [] [] [] false 0 0 0 0 0 0 0) (.slice p102 x102.length q102) (.slice none 0 0) (.slice none 0 0))) := ⟨by rw [← hww]; exact HZ.out.set (M' := (anW (anX v1 v2 v3 x102 [] [] [] false 0 0 0 0 0 0 0) (.slice p102 x102.length q102) (.slice none 0 0) (.slice none 0 0))) 3 _ rfl (an_ok HOZ.out (an_own HZ.out.ok).2.1 (an_own HZ.out.ok).2.2)⟩
  clear hww HZ d0 d1 H5
  have HW := Hd.mk HB102.out
  clear HB102
  try clear c0
  try clear c2
  obtain ⟨M, hM⟩ : ∃ M, (anW (anX v1 v2 v3 x102 [] [] [] false 0 0 0 0 0 0 0) (.slice p102 x102.length q102) (.slice none 0 0) (.slice none 0 0)) = M := ⟨_, rfl⟩
  have HM1 : Hd (M.cells.length = 15 ∧ M.cells.toArray.all (·.oneCell') = true) := ⟨by rw [← hM]; exact anW_one HW.out.ok⟩
  have HMI : Hd (anIs2 M (anX v1 v2 v3 x102 [] [] [] false 0 0 0 0 0 0 0)) := ⟨⟨_, _, _, hM.symm⟩, by rw [← hM]; exact an_ap (by first | exact Apart.nil _ | exact (Apart.nil _).symm) (by first | exact Apart.nil _ | exact (Apart.nil _).symm) (by first | exact Apart.nil _ | exact (Apart.nil _).symm | exact HAP.out)⟩
  rw [hM] at HW
  clear hM
  obtain ⟨fe, hfe⟩ : ∃ f, endF n s102.1 s102.2 = f := ⟨_, rfl⟩
  have HFE := Hd.mk hfe
  have hn : bs.length = n := HW.out.rdr.len
  have HRD : Hd (rdAn bs = if fe = 0 then some (anX v1 v2 v3 x102 [] [] [] false 0 0 0 0 0 0 0) else none) := ⟨by
   have ky := HYES.out
   have z0 : unz ((0 : Nat) : Int) = 0 := by decide
   have B8 : decide ((v1 : Int) = 8) = false := by (try unfold qBody); (try unfold qGen); (try unfold qKeys); (try unfold qPage); exact decide_eq_false (by have := HK0.out; omega)
   have BB : qBody (v1 : Int) (v3 : Int) = true := by (try unfold qBody); (try unfold qGen); (try unfold qKeys); (try unfold qPage); exact decide_eq_true (by have := HK0.out; omega)
   have BG : qGen (v1 : Int) (v3 : Int) = false := by (try unfold qBody); (try unfold qGen); (try unfold qKeys); (try unfold qPage); exact decide_eq_false (by have := HK0.out; omega)
   have BK : qKeys (v1 : Int) (v3 : Int) = false := by (try unfold qBody); (try unfold qGen); (try unfold qKeys); (try unfold qPage); exact decide_eq_false (by have := HK0.out; omega)
   have BP : qPage (v1 : Int) (v3 : Int) = false := by (try unfold qBody); (try unfold qGen); (try unfold qKeys); (try unfold qPage); exact decide_eq_false (by have := HK0.out; omega)
   unfold rdAn
   simp only [E1.out, E2.out, E3.out, B8, BB, BG, BK, BP, opt_t, opt_f, E102.out]
   rw [hn, hfe]
   by_cases h0 : fe = 0
   ·rw [if_pos h0, if_pos ⟨by omega, by omega, by omega, by omega, h0⟩]; rfl
   ·rw [if_neg h0, if_neg (fun h => h0 h.2.2.2.2)]⟩
  clear hn hfe
  refine wp_region_held_drew (S := fun W => ∃ zs : Array Value, zs.size = 15 ∧ QS w W 43 gx gq gr A n c s102 bs zs M) (by kernel_rfl) ⟨an0, rfl, HW.out.below (Chg.refl _ _).drew⟩ (fun hHeld => ?_)
  refine wpAnyH_take (i := 0) (oi := ?oiR1300) (v := .agg M.cells.toArray) ?hiR1300 (by kernel_rfl) (by kernel_rfl) (by kernel_rfl) ?hQR1300 ?hyR1300 (by assumption) ?restR1300
  case hiR1300 => simp only [List.getElem?_toArray, List.getElem?_cons_succ, List.getElem?_cons_zero]; rfl
  case hQR1300 => exact fun _ _ _ h => h
  case hyR1300 => exact yieldsIf_load_mid rfl 43 (.tmp 4) rfl gq 0 rfl M.cells _ (fun W hW => let ⟨_, _, h⟩ := hW; h.range) Try.underlying43 rfl (by rw [infoAn15, HM1.out.1])
  simp only [Act.put, List.setIfInBounds_toArray, List.set_cons_zero, List.set_cons_succ]
  refine wpAnyH_take (i := 1) (oi := ?oi1401) (v := ?v1401) ?hi1401 (by kernel_rfl) (by kernel_rfl) (by kernel_rfl) ?hQ1401 (Or.inl ⟨?hw1401, ?hy1401⟩) (by assumption) ?rest1401
  case hi1401 => simp only [List.getElem?_toArray, List.getElem?_cons_succ, List.getElem?_cons_zero]; rfl
  case hQ1401 => exact fun _ _ _ h => h
  case hw1401 => rfl
  case hy1401 => (intro W hW; skip; go_simp; all_goals rfl)
  simp only [Act.put, List.setIfInBounds_toArray, List.set_cons_zero, List.set_cons_succ]
  refine wpAnyH_ready (rs := [2]) (by kernel_rfl) (by simp) ?_
  refine AllReadyH.cons (i := 2) (o := ?o1402) ?ho1402 (fun Kq hK => ?step1402) AllReadyH.nil
  case ho1402 => simp only [List.getElem?_toArray, List.getElem?_cons_succ, List.getElem?_cons_zero]; rfl
  go_simp
  (obtain ⟨zs, hz8, hQ⟩ := hHeld; go_at_call 130; refine (end_any _ gr n c s102.1 s102.2 A bs hQ.rdr).mono ?_; rw [HFE.out]; rintro e w7 ⟨rfl, hc7⟩)
  have hF : ∃ zs : Array Value, zs.size = 15 ∧ QS w w7 43 gx gq gr A n c s102 bs zs M := ⟨zs, hz8, hQ.below hc7⟩
  refine hK.out _ _ hF (fun _ => ?_)
  clear hK Kq hQ hz8 hc7
  have hHeld := hF
  clear hF
  try simp only [Act.put, List.setIfInBounds_toArray, List.set_cons_zero, List.set_cons_succ]
  refine wpAnyH_take (i := 3) (oi := ?oi1403) (v := ?v1403) ?hi1403 (by kernel_rfl) (by kernel_rfl) (by kernel_rfl) ?hQ1403 (Or.inl ⟨?hw1403, ?hy1403⟩) (by assumption) ?rest1403
  case hi1403 => simp only [List.getElem?_toArray, List.getElem?_cons_succ, List.getElem?_cons_zero]; rfl
  case hQ1403 => exact fun _ _ _ h => h
  case hw1403 => rfl
  case hy1403 => (intro W hW; skip; go_simp; all_goals rfl)
  simp only [Act.put, List.setIfInBounds_toArray, List.set_cons_zero, List.set_cons_succ]
  refine wpAnyH_ready (rs := [4]) (by kernel_rfl) (by simp) ?_
  refine AllReadyH.cons (i := 4) (o := ?oS1300) ?hoS1300 (fun Kq hK => ?stepS1300) AllReadyH.nil
  case hoS1300 => simp only [List.getElem?_toArray, List.getElem?_cons_succ, List.getElem?_cons_zero]; rfl
  obtain ⟨zs, hz8, hQ⟩ := hHeld
  refine step_store rfl 43 (.tmp 2) (.tmp 108) rfl gx M.cells.toArray rfl rfl 43 zs hQ.res (by rw [infoAn15]; simp [HM1.out.1]) (by rw [hz8]; simp [HM1.out.1]) HM1.out.2 ?_
  intro w8 hs8 hg8
  have hF : ∃ zs : Array Value, zs.size = 15 ∧ QS w w8 43 gx gq gr A n c s102 bs zs M := ⟨M.cells.toArray, by simp [HM1.out.1], hQ.stored hs8 hg8⟩
  have HRES : Hd (w8.heap[gx]? = some (.cells M.cells.toArray 43) ∧ QS w w8 43 gx gq gr A n c s102 bs M.cells.toArray M) := ⟨hs8, hQ.stored hs8 hg8⟩
  refine hK.out _ _ hF (fun _ => ?_)
  clear hK Kq hQ hz8 hs8 hg8
  have hHeld := hF
  clear hF
  try simp only [Act.put, List.setIfInBounds_toArray, List.set_cons_zero, List.set_cons_succ]
  refine wpAnyH_take (i := 5) (oi := ?oi1501) (v := ?v1501) ?hi1501 (by kernel_rfl) (by kernel_rfl) (by kernel_rfl) ?hQ1501 (Or.inl ⟨?hw1501, ?hy1501⟩) (by assumption) ?rest1501
  case hi1501 => simp only [List.getElem?_toArray, List.getElem?_cons_succ, List.getElem?_cons_zero]; rfl
  case hQ1501 => exact fun _ _ _ h => h
  case hw1501 => rfl
  case hy1501 => (intro W hW; skip; go_simp; all_goals rfl)
  simp only [Act.put, List.setIfInBounds_toArray, List.set_cons_zero, List.set_cons_succ]
  refine wpAnyH_done (by kernel_rfl) ?_ _
  clear hHeld
  go_wp2_with fail
  (try simp only [Exit.inBlock, Exit.then])
  refine bodyPost_ret (results_cell_tmp rfl _ _ gx 43 M.cells.toArray (0, 0) _ rfl HRES.out.1 Try.underlying43 rfl (by rw [infoAn15]; simp [HM1.out.1])) rfl ?_
  refine ⟨M, decide (fe = 0), by (first | rfl | (simp [Act.put]; rfl) | skip), HRES.out.2.ch, HM1.out.1, HM1.out.2, ?_⟩
  rw [HRD.out]
  by_cases h0 : fe = 0
  ·exact .inl ⟨_, decide_eq_true h0, if_pos h0, HMI.out, HRES.out.2.ok.lower (by have := HRES.out.2.l2; have := HRES.out.2.l3; omega)⟩
  ·exact .inr ⟨decide_eq_false h0, if_neg h0⟩
 by_cases k4 : v1 = 4
 ·have kk := k4
  have q2 : ((v1 : Int) == 2) = false := beq_eq_false_iff_ne.2 (by omega)
  have q3 : ((v1 : Int) == 3) = false := beq_eq_false_iff_ne.2 (by omega)
  have q4 : ((v1 : Int) == 4) = true := by rw [kk]; rfl
  have q6 : ((v1 : Int) == 6) = false := beq_eq_false_iff_ne.2 (by omega)
  have q7 : ((v1 : Int) == 7) = false := beq_eq_false_iff_ne.2 (by omega)
  have HK0 := Hd.mk (And.intro kk k0)
  clear kk k4 k0 k8 k2 k3
  go_wp2_with fail
  refine (cNumV (s := s3) H5.out.rdr).mono ?_
  rintro e wz103 ⟨x103, s103, ez, rfl, hzb, hc, hR⟩
  have HZ : Hd (QS w wz103 43 gx gq gr A n c s103 bs an0 (anW (anX v1 v2 v3 [] [] [] [] false 0 0 0 0 0 0 0) (.slice none 0 0) (.slice none 0 0) (.slice none 0 0))) := ⟨H5.out.call hc hR⟩
  have E103 : Hd (rNum bs s3 = (x103, s103)) := ⟨ez⟩
  obtain ⟨u103, hu⟩ : ∃ u, unz (x103 : Int) = u := ⟨_, rfl⟩
  rw [hu] at hzb ⊢
  have HU := Hd.mk hu
  clear hu hc hR ez
  have d0 : wz103.cell? ⟨gq, 8, none⟩ = some (.int .i64 0) := HZ.out.at_ 8 rfl
  have d1 := HZ.out.z 8
  try clear c0
  try clear c2
  go_upto_region 20 with fail
  obtain ⟨ww103, hww⟩ : ∃ W, wz103.setCell ⟨gq, 8, none⟩ (.int .i64 u103) = W := ⟨_, rfl⟩
  rw [hww]
  rw [← HU.out] at hww
  have HB103 : Hd (QS w ww103 43 gx gq gr A n c s103 bs an0 (anW (anX v1 v2 v3 [] [] [] [] false x103 0 0 0 0 0 0) (.slice none 0 0) (.slice none 0 0) (.slice none 0 0))) := ⟨by rw [← hww]; exact HZ.out.set (M' := (anW (anX v1 v2 v3 [] [] [] [] false x103 0 0 0 0 0 0) (.slice none 0 0) (.slice none 0 0) (.slice none 0 0))) 8 _ rfl (an_re HZ.out.ok)⟩
  clear hww HZ d0 d1 H5
  clear HU
  clear hzb
  try clear hcv
  go_wp2_with fail
  refine (cNumV (s := s103) HB103.out.rdr).mono ?_
  rintro e wz104 ⟨x104, s104, ez, rfl, hzb, hc, hR⟩
  have HZ : Hd (QS w wz104 43 gx gq gr A n c s104 bs an0 (anW (anX v1 v2 v3 [] [] [] [] false x103 0 0 0 0 0 0) (.slice none 0 0) (.slice none 0 0) (.slice none 0 0))) := ⟨HB103.out.call hc hR⟩
  have E104 : Hd (rNum bs s103 = (x104, s104)) := ⟨ez⟩
  obtain ⟨u104, hu⟩ : ∃ u, unz (x104 : Int) = u := ⟨_, rfl⟩
  rw [hu] at hzb ⊢
  have HU := Hd.mk hu
  clear hu hc hR ez
  have d0 : wz104.cell? ⟨gq, 9, none⟩ = some (.int .i64 0) := HZ.out.at_ 9 rfl
  have d1 := HZ.out.z 9
  try clear c0
  try clear c2
  go_upto_region 21 with fail
  obtain ⟨ww104, hww⟩ : ∃ W, wz104.setCell ⟨gq, 9, none⟩ (.int .i64 u104) = W := ⟨_, rfl⟩
  rw [hww]
  rw [← HU.out] at hww
  have HB104 : Hd (QS w ww104 43 gx gq gr A n c s104 bs an0 (anW (anX v1 v2 v3 [] [] [] [] false x103 x104 0 0 0 0 0) (.slice none 0 0) (.slice none 0 0) (.slice none 0 0))) := ⟨by rw [← hww]; exact HZ.out.set (M' := (anW (anX v1 v2 v3 [] [] [] [] false x103 x104 0 0 0 0 0) (.slice none 0 0) (.slice none 0 0) (.slice none 0 0))) 9 _ rfl (an_re HZ.out.ok)⟩
  clear hww HZ d0 d1 HB103
  clear HU
  clear hzb
  try clear hcv
  go_wp2_with fail
  refine (cNumV (s := s104) HB104.out.rdr).mono ?_
  rintro e wz105 ⟨x105, s105, ez, rfl, hzb, hc, hR⟩
  have HZ : Hd (QS w wz105 43 gx gq gr A n c s105 bs an0 (anW (anX v1 v2 v3 [] [] [] [] false x103 x104 0 0 0 0 0) (.slice none 0 0) (.slice none 0 0) (.slice none 0 0))) := ⟨HB104.out.call hc hR⟩
  have E105 : Hd (rNum bs s104 = (x105, s105)) := ⟨ez⟩
  obtain ⟨u105, hu⟩ : ∃ u, unz (x105 : Int) = u := ⟨_, rfl⟩
  rw [hu] at hzb ⊢
  have HU := Hd.mk hu
  clear hu hc hR ez
  have d0 : wz105.cell? ⟨gq, 10, none⟩ = some (.int .i64 0) := HZ.out.at_ 10 rfl
  have d1 := HZ.out.z 10
  try clear c0
  try clear c2
  go_upto_region 32 with fail
  obtain ⟨ww105, hww⟩ : ∃ W, wz105.setCell ⟨gq, 10, none⟩ (.int .i64 u105) = W := ⟨_, rfl⟩
  rw [hww]
  rw [← HU.out] at hww
  have HB105 : Hd (QS w ww105 43 gx gq gr A n c s105 bs an0 (anW (anX v1 v2 v3 [] [] [] [] false x103 x104 x105 0 0 0 0) (.slice none 0 0) (.slice none 0 0) (.slice none 0 0))) := ⟨by rw [← hww]; exact HZ.out.set (M' := (anW (anX v1 v2 v3 [] [] [] [] false x103 x104 x105 0 0 0 0) (.slice none 0 0) (.slice none 0 0) (.slice none 0 0))) 10 _ rfl (an_re HZ.out.ok)⟩
  clear hww HZ d0 d1 HB104
  clear HU
  clear hzb
  try clear hcv
  have HW := Hd.mk HB105.out
  clear HB105
  try clear c0
  try clear c2
  obtain ⟨M, hM⟩ : ∃ M, (anW (anX v1 v2 v3 [] [] [] [] false x103 x104 x105 0 0 0 0) (.slice none 0 0) (.slice none 0 0) (.slice none 0 0)) = M := ⟨_, rfl⟩
  have HM1 : Hd (M.cells.length = 15 ∧ M.cells.toArray.all (·.oneCell') = true) := ⟨by rw [← hM]; exact anW_one HW.out.ok⟩
  have HMI : Hd (anIs2 M (anX v1 v2 v3 [] [] [] [] false x103 x104 x105 0 0 0 0)) := ⟨⟨_, _, _, hM.symm⟩, by rw [← hM]; exact an_ap (by first | exact Apart.nil _ | exact (Apart.nil _).symm) (by first | exact Apart.nil _ | exact (Apart.nil _).symm) (by first | exact Apart.nil _ | exact (Apart.nil _).symm | exact HAP.out)⟩
  rw [hM] at HW
  clear hM
  obtain ⟨fe, hfe⟩ : ∃ f, endF n s105.1 s105.2 = f := ⟨_, rfl⟩
  have HFE := Hd.mk hfe
  have hn : bs.length = n := HW.out.rdr.len
  have HRD : Hd (rdAn bs = if fe = 0 then some (anX v1 v2 v3 [] [] [] [] false x103 x104 x105 0 0 0 0) else none) := ⟨by
   have ky := HYES.out
   have z0 : unz ((0 : Nat) : Int) = 0 := by decide
   have B8 : decide ((v1 : Int) = 8) = false := by (try unfold qBody); (try unfold qGen); (try unfold qKeys); (try unfold qPage); exact decide_eq_false (by have := HK0.out; omega)
   have BB : qBody (v1 : Int) (v3 : Int) = false := by (try unfold qBody); (try unfold qGen); (try unfold qKeys); (try unfold qPage); exact decide_eq_false (by have := HK0.out; omega)
   have BG : qGen (v1 : Int) (v3 : Int) = true := by (try unfold qBody); (try unfold qGen); (try unfold qKeys); (try unfold qPage); exact decide_eq_true (by have := HK0.out; omega)
   have BK : qKeys (v1 : Int) (v3 : Int) = false := by (try unfold qBody); (try unfold qGen); (try unfold qKeys); (try unfold qPage); exact decide_eq_false (by have := HK0.out; omega)
   have BP : qPage (v1 : Int) (v3 : Int) = false := by (try unfold qBody); (try unfold qGen); (try unfold qKeys); (try unfold qPage); exact decide_eq_false (by have := HK0.out; omega)
   unfold rdAn
   simp only [E1.out, E2.out, E3.out, B8, BB, BG, BK, BP, opt_t, opt_f, E103.out, E104.out, E105.out]
   rw [hn, hfe]
   by_cases h0 : fe = 0
   ·rw [if_pos h0, if_pos ⟨by omega, by omega, by omega, by omega, h0⟩]; rfl
   ·rw [if_neg h0, if_neg (fun h => h0 h.2.2.2.2)]⟩
  clear hn hfe
  refine wp_region_held_drew (S := fun W => ∃ zs : Array Value, zs.size = 15 ∧ QS w W 43 gx gq gr A n c s105 bs zs M) (by kernel_rfl) ⟨an0, rfl, HW.out.below (Chg.refl _ _).drew⟩ (fun hHeld => ?_)
  refine wpAnyH_take (i := 0) (oi := ?oiR1600) (v := .agg M.cells.toArray) ?hiR1600 (by kernel_rfl) (by kernel_rfl) (by kernel_rfl) ?hQR1600 ?hyR1600 (by assumption) ?restR1600
  case hiR1600 => simp only [List.getElem?_toArray, List.getElem?_cons_succ, List.getElem?_cons_zero]; rfl
  case hQR1600 => exact fun _ _ _ h => h
  case hyR1600 => exact yieldsIf_load_mid rfl 43 (.tmp 4) rfl gq 0 rfl M.cells _ (fun W hW => let ⟨_, _, h⟩ := hW; h.range) Try.underlying43 rfl (by rw [infoAn15, HM1.out.1])
  simp only [Act.put, List.setIfInBounds_toArray, List.set_cons_zero, List.set_cons_succ]
  refine wpAnyH_take (i := 1) (oi := ?oi1701) (v := ?v1701) ?hi1701 (by kernel_rfl) (by kernel_rfl) (by kernel_rfl) ?hQ1701 (Or.inl ⟨?hw1701, ?hy1701⟩) (by assumption) ?rest1701
  case hi1701 => simp only [List.getElem?_toArray, List.getElem?_cons_succ, List.getElem?_cons_zero]; rfl
  case hQ1701 => exact fun _ _ _ h => h
  case hw1701 => rfl
  case hy1701 => (intro W hW; skip; go_simp; all_goals rfl)
  simp only [Act.put, List.setIfInBounds_toArray, List.set_cons_zero, List.set_cons_succ]
  refine wpAnyH_ready (rs := [2]) (by kernel_rfl) (by simp) ?_
  refine AllReadyH.cons (i := 2) (o := ?o1702) ?ho1702 (fun Kq hK => ?step1702) AllReadyH.nil
  case ho1702 => simp only [List.getElem?_toArray, List.getElem?_cons_succ, List.getElem?_cons_zero]; rfl
  go_simp
  (obtain ⟨zs, hz8, hQ⟩ := hHeld; go_at_call 130; refine (end_any _ gr n c s105.1 s105.2 A bs hQ.rdr).mono ?_; rw [HFE.out]; rintro e w7 ⟨rfl, hc7⟩)
  have hF : ∃ zs : Array Value, zs.size = 15 ∧ QS w w7 43 gx gq gr A n c s105 bs zs M := ⟨zs, hz8, hQ.below hc7⟩
  refine hK.out _ _ hF (fun _ => ?_)
  clear hK Kq hQ hz8 hc7
  have hHeld := hF
  clear hF
  try simp only [Act.put, List.setIfInBounds_toArray, List.set_cons_zero, List.set_cons_succ]
  refine wpAnyH_take (i := 3) (oi := ?oi1703) (v := ?v1703) ?hi1703 (by kernel_rfl) (by kernel_rfl) (by kernel_rfl) ?hQ1703 (Or.inl ⟨?hw1703, ?hy1703⟩) (by assumption) ?rest1703
  case hi1703 => simp only [List.getElem?_toArray, List.getElem?_cons_succ, List.getElem?_cons_zero]; rfl
  case hQ1703 => exact fun _ _ _ h => h
  case hw1703 => rfl
  case hy1703 => (intro W hW; skip; go_simp; all_goals rfl)
  simp only [Act.put, List.setIfInBounds_toArray, List.set_cons_zero, List.set_cons_succ]
  refine wpAnyH_ready (rs := [4]) (by kernel_rfl) (by simp) ?_
  refine AllReadyH.cons (i := 4) (o := ?oS1600) ?hoS1600 (fun Kq hK => ?stepS1600) AllReadyH.nil
  case hoS1600 => simp only [List.getElem?_toArray, List.getElem?_cons_succ, List.getElem?_cons_zero]; rfl
  obtain ⟨zs, hz8, hQ⟩ := hHeld
  refine step_store rfl 43 (.tmp 2) (.tmp 108) rfl gx M.cells.toArray rfl rfl 43 zs hQ.res (by rw [infoAn15]; simp [HM1.out.1]) (by rw [hz8]; simp [HM1.out.1]) HM1.out.2 ?_
  intro w8 hs8 hg8
  have hF : ∃ zs : Array Value, zs.size = 15 ∧ QS w w8 43 gx gq gr A n c s105 bs zs M := ⟨M.cells.toArray, by simp [HM1.out.1], hQ.stored hs8 hg8⟩
  have HRES : Hd (w8.heap[gx]? = some (.cells M.cells.toArray 43) ∧ QS w w8 43 gx gq gr A n c s105 bs M.cells.toArray M) := ⟨hs8, hQ.stored hs8 hg8⟩
  refine hK.out _ _ hF (fun _ => ?_)
  clear hK Kq hQ hz8 hs8 hg8
  have hHeld := hF
  clear hF
  try simp only [Act.put, List.setIfInBounds_toArray, List.set_cons_zero, List.set_cons_succ]
  refine wpAnyH_take (i := 5) (oi := ?oi1801) (v := ?v1801) ?hi1801 (by kernel_rfl) (by kernel_rfl) (by kernel_rfl) ?hQ1801 (Or.inl ⟨?hw1801, ?hy1801⟩) (by assumption) ?rest1801
  case hi1801 => simp only [List.getElem?_toArray, List.getElem?_cons_succ, List.getElem?_cons_zero]; rfl
  case hQ1801 => exact fun _ _ _ h => h
  case hw1801 => rfl
  case hy1801 => (intro W hW; skip; go_simp; all_goals rfl)
  simp only [Act.put, List.setIfInBounds_toArray, List.set_cons_zero, List.set_cons_succ]
  refine wpAnyH_done (by kernel_rfl) ?_ _
  clear hHeld
  go_wp2_with fail
  (try simp only [Exit.inBlock, Exit.then])
  refine bodyPost_ret (results_cell_tmp rfl _ _ gx 43 M.cells.toArray (0, 0) _ rfl HRES.out.1 Try.underlying43 rfl (by rw [infoAn15]; simp [HM1.out.1])) rfl ?_
  refine ⟨M, decide (fe = 0), by (first | rfl | (simp [Act.put]; rfl) | skip), HRES.out.2.ch, HM1.out.1, HM1.out.2, ?_⟩
  rw [HRD.out]
  by_cases h0 : fe = 0
  ·exact .inl ⟨_, decide_eq_true h0, if_pos h0, HMI.out, HRES.out.2.ok.lower (by have := HRES.out.2.l2; have := HRES.out.2.l3; omega)⟩
  ·exact .inr ⟨decide_eq_false h0, if_neg h0⟩
 by_cases k6 : v1 = 6
 ·have kk := k6
  have q2 : ((v1 : Int) == 2) = false := beq_eq_false_iff_ne.2 (by omega)
  have q3 : ((v1 : Int) == 3) = false := beq_eq_false_iff_ne.2 (by omega)
  have q4 : ((v1 : Int) == 4) = false := beq_eq_false_iff_ne.2 (by omega)
  have q6 : ((v1 : Int) == 6) = true := by rw [kk]; rfl
  have q7 : ((v1 : Int) == 7) = false := beq_eq_false_iff_ne.2 (by omega)
  have HK0 := Hd.mk (And.intro kk k0)
  have HM6 : Hd (qMost (v1 : Int) = 65536) := ⟨by unfold qMost; rw [if_pos (by omega)]⟩
  clear kk k6 k0 k8 k2 k3 k4
  go_wp2_with fail
  refine (cTxt (s := s3) 65536 255 (by omega) (by omega) H5.out.rdr).mono ?_
  rintro e wz106 ⟨x106, s106, p106, q106, ez, rfl, hoz, hc, hR⟩
  have HZ : Hd (QS w wz106 43 gx gq gr A n c s106 bs an0 (anW (anX v1 v2 v3 [] [] [] [] false 0 0 0 0 0 0 0) (.slice none 0 0) (.slice none 0 0) (.slice none 0 0))) := ⟨H5.out.call hc hR⟩
  have E106 : Hd (rTxt bs 65536 255 s3 = (x106, s106)) := ⟨ez⟩
  have HOZ := Hd.mk (own_base hoz (base' := gq + 1) H5.out.lt)
  clear hoz hc hR ez
  have d0 : wz106.cell? ⟨gq, 4, none⟩ = some (.slice none 0 0) := HZ.out.at_ 4 rfl
  have d1 := HZ.out.z 4
  try clear c0
  try clear c2
  go_upto_region 32 with fail
  obtain ⟨ww106, hww⟩ : ∃ W, wz106.setCell ⟨gq, 4, none⟩ (.slice p106 x106.length q106) = W := ⟨_, rfl⟩
  rw [hww]
  have HB106 : Hd (QS w ww106 43 gx gq gr A n c s106 bs an0 (anW (anX v1 v2 v3 [] x106 [] [] false 0 0 0 0 0 0 0) (.slice none 0 0) (.slice p106 x106.length q106) (.slice none 0 0))) := ⟨by rw [← hww]; exact HZ.out.set (M' := (anW (anX v1 v2 v3 [] x106 [] [] false 0 0 0 0 0 0 0) (.slice none 0 0) (.slice p106 x106.length q106) (.slice none 0 0))) 4 _ rfl (an_ok (an_own HZ.out.ok).1 HOZ.out (an_own HZ.out.ok).2.2)⟩
  clear hww HZ d0 d1 H5
  have HW := Hd.mk HB106.out
  clear HB106
  try clear c0
  try clear c2
  obtain ⟨M, hM⟩ : ∃ M, (anW (anX v1 v2 v3 [] x106 [] [] false 0 0 0 0 0 0 0) (.slice none 0 0) (.slice p106 x106.length q106) (.slice none 0 0)) = M := ⟨_, rfl⟩
  have HM1 : Hd (M.cells.length = 15 ∧ M.cells.toArray.all (·.oneCell') = true) := ⟨by rw [← hM]; exact anW_one HW.out.ok⟩
  have HMI : Hd (anIs2 M (anX v1 v2 v3 [] x106 [] [] false 0 0 0 0 0 0 0)) := ⟨⟨_, _, _, hM.symm⟩, by rw [← hM]; exact an_ap (by first | exact Apart.nil _ | exact (Apart.nil _).symm) (by first | exact Apart.nil _ | exact (Apart.nil _).symm) (by first | exact Apart.nil _ | exact (Apart.nil _).symm | exact HAP.out)⟩
  rw [hM] at HW
  clear hM
  obtain ⟨fe, hfe⟩ : ∃ f, endF n s106.1 s106.2 = f := ⟨_, rfl⟩
  have HFE := Hd.mk hfe
  have hn : bs.length = n := HW.out.rdr.len
  have HRD : Hd (rdAn bs = if fe = 0 then some (anX v1 v2 v3 [] x106 [] [] false 0 0 0 0 0 0 0) else none) := ⟨by
   have ky := HYES.out
   have z0 : unz ((0 : Nat) : Int) = 0 := by decide
   have B8 : decide ((v1 : Int) = 8) = false := by (try unfold qBody); (try unfold qGen); (try unfold qKeys); (try unfold qPage); exact decide_eq_false (by have := HK0.out; omega)
   have BB : qBody (v1 : Int) (v3 : Int) = false := by (try unfold qBody); (try unfold qGen); (try unfold qKeys); (try unfold qPage); exact decide_eq_false (by have := HK0.out; omega)
   have BG : qGen (v1 : Int) (v3 : Int) = false := by (try unfold qBody); (try unfold qGen); (try unfold qKeys); (try unfold qPage); exact decide_eq_false (by have := HK0.out; omega)
   have BK : qKeys (v1 : Int) (v3 : Int) = true := by (try unfold qBody); (try unfold qGen); (try unfold qKeys); (try unfold qPage); exact decide_eq_true (by have := HK0.out; omega)
   have BP : qPage (v1 : Int) (v3 : Int) = false := by (try unfold qBody); (try unfold qGen); (try unfold qKeys); (try unfold qPage); exact decide_eq_false (by have := HK0.out; omega)
   unfold rdAn
   simp only [E1.out, E2.out, E3.out, B8, BB, BG, BK, BP, opt_t, opt_f, HM6.out, E106.out]
   rw [hn, hfe]
   by_cases h0 : fe = 0
   ·rw [if_pos h0, if_pos ⟨by omega, by omega, by omega, by omega, h0⟩]; rfl
   ·rw [if_neg h0, if_neg (fun h => h0 h.2.2.2.2)]⟩
  clear hn hfe
  refine wp_region_held_drew (S := fun W => ∃ zs : Array Value, zs.size = 15 ∧ QS w W 43 gx gq gr A n c s106 bs zs M) (by kernel_rfl) ⟨an0, rfl, HW.out.below (Chg.refl _ _).drew⟩ (fun hHeld => ?_)
  refine wpAnyH_take (i := 0) (oi := ?oiR1900) (v := .agg M.cells.toArray) ?hiR1900 (by kernel_rfl) (by kernel_rfl) (by kernel_rfl) ?hQR1900 ?hyR1900 (by assumption) ?restR1900
  case hiR1900 => simp only [List.getElem?_toArray, List.getElem?_cons_succ, List.getElem?_cons_zero]; rfl
  case hQR1900 => exact fun _ _ _ h => h
  case hyR1900 => exact yieldsIf_load_mid rfl 43 (.tmp 4) rfl gq 0 rfl M.cells _ (fun W hW => let ⟨_, _, h⟩ := hW; h.range) Try.underlying43 rfl (by rw [infoAn15, HM1.out.1])
  simp only [Act.put, List.setIfInBounds_toArray, List.set_cons_zero, List.set_cons_succ]
  refine wpAnyH_take (i := 1) (oi := ?oi2001) (v := ?v2001) ?hi2001 (by kernel_rfl) (by kernel_rfl) (by kernel_rfl) ?hQ2001 (Or.inl ⟨?hw2001, ?hy2001⟩) (by assumption) ?rest2001
  case hi2001 => simp only [List.getElem?_toArray, List.getElem?_cons_succ, List.getElem?_cons_zero]; rfl
  case hQ2001 => exact fun _ _ _ h => h
  case hw2001 => rfl
  case hy2001 => (intro W hW; skip; go_simp; all_goals rfl)
  simp only [Act.put, List.setIfInBounds_toArray, List.set_cons_zero, List.set_cons_succ]
  refine wpAnyH_ready (rs := [2]) (by kernel_rfl) (by simp) ?_
  refine AllReadyH.cons (i := 2) (o := ?o2002) ?ho2002 (fun Kq hK => ?step2002) AllReadyH.nil
  case ho2002 => simp only [List.getElem?_toArray, List.getElem?_cons_succ, List.getElem?_cons_zero]; rfl
  go_simp
  (obtain ⟨zs, hz8, hQ⟩ := hHeld; go_at_call 130; refine (end_any _ gr n c s106.1 s106.2 A bs hQ.rdr).mono ?_; rw [HFE.out]; rintro e w7 ⟨rfl, hc7⟩)
  have hF : ∃ zs : Array Value, zs.size = 15 ∧ QS w w7 43 gx gq gr A n c s106 bs zs M := ⟨zs, hz8, hQ.below hc7⟩
  refine hK.out _ _ hF (fun _ => ?_)
  clear hK Kq hQ hz8 hc7
  have hHeld := hF
  clear hF
  try simp only [Act.put, List.setIfInBounds_toArray, List.set_cons_zero, List.set_cons_succ]
  refine wpAnyH_take (i := 3) (oi := ?oi2003) (v := ?v2003) ?hi2003 (by kernel_rfl) (by kernel_rfl) (by kernel_rfl) ?hQ2003 (Or.inl ⟨?hw2003, ?hy2003⟩) (by assumption) ?rest2003
  case hi2003 => simp only [List.getElem?_toArray, List.getElem?_cons_succ, List.getElem?_cons_zero]; rfl
  case hQ2003 => exact fun _ _ _ h => h
  case hw2003 => rfl
  case hy2003 => (intro W hW; skip; go_simp; all_goals rfl)
  simp only [Act.put, List.setIfInBounds_toArray, List.set_cons_zero, List.set_cons_succ]
  refine wpAnyH_ready (rs := [4]) (by kernel_rfl) (by simp) ?_
  refine AllReadyH.cons (i := 4) (o := ?oS1900) ?hoS1900 (fun Kq hK => ?stepS1900) AllReadyH.nil
  case hoS1900 => simp only [List.getElem?_toArray, List.getElem?_cons_succ, List.getElem?_cons_zero]; rfl
  obtain ⟨zs, hz8, hQ⟩ := hHeld
  refine step_store rfl 43 (.tmp 2) (.tmp 108) rfl gx M.cells.toArray rfl rfl 43 zs hQ.res (by rw [infoAn15]; simp [HM1.out.1]) (by rw [hz8]; simp [HM1.out.1]) HM1.out.2 ?_
  intro w8 hs8 hg8
  have hF : ∃ zs : Array Value, zs.size = 15 ∧ QS w w8 43 gx gq gr A n c s106 bs zs M := ⟨M.cells.toArray, by simp [HM1.out.1], hQ.stored hs8 hg8⟩
  have HRES : Hd (w8.heap[gx]? = some (.cells M.cells.toArray 43) ∧ QS w w8 43 gx gq gr A n c s106 bs M.cells.toArray M) := ⟨hs8, hQ.stored hs8 hg8⟩
  refine hK.out _ _ hF (fun _ => ?_)
  clear hK Kq hQ hz8 hs8 hg8
  have hHeld := hF
  clear hF
  try simp only [Act.put, List.setIfInBounds_toArray, List.set_cons_zero, List.set_cons_succ]
  refine wpAnyH_take (i := 5) (oi := ?oi2101) (v := ?v2101) ?hi2101 (by kernel_rfl) (by kernel_rfl) (by kernel_rfl) ?hQ2101 (Or.inl ⟨?hw2101, ?hy2101⟩) (by assumption) ?rest2101
  case hi2101 => simp only [List.getElem?_toArray, List.getElem?_cons_succ, List.getElem?_cons_zero]; rfl
  case hQ2101 => exact fun _ _ _ h => h
  case hw2101 => rfl
  case hy2101 => (intro W hW; skip; go_simp; all_goals rfl)
  simp only [Act.put, List.setIfInBounds_toArray, List.set_cons_zero, List.set_cons_succ]
  refine wpAnyH_done (by kernel_rfl) ?_ _
  clear hHeld
  go_wp2_with fail
  (try simp only [Exit.inBlock, Exit.then])
  refine bodyPost_ret (results_cell_tmp rfl _ _ gx 43 M.cells.toArray (0, 0) _ rfl HRES.out.1 Try.underlying43 rfl (by rw [infoAn15]; simp [HM1.out.1])) rfl ?_
  refine ⟨M, decide (fe = 0), by (first | rfl | (simp [Act.put]; rfl) | skip), HRES.out.2.ch, HM1.out.1, HM1.out.2, ?_⟩
  rw [HRD.out]
  by_cases h0 : fe = 0
  ·exact .inl ⟨_, decide_eq_true h0, if_pos h0, HMI.out, HRES.out.2.ok.lower (by have := HRES.out.2.l2; have := HRES.out.2.l3; omega)⟩
  ·exact .inr ⟨decide_eq_false h0, if_neg h0⟩
 by_cases k7 : v1 = 7
 ·have kk := k7
  have q2 : ((v1 : Int) == 2) = false := beq_eq_false_iff_ne.2 (by omega)
  have q3 : ((v1 : Int) == 3) = false := beq_eq_false_iff_ne.2 (by omega)
  have q4 : ((v1 : Int) == 4) = false := beq_eq_false_iff_ne.2 (by omega)
  have q6 : ((v1 : Int) == 6) = false := beq_eq_false_iff_ne.2 (by omega)
  have q7 : ((v1 : Int) == 7) = true := by rw [kk]; rfl
  have HK0 := Hd.mk (And.intro kk k0)
  have HM6 : Hd (qMost (v1 : Int) = 1000) := ⟨by unfold qMost; rw [if_neg (by omega)]⟩
  clear kk k7 k0 k8 k2 k3 k4 k6
  go_wp2_with fail
  refine (cTxt (s := s3) 1000 255 (by omega) (by omega) H5.out.rdr).mono ?_
  rintro e wz107 ⟨x107, s107, p107, q107, ez, rfl, hoz, hc, hR⟩
  have HZ : Hd (QS w wz107 43 gx gq gr A n c s107 bs an0 (anW (anX v1 v2 v3 [] [] [] [] false 0 0 0 0 0 0 0) (.slice none 0 0) (.slice none 0 0) (.slice none 0 0))) := ⟨H5.out.call hc hR⟩
  have E107 : Hd (rTxt bs 1000 255 s3 = (x107, s107)) := ⟨ez⟩
  have HOZ := Hd.mk (own_base hoz (base' := gq + 1) H5.out.lt)
  clear hoz hc hR ez
  have d0 : wz107.cell? ⟨gq, 4, none⟩ = some (.slice none 0 0) := HZ.out.at_ 4 rfl
  have d1 := HZ.out.z 4
  try clear c0
  try clear c2
  go_upto_region 26 with fail
  obtain ⟨ww107, hww⟩ : ∃ W, wz107.setCell ⟨gq, 4, none⟩ (.slice p107 x107.length q107) = W := ⟨_, rfl⟩
  rw [hww]
  have HB107 : Hd (QS w ww107 43 gx gq gr A n c s107 bs an0 (anW (anX v1 v2 v3 [] x107 [] [] false 0 0 0 0 0 0 0) (.slice none 0 0) (.slice p107 x107.length q107) (.slice none 0 0))) := ⟨by rw [← hww]; exact HZ.out.set (M' := (anW (anX v1 v2 v3 [] x107 [] [] false 0 0 0 0 0 0 0) (.slice none 0 0) (.slice p107 x107.length q107) (.slice none 0 0))) 4 _ rfl (an_ok (an_own HZ.out.ok).1 HOZ.out (an_own HZ.out.ok).2.2)⟩
  clear hww HZ d0 d1 H5
  go_wp2_with fail
  refine (cTxt (s := s107) 1000 255 (by omega) (by omega) HB107.out.rdr).mono ?_
  rintro e wz108 ⟨x108, s108, p108, q108, ez, rfl, hoz, hc, hR⟩
  have HZ : Hd (QS w wz108 43 gx gq gr A n c s108 bs an0 (anW (anX v1 v2 v3 [] x107 [] [] false 0 0 0 0 0 0 0) (.slice none 0 0) (.slice p107 x107.length q107) (.slice none 0 0))) := ⟨HB107.out.call hc hR⟩
  have E108 : Hd (rTxt bs 1000 255 s107 = (x108, s108)) := ⟨ez⟩
  have HAP : Hd (Apart (.slice p107 x107.length q107) (.slice p108 x108.length q108)) := ⟨apart_new (an_own HB107.out.ok).2.1 hoz⟩
  have HOZ := Hd.mk (own_base hoz (base' := gq + 1) HB107.out.lt)
  clear hoz hc hR ez
  have d0 : wz108.cell? ⟨gq, 5, none⟩ = some (.slice none 0 0) := HZ.out.at_ 5 rfl
  have d1 := HZ.out.z 5
  try clear c0
  try clear c2
  go_upto_region 27 with fail
  obtain ⟨ww108, hww⟩ : ∃ W, wz108.setCell ⟨gq, 5, none⟩ (.slice p108 x108.length q108) = W := ⟨_, rfl⟩
  rw [hww]
  have HB108 : Hd (QS w ww108 43 gx gq gr A n c s108 bs an0 (anW (anX v1 v2 v3 [] x107 x108 [] false 0 0 0 0 0 0 0) (.slice none 0 0) (.slice p107 x107.length q107) (.slice p108 x108.length q108))) := ⟨by rw [← hww]; exact HZ.out.set (M' := (anW (anX v1 v2 v3 [] x107 x108 [] false 0 0 0 0 0 0 0) (.slice none 0 0) (.slice p107 x107.length q107) (.slice p108 x108.length q108))) 5 _ rfl (an_ok (an_own HZ.out.ok).1 (an_own HZ.out.ok).2.1 HOZ.out)⟩
  clear hww HZ d0 d1 HB107
  go_wp2_with fail
  refine (cBlk (s := s108) 255 (by omega) HB108.out.rdr).mono ?_
  rintro e wz109 ⟨x109, s109, p109, q109, ez, rfl, hoz, hc, hR⟩
  have HZ : Hd (QS w wz109 43 gx gq gr A n c s109 bs an0 (anW (anX v1 v2 v3 [] x107 x108 [] false 0 0 0 0 0 0 0) (.slice none 0 0) (.slice p107 x107.length q107) (.slice p108 x108.length q108))) := ⟨HB108.out.call hc hR⟩
  have E109 : Hd (rBlk bs 255 s108 = (x109, s109)) := ⟨ez⟩
  have hcv : (convert 26 9 (.slice p109 x109.length q109)).run Try.prog wz109 = .ok (.string (bstr x109)) wz109 := conv_any (Rd.of_own hoz)
  generalize hS : bstr x109 = S109 at hcv
  have HU := Hd.mk hS
  clear hS hoz hc hR ez
  have d0 : wz109.cell? ⟨gq, 6, none⟩ = some (.string emS) := HZ.out.at_ 6 rfl
  have d1 := HZ.out.z 6
  try clear c0
  try clear c2
  go_upto_region 28 with fail
  obtain ⟨ww109, hww⟩ : ∃ W, wz109.setCell ⟨gq, 6, none⟩ (.string S109) = W := ⟨_, rfl⟩
  rw [hww]
  rw [← HU.out] at hww
  have HB109 : Hd (QS w ww109 43 gx gq gr A n c s109 bs an0 (anW (anX v1 v2 v3 [] x107 x108 x109 false 0 0 0 0 0 0 0) (.slice none 0 0) (.slice p107 x107.length q107) (.slice p108 x108.length q108))) := ⟨by rw [← hww]; exact HZ.out.set (M' := (anW (anX v1 v2 v3 [] x107 x108 x109 false 0 0 0 0 0 0 0) (.slice none 0 0) (.slice p107 x107.length q107) (.slice p108 x108.length q108))) 6 _ rfl (an_re HZ.out.ok)⟩
  clear hww HZ d0 d1 HB108
  clear HU
  try clear hcv
  go_wp2_with fail
  refine (cFix1 (s := s109) HB109.out.rdr).mono ?_
  rintro e wf ⟨vf, sf, ef, rfl, hvf, hc, hR⟩
  have HF : Hd (QS w wf 43 gx gq gr A n c sf bs an0 (anW (anX v1 v2 v3 [] x107 x108 x109 false 0 0 0 0 0 0 0) (.slice none 0 0) (.slice p107 x107.length q107) (.slice p108 x108.length q108))) := ⟨HB109.out.call hc hR⟩
  have EF := Hd.mk ef
  clear hc hR ef HB109
  by_cases hm1 : 1 < vf
  ·have hm1i : (1 : Int) < (vf : Int) := by omega
   have HNO : Hd (rdAn bs = none) := ⟨by
    have ky := HYES.out
    have B8 : decide ((v1 : Int) = 8) = false := by (try unfold qBody); (try unfold qGen); (try unfold qKeys); (try unfold qPage); exact decide_eq_false (by have := HK0.out; omega)
    have BB : qBody (v1 : Int) (v3 : Int) = false := by (try unfold qBody); (try unfold qGen); (try unfold qKeys); (try unfold qPage); exact decide_eq_false (by have := HK0.out; omega)
    have BG : qGen (v1 : Int) (v3 : Int) = false := by (try unfold qBody); (try unfold qGen); (try unfold qKeys); (try unfold qPage); exact decide_eq_false (by have := HK0.out; omega)
    have BK : qKeys (v1 : Int) (v3 : Int) = true := by (try unfold qBody); (try unfold qGen); (try unfold qKeys); (try unfold qPage); exact decide_eq_true (by have := HK0.out; omega)
    have BP : qPage (v1 : Int) (v3 : Int) = true := by (try unfold qBody); (try unfold qGen); (try unfold qKeys); (try unfold qPage); exact decide_eq_true (by have := HK0.out; omega)
    unfold rdAn
    simp only [E1.out, E2.out, E3.out, B8, BB, BG, BK, BP, opt_t, opt_f, HM6.out, E107.out, E108.out, E109.out, EF.out]
    rw [if_neg (fun h => (by have := h.2.2.2.1; omega))]⟩
   have hrow := HF.out.res
   have hch := Hd.mk (And.intro HF.out.ch HF.out.l2)
   go_wp2_with (refine at_store (x := .tmp 2) ?_; refine wpList_stored rfl 43 (.tmp 2) (.tmp 104) rfl gx an0 rfl rfl 43 an0 hrow infoAn15 rfl (by simp [an0, Value.oneCell']) ?_; intro w9 hB9)
   (try simp only [Exit.inBlock, Exit.then])
   refine bodyPost_ret (results_cell_tmp rfl _ _ gx 43 an0 (0, 0) _ rfl hB9.out.1 Try.underlying43 rfl infoAn15) rfl ?_
   exact ⟨⟨an0.toList, []⟩, false, rfl, ⟨hB9.out.2.1.os.trans hch.out.1.os, hB9.out.2.1.tape.trans hch.out.1.tape, hB9.out.2.1.output.trans hch.out.1.output, Nat.le_trans hch.out.1.size hB9.out.2.1.size, fun k hk hm => (hB9.out.2.1.block k (Nat.lt_of_lt_of_le hk hch.out.1.size) (by have := hch.out.2; intro h; injection h; omega)).trans (hch.out.1.block k hk hm)⟩, rfl, by simp [an0, Value.oneCell'], .inr ⟨rfl, HNO.out⟩⟩
  have hm1i : ¬ (1 : Int) < (vf : Int) := by omega
  have HVF : Hd (vf ≤ 1) := ⟨by omega⟩
  have hvb : ((vf : Int) == 1) = decide (vf = 1) := by rw [Bool.eq_iff_iff]; simp; omega
  clear hm1
  have d7 : wf.cell? ⟨gq, 7, none⟩ = some (.bool false) := HF.out.at_ 7 rfl
  have z7 := HF.out.z 7
  generalize hdv : decide (vf = 1) = dv at hvb
  have HDV := Hd.mk hdv
  clear hdv
  go_upto_region 32 with fail
  obtain ⟨wg, hwg⟩ : ∃ W, wf.setCell ⟨gq, 7, none⟩ (.bool dv) = W := ⟨_, rfl⟩
  rw [hwg]
  rw [← HDV.out] at hwg
  have HBF : Hd (QS w wg 43 gx gq gr A n c sf bs an0 (anW (anX v1 v2 v3 [] x107 x108 x109 (decide (vf = 1)) 0 0 0 0 0 0 0) (.slice none 0 0) (.slice p107 x107.length q107) (.slice p108 x108.length q108))) := ⟨by rw [← hwg]; exact HF.out.set (M' := (anW (anX v1 v2 v3 [] x107 x108 x109 (decide (vf = 1)) 0 0 0 0 0 0 0) (.slice none 0 0) (.slice p107 x107.length q107) (.slice p108 x108.length q108))) 7 _ rfl (an_re HF.out.ok)⟩
  clear hwg HF d7 z7 HDV hvb
  have HW := Hd.mk HBF.out
  clear HBF
  try clear c0
  try clear c2
  obtain ⟨M, hM⟩ : ∃ M, (anW (anX v1 v2 v3 [] x107 x108 x109 (decide (vf = 1)) 0 0 0 0 0 0 0) (.slice none 0 0) (.slice p107 x107.length q107) (.slice p108 x108.length q108)) = M := ⟨_, rfl⟩
  have HM1 : Hd (M.cells.length = 15 ∧ M.cells.toArray.all (·.oneCell') = true) := ⟨by rw [← hM]; exact anW_one HW.out.ok⟩
  have HMI : Hd (anIs2 M (anX v1 v2 v3 [] x107 x108 x109 (decide (vf = 1)) 0 0 0 0 0 0 0)) := ⟨⟨_, _, _, hM.symm⟩, by rw [← hM]; exact an_ap (by first | exact Apart.nil _ | exact (Apart.nil _).symm) (by first | exact Apart.nil _ | exact (Apart.nil _).symm) (by first | exact Apart.nil _ | exact (Apart.nil _).symm | exact HAP.out)⟩
  rw [hM] at HW
  clear hM
  obtain ⟨fe, hfe⟩ : ∃ f, endF n sf.1 sf.2 = f := ⟨_, rfl⟩
  have HFE := Hd.mk hfe
  have hn : bs.length = n := HW.out.rdr.len
  have HRD : Hd (rdAn bs = if fe = 0 then some (anX v1 v2 v3 [] x107 x108 x109 (decide (vf = 1)) 0 0 0 0 0 0 0) else none) := ⟨by
   have ky := HYES.out
   have z0 : unz ((0 : Nat) : Int) = 0 := by decide
   have hvf1 := HVF.out
   have B8 : decide ((v1 : Int) = 8) = false := by (try unfold qBody); (try unfold qGen); (try unfold qKeys); (try unfold qPage); exact decide_eq_false (by have := HK0.out; omega)
   have BB : qBody (v1 : Int) (v3 : Int) = false := by (try unfold qBody); (try unfold qGen); (try unfold qKeys); (try unfold qPage); exact decide_eq_false (by have := HK0.out; omega)
   have BG : qGen (v1 : Int) (v3 : Int) = false := by (try unfold qBody); (try unfold qGen); (try unfold qKeys); (try unfold qPage); exact decide_eq_false (by have := HK0.out; omega)
   have BK : qKeys (v1 : Int) (v3 : Int) = true := by (try unfold qBody); (try unfold qGen); (try unfold qKeys); (try unfold qPage); exact decide_eq_true (by have := HK0.out; omega)
   have BP : qPage (v1 : Int) (v3 : Int) = true := by (try unfold qBody); (try unfold qGen); (try unfold qKeys); (try unfold qPage); exact decide_eq_true (by have := HK0.out; omega)
   unfold rdAn
   simp only [E1.out, E2.out, E3.out, B8, BB, BG, BK, BP, opt_t, opt_f, HM6.out, E107.out, E108.out, E109.out, EF.out]
   rw [hn, hfe]
   by_cases h0 : fe = 0
   ·rw [if_pos h0, if_pos ⟨by omega, by omega, by omega, by omega, h0⟩]; rfl
   ·rw [if_neg h0, if_neg (fun h => h0 h.2.2.2.2)]⟩
  clear hn hfe
  refine wp_region_held_drew (S := fun W => ∃ zs : Array Value, zs.size = 15 ∧ QS w W 43 gx gq gr A n c sf bs zs M) (by kernel_rfl) ⟨an0, rfl, HW.out.below (Chg.refl _ _).drew⟩ (fun hHeld => ?_)
  refine wpAnyH_take (i := 0) (oi := ?oiR2200) (v := .agg M.cells.toArray) ?hiR2200 (by kernel_rfl) (by kernel_rfl) (by kernel_rfl) ?hQR2200 ?hyR2200 (by assumption) ?restR2200
  case hiR2200 => simp only [List.getElem?_toArray, List.getElem?_cons_succ, List.getElem?_cons_zero]; rfl
  case hQR2200 => exact fun _ _ _ h => h
  case hyR2200 => exact yieldsIf_load_mid rfl 43 (.tmp 4) rfl gq 0 rfl M.cells _ (fun W hW => let ⟨_, _, h⟩ := hW; h.range) Try.underlying43 rfl (by rw [infoAn15, HM1.out.1])
  simp only [Act.put, List.setIfInBounds_toArray, List.set_cons_zero, List.set_cons_succ]
  refine wpAnyH_take (i := 1) (oi := ?oi2301) (v := ?v2301) ?hi2301 (by kernel_rfl) (by kernel_rfl) (by kernel_rfl) ?hQ2301 (Or.inl ⟨?hw2301, ?hy2301⟩) (by assumption) ?rest2301
  case hi2301 => simp only [List.getElem?_toArray, List.getElem?_cons_succ, List.getElem?_cons_zero]; rfl
  case hQ2301 => exact fun _ _ _ h => h
  case hw2301 => rfl
  case hy2301 => (intro W hW; skip; go_simp; all_goals rfl)
  simp only [Act.put, List.setIfInBounds_toArray, List.set_cons_zero, List.set_cons_succ]
  refine wpAnyH_ready (rs := [2]) (by kernel_rfl) (by simp) ?_
  refine AllReadyH.cons (i := 2) (o := ?o2302) ?ho2302 (fun Kq hK => ?step2302) AllReadyH.nil
  case ho2302 => simp only [List.getElem?_toArray, List.getElem?_cons_succ, List.getElem?_cons_zero]; rfl
  go_simp
  (obtain ⟨zs, hz8, hQ⟩ := hHeld; go_at_call 130; refine (end_any _ gr n c sf.1 sf.2 A bs hQ.rdr).mono ?_; rw [HFE.out]; rintro e w7 ⟨rfl, hc7⟩)
  have hF : ∃ zs : Array Value, zs.size = 15 ∧ QS w w7 43 gx gq gr A n c sf bs zs M := ⟨zs, hz8, hQ.below hc7⟩
  refine hK.out _ _ hF (fun _ => ?_)
  clear hK Kq hQ hz8 hc7
  have hHeld := hF
  clear hF
  try simp only [Act.put, List.setIfInBounds_toArray, List.set_cons_zero, List.set_cons_succ]
  refine wpAnyH_take (i := 3) (oi := ?oi2303) (v := ?v2303) ?hi2303 (by kernel_rfl) (by kernel_rfl) (by kernel_rfl) ?hQ2303 (Or.inl ⟨?hw2303, ?hy2303⟩) (by assumption) ?rest2303
  case hi2303 => simp only [List.getElem?_toArray, List.getElem?_cons_succ, List.getElem?_cons_zero]; rfl
  case hQ2303 => exact fun _ _ _ h => h
  case hw2303 => rfl
  case hy2303 => (intro W hW; skip; go_simp; all_goals rfl)
  simp only [Act.put, List.setIfInBounds_toArray, List.set_cons_zero, List.set_cons_succ]
  refine wpAnyH_ready (rs := [4]) (by kernel_rfl) (by simp) ?_
  refine AllReadyH.cons (i := 4) (o := ?oS2200) ?hoS2200 (fun Kq hK => ?stepS2200) AllReadyH.nil
  case hoS2200 => simp only [List.getElem?_toArray, List.getElem?_cons_succ, List.getElem?_cons_zero]; rfl
  obtain ⟨zs, hz8, hQ⟩ := hHeld
  refine step_store rfl 43 (.tmp 2) (.tmp 108) rfl gx M.cells.toArray rfl rfl 43 zs hQ.res (by rw [infoAn15]; simp [HM1.out.1]) (by rw [hz8]; simp [HM1.out.1]) HM1.out.2 ?_
  intro w8 hs8 hg8
  have hF : ∃ zs : Array Value, zs.size = 15 ∧ QS w w8 43 gx gq gr A n c sf bs zs M := ⟨M.cells.toArray, by simp [HM1.out.1], hQ.stored hs8 hg8⟩
  have HRES : Hd (w8.heap[gx]? = some (.cells M.cells.toArray 43) ∧ QS w w8 43 gx gq gr A n c sf bs M.cells.toArray M) := ⟨hs8, hQ.stored hs8 hg8⟩
  refine hK.out _ _ hF (fun _ => ?_)
  clear hK Kq hQ hz8 hs8 hg8
  have hHeld := hF
  clear hF
  try simp only [Act.put, List.setIfInBounds_toArray, List.set_cons_zero, List.set_cons_succ]
  refine wpAnyH_take (i := 5) (oi := ?oi2401) (v := ?v2401) ?hi2401 (by kernel_rfl) (by kernel_rfl) (by kernel_rfl) ?hQ2401 (Or.inl ⟨?hw2401, ?hy2401⟩) (by assumption) ?rest2401
  case hi2401 => simp only [List.getElem?_toArray, List.getElem?_cons_succ, List.getElem?_cons_zero]; rfl
  case hQ2401 => exact fun _ _ _ h => h
  case hw2401 => rfl
  case hy2401 => (intro W hW; skip; go_simp; all_goals rfl)
  simp only [Act.put, List.setIfInBounds_toArray, List.set_cons_zero, List.set_cons_succ]
  refine wpAnyH_done (by kernel_rfl) ?_ _
  clear hHeld
  go_wp2_with fail
  (try simp only [Exit.inBlock, Exit.then])
  refine bodyPost_ret (results_cell_tmp rfl _ _ gx 43 M.cells.toArray (0, 0) _ rfl HRES.out.1 Try.underlying43 rfl (by rw [infoAn15]; simp [HM1.out.1])) rfl ?_
  refine ⟨M, decide (fe = 0), by (first | rfl | (simp [Act.put]; rfl) | skip), HRES.out.2.ch, HM1.out.1, HM1.out.2, ?_⟩
  rw [HRD.out]
  by_cases h0 : fe = 0
  ·exact .inl ⟨_, decide_eq_true h0, if_pos h0, HMI.out, HRES.out.2.ok.lower (by have := HRES.out.2.l2; have := HRES.out.2.l3; omega)⟩
  ·exact .inr ⟨decide_eq_false h0, if_neg h0⟩
 have HKE : Hd (v3 = 0 ∧ v1 ≠ 8 ∧ v1 ≠ 2 ∧ v1 ≠ 3 ∧ v1 ≠ 4 ∧ v1 ≠ 6 ∧ v1 ≠ 7) := ⟨k0, k8, k2, k3, k4, k6, k7⟩
 have q2 : ((v1 : Int) == 2) = false := beq_eq_false_iff_ne.2 (by omega)
 have q3 : ((v1 : Int) == 3) = false := beq_eq_false_iff_ne.2 (by omega)
 have q4 : ((v1 : Int) == 4) = false := beq_eq_false_iff_ne.2 (by omega)
 have q6 : ((v1 : Int) == 6) = false := beq_eq_false_iff_ne.2 (by omega)
 have q7 : ((v1 : Int) == 7) = false := beq_eq_false_iff_ne.2 (by omega)
 clear k0 k8 k2 k3 k4 k6 k7
 go_upto_region 32 with fail
 have HW := Hd.mk H5.out
 clear H5
 try clear c0
 try clear c2
 obtain ⟨M, hM⟩ : ∃ M, (anW (anX v1 v2 v3 [] [] [] [] false 0 0 0 0 0 0 0) (.slice none 0 0) (.slice none 0 0) (.slice none 0 0)) = M := ⟨_, rfl⟩
 have HM1 : Hd (M.cells.length = 15 ∧ M.cells.toArray.all (·.oneCell') = true) := ⟨by rw [← hM]; exact anW_one HW.out.ok⟩
 have HMI : Hd (anIs2 M (anX v1 v2 v3 [] [] [] [] false 0 0 0 0 0 0 0)) := ⟨⟨_, _, _, hM.symm⟩, by rw [← hM]; exact an_ap (by first | exact Apart.nil _ | exact (Apart.nil _).symm) (by first | exact Apart.nil _ | exact (Apart.nil _).symm) (by first | exact Apart.nil _ | exact (Apart.nil _).symm | exact HAP.out)⟩
 rw [hM] at HW
 clear hM
 obtain ⟨fe, hfe⟩ : ∃ f, endF n s3.1 s3.2 = f := ⟨_, rfl⟩
 have HFE := Hd.mk hfe
 have hn : bs.length = n := HW.out.rdr.len
 have HRD : Hd (rdAn bs = if fe = 0 then some (anX v1 v2 v3 [] [] [] [] false 0 0 0 0 0 0 0) else none) := ⟨by
  have ky := HYES.out
  have z0 : unz ((0 : Nat) : Int) = 0 := by decide
  have B8 : decide ((v1 : Int) = 8) = false := by (try unfold qBody); (try unfold qGen); (try unfold qKeys); (try unfold qPage); exact decide_eq_false (by have := HKE.out; omega)
  have BB : qBody (v1 : Int) (v3 : Int) = false := by (try unfold qBody); (try unfold qGen); (try unfold qKeys); (try unfold qPage); exact decide_eq_false (by have := HKE.out; omega)
  have BG : qGen (v1 : Int) (v3 : Int) = false := by (try unfold qBody); (try unfold qGen); (try unfold qKeys); (try unfold qPage); exact decide_eq_false (by have := HKE.out; omega)
  have BK : qKeys (v1 : Int) (v3 : Int) = false := by (try unfold qBody); (try unfold qGen); (try unfold qKeys); (try unfold qPage); exact decide_eq_false (by have := HKE.out; omega)
  have BP : qPage (v1 : Int) (v3 : Int) = false := by (try unfold qBody); (try unfold qGen); (try unfold qKeys); (try unfold qPage); exact decide_eq_false (by have := HKE.out; omega)
  unfold rdAn
  simp only [E1.out, E2.out, E3.out, B8, BB, BG, BK, BP, opt_t, opt_f]
  rw [hn, hfe]
  by_cases h0 : fe = 0
  ·rw [if_pos h0, if_pos ⟨by omega, by omega, by omega, by omega, h0⟩]; rfl
  ·rw [if_neg h0, if_neg (fun h => h0 h.2.2.2.2)]⟩
 clear hn hfe
 refine wp_region_held_drew (S := fun W => ∃ zs : Array Value, zs.size = 15 ∧ QS w W 43 gx gq gr A n c s3 bs zs M) (by kernel_rfl) ⟨an0, rfl, HW.out.below (Chg.refl _ _).drew⟩ (fun hHeld => ?_)
 refine wpAnyH_take (i := 0) (oi := ?oiR2500) (v := .agg M.cells.toArray) ?hiR2500 (by kernel_rfl) (by kernel_rfl) (by kernel_rfl) ?hQR2500 ?hyR2500 (by assumption) ?restR2500
 case hiR2500 => simp only [List.getElem?_toArray, List.getElem?_cons_succ, List.getElem?_cons_zero]; rfl
 case hQR2500 => exact fun _ _ _ h => h
 case hyR2500 => exact yieldsIf_load_mid rfl 43 (.tmp 4) rfl gq 0 rfl M.cells _ (fun W hW => let ⟨_, _, h⟩ := hW; h.range) Try.underlying43 rfl (by rw [infoAn15, HM1.out.1])
 simp only [Act.put, List.setIfInBounds_toArray, List.set_cons_zero, List.set_cons_succ]
 refine wpAnyH_take (i := 1) (oi := ?oi2601) (v := ?v2601) ?hi2601 (by kernel_rfl) (by kernel_rfl) (by kernel_rfl) ?hQ2601 (Or.inl ⟨?hw2601, ?hy2601⟩) (by assumption) ?rest2601
 case hi2601 => simp only [List.getElem?_toArray, List.getElem?_cons_succ, List.getElem?_cons_zero]; rfl
 case hQ2601 => exact fun _ _ _ h => h
 case hw2601 => rfl
 case hy2601 => (intro W hW; skip; go_simp; all_goals rfl)
 simp only [Act.put, List.setIfInBounds_toArray, List.set_cons_zero, List.set_cons_succ]
 refine wpAnyH_ready (rs := [2]) (by kernel_rfl) (by simp) ?_
 refine AllReadyH.cons (i := 2) (o := ?o2602) ?ho2602 (fun Kq hK => ?step2602) AllReadyH.nil
 case ho2602 => simp only [List.getElem?_toArray, List.getElem?_cons_succ, List.getElem?_cons_zero]; rfl
 go_simp
 (obtain ⟨zs, hz8, hQ⟩ := hHeld; go_at_call 130; refine (end_any _ gr n c s3.1 s3.2 A bs hQ.rdr).mono ?_; rw [HFE.out]; rintro e w7 ⟨rfl, hc7⟩)
 have hF : ∃ zs : Array Value, zs.size = 15 ∧ QS w w7 43 gx gq gr A n c s3 bs zs M := ⟨zs, hz8, hQ.below hc7⟩
 refine hK.out _ _ hF (fun _ => ?_)
 clear hK Kq hQ hz8 hc7
 have hHeld := hF
 clear hF
 try simp only [Act.put, List.setIfInBounds_toArray, List.set_cons_zero, List.set_cons_succ]
 refine wpAnyH_take (i := 3) (oi := ?oi2603) (v := ?v2603) ?hi2603 (by kernel_rfl) (by kernel_rfl) (by kernel_rfl) ?hQ2603 (Or.inl ⟨?hw2603, ?hy2603⟩) (by assumption) ?rest2603
 case hi2603 => simp only [List.getElem?_toArray, List.getElem?_cons_succ, List.getElem?_cons_zero]; rfl
 case hQ2603 => exact fun _ _ _ h => h
 case hw2603 => rfl
 case hy2603 => (intro W hW; skip; go_simp; all_goals rfl)
 simp only [Act.put, List.setIfInBounds_toArray, List.set_cons_zero, List.set_cons_succ]
 refine wpAnyH_ready (rs := [4]) (by kernel_rfl) (by simp) ?_
 refine AllReadyH.cons (i := 4) (o := ?oS2500) ?hoS2500 (fun Kq hK => ?stepS2500) AllReadyH.nil
 case hoS2500 => simp only [List.getElem?_toArray, List.getElem?_cons_succ, List.getElem?_cons_zero]; rfl
 obtain ⟨zs, hz8, hQ⟩ := hHeld
 refine step_store rfl 43 (.tmp 2) (.tmp 108) rfl gx M.cells.toArray rfl rfl 43 zs hQ.res (by rw [infoAn15]; simp [HM1.out.1]) (by rw [hz8]; simp [HM1.out.1]) HM1.out.2 ?_
 intro w8 hs8 hg8
 have hF : ∃ zs : Array Value, zs.size = 15 ∧ QS w w8 43 gx gq gr A n c s3 bs zs M := ⟨M.cells.toArray, by simp [HM1.out.1], hQ.stored hs8 hg8⟩
 have HRES : Hd (w8.heap[gx]? = some (.cells M.cells.toArray 43) ∧ QS w w8 43 gx gq gr A n c s3 bs M.cells.toArray M) := ⟨hs8, hQ.stored hs8 hg8⟩
 refine hK.out _ _ hF (fun _ => ?_)
 clear hK Kq hQ hz8 hs8 hg8
 have hHeld := hF
 clear hF
 try simp only [Act.put, List.setIfInBounds_toArray, List.set_cons_zero, List.set_cons_succ]
 refine wpAnyH_take (i := 5) (oi := ?oi2701) (v := ?v2701) ?hi2701 (by kernel_rfl) (by kernel_rfl) (by kernel_rfl) ?hQ2701 (Or.inl ⟨?hw2701, ?hy2701⟩) (by assumption) ?rest2701
 case hi2701 => simp only [List.getElem?_toArray, List.getElem?_cons_succ, List.getElem?_cons_zero]; rfl
 case hQ2701 => exact fun _ _ _ h => h
 case hw2701 => rfl
 case hy2701 => (intro W hW; skip; go_simp; all_goals rfl)
 simp only [Act.put, List.setIfInBounds_toArray, List.set_cons_zero, List.set_cons_succ]
 refine wpAnyH_done (by kernel_rfl) ?_ _
 clear hHeld
 go_wp2_with fail
 (try simp only [Exit.inBlock, Exit.then])
 refine bodyPost_ret (results_cell_tmp rfl _ _ gx 43 M.cells.toArray (0, 0) _ rfl HRES.out.1 Try.underlying43 rfl (by rw [infoAn15]; simp [HM1.out.1])) rfl ?_
 refine ⟨M, decide (fe = 0), by (first | rfl | (simp [Act.put]; rfl) | skip), HRES.out.2.ch, HM1.out.1, HM1.out.2, ?_⟩
 rw [HRD.out]
 by_cases h0 : fe = 0
 ·exact .inl ⟨_, decide_eq_true h0, if_pos h0, HMI.out, HRES.out.2.ok.lower (by have := HRES.out.2.l2; have := HRES.out.2.l3; omega)⟩
 ·exact .inr ⟨decide_eq_false h0, if_neg h0⟩
end Go.Proofs.Ytbcmjjcbjojakaa
