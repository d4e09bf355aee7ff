/- The walk of WireReads: it returns true. (tools/turnsgen.py prints it.) -/
import Derived.Test.YtbcmjjcbjojakaaPk17
import Derived.Test.YtbcmjjcbjojakaaPk16
import Derived.Test.YtbcmjjcbjojakaaPk18
import Derived.Deep.CutRange
import Derived.Deep.Cut
namespace Go.Proofs.Ytbcmjjcbjojakaa
open Go.RowKit
set_option linter.unusedVariables false
set_option linter.unusedSimpArgs false
theorem nothing_any (w : World) (who d : Int) (A : Option Addr) (n c : Nat) (bs : List Nat) (hr : Rd w w.heap.size A n (cb bs)) (hn : n ≤ 140737488355328) :
  Calls Try.prog 27 #[.pointer none, .agg #[.int .i64 who, .int .i64 d, .slice A n c]] w fun e w' => e = .returned (.bool true) ∧ Below w.heap.size w w' := by
 by_cases d0 : d = 0
 ·subst d0; exact nothing_push w who A n c bs hr hn
 by_cases d1 : d = 1
 ·subst d1; exact nothing_req w who A n c
 by_cases d2 : d = 2
 ·subst d2; exact nothing_ans w who A n c
 by_cases d3 : d = 3
 ·subst d3; exact nothing_held w who A n c
 by_cases d4 : d = 4
 ·subst d4; exact nothing_fault w who A n c
 exact nothing_else w who A n c d (by omega)
theorem infoRdrF : (Try.prog.info? 65).map (fun i => (i.zero.map (·.cells.size), i.size, i.bytes)) = some (some 7, 7, 104) := by kernel_rfl
theorem elRdr : ElN Try.prog 66 65 7 104 := ⟨Try.underlying66, info_partsN infoRdrF, by omega⟩
theorem infoTu3 : (Try.prog.info? 68).map (·.size) = some 3 := by kernel_rfl
set_option maxRecDepth 20000 in
set_option maxHeartbeats 16000000 in
theorem turns_walk (HA : PairLaw askK) (HT : PairLaw telK) (w : World) (A : Option Addr) (n c : Nat) (ts : List Tu) (hl : Lst TuA w w.heap.size 3 A n ts) (hn : n ≤ 140737488351232) (hsum : (ts.map fun t => t.bs.length).sum ≤ 67108864) :
  Calls Try.prog 7 #[.slice A n c] w fun e w' => e = .returned (.bool true) ∧ Below w.heap.size w w' := by
 have HL := Hd.mk (And.intro hl hsum)
 have HLW := Hd.mk (And.intro HA HT)
 clear hl hsum HA HT
 obtain ⟨gz, hgz⟩ : ∃ q, w.heap.size = q := ⟨_, rfl⟩
 obtain ⟨wz, hwz⟩ : ∃ U, w.alloc (.cells #[.bool false, .slice none 0 0, .slice none 0 0, .int .u32 0, .int .u64 0, .int .i64 0, .int .i64 0, .int .i64 0, .slice none 0 0, .slice none 0 0] 58) = U := ⟨_, rfl⟩
 have HZ : Hd (RdS askK w.heap.size wz gz (.slice none 0 0) (.slice none 0 0) (.slice none 0 0) [] mid0.c mid0.s 0 mid0.k mid0.p 0 [] [] ∧ Chg [] w wz ∧ gz < wz.heap.size ∧ w.heap.size = gz) := ⟨by
  rw [← hwz, ← hgz]; exact ⟨RdS.start askK (heap_alloc_new _ _) (Nat.le_refl _), (Chg.refl _ w).alloc _, by simp, rfl⟩⟩
 go_enter Try.func7, Try.ntmps7
 go_upto_region 2 with fail
 try rw [hwz]
 try rw [hgz]
 clear hwz hgz
 go_wp2_with fail
 refine (asks_new wz).mono ?_
 obtain ⟨g0, hg0⟩ : ∃ q, wz.heap.size = q := ⟨_, rfl⟩
 rw [hg0]
 rintro e wa ⟨rfl, hra, hba⟩
 have HA0 : Hd (RdS askK w.heap.size wa g0 (.slice none 0 0) (.slice none 0 0) (.slice none 0 0) [] mid0.c mid0.s 0 mid0.k mid0.p 0 [] [] ∧ Chg [] wz wa ∧ g0 < wa.heap.size ∧ gz < g0) := ⟨hra.low (by have := HZ.out.2.1.size; omega), by rw [← hg0] at hba; exact Chg.of_below hba, hra.lt, by have := HZ.out.2.2.1; omega⟩
 clear hra hba hg0
 go_wp2_with fail
 refine (tells_new wa).mono ?_
 obtain ⟨g1, hg1⟩ : ∃ q, wa.heap.size = q := ⟨_, rfl⟩
 rw [hg1]
 rintro e wt ⟨rfl, hrt, hbt⟩
 have HA1 : Hd (RdS telK w.heap.size wt g1 (.slice none 0 0) (.slice none 0 0) (.slice none 0 0) [] mid0.c mid0.s 0 mid0.k mid0.p 0 [] [] ∧ Chg [] wa wt ∧ g1 < wt.heap.size ∧ g0 < g1) := ⟨hrt.low (by have := HZ.out.2.1.size; have := HA0.out.2.1.size; omega), by rw [← hg1] at hbt; exact Chg.of_below hbt, hrt.lt, by have := HA0.out.2.2.1; omega⟩
 clear hrt hbt hg1
 go_upto_region 3 with fail
 obtain ⟨gR, hgR⟩ : ∃ q, wt.heap.size = q := ⟨_, rfl⟩
 obtain ⟨wb, hwb⟩ : ∃ U, wt.alloc (.cells #[.pointer (some ⟨g0, 0, none⟩), .pointer (some ⟨g1, 0, none⟩), .pointer (some ⟨gz, 0, none⟩), .pointer none] 59) = U := ⟨_, rfl⟩
 have HB : Hd (wb.heap[gR]? = some (.cells #[.pointer (some ⟨g0, 0, none⟩), .pointer (some ⟨g1, 0, none⟩), .pointer (some ⟨gz, 0, none⟩), .pointer none] 59) ∧ Chg [] wt wb ∧ gR < wb.heap.size ∧ g1 < gR) := ⟨by rw [← hwb, ← hgR]; exact heap_alloc_new _ _, by rw [← hwb]; exact (Chg.refl _ wt).alloc _, by rw [← hwb, ← hgR]; simp, by have := HA1.out.2.2.1; omega⟩
 rw [hwb]
 try rw [hgR]
 clear hwb hgR
 have c0 : wb.cell? ⟨gR, 0, none⟩ = some (.pointer (some ⟨g0, 0, none⟩)) := by rw [cell_of_row wb gR 0 _ _ (0, 0) HB.out.1]; rfl
 have c1 : wb.cell? ⟨gR, 1, none⟩ = some (.pointer (some ⟨g1, 0, none⟩)) := by rw [cell_of_row wb gR 1 _ _ (0, 0) HB.out.1]; rfl
 go_upto_region 5 with fail
 clear c0 c1
 go_upto_region 6 with (refine at_buildSlice ?_; refine wpList_build3 elRdr rfl (.tmp 24) (.tmp 25) (.tmp 26) rfl 27 rfl (zR false) (zR true) (zR false) rfl rfl rfl rfl rfl rfl ?_; intro wm hM)
 obtain ⟨gM, hgM⟩ : ∃ q, wb.heap.size = q := ⟨_, rfl⟩
 rw [hgM] at hM
 try rw [hgM]
 have HI : Hd (Inv w wm gR gM 0 ∧ gR < gM) := ⟨by
  have q1 := HZ.out; have q2 := HA0.out; have q3 := HA1.out; have q4 := HB.out
  have bm : Chg [] wb wm := by rw [← hgM] at hM; exact Chg.of_below hM.out.2.1
  refine ⟨Tri.start (((q2.1.new q3.2.1).new q4.2.1).new bm) ((q3.1.new q4.2.1).new bm) ((((q1.1.new q2.2.1).new q3.2.1).new q4.2.1).new bm) (by omega) (by omega) (by omega) (by omega) (by omega) (by omega) ((bm.block gR q4.2.2.1 List.not_mem_nil).trans q4.1) hM.out.1 (by omega) ((((q1.2.1.trans q2.2.1).trans q3.2.1).trans q4.2.1).trans bm), by omega⟩⟩
 clear hgM hM HZ HA0 HA1 HB
 go_wp2_with fail
 go_loopw [6] (fun u6 wr => ∃ i : Nat, u6 = .int .i64 (i : Int) ∧ i ≤ n ∧ Inv w wr gR gM ((ts.take i).map fun t => t.bs.length).sum) (fun u6 _ => n - (intOf u6).toNat)
 case atStart => exact ⟨0, rfl, Nat.zero_le _, HI.out.1⟩
 case round =>
  obtain ⟨i, rfl, hi, hI⟩ := hrel
  have HIv := Hd.mk hI
  clear hI
  by_cases hlt : i < n
  ·have hii : (i : Int) < (n : Int) := by omega
   obtain ⟨x, hx⟩ : ∃ x, ts[i]? = some x := ⟨_, List.getElem?_eq_getElem (by have := HL.out.1.1; omega)⟩
   have hbel : Below w.heap.size w wr := by obtain ⟨_, _, _, _, _, _, hT⟩ := HIv.out; exact hT.ch.below (Nat.le_refl _) (by simp)
   obtain ⟨gt, ot, cx, hA, hgt, hr, hcl, hq⟩ := HL.out.1.at_ (fun l x h => TuA.below h hbel) hbel hx
   obtain ⟨tot, htot⟩ : ∃ q, ((ts.take i).map fun t => t.bs.length).sum = q := ⟨_, rfl⟩
   have hnx := take_sum (fun t : Tu => t.bs.length) ts i x hx
   have hle := take_le (fun t : Tu => t.bs.length) ts (i + 1)
   rw [htot] at HIv hnx
   obtain ⟨who, d, bs⟩ := x
   obtain ⟨AT, nT, cT, hcx, hrT, hncT, hbT, hwho, hd⟩ := hq
   simp only at hcx hrT hncT hbT hwho hd hnx
   subst hA hcx
   have hbl : bs.length = nT := by have := hrT.1; rwa [cb_length] at this
   rw [hbl] at hnx
   have htn : tot + nT ≤ 67108864 := by have := HL.out.2; omega
   have HRG : Hd (wr.rangeAt gt (ot + i * 3) [.int .i64 who, .int .i64 d, .slice AT nT cT] ∧ Rd wr w.heap.size AT nT (cb bs) ∧ nT ≤ cT ∧ (∀ x ∈ bs, x < 256) ∧ ((ts.take (i + 1)).map fun t => t.bs.length).sum = tot + nT ∧ Below w.heap.size w wr) := ⟨hr, hrT, hncT, hbT, hnx, hbel⟩
   clear hr hrT hncT hbT hnx hle htot hbl hx hgt hcl hd hbel hwho
   go_upto_region 10 with (refine at_load (x := .tmp 36) ?_; refine wpList_load_mid rfl 68 (.tmp 36) rfl gt (ot + i * 3) rfl [.int .i64 who, .int .i64 d, .slice AT nT cT] _ HRG.out.1 Try.underlying68 rfl infoTu3 ?_)
   obtain ⟨g7, hg7⟩ : ∃ q, wr.heap.size = q := ⟨_, rfl⟩
   obtain ⟨w1, hw1⟩ : ∃ U, wr.alloc (.cells #[.int .i64 who, .int .i64 d, .slice AT nT cT] 68) = U := ⟨_, rfl⟩
   have HB1 : Hd (w1.heap[g7]? = some (.cells #[.int .i64 who, .int .i64 d, .slice AT nT cT] 68 (0, 0)) ∧ Chg [] wr w1 ∧ g7 < w1.heap.size ∧ wr.heap.size = g7) := ⟨by rw [← hw1, ← hg7]; exact heap_alloc_new _ _, by rw [← hw1]; exact (Chg.refl _ wr).alloc _, by rw [← hw1, ← hg7]; simp, hg7⟩
   rw [hw1]
   try rw [hg7]
   clear hw1
   have c0 : w1.cell? ⟨g7, 0, none⟩ = some (.int .i64 who) := by rw [cell_of_row w1 g7 0 _ _ (0, 0) HB1.out.1]; rfl
   clear hg7
   by_cases hneg : who < 0
   ·go_wp2_with fail
    go_roundw
    case rel => exact ⟨i + 1, by go_num, by omega, by rw [HRG.out.2.2.2.2.1]; exact (HIv.out.new HB1.out.2.1).le (by omega)⟩
    case measure => simp [intOf]; omega
   by_cases hbig : 3 < who
   ·go_wp2_with fail
    go_roundw
    case rel => exact ⟨i + 1, by go_num, by omega, by rw [HRG.out.2.2.2.2.1]; exact (HIv.out.new HB1.out.2.1).le (by omega)⟩
    case measure => simp [intOf]; omega
   by_cases h3 : who = 3
   ·subst h3
    obtain ⟨_, _, _, _, _, _, hT⟩ := HIv.out
    have cN : w1.cell? ⟨gR, 3, none⟩ = some (.pointer none) := (hT.new HB1.out.2.1).hN
    have HR2 : Hd (Rd w1 w1.heap.size AT nT (cb bs)) := ⟨(HRG.out.2.1.below (HB1.out.2.1.below HRG.out.2.2.2.2.2.size (by simp))).more (Nat.le_trans HRG.out.2.2.2.2.2.size HB1.out.2.1.size)⟩
    have cT1 : w1.cell? ⟨g7, 1, none⟩ = some (.int .i64 d) := by rw [cell_of_row w1 g7 1 _ _ (0, 0) HB1.out.1]; rfl
    have cT2 : w1.cell? ⟨g7, 2, none⟩ = some (.slice AT nT cT) := by rw [cell_of_row w1 g7 2 _ _ (0, 0) HB1.out.1]; rfl
    clear hT
    go_wp2_with fail
    refine (nothing_any w1 3 d AT nT cT bs HR2.out (by omega)).mono ?_
    rintro e w2 ⟨rfl, hb2⟩
    have HW2 : Hd (Chg [] w1 w2) := ⟨Chg.of_below hb2⟩
    clear hb2 cN cT1 cT2 c0
    go_wp2_with fail
    go_roundw
    case rel => exact ⟨i + 1, by go_num, by omega, by rw [HRG.out.2.2.2.2.1]; exact ((HIv.out.new HB1.out.2.1).new HW2.out).le (by omega)⟩
    case measure => simp [intOf]; omega
   obtain ⟨j, hj⟩ : ∃ j : Nat, who = (j : Int) := ⟨who.toNat, by omega⟩
   subst hj
   have hj3 : j < 3 := by omega
   have hjz : ¬ (j : Int) < 0 := by omega
   have hj4 : (j : Int) < 4 := by omega
   have hje : ((j : Int) == 3) = false := beq_eq_false_iff_ne.2 (by omega)
   have hjb : ¬ (3 : Int) < (j : Int) := by omega
   have hj4n : j < 4 := by omega
   have hj3i : (j : Int) < 3 := by omega
   clear hneg hbig h3
   obtain ⟨gg, col, XX, V, fl, st, hT⟩ := HIv.out
   have HT := Hd.mk (hT.col3 HB1.out.2.1)
   obtain ⟨CO, hCO⟩ : ∃ q, (fun k => if k < wr.heap.size then col k else 3) = q := ⟨_, rfl⟩
   rw [hCO] at HT
   have HC7 : Hd (CO g7 = 3) := ⟨by rw [← hCO, ← HB1.out.2.2.2]; simp⟩
   clear hCO
   have cj : w1.cell? ⟨gR, j, none⟩ = some (.pointer (some ⟨gg j, 0, none⟩)) := HT.out.hR j hj3
   clear hT HIv
   go_upto_region 15 with fail
   clear cj hjb hje hjz hj4 hj4n c0
   go_cut [9, 10] from 58 to 68 (fun u9 u10 wx => ∃ (gm : Nat) (V' : Array Value), u9 = .pointer (some ⟨gm, 0, none⟩) ∧ u10 = .bool true ∧ TPost w wx g7 gR gM gm j (tot + nT) #[.int .i64 (j : Int), .int .i64 d, .slice AT nT cT] V')
   case first =>
    have HX : Hd (g7 ∉ XX j ∧ gM ∉ XX j) := ⟨⟨fun hm => by have := HT.out.c j hj3 g7 hm; have := HC7.out; omega, fun hm => by have := HT.out.c j hj3 gM hm; have := HT.out.cM; omega⟩⟩
    have HCV : Hd (∀ W, Chg (XX j) w1 W → W.rangeAt gM (j * 7) (V j).toList ∧ W.rangeAt g7 0 [.int .i64 (j : Int), .int .i64 d, .slice AT nT cT] ∧ W.cell? ⟨g7, 0, none⟩ = some (.int .i64 (j : Int))) := ⟨fun W b => ⟨range_chg (HT.out.r j hj3) HT.out.lM b HX.out.2, range_of_box ((b.block g7 HB1.out.2.2.1 HX.out.1).trans HB1.out.1), by rw [cell_of_row W g7 0 _ _ (0, 0) ((b.block g7 HB1.out.2.2.1 HX.out.1).trans HB1.out.1)]; rfl⟩⟩
    have HVS : Hd ((V j).size = 7) := ⟨(HT.out.p j hj3).vals.1⟩
    have HRT : Hd (∀ W, Chg [] w1 W → Rd W w.heap.size AT nT (cb bs)) := ⟨fun W b => HRG.out.2.1.below ((HB1.out.2.1.trans b).below HRG.out.2.2.2.2.2.size (by simp))⟩
    refine wp_region_held_drew (S := fun W => Chg (XX j) w1 W) (by kernel_rfl) (Chg.refl (XX j) w1).drew (fun hHeld => ?_)
    obtain ⟨wd, hwd⟩ : ∃ U, w1.drew = U := ⟨_, rfl⟩
    have HWD : Hd (Chg [] w1 wd) := ⟨by rw [← hwd]; exact (Chg.refl [] w1).drew⟩
    rw [hwd] at hHeld ⊢
    clear hwd
    refine wpAnyH_take (i := 0) (oi := ?oi101) (v := ?v101) ?hi101 (by kernel_rfl) (by kernel_rfl) (by kernel_rfl) ?hQ101 (Or.inl ⟨?hw101, ?hy101⟩) (by assumption) ?rest101
    case hi101 => simp only [List.getElem?_toArray, List.getElem?_cons_succ, List.getElem?_cons_zero]; rfl
    case hQ101 => exact fun _ _ _ h => h
    case hw101 => rfl
    case hy101 => (intro W hW; have f1 := (HCV.out W hW).2.2; go_simp; all_goals rfl)
    simp only [Act.put, List.setIfInBounds_toArray, List.set_cons_zero, List.set_cons_succ]
    refine wpAnyH_take (i := 1) (oi := ?oi102) (v := ?v102) ?hi102 (by kernel_rfl) (by kernel_rfl) (by kernel_rfl) ?hQ102 (Or.inl ⟨?hw102, ?hy102⟩) (by assumption) ?rest102
    case hi102 => simp only [List.getElem?_toArray, List.getElem?_cons_succ, List.getElem?_cons_zero]; rfl
    case hQ102 => exact fun _ _ _ h => h
    case hw102 => rfl
    case hy102 => (intro W hW; have f1 := (HCV.out W hW).2.2; go_simp; all_goals rfl)
    simp only [Act.put, List.setIfInBounds_toArray, List.set_cons_zero, List.set_cons_succ]
    refine wpAnyH_take (i := 2) (oi := ?oi103) (v := ?v103) ?hi103 (by kernel_rfl) (by kernel_rfl) (by kernel_rfl) ?hQ103 (Or.inl ⟨?hw103, ?hy103⟩) (by assumption) ?rest103
    case hi103 => simp only [List.getElem?_toArray, List.getElem?_cons_succ, List.getElem?_cons_zero]; rfl
    case hQ103 => exact fun _ _ _ h => h
    case hw103 => rfl
    case hy103 => (intro W hW; have f1 := (HCV.out W hW).2.2; go_simp; all_goals rfl)
    simp only [Act.put, List.setIfInBounds_toArray, List.set_cons_zero, List.set_cons_succ]
    refine wpAnyH_take (i := 3) (oi := ?oi104) (v := ?v104) ?hi104 (by kernel_rfl) (by kernel_rfl) (by kernel_rfl) ?hQ104 (Or.inl ⟨?hw104, ?hy104⟩) (by assumption) ?rest104
    case hi104 => simp only [List.getElem?_toArray, List.getElem?_cons_succ, List.getElem?_cons_zero]; rfl
    case hQ104 => exact fun _ _ _ h => h
    case hw104 => rfl
    case hy104 => (intro W hW; have f1 := (HCV.out W hW).2.2; go_simp; all_goals rfl)
    simp only [Act.put, List.setIfInBounds_toArray, List.set_cons_zero, List.set_cons_succ]
    refine wpAnyH_take (i := 4) (oi := ?oi105) (v := ?v105) ?hi105 (by kernel_rfl) (by kernel_rfl) (by kernel_rfl) ?hQ105 (Or.inl ⟨?hw105, ?hy105⟩) (by assumption) ?rest105
    case hi105 => simp only [List.getElem?_toArray, List.getElem?_cons_succ, List.getElem?_cons_zero]; rfl
    case hQ105 => exact fun _ _ _ h => h
    case hw105 => rfl
    case hy105 => (intro W hW; have f1 := (HCV.out W hW).2.2; go_simp; all_goals rfl)
    simp only [Act.put, List.setIfInBounds_toArray, List.set_cons_zero, List.set_cons_succ]
    refine wpAnyH_take (i := 5) (oi := ?oiRa) (v := .agg (V j).toList.toArray) ?hiRa (by kernel_rfl) (by kernel_rfl) (by kernel_rfl) ?hQRa ?hyRa (by assumption) ?restRa
    case hiRa => simp only [List.getElem?_toArray, List.getElem?_cons_succ, List.getElem?_cons_zero]; rfl
    case hQRa => exact fun _ _ _ h => h
    case hyRa => exact yieldsIf_load_mid rfl 65 (.tmp 63) rfl gM (j * 7) rfl (V j).toList _ (fun W hW => (HCV.out W hW).1) Try.underlying65 rfl (by rw [infoRdr7, Array.length_toList, HVS.out])
    try simp only [Act.put, List.setIfInBounds_toArray, List.set_cons_zero, List.set_cons_succ]
    refine wpAnyH_take (i := 6) (oi := ?oiRb) (v := .agg [.int .i64 (j : Int), .int .i64 d, .slice AT nT cT].toArray) ?hiRb (by kernel_rfl) (by kernel_rfl) (by kernel_rfl) ?hQRb ?hyRb (by assumption) ?restRb
    case hiRb => simp only [List.getElem?_toArray, List.getElem?_cons_succ, List.getElem?_cons_zero]; rfl
    case hQRb => exact fun _ _ _ h => h
    case hyRb => exact yieldsIf_load_mid rfl 68 (.tmp 7) rfl g7 0 rfl [.int .i64 (j : Int), .int .i64 d, .slice AT nT cT] _ (fun W hW => (HCV.out W hW).2.1) Try.underlying68 rfl infoTu3
    try simp only [Act.put, List.setIfInBounds_toArray, List.set_cons_zero, List.set_cons_succ]
    refine wpAnyH_ready (rs := [7, 11]) (by kernel_rfl) (by simp) ?_
    refine AllReadyH.cons (i := 7) (o := ?oA7) ?hoA7 (fun Kq hK => ?stA7) (AllReadyH.cons (i := 11) (o := ?oA11) ?hoA11 (fun Kq hK => ?stA11) AllReadyH.nil)
    case hoA7 => simp only [List.getElem?_toArray, List.getElem?_cons_succ, List.getElem?_cons_zero]; rfl
    case hoA11 => simp only [List.getElem?_toArray, List.getElem?_cons_succ, List.getElem?_cons_zero]; rfl
    case stA7 =>
     go_simp
     (go_at_call 28; refine ((HT.out.new HWD.out).call HLW.out.1 HLW.out.2 hj3 (j : Int) d AT nT cT bs (HRT.out wd (HWD.out)) HRG.out.2.2.2.1 HRG.out.2.2.1 (by omega)).mono ?_; rintro e w' ⟨V', rfl, hs', ho', hc', hl'⟩)
     have HPM := Hd.mk (And.intro hs' (And.intro ho' (And.intro hc' hl')))
     clear hs' ho' hc' hl'
     have HSW : Hd (Chg (XX j) w1 w') := ⟨(HWD.out.mono (by simp)).trans HPM.out.2.2.1⟩
     refine hK.out _ _ HSW.out (fun _ => ?_)
     clear hK Kq
     try simp only [Act.put, List.setIfInBounds_toArray, List.set_cons_zero, List.set_cons_succ]
     refine wpAnyH_take (i := 8) (oi := ?oi201) (v := ?v201) ?hi201 (by kernel_rfl) (by kernel_rfl) (by kernel_rfl) ?hQ201 (Or.inl ⟨?hw201, ?hy201⟩) (by assumption) ?rest201
     case hi201 => simp only [List.getElem?_toArray, List.getElem?_cons_succ, List.getElem?_cons_zero]; rfl
     case hQ201 => exact fun _ _ _ h => h
     case hw201 => rfl
     case hy201 => (intro W hW; go_simp; all_goals rfl)
     simp only [Act.put, List.setIfInBounds_toArray, List.set_cons_zero, List.set_cons_succ]
     refine wpAnyH_take (i := 9) (oi := ?oi202) (v := ?v202) ?hi202 (by kernel_rfl) (by kernel_rfl) (by kernel_rfl) ?hQ202 (Or.inl ⟨?hw202, ?hy202⟩) (by assumption) ?rest202
     case hi202 => simp only [List.getElem?_toArray, List.getElem?_cons_succ, List.getElem?_cons_zero]; rfl
     case hQ202 => exact fun _ _ _ h => h
     case hw202 => rfl
     case hy202 => (intro W hW; go_simp; all_goals rfl)
     simp only [Act.put, List.setIfInBounds_toArray, List.set_cons_zero, List.set_cons_succ]
     refine wpAnyH_take (i := 10) (oi := ?oi203) (v := ?v203) ?hi203 (by kernel_rfl) (by kernel_rfl) (by kernel_rfl) ?hQ203 (Or.inl ⟨?hw203, ?hy203⟩) (by assumption) ?rest203
     case hi203 => simp only [List.getElem?_toArray, List.getElem?_cons_succ, List.getElem?_cons_zero]; rfl
     case hQ203 => exact fun _ _ _ h => h
     case hw203 => rfl
     case hy203 => (intro W hW; go_simp; all_goals rfl)
     simp only [Act.put, List.setIfInBounds_toArray, List.set_cons_zero, List.set_cons_succ]
     refine wpAnyH_ready (rs := [11]) (by kernel_rfl) (by simp) ?_
     refine AllReadyH.cons (i := 11) (o := ?oB11) ?hoB11 (fun Kq hK => ?stB11) AllReadyH.nil
     case hoB11 => simp only [List.getElem?_toArray, List.getElem?_cons_succ, List.getElem?_cons_zero]; rfl
     go_simp
     refine hK.out _ _ (HSW.out.alloc _) (fun _ => ?_)
     clear hK Kq
     try simp only [Act.put, List.setIfInBounds_toArray, List.set_cons_zero, List.set_cons_succ]
     refine wpAnyH_ready (rs := [12]) (by kernel_rfl) (by simp) ?_
     refine AllReadyH.cons (i := 12) (o := ?oB12) ?hoB12 (fun Kq hK => ?stB12) AllReadyH.nil
     case hoB12 => simp only [List.getElem?_toArray, List.getElem?_cons_succ, List.getElem?_cons_zero]; rfl
     refine step_store rfl 65 (.tmp 9) (.tmp 67) rfl w'.heap.size V' rfl rfl 65 _ (heap_alloc_new _ _) (by rw [infoRdr7, HPM.out.1]) (by rw [HPM.out.1]; rfl) HPM.out.2.1 ?_
     intro wx hsx hgx
     have HFX : Hd (Chg [] w' wx) := ⟨(((Chg.refl _ w').alloc _).trans (Chg.of_grown hgx)).fresh (by intro y hy; rw [List.mem_singleton.1 hy]; exact Nat.le_refl _)⟩
     have HTP : Hd (TPost w wx g7 gR gM w'.heap.size j (tot + nT) #[.int .i64 (j : Int), .int .i64 d, .slice AT nT cT] V') := ⟨by
      have q := HPM.out.2.2.2 [] wx HFX.out (fun y hy => absurd hy List.not_mem_nil)
      exact ⟨hsx, HPM.out.1, HPM.out.2.1, (HFX.out.block g7 (by have := HB1.out.2.2.1; have := HSW.out.size; omega) List.not_mem_nil).trans ((HSW.out.block g7 HB1.out.2.2.1 HX.out.1).trans HB1.out.1), q.1, q.2⟩⟩
     refine hK.out _ _ (HSW.out.trans (HFX.out.mono (by simp))) (fun _ => ?_)
     clear hK Kq hsx hgx
     try simp only [Act.put, List.setIfInBounds_toArray, List.set_cons_zero, List.set_cons_succ]
     refine wpAnyH_take (i := 13) (oi := ?oi301) (v := ?v301) ?hi301 (by kernel_rfl) (by kernel_rfl) (by kernel_rfl) ?hQ301 (Or.inl ⟨?hw301, ?hy301⟩) (by assumption) ?rest301
     case hi301 => simp only [List.getElem?_toArray, List.getElem?_cons_succ, List.getElem?_cons_zero]; rfl
     case hQ301 => exact fun _ _ _ h => h
     case hw301 => rfl
     case hy301 => (intro W hW; go_simp; all_goals rfl)
     simp only [Act.put, List.setIfInBounds_toArray, List.set_cons_zero, List.set_cons_succ]
     refine wpAnyH_done (by kernel_rfl) ?_ _
     (try go_wp2_with fail)
     go_meet
     case rel => exact ⟨_, V', rfl, rfl, HTP.out⟩
    case stA11 =>
     go_simp
     refine hK.out _ _ ((HWD.out.mono (by simp)).alloc _) (fun _ => ?_)
     clear hK Kq
     try simp only [Act.put, List.setIfInBounds_toArray, List.set_cons_zero, List.set_cons_succ]
     obtain ⟨gm, hgm⟩ : ∃ q, wd.heap.size = q := ⟨_, rfl⟩
     obtain ⟨wa, hwa⟩ : ∃ U, wd.alloc (.cells #[.bool false, .slice none 0 0, .int .i64 0, .slice none 0 0, .slice none 0 0, .int .i64 0, .int .i64 0] 65) = U := ⟨_, rfl⟩
     have HAL : Hd (wa.heap[gm]? = some (.cells #[.bool false, .slice none 0 0, .int .i64 0, .slice none 0 0, .slice none 0 0, .int .i64 0, .int .i64 0] 65 (0, 0)) ∧ Chg [] wd wa ∧ w1.heap.size ≤ gm ∧ gm < wa.heap.size ∧ wd.heap.size = gm) := ⟨⟨by rw [← hwa, ← hgm]; exact heap_alloc_new _ _, by rw [← hwa]; exact (Chg.refl [] wd).alloc _, by have := HWD.out.size; omega, by rw [← hwa, ← hgm]; simp, hgm⟩⟩
     try rw [hwa]
     try rw [hgm]
     clear hwa hgm
     refine wpAnyH_ready (rs := [7]) (by kernel_rfl) (by simp) ?_
     refine AllReadyH.cons (i := 7) (o := ?oC7) ?hoC7 (fun Kq hK => ?stC7) AllReadyH.nil
     case hoC7 => simp only [List.getElem?_toArray, List.getElem?_cons_succ, List.getElem?_cons_zero]; rfl
     have HT2 := Hd.mk ((HT.out.new HWD.out).col3 HAL.out.2.1)
     obtain ⟨CO2, hCO2⟩ : ∃ q, (fun k => if k < wd.heap.size then CO k else 3) = q := ⟨_, rfl⟩
     rw [hCO2] at HT2
     have HCM : Hd (CO2 gm = 3) := ⟨by rw [← hCO2, ← HAL.out.2.2.2.2]; simp⟩
     clear hCO2
     go_simp
     (go_at_call 28; refine (HT2.out.call HLW.out.1 HLW.out.2 hj3 (j : Int) d AT nT cT bs (HRT.out wa (HWD.out.trans HAL.out.2.1)) HRG.out.2.2.2.1 HRG.out.2.2.1 (by omega)).mono ?_; rintro e w' ⟨V', rfl, hs', ho', hc', hl'⟩)
     have HPM := Hd.mk (And.intro hs' (And.intro ho' (And.intro hc' hl')))
     clear hs' ho' hc' hl'
     have HSW : Hd (Chg (XX j) w1 w') := ⟨((HWD.out.trans HAL.out.2.1).mono (by simp)).trans HPM.out.2.2.1⟩
     refine hK.out _ _ HSW.out (fun _ => ?_)
     clear hK Kq
     try simp only [Act.put, List.setIfInBounds_toArray, List.set_cons_zero, List.set_cons_succ]
     refine wpAnyH_take (i := 8) (oi := ?oi401) (v := ?v401) ?hi401 (by kernel_rfl) (by kernel_rfl) (by kernel_rfl) ?hQ401 (Or.inl ⟨?hw401, ?hy401⟩) (by assumption) ?rest401
     case hi401 => simp only [List.getElem?_toArray, List.getElem?_cons_succ, List.getElem?_cons_zero]; rfl
     case hQ401 => exact fun _ _ _ h => h
     case hw401 => rfl
     case hy401 => (intro W hW; go_simp; all_goals rfl)
     simp only [Act.put, List.setIfInBounds_toArray, List.set_cons_zero, List.set_cons_succ]
     refine wpAnyH_take (i := 9) (oi := ?oi402) (v := ?v402) ?hi402 (by kernel_rfl) (by kernel_rfl) (by kernel_rfl) ?hQ402 (Or.inl ⟨?hw402, ?hy402⟩) (by assumption) ?rest402
     case hi402 => simp only [List.getElem?_toArray, List.getElem?_cons_succ, List.getElem?_cons_zero]; rfl
     case hQ402 => exact fun _ _ _ h => h
     case hw402 => rfl
     case hy402 => (intro W hW; go_simp; all_goals rfl)
     simp only [Act.put, List.setIfInBounds_toArray, List.set_cons_zero, List.set_cons_succ]
     refine wpAnyH_take (i := 10) (oi := ?oi403) (v := ?v403) ?hi403 (by kernel_rfl) (by kernel_rfl) (by kernel_rfl) ?hQ403 (Or.inl ⟨?hw403, ?hy403⟩) (by assumption) ?rest403
     case hi403 => simp only [List.getElem?_toArray, List.getElem?_cons_succ, List.getElem?_cons_zero]; rfl
     case hQ403 => exact fun _ _ _ h => h
     case hw403 => rfl
     case hy403 => (intro W hW; go_simp; all_goals rfl)
     simp only [Act.put, List.setIfInBounds_toArray, List.set_cons_zero, List.set_cons_succ]
     refine wpAnyH_ready (rs := [12]) (by kernel_rfl) (by simp) ?_
     refine AllReadyH.cons (i := 12) (o := ?oC12) ?hoC12 (fun Kq hK => ?stC12) AllReadyH.nil
     case hoC12 => simp only [List.getElem?_toArray, List.getElem?_cons_succ, List.getElem?_cons_zero]; rfl
     have hgx0 : gm ∉ XX j := fun hm => by have := HT2.out.c j hj3 gm hm; have := HCM.out; omega
     refine step_store rfl 65 (.tmp 9) (.tmp 67) rfl gm V' rfl rfl 65 _ ((HPM.out.2.2.1.block gm HAL.out.2.2.2.1 hgx0).trans HAL.out.1) (by rw [infoRdr7, HPM.out.1]) (by rw [HPM.out.1]; rfl) HPM.out.2.1 ?_
     intro wx hsx hgx
     have HTP : Hd (TPost w wx g7 gR gM gm j (tot + nT) #[.int .i64 (j : Int), .int .i64 d, .slice AT nT cT] V') := ⟨by
      have k1 := HB1.out.2.2.1; have k2 := HAL.out; have k3 := HT2.out; have k4 := HT.out
      have k5 := k4.lR; have k6 := k4.lM; have k7 := k4.bM
      have q := HPM.out.2.2.2 [gm] wx (Chg.of_grown hgx) (fun y hy => by rw [List.mem_singleton.1 hy]; exact ⟨HCM.out, k2.2.2.2.1, by omega, by omega, by omega⟩)
      exact ⟨hsx, HPM.out.1, HPM.out.2.1, ((Chg.of_grown hgx).block g7 (by have := HSW.out.size; omega) (by simp; omega)).trans ((HSW.out.block g7 HB1.out.2.2.1 HX.out.1).trans HB1.out.1), q.1, q.2⟩⟩
     refine hK.out _ _ (HSW.out.newer (Chg.of_grown hgx) fun y hy => .inr (by rw [List.mem_singleton.1 hy]; exact HAL.out.2.2.1)) (fun _ => ?_)
     clear hK Kq hsx hgx
     try simp only [Act.put, List.setIfInBounds_toArray, List.set_cons_zero, List.set_cons_succ]
     refine wpAnyH_take (i := 13) (oi := ?oi501) (v := ?v501) ?hi501 (by kernel_rfl) (by kernel_rfl) (by kernel_rfl) ?hQ501 (Or.inl ⟨?hw501, ?hy501⟩) (by assumption) ?rest501
     case hi501 => simp only [List.getElem?_toArray, List.getElem?_cons_succ, List.getElem?_cons_zero]; rfl
     case hQ501 => exact fun _ _ _ h => h
     case hw501 => rfl
     case hy501 => (intro W hW; go_simp; all_goals rfl)
     simp only [Act.put, List.setIfInBounds_toArray, List.set_cons_zero, List.set_cons_succ]
     refine wpAnyH_done (by kernel_rfl) ?_ _
     (try go_wp2_with fail)
     go_meet
     case rel => exact ⟨_, V', rfl, rfl, HTP.out⟩
   case rest =>
    obtain ⟨gm, V', h9, h10, hP⟩ := hcut
    subst h9 h10
    have HP := Hd.mk hP
    clear hP
    have c0 : wc.cell? ⟨g7, 0, none⟩ = some (.int .i64 (j : Int)) := by rw [cell_of_row wc g7 0 _ _ (0, 0) HP.out.t]; rfl
    go_wp2_with (first | (refine at_load (x := .tmp 9) ?_; refine wpList_load_row rfl 65 (.tmp 9) rfl gm rfl 65 V' (0, 0) _ HP.out.b Try.underlying65 rfl (by rw [infoRdr7, HP.out.s]) ?_) | (refine at_store (x := .tmp 75) ?_; refine wpList_store_mid rfl 65 (.tmp 75) (.tmp 74) rfl gM (j * 7) V' rfl rfl (by rw [HP.out.s]; exact HP.out.th) (by rw [infoRdr7, HP.out.s]) HP.out.o ?_))
    go_roundw
    case rel => exact ⟨i + 1, by go_num, by omega, by rw [HRG.out.2.2.2.2.1]; exact HP.out.inv⟩
    case measure => simp [intOf]; omega
  ·skip
   have hin : i = n := by omega
   have hii : ¬ (i : Int) < (n : Int) := by omega
   go_wp2_with fail
   go_ret
   obtain ⟨_, _, _, _, _, _, hT⟩ := HIv.out
   exact ⟨rfl, hT.ch.below (Nat.le_refl _) (by simp)⟩
end Go.Proofs.Ytbcmjjcbjojakaa
