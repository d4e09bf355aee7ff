/- Contract of the laws' textsApart. (tools/aparttgen.py prints it.) -/
import Derived.Test.YtbcmjjcbjojakaaPk14
import Derived.Test.YtbcmjjcbjojakaaPk4
import Derived.Deep.RegionHeld
import Derived.Deep.MidRow
import Derived.Deep.CutRange
import Derived.Deep.Cut
namespace Go.Proofs.Ytbcmjjcbjojakaa
open Go.RowKit
set_option linter.unusedVariables false
set_option linter.unusedSimpArgs false
theorem infoSN : (Try.prog.info? 9).map (fun i => (i.zero, i.size, i.bytes)) = some (some (.string ⟨#[]⟩), 1, 16) := by kernel_rfl
theorem elS0 : El Try.prog 37 9 16 (.string ⟨#[]⟩) := ⟨Try.underlying37, info_parts infoSN, rfl⟩
theorem elS1 : ElN Try.prog 37 9 1 16 := elS0.toN
theorem infoSS : (Try.prog.info? 37).map (fun i => (i.zero, i.size, i.bytes)) = some (some (.slice none 0 0), 1, 24) := by kernel_rfl
theorem elSS : El Try.prog 91 37 24 (.slice none 0 0) := ⟨Try.underlying91, info_parts infoSS, rfl⟩
/-- A text of one byte. -/
def one1 (b : Nat) : ByteArray := bstr [b]
def fbT (n : Nat → Nat) (i t : Nat) : Value := if t < n i then .string (one1 (97 + i)) else .string (one1 (65 + i))
theorem conv_one (w : World) (v : Nat) : (convert 26 9 (.slice (some ⟨w.heap.size, 0, none⟩) 1 1)).run Try.prog (w.alloc (.cells #[.int .u8 (v : Int)] 5)) = .ok (.string (one1 v)) (w.alloc (.cells #[.int .u8 (v : Int)] 5)) := by
 have hr : Rd (w.alloc (.cells #[.int .u8 (v : Int)] 5)) (w.heap.size + 1) (some ⟨w.heap.size, 0, none⟩) 1 (cb [v]) := ⟨rfl, fun _ => ⟨_, 0, rfl, by omega, fun i hi => by
  have : i = 0 := by omega
  subst this
  rw [cell_of_row _ w.heap.size (0 + 0) _ _ (0, 0) (heap_alloc_new _ _)]; rfl⟩⟩
 rw [cb_ints] at hr
 exact run_conv_str _ _ 5 Try.underlying26 Try.underlying5 Try.underlying9 1 hr
set_option maxRecDepth 20000 in
set_option maxHeartbeats 16000000 in
theorem textsApart_any (w : World) (base L c : Nat) (A : Option Addr) (us : List Value) (n : Nat → Nat) (hL : us.length = L) (H : Fil w base 37 9 (.slice A L c) us n (fbT n) (fun _ _ => False)) (hl : L ≤ 100) (hn : ∀ i, n i ≤ 8796093021000) (hbase : base ≤ w.heap.size) :
  Calls Try.prog 39 #[.slice A L c] w fun e w' => e = .returned (.bool true) ∧ Chg (ablk us) w w' := by
 have HH : Hd (Fil w base 37 9 (.slice A L c) us n (fbT n) (fun _ _ => False) ∧ us.length = L ∧ base ≤ w.heap.size ∧ (∀ i, n i ≤ 8796093021000)) := ⟨H, hL, hbase, hn⟩
 clear H hL hbase hn
 go_enter Try.func39, Try.ntmps39
 go_wp2_with fail
 go_loopw [3] (fun u3 wr => ∃ i : Nat, i ≤ L ∧ u3 = .int .i64 (i : Int) ∧ Fil wr base 37 9 (.slice A L c) us n (fbT n) (fun k _ => k < i) ∧ Chg (ablk us) w wr) (fun u3 _ => L - (intOf u3).toNat)
 case atStart => exact ⟨0, by omega, rfl, HH.out.1.imp fun k s _ h => absurd h (by omega), Chg.refl _ _⟩
 case round =>
  obtain ⟨i, hi, rfl, hF, hC⟩ := hrel
  have H1 := Hd.mk (And.intro hF hC)
  clear hF hC
  by_cases hlt : i < L
  ·have hii : (i : Int) < (L : Int) := by omega
   obtain ⟨u, hu⟩ : ∃ u, us[i]? = some u := ⟨_, List.getElem?_eq_getElem (by rw [HH.out.2.1]; exact hlt)⟩
   have ho := H1.out.1.out
   rw [HH.out.2.1] at ho
   obtain ⟨gv, cv, e, _, hgv⟩ := own_pos ho (by omega)
   cases e
   obtain ⟨xs, hr, hd⟩ := H1.out.1.row i u hu
   obtain ⟨Ai, ci, hui, _, _⟩ := own_form hr
   subst hui
   obtain ⟨m, hm⟩ : ∃ m, n i = m := ⟨_, rfl⟩
   have hm2 := HH.out.2.2.2 i
   have HM := Hd.mk hm
   rw [hm] at hm2 hr
   have HU : Hd (us[i]? = some (.slice Ai m ci) ∧ True) := ⟨by rw [← hm]; exact hu, trivial⟩
   obtain ⟨wo, hwo⟩ : ∃ wo : World, wo = wr := ⟨_, rfl⟩
   subst hwo
   clear hr hd hu ho hm
   go_wp2_with fail
   go_loopw [4] (fun u4 wr => ∃ j : Nat, j ≤ m ∧ u4 = .int .i64 (j : Int) ∧ Fil wr base 37 9 (.slice (some ⟨gv, 0, none⟩) L c) us n (fbT n) (fun k s => k < i ∨ (k = i ∧ s < j)) ∧ Chg (ablk us) w wr) (fun u4 _ => m - (intOf u4).toNat)
   case atStart => exact ⟨0, by omega, rfl, H1.out.1.imp fun k s _ h => Or.elim h id (fun h => absurd h.2 (by omega)), H1.out.2⟩
   case round =>
    obtain ⟨j, hj, rfl, hF, hC⟩ := hrel
    have H2 := Hd.mk (And.intro hF hC)
    have ho := hF.out
    rw [HH.out.2.1] at ho
    obtain ⟨xs2, hr, hd⟩ := hF.row i _ HU.out.1
    have hcv := (own_at ho (j := i) (u := .slice Ai m ci) HU.out.1).1
    clear hF hC ho hd
    by_cases hjl : j < m
    ·have hji : (j : Int) < (m : Int) := by omega
     rw [HM.out] at hr
     obtain ⟨g, c2, e, _, hg⟩ := own_pos hr (by omega)
     cases e
     obtain ⟨old, hold⟩ : ∃ old, xs2[j]? = some old := ⟨_, List.getElem?_eq_getElem (by have := hr.1; omega)⟩
     obtain ⟨hc1, hc2⟩ := own_at hr hold
     have HR := Hd.mk (And.intro hr hg)
     clear hr hold hg
     have hb1 : IntKind.i64.wrap (97 + (i : Int)) = ((97 + i : Nat) : Int) := by rw [IntKind.wrap_i64]; omega
     have hb2 : IntKind.u8.wrap ((97 + i : Nat) : Int) = ((97 + i : Nat) : Int) := by rw [IntKind.wrap_u8]; omega
     have HB := Hd.mk (And.intro hb1 hb2)
     obtain ⟨b97, hb97⟩ : ∃ q, 97 + i = q := ⟨_, rfl⟩
     rw [hb97] at HB
     have H97 := Hd.mk hb97
     have hgv2 : g ≠ gv := fun e => by
      have h1 := H2.out.1.off i _ HU.out.1
      exact h1 gv rfl (by rw [← e]; rfl)
     have hgl : g < wr.heap.size := by have := World.block_lt_of_cell? wr _ hc1; exact this
     have hgvl : gv < wr.heap.size := by have := World.block_lt_of_cell? wr _ hcv; exact this
     have HCV : Hd (∀ W, Chg [g] wr W → W.cell? ⟨gv, i, none⟩ = some (.slice (some ⟨g, 0, none⟩) m ci)) := ⟨fun W b => (b.cell (p := ⟨gv, i, none⟩) hgvl (by simp; exact fun e => hgv2 e.symm)).trans hcv⟩
     have HC1 : Hd (wr.cell? ⟨g, j, none⟩ = some old ∧ wr.frozen? ⟨g, j, none⟩ = false) := ⟨hc1, hc2⟩
     clear hb1 hb2 hc1 hc2 hb97
     go_upto_region 7 with fail
     clear hcv
     refine wp_region_held_drew (S := fun W => Chg [g] wr W) (by kernel_rfl) (Chg.refl _ wr).drew (fun hHeld => ?_)
     obtain ⟨wd, hwd⟩ : ∃ U, wr.drew = U := ⟨_, rfl⟩
     have HWD : Hd (Chg [g] wr wd ∧ Below wr.heap.size wr wd ∧ wd.cell? ⟨g, j, none⟩ = some old ∧ wd.frozen? ⟨g, j, none⟩ = false) := ⟨by rw [← hwd]; exact ⟨(Chg.refl _ wr).drew, (Below.refl _ wr).drew, HC1.out.1, HC1.out.2⟩⟩
     rw [hwd] at hHeld ⊢
     clear hwd
     refine wpAnyH_take (i := 0) (oi := ?oi101) (v := ?v101) ?hi101 (by kernel_rfl) (by kernel_rfl) (by kernel_rfl) ?hQ101 (Or.inl ⟨?hw101, ?hy101⟩) (by assumption) ?rest101
     case hi101 => simp only [List.getElem?_toArray, List.getElem?_cons_succ, List.getElem?_cons_zero]; rfl
     case hQ101 => exact fun _ _ _ h => h
     case hw101 => rfl
     case hy101 => (intro W hW; have f1 := HCV.out W hW; go_simp; all_goals rfl)
     simp only [Act.put, List.setIfInBounds_toArray, List.set_cons_zero, List.set_cons_succ]
     refine wpAnyH_take (i := 1) (oi := ?oi102) (v := ?v102) ?hi102 (by kernel_rfl) (by kernel_rfl) (by kernel_rfl) ?hQ102 (Or.inl ⟨?hw102, ?hy102⟩) (by assumption) ?rest102
     case hi102 => simp only [List.getElem?_toArray, List.getElem?_cons_succ, List.getElem?_cons_zero]; rfl
     case hQ102 => exact fun _ _ _ h => h
     case hw102 => rfl
     case hy102 => (intro W hW; have f1 := HCV.out W hW; go_simp; all_goals rfl)
     simp only [Act.put, List.setIfInBounds_toArray, List.set_cons_zero, List.set_cons_succ]
     refine wpAnyH_take (i := 2) (oi := ?oi103) (v := ?v103) ?hi103 (by kernel_rfl) (by kernel_rfl) (by kernel_rfl) ?hQ103 (Or.inl ⟨?hw103, ?hy103⟩) (by assumption) ?rest103
     case hi103 => simp only [List.getElem?_toArray, List.getElem?_cons_succ, List.getElem?_cons_zero]; rfl
     case hQ103 => exact fun _ _ _ h => h
     case hw103 => rfl
     case hy103 => (intro W hW; have f1 := HCV.out W hW; go_simp; all_goals rfl)
     simp only [Act.put, List.setIfInBounds_toArray, List.set_cons_zero, List.set_cons_succ]
     refine wpAnyH_take (i := 3) (oi := ?oi104) (v := ?v104) ?hi104 (by kernel_rfl) (by kernel_rfl) (by kernel_rfl) ?hQ104 (Or.inl ⟨?hw104, ?hy104⟩) (by assumption) ?rest104
     case hi104 => simp only [List.getElem?_toArray, List.getElem?_cons_succ, List.getElem?_cons_zero]; rfl
     case hQ104 => exact fun _ _ _ h => h
     case hw104 => rfl
     case hy104 => (intro W hW; have f1 := HCV.out W hW; go_simp; all_goals rfl)
     simp only [Act.put, List.setIfInBounds_toArray, List.set_cons_zero, List.set_cons_succ]
     refine wpAnyH_take (i := 4) (oi := ?oi105) (v := ?v105) ?hi105 (by kernel_rfl) (by kernel_rfl) (by kernel_rfl) ?hQ105 (Or.inl ⟨?hw105, ?hy105⟩) (by assumption) ?rest105
     case hi105 => simp only [List.getElem?_toArray, List.getElem?_cons_succ, List.getElem?_cons_zero]; rfl
     case hQ105 => exact fun _ _ _ h => h
     case hw105 => rfl
     case hy105 => (intro W hW; have f1 := HB.out.1; have f2 := HB.out.2; go_simp; all_goals rfl)
     simp only [Act.put, List.setIfInBounds_toArray, List.set_cons_zero, List.set_cons_succ]
     refine wpAnyH_take (i := 5) (oi := ?oi106) (v := ?v106) ?hi106 (by kernel_rfl) (by kernel_rfl) (by kernel_rfl) ?hQ106 (Or.inl ⟨?hw106, ?hy106⟩) (by assumption) ?rest106
     case hi106 => simp only [List.getElem?_toArray, List.getElem?_cons_succ, List.getElem?_cons_zero]; rfl
     case hQ106 => exact fun _ _ _ h => h
     case hw106 => rfl
     case hy106 => (intro W hW; have f1 := HB.out.1; have f2 := HB.out.2; go_simp; all_goals rfl)
     simp only [Act.put, List.setIfInBounds_toArray, List.set_cons_zero, List.set_cons_succ]
     refine wpAnyH_take (i := 6) (oi := ?oi107) (v := ?v107) ?hi107 (by kernel_rfl) (by kernel_rfl) (by kernel_rfl) ?hQ107 (Or.inl ⟨?hw107, ?hy107⟩) (by assumption) ?rest107
     case hi107 => simp only [List.getElem?_toArray, List.getElem?_cons_succ, List.getElem?_cons_zero]; rfl
     case hQ107 => exact fun _ _ _ h => h
     case hw107 => rfl
     case hy107 => (intro W hW; have f1 := HB.out.1; have f2 := HB.out.2; go_simp; all_goals rfl)
     simp only [Act.put, List.setIfInBounds_toArray, List.set_cons_zero, List.set_cons_succ]
     refine wpAnyH_take (i := 7) (oi := ?oi108) (v := ?v108) ?hi108 (by kernel_rfl) (by kernel_rfl) (by kernel_rfl) ?hQ108 (Or.inl ⟨?hw108, ?hy108⟩) (by assumption) ?rest108
     case hi108 => simp only [List.getElem?_toArray, List.getElem?_cons_succ, List.getElem?_cons_zero]; rfl
     case hQ108 => exact fun _ _ _ h => h
     case hw108 => rfl
     case hy108 => (intro W hW; have f1 := HB.out.1; have f2 := HB.out.2; go_simp; all_goals rfl)
     simp only [Act.put, List.setIfInBounds_toArray, List.set_cons_zero, List.set_cons_succ]
     refine wpAnyH_ready (rs := [8]) (by kernel_rfl) (by simp) ?_
     refine AllReadyH.cons (i := 8) (o := ?oR3) ?hoR3 (fun Kq hK => ?stR3) AllReadyH.nil
     case hoR3 => simp only [List.getElem?_toArray, List.getElem?_cons_succ, List.getElem?_cons_zero]; rfl
     go_simp
     obtain ⟨wa, hwa⟩ : ∃ U, wd.alloc (.cells #[.int .u8 (b97 : Int)] 5) = U := ⟨_, rfl⟩
     have f15 := conv_one wd b97
     obtain ⟨gn, hgn⟩ : ∃ q, wd.heap.size = q := ⟨_, rfl⟩
     rw [hwa, hgn] at f15
     have HWA : Hd (Chg [g] wr wa ∧ Below wr.heap.size wr wa ∧ wa.cell? ⟨g, j, none⟩ = some old ∧ wa.frozen? ⟨g, j, none⟩ = false) := ⟨by
      have hgd : g < wd.heap.size := by have := HWD.out.1.size; omega
      rw [← hwa]
      refine ⟨HWD.out.1.alloc _, HWD.out.2.1.alloc HWD.out.1.size _, ?_, ?_⟩
      ·rw [World.cell?_alloc_lt _ _ _ hgd]; exact HWD.out.2.2.1
      ·rw [World.frozen?_alloc_past _ _ _ hgd]; exact HWD.out.2.2.2⟩
     try rw [hwa]
     try rw [hgn]
     refine hK.out _ _ (HWA.out.1) (fun _ => ?_)
     clear hK Kq hwa hgn
     try simp only [Act.put, List.setIfInBounds_toArray, List.set_cons_zero, List.set_cons_succ]
     refine wpAnyH_ready (rs := [9]) (by kernel_rfl) (by simp) ?_
     refine AllReadyH.cons (i := 9) (o := ?oR2) ?hoR2 (fun Kq hK => ?stR2) AllReadyH.nil
     case hoR2 => simp only [List.getElem?_toArray, List.getElem?_cons_succ, List.getElem?_cons_zero]; rfl
     go_simp
     refine hK.out _ _ (HWA.out.1) (fun _ => ?_)
     clear hK Kq f15
     try simp only [Act.put, List.setIfInBounds_toArray, List.set_cons_zero, List.set_cons_succ]
     refine wpAnyH_take (i := 10) (oi := ?oi201) (v := ?v201) ?hi201 (by kernel_rfl) (by kernel_rfl) (by kernel_rfl) ?hQ201 (Or.inl ⟨?hw201, ?hy201⟩) (by assumption) ?rest201
     case hi201 => simp only [List.getElem?_toArray, List.getElem?_cons_succ, List.getElem?_cons_zero]; rfl
     case hQ201 => exact fun _ _ _ h => h
     case hw201 => rfl
     case hy201 => (intro W hW; go_simp; all_goals rfl)
     simp only [Act.put, List.setIfInBounds_toArray, List.set_cons_zero, List.set_cons_succ]
     have c11 := HWA.out.2.2.1
     have z11 := HWA.out.2.2.2
     refine wpAnyH_ready (rs := [11]) (by kernel_rfl) (by simp) ?_
     refine AllReadyH.cons (i := 11) (o := ?oR1) ?hoR1 (fun Kq hK => ?stR1) AllReadyH.nil
     case hoR1 => simp only [List.getElem?_toArray, List.getElem?_cons_succ, List.getElem?_cons_zero]; rfl
     go_simp
     have hC7 : Chg [g] wr (wa.setCell ⟨g, j, none⟩ (.string (one1 b97))) := HWA.out.1.setCell (by simp) _
     refine hK.out _ _ (hC7) (fun _ => ?_)
     clear hK Kq c11 z11 hC7
     try simp only [Act.put, List.setIfInBounds_toArray, List.set_cons_zero, List.set_cons_succ]
     refine wpAnyH_done (by kernel_rfl) ?_ _
     clear hHeld
     (try go_wp2_with fail)
     go_roundw
     case rel =>
      refine ⟨j + 1, by omega, by go_num, ?_, (H2.out.2.trans ((Chg.of_below HWA.out.2.1).mono (fun q hq _ => absurd hq List.not_mem_nil))).setCell (show g ∈ ablk us from blk_mem HU.out.1 rfl) _⟩
      have h := (H2.out.1.below (B := 0) HWA.out.2.1).set (i := i) (t := j) (g := g) (c := ci) (D' := fun k s => k < i ∨ (k = i ∧ s < j + 1)) (by rw [HM.out]; exact HU.out.1) (by rw [HM.out]; exact hjl) (fun k s h => by omega)
      rw [show fbT n i j = .string (one1 b97) by unfold fbT; rw [if_pos (by rw [HM.out]; exact hjl), H97.out]] at h
      exact h
     case measure => simp [intOf]; omega
    ·have hjm : j = m := by omega
     subst hjm
     go_wp2_with fail
     go_roundw
     case rel => exact ⟨i + 1, by omega, by go_num, H2.out.1.imp fun k s hs h => by
      rcases Nat.lt_or_ge k i with h1 | h1
      ·exact .inl h1
      ·have : k = i := by omega
       subst this
       exact .inr ⟨rfl, by rw [← HM.out]; exact hs⟩, H2.out.2⟩
     case measure => simp [intOf]; omega
  ·have hiL : i = L := by omega
   subst hiL
   have HG : Hd (Gro w wr base 9 (O2 (.slice A i c) 37 us (.slice none 0 0) 37 []) us n (fbT n) 0 []) := ⟨Gro.start (by rw [HH.out.2.1]; exact H1.out.1) H1.out.2⟩
   clear H1
   obtain ⟨L, hL⟩ : ∃ L, L = i := ⟨_, rfl⟩
   subst hL
   go_wp2_with fail
   obtain ⟨wz, hwz⟩ : ∃ wz : World, wz = wr := ⟨_, rfl⟩
   subst hwz
   go_loopw [5, 6] (fun u5 u6 wr => ∃ (i : Nat) (ls : List Value) (S : List (Value × Nat × Nat)), i ≤ L ∧ u6 = .int .i64 (i : Int) ∧ ls.length = i ∧ Gro w wr base 9 (O2 (.slice A L c) 37 us u5 37 ls) us n (fbT n) i S ∧ (∀ (q : Nat) (z : Value), ls[q]? = some z → (z, q, n q + 64) ∈ S) ∧ (∀ (k : Nat) (z : Value), k < i → us[k]? = some z → (z, k, n k) ∈ S)) (fun _ u6 _ => L - (intOf u6).toNat)
   case atStart => exact ⟨0, [], [], by omega, rfl, rfl, HG.out, fun q z h => by simp at h, fun k z h => absurd h (by omega)⟩
   case round =>
    obtain ⟨i, ls, S, hi, rfl, hll, hG, hs1, hs2⟩ := hrel
    have H1 := Hd.mk (And.intro hG (And.intro hll (And.intro hs1 hs2)))
    clear hG hll hs1 hs2
    by_cases hlt : i < L
    ·have hii : (i : Int) < (L : Int) := by omega
     obtain ⟨u, hu⟩ : ∃ u, us[i]? = some u := ⟨_, List.getElem?_eq_getElem (by rw [HH.out.2.1]; exact hlt)⟩
     have HC := Hd.mk (H1.out.1.enter hu)
     have ho : wr.ownsRow base 37 1 (.slice A L c) us.length us := H1.out.1.out 0
     rw [HH.out.2.1] at ho
     obtain ⟨gv, cv, e, _, hgv⟩ := own_pos ho (by omega)
     cases e
     have hcv := (own_at ho hu).1
     obtain ⟨Ai, ci, hui, _, _⟩ := own_form (H1.out.1.rest i u (Nat.le_refl _) hu)
     obtain ⟨m, hm⟩ : ∃ m, n i = m := ⟨_, rfl⟩
     have hm2 := HH.out.2.2.2 i
     have HM := Hd.mk hm
     rw [hm] at hm2 hui HC
     have HU := Hd.mk (And.intro hu hui)
     rw [hui] at hcv
     obtain ⟨wo, hwo⟩ : ∃ wo : World, wo = wr := ⟨_, rfl⟩
     subst hwo
     clear hu hui ho hm
     go_wp2_with fail
     go_loopw [7, 8] (fun u7 u8 wr => ∃ k : Nat, k ≤ 64 ∧ u8 = .int .i64 (k : Int) ∧ Cur w wr base 9 (O2 (.slice (some ⟨gv, 0, none⟩) L c) 37 us u5 37 ls) us n (fbT n) i S u7 (m + k) [(u, i, m)]) (fun _ u8 _ => 64 - (intOf u8).toNat)
     case atStart => exact ⟨0, by omega, rfl, by rw [← HU.out.2]; exact HC.out⟩
     case round =>
      obtain ⟨k, hk, rfl, hc⟩ := hrel
      have H2 := Hd.mk hc
      have hws : base ≤ wr.heap.size := Nat.le_trans HH.out.2.2.1 hc.gro.chg.size
      clear hc
      by_cases hkl : k < 64
      ·have hb1 : IntKind.i64.wrap (65 + (i : Int)) = ((65 + i : Nat) : Int) := by rw [IntKind.wrap_i64]; omega
       have hb2 : IntKind.u8.wrap ((65 + i : Nat) : Int) = ((65 + i : Nat) : Int) := by rw [IntKind.wrap_u8]; omega
       obtain ⟨b65, hb65⟩ : ∃ q, 65 + i = q := ⟨_, rfl⟩
       rw [hb65] at hb1 hb2
       have H65 := Hd.mk hb65
       have f15 := conv_one wr b65
       have H2b := Hd.mk (H2.out.below ((Below.refl wr.heap.size wr).alloc (Nat.le_refl _) (.cells #[.int .u8 (b65 : Int)] 5)))
       have hws2 : base ≤ (wr.alloc (.cells #[.int .u8 (b65 : Int)] 5)).heap.size := by simp; omega
       clear hb65
       have h63 : Hd (m + k + 1 ≤ maxLen) := ⟨by unfold maxLen; omega⟩
       have hby : Hd ((m + k + 1) * 16 ≤ 140737488355328) := ⟨by omega⟩
       go_wp2_with (at_builtin; refine pushSN_at0 elS1 rfl (.tmp 52) (.tmp 58) rfl base u7 (m + k) (cellsF (fbT n i) (m + k)) [.string (one1 b65)] rfl (wr.heap.size + 1) (by simp) rfl rfl (by simp [Value.oneCell']) H2b.out.own h63.out hby.out hws2 ?_; intro v2 w2 hO2; have H3 := Hd.mk hO2; clear hO2)
       go_roundw
       case rel =>
        refine ⟨k + 1, by omega, by go_num, ?_⟩
        exact H2b.out.app1 (by unfold fbT; rw [if_neg (by rw [HM.out]; omega), H65.out]) H3.out
       case measure => simp [intOf]; omega
      ·have hk64 : k = 64 := by omega
       subst hk64
       have h63 : Hd (i + 1 ≤ maxLen) := ⟨by unfold maxLen; omega⟩
       have hby : Hd ((i + 1) * 24 ≤ 140737488355328) := ⟨by omega⟩
       obtain ⟨A7, c7, h7, _, _⟩ := own_form H2.out.own
       subst h7
       have ho5 : Hd (wr.ownsRow base 37 1 u5 i ls) := ⟨by have := H2.out.gro.out 1; rw [← H1.out.2.1]; exact this⟩
       go_wp2_with (refine at_buildSlice ?_; refine wpList_push elSS rfl rfl (.tmp 60) (.tmp 61) 62 rfl rfl rfl base u5 i ls (.slice A7 (m + 64) c7) rfl rfl rfl rfl ho5.out h63.out hby.out hws ?_; intro v2 w2 hO2; have H3 := Hd.mk hO2; clear hO2)
       go_roundw
       case rel =>
        refine ⟨i + 1, ls ++ [.slice A7 (m + 64) c7], _, by omega, by go_num, by rw [List.length_append, H1.out.2.1]; rfl, (H2.out.push (q := 1) (O' := O2 (.slice (some ⟨gv, 0, none⟩) L c) 37 us v2 37 (ls ++ [.slice A7 (m + 64) c7])) (y := .slice A7 (m + 64) c7) (M' := [(.slice A7 (m + 64) c7, i, m + 64), (u, i, m)]) (by decide) rfl (by rw [H1.out.2.1]; exact H3.out) rfl O2_other (fun x hx => by
         rcases List.mem_cons.1 hx with h | h
         ·exact .inr h
         ·exact .inl h)).leave, fun q z hz => ?_, fun k z hk hz => ?_⟩
        ·rcases Nat.lt_or_ge q ls.length with h | h
         ·rw [List.getElem?_append_left h] at hz
          exact List.mem_append_right _ (H1.out.2.2.1 q z hz)
         ·have hq := (List.getElem?_eq_some_iff.1 hz).1
          have hq2 : q = ls.length := by simp at hq; omega
          subst hq2
          rw [List.getElem?_append_right (Nat.le_refl _)] at hz
          simp at hz
          subst hz
          rw [H1.out.2.1, HM.out]
          exact List.mem_append_left _ (by simp)
        ·rcases Nat.lt_or_ge k i with h | h
         ·exact List.mem_append_right _ (H1.out.2.2.2 k z h hz)
         ·have hq2 : k = i := by omega
          subst hq2
          have : u = z := by have := HU.out.1; rw [hz] at this; injection this with this; exact this.symm
          subst this
          rw [HM.out]
          exact List.mem_append_left _ (by simp)
       case measure => simp [intOf]; omega
    ·have hiL : i = L := by omega
     subst hiL
     have H4 : Hd ((∀ (q : Nat) (z : Value), ls[q]? = some z → SnapOf wr (fbT n) (z, q, n q + 64)) ∧ (∀ (k : Nat) (z : Value), us[k]? = some z → SnapOf wr (fbT n) (z, k, n k)) ∧ Chg (ablk us) w wr ∧ wr.ownsRow base 37 1 (.slice A i c) i us ∧ wr.ownsRow base 37 1 u5 i ls) :=
      ⟨fun q z h => (H1.out.1.snap _ (H1.out.2.2.1 q z h)).1, fun k z h => (H1.out.1.snap _ (H1.out.2.2.2 k z (by rw [← HH.out.2.1]; exact (List.getElem?_eq_some_iff.1 h).1) h)).1, H1.out.1.chg, by have := H1.out.1.out 0; rw [← HH.out.2.1] at this ⊢; exact this, by have := H1.out.1.out 1; rw [← H1.out.2.1]; exact this⟩
     have HL : Hd (us.length = i ∧ ls.length = i) := ⟨HH.out.2.1, H1.out.2.1⟩
     clear H1
     obtain ⟨L, hL⟩ : ∃ L, L = i := ⟨_, rfl⟩
     subst hL
     obtain ⟨wy, hwy⟩ : ∃ wy : World, wy = wr := ⟨_, rfl⟩
     subst hwy
     go_wp2_with fail
     go_loopw [9] (fun u9 wr => ∃ (i : Nat), i ≤ L ∧ u9 = .int .i64 (i : Int) ∧ Chg [] wy wr ∧ Chg (ablk us) w wr) (fun u9 _ => L - (intOf u9).toNat)
     case atStart => exact ⟨0, by omega, rfl, Chg.refl _ _, H4.out.2.2.1⟩
     case round =>
      obtain ⟨i, hi, rfl, hh, hC⟩ := hrel
      have H5 := Hd.mk (And.intro hh hC)
      have hcell : ∀ p : Addr, p.block < wy.heap.size → wr.cell? p = wy.cell? p := fun p hp => hh.cell hp List.not_mem_nil
      by_cases hlt : i < L
      ·have hii : (i : Int) < (L : Int) := by omega
       obtain ⟨u, hu⟩ : ∃ u, us[i]? = some u := ⟨_, List.getElem?_eq_getElem (by rw [HL.out.1]; exact hlt)⟩
       obtain ⟨z, hz⟩ : ∃ z, ls[i]? = some z := ⟨_, List.getElem?_eq_getElem (by rw [HL.out.2]; exact hlt)⟩
       have ho := H4.out.2.2.2.1
       obtain ⟨gv, cv, e, _, hgv⟩ := own_pos ho (by omega)
       cases e
       have ho5 := H4.out.2.2.2.2
       obtain ⟨gl, cl, e, _, hgl⟩ := own_pos ho5 (by omega)
       subst e
       have hcv := (hcell ⟨gv, i, none⟩ hgv).trans (own_at ho hu).1
       have hcl := (hcell ⟨gl, i, none⟩ hgl).trans (own_at ho5 hz).1
       have hsu := H4.out.2.1 i u hu
       have hsz := H4.out.1 i z hz
       obtain ⟨Ai, ci, hui⟩ := hsu.form
       obtain ⟨Az, cz, hzi⟩ := hsz.form
       simp only at hui hzi
       obtain ⟨m, hm⟩ : ∃ m, n i = m := ⟨_, rfl⟩
       have hm2 := HH.out.2.2.2 i
       have HM := Hd.mk hm
       rw [hm] at hm2 hui hzi hsu hsz
       subst hui hzi
       have HS := Hd.mk (And.intro hsu hsz)
       obtain ⟨wo, hwo⟩ : ∃ wo : World, wo = wr := ⟨_, rfl⟩
       subst hwo
       clear hsu hsz hu hz ho ho5 hm hh hC hcell
       have hbo : IntKind.i64.wrap (97 + (i : Int)) = ((97 + i : Nat) : Int) := by rw [IntKind.wrap_i64]; omega
       have hbo2 : IntKind.u8.wrap ((97 + i : Nat) : Int) = ((97 + i : Nat) : Int) := by rw [IntKind.wrap_u8]; omega
       have HCC := Hd.mk (And.intro hcv hcl)
       have HGV := Hd.mk (And.intro hgv hgl)
       obtain ⟨b97, hb97⟩ : ∃ q, 97 + i = q := ⟨_, rfl⟩
       rw [hb97] at hbo hbo2
       have H97 := Hd.mk hb97
       have f15 := conv_one wo b97
       clear hb97
       go_upto_region 22 with fail
       obtain ⟨w7, hw7⟩ : ∃ U, wo.alloc (.cells #[.int .u8 (b97 : Int)] 5) = U := ⟨_, rfl⟩
       have H7 : Hd (Chg [] wy w7 ∧ Chg (ablk us) w w7) := ⟨by rw [← hw7]; exact ⟨H5.out.1.alloc _, H5.out.2.alloc _⟩⟩
       rw [hw7]
       clear hw7 f15 hbo hbo2 hcv hcl
       go_wp2_with fail
       go_loopw [11] (fun u11 wr => ∃ j : Nat, j ≤ m + 64 ∧ u11 = .int .i64 (j : Int) ∧ Chg [] wy wr ∧ Chg (ablk us) w wr) (fun u11 _ => m + 64 - (intOf u11).toNat)
       case atStart => exact ⟨0, by omega, rfl, H7.out⟩
       case round =>
        obtain ⟨j, hj, rfl, hh, hC⟩ := hrel
        have H6 := Hd.mk (And.intro hh hC)
        have hcell : ∀ W, Chg [] wr W → ∀ p : Addr, p.block < wy.heap.size → W.cell? p = wy.cell? p := fun W b p hp => (H6.out.1.trans b).cell hp List.not_mem_nil
        have hwo : ∀ p : Addr, p.block < wy.heap.size → wo.cell? p = wy.cell? p := fun p hp => H5.out.1.cell hp List.not_mem_nil
        have HV : Hd (∀ W, Chg [] wr W → W.cell? ⟨gv, i, none⟩ = some (.slice Ai m ci) ∧ W.cell? ⟨gl, i, none⟩ = some (.slice Az (m + 64) cz)) := ⟨fun W b => ⟨(hcell W b _ HGV.out.1).trans ((hwo _ HGV.out.1).symm.trans HCC.out.1), (hcell W b _ HGV.out.2).trans ((hwo _ HGV.out.2).symm.trans HCC.out.2)⟩⟩
        have hcl2 := (HV.out wr (Chg.refl _ _)).2
        by_cases hjl : j < m + 64
        ·have hjt : (j : Int) < ((m + 64 : Nat) : Int) := by omega
         have hjt2 : (j : Int) < (m : Int) + 64 := by omega
         obtain ⟨bz, _, ez, hzl, hz⟩ := HS.out.2.cell (t := j) hjl
         cases ez
         by_cases hjm : j < m
         ·have hji : (j : Int) < (m : Int) := by omega
          obtain ⟨bu, _, eu, hul, hu⟩ := HS.out.1.cell (t := j) hjm
          cases eu
          have hf : fbT n i j = .string (one1 b97) := by unfold fbT; rw [if_pos (by rw [HM.out]; exact hjm), H97.out]
          simp only [hf] at hz hu
          have HZ : Hd (∀ W, Chg [] wr W → W.cell? ⟨bz, j, none⟩ = some (.string (one1 b97)) ∧ W.cell? ⟨bu, j, none⟩ = some (.string (one1 b97))) := ⟨fun W b => ⟨(hcell W b ⟨bz, j, none⟩ hzl).trans hz, (hcell W b ⟨bu, j, none⟩ hul).trans hu⟩⟩
          have HEQ : Hd (((one1 b97).toList == (one1 b97).toList) = true) := ⟨by simp⟩
          have hjge : ¬ (m : Int) ≤ (j : Int) := by omega
          clear hz hu hcell hwo hh hC hf
          go_upto_region 25 with fail
          clear hcl2
          refine wp_region_held_drew (S := fun W => Chg [] wr W) (by kernel_rfl) (Chg.refl _ wr).drew (fun hHeld => ?_)
          have HWD := Hd.mk hHeld
          refine wpAnyH_take (i := 0) (oi := ?oi301) (v := ?v301) ?hi301 (by kernel_rfl) (by kernel_rfl) (by kernel_rfl) ?hQ301 (Or.inl ⟨?hw301, ?hy301⟩) (by assumption) ?rest301
          case hi301 => simp only [List.getElem?_toArray, List.getElem?_cons_succ, List.getElem?_cons_zero]; rfl
          case hQ301 => exact fun _ _ _ h => h
          case hw301 => rfl
          case hy301 => (intro W hW; have f1 := (HV.out W hW).1; have f2 := (HV.out W hW).2; have f3 := (HZ.out W hW).1; have f4 := (HZ.out W hW).2; have f5 := HEQ.out; go_simp; all_goals rfl)
          simp only [Act.put, List.setIfInBounds_toArray, List.set_cons_zero, List.set_cons_succ]
          refine wpAnyH_take (i := 1) (oi := ?oi302) (v := ?v302) ?hi302 (by kernel_rfl) (by kernel_rfl) (by kernel_rfl) ?hQ302 (Or.inl ⟨?hw302, ?hy302⟩) (by assumption) ?rest302
          case hi302 => simp only [List.getElem?_toArray, List.getElem?_cons_succ, List.getElem?_cons_zero]; rfl
          case hQ302 => exact fun _ _ _ h => h
          case hw302 => rfl
          case hy302 => (intro W hW; have f1 := (HV.out W hW).1; have f2 := (HV.out W hW).2; have f3 := (HZ.out W hW).1; have f4 := (HZ.out W hW).2; have f5 := HEQ.out; go_simp; all_goals rfl)
          simp only [Act.put, List.setIfInBounds_toArray, List.set_cons_zero, List.set_cons_succ]
          refine wpAnyH_take (i := 2) (oi := ?oi303) (v := ?v303) ?hi303 (by kernel_rfl) (by kernel_rfl) (by kernel_rfl) ?hQ303 (Or.inl ⟨?hw303, ?hy303⟩) (by assumption) ?rest303
          case hi303 => simp only [List.getElem?_toArray, List.getElem?_cons_succ, List.getElem?_cons_zero]; rfl
          case hQ303 => exact fun _ _ _ h => h
          case hw303 => rfl
          case hy303 => (intro W hW; have f1 := (HV.out W hW).1; have f2 := (HV.out W hW).2; have f3 := (HZ.out W hW).1; have f4 := (HZ.out W hW).2; have f5 := HEQ.out; go_simp; all_goals rfl)
          simp only [Act.put, List.setIfInBounds_toArray, List.set_cons_zero, List.set_cons_succ]
          refine wpAnyH_take (i := 3) (oi := ?oi304) (v := ?v304) ?hi304 (by kernel_rfl) (by kernel_rfl) (by kernel_rfl) ?hQ304 (Or.inl ⟨?hw304, ?hy304⟩) (by assumption) ?rest304
          case hi304 => simp only [List.getElem?_toArray, List.getElem?_cons_succ, List.getElem?_cons_zero]; rfl
          case hQ304 => exact fun _ _ _ h => h
          case hw304 => rfl
          case hy304 => (intro W hW; have f1 := (HV.out W hW).1; have f2 := (HV.out W hW).2; have f3 := (HZ.out W hW).1; have f4 := (HZ.out W hW).2; have f5 := HEQ.out; go_simp; all_goals rfl)
          simp only [Act.put, List.setIfInBounds_toArray, List.set_cons_zero, List.set_cons_succ]
          refine wpAnyH_take (i := 4) (oi := ?oi305) (v := ?v305) ?hi305 (by kernel_rfl) (by kernel_rfl) (by kernel_rfl) ?hQ305 (Or.inl ⟨?hw305, ?hy305⟩) (by assumption) ?rest305
          case hi305 => simp only [List.getElem?_toArray, List.getElem?_cons_succ, List.getElem?_cons_zero]; rfl
          case hQ305 => exact fun _ _ _ h => h
          case hw305 => rfl
          case hy305 => (intro W hW; have f1 := (HV.out W hW).1; have f2 := (HV.out W hW).2; have f3 := (HZ.out W hW).1; have f4 := (HZ.out W hW).2; have f5 := HEQ.out; go_simp; all_goals rfl)
          simp only [Act.put, List.setIfInBounds_toArray, List.set_cons_zero, List.set_cons_succ]
          refine wpAnyH_take (i := 5) (oi := ?oi306) (v := ?v306) ?hi306 (by kernel_rfl) (by kernel_rfl) (by kernel_rfl) ?hQ306 (Or.inl ⟨?hw306, ?hy306⟩) (by assumption) ?rest306
          case hi306 => simp only [List.getElem?_toArray, List.getElem?_cons_succ, List.getElem?_cons_zero]; rfl
          case hQ306 => exact fun _ _ _ h => h
          case hw306 => rfl
          case hy306 => (intro W hW; have f1 := (HV.out W hW).1; have f2 := (HV.out W hW).2; have f3 := (HZ.out W hW).1; have f4 := (HZ.out W hW).2; have f5 := HEQ.out; go_simp; all_goals rfl)
          simp only [Act.put, List.setIfInBounds_toArray, List.set_cons_zero, List.set_cons_succ]
          refine wpAnyH_take (i := 6) (oi := ?oi307) (v := ?v307) ?hi307 (by kernel_rfl) (by kernel_rfl) (by kernel_rfl) ?hQ307 (Or.inl ⟨?hw307, ?hy307⟩) (by assumption) ?rest307
          case hi307 => simp only [List.getElem?_toArray, List.getElem?_cons_succ, List.getElem?_cons_zero]; rfl
          case hQ307 => exact fun _ _ _ h => h
          case hw307 => rfl
          case hy307 => (intro W hW; have f1 := (HV.out W hW).1; have f2 := (HV.out W hW).2; have f3 := (HZ.out W hW).1; have f4 := (HZ.out W hW).2; have f5 := HEQ.out; go_simp; all_goals rfl)
          simp only [Act.put, List.setIfInBounds_toArray, List.set_cons_zero, List.set_cons_succ]
          refine wpAnyH_take (i := 7) (oi := ?oi308) (v := ?v308) ?hi308 (by kernel_rfl) (by kernel_rfl) (by kernel_rfl) ?hQ308 (Or.inl ⟨?hw308, ?hy308⟩) (by assumption) ?rest308
          case hi308 => simp only [List.getElem?_toArray, List.getElem?_cons_succ, List.getElem?_cons_zero]; rfl
          case hQ308 => exact fun _ _ _ h => h
          case hw308 => rfl
          case hy308 => (intro W hW; have f1 := (HV.out W hW).1; have f2 := (HV.out W hW).2; have f3 := (HZ.out W hW).1; have f4 := (HZ.out W hW).2; have f5 := HEQ.out; go_simp; all_goals rfl)
          simp only [Act.put, List.setIfInBounds_toArray, List.set_cons_zero, List.set_cons_succ]
          refine wpAnyH_take (i := 8) (oi := ?oi309) (v := ?v309) ?hi309 (by kernel_rfl) (by kernel_rfl) (by kernel_rfl) ?hQ309 (Or.inl ⟨?hw309, ?hy309⟩) (by assumption) ?rest309
          case hi309 => simp only [List.getElem?_toArray, List.getElem?_cons_succ, List.getElem?_cons_zero]; rfl
          case hQ309 => exact fun _ _ _ h => h
          case hw309 => rfl
          case hy309 => (intro W hW; have f1 := (HV.out W hW).1; have f2 := (HV.out W hW).2; have f3 := (HZ.out W hW).1; have f4 := (HZ.out W hW).2; have f5 := HEQ.out; go_simp; all_goals rfl)
          simp only [Act.put, List.setIfInBounds_toArray, List.set_cons_zero, List.set_cons_succ]
          refine wpAnyH_take (i := 9) (oi := ?oi310) (v := ?v310) ?hi310 (by kernel_rfl) (by kernel_rfl) (by kernel_rfl) ?hQ310 (Or.inl ⟨?hw310, ?hy310⟩) (by assumption) ?rest310
          case hi310 => simp only [List.getElem?_toArray, List.getElem?_cons_succ, List.getElem?_cons_zero]; rfl
          case hQ310 => exact fun _ _ _ h => h
          case hw310 => rfl
          case hy310 => (intro W hW; have f1 := (HV.out W hW).1; have f2 := (HV.out W hW).2; have f3 := (HZ.out W hW).1; have f4 := (HZ.out W hW).2; have f5 := HEQ.out; go_simp; all_goals rfl)
          simp only [Act.put, List.setIfInBounds_toArray, List.set_cons_zero, List.set_cons_succ]
          refine wpAnyH_take (i := 10) (oi := ?oi311) (v := ?v311) ?hi311 (by kernel_rfl) (by kernel_rfl) (by kernel_rfl) ?hQ311 (Or.inl ⟨?hw311, ?hy311⟩) (by assumption) ?rest311
          case hi311 => simp only [List.getElem?_toArray, List.getElem?_cons_succ, List.getElem?_cons_zero]; rfl
          case hQ311 => exact fun _ _ _ h => h
          case hw311 => rfl
          case hy311 => (intro W hW; have f1 := (HV.out W hW).1; have f2 := (HV.out W hW).2; have f3 := (HZ.out W hW).1; have f4 := (HZ.out W hW).2; have f5 := HEQ.out; go_simp; all_goals rfl)
          simp only [Act.put, List.setIfInBounds_toArray, List.set_cons_zero, List.set_cons_succ]
          refine wpAnyH_take (i := 11) (oi := ?oi312) (v := ?v312) ?hi312 (by kernel_rfl) (by kernel_rfl) (by kernel_rfl) ?hQ312 (Or.inl ⟨?hw312, ?hy312⟩) (by assumption) ?rest312
          case hi312 => simp only [List.getElem?_toArray, List.getElem?_cons_succ, List.getElem?_cons_zero]; rfl
          case hQ312 => exact fun _ _ _ h => h
          case hw312 => rfl
          case hy312 => (intro W hW; have f1 := (HV.out W hW).1; have f2 := (HV.out W hW).2; have f3 := (HZ.out W hW).1; have f4 := (HZ.out W hW).2; have f5 := HEQ.out; go_simp; all_goals rfl)
          simp only [Act.put, List.setIfInBounds_toArray, List.set_cons_zero, List.set_cons_succ]
          refine wpAnyH_take (i := 12) (oi := ?oi313) (v := ?v313) ?hi313 (by kernel_rfl) (by kernel_rfl) (by kernel_rfl) ?hQ313 (Or.inl ⟨?hw313, ?hy313⟩) (by assumption) ?rest313
          case hi313 => simp only [List.getElem?_toArray, List.getElem?_cons_succ, List.getElem?_cons_zero]; rfl
          case hQ313 => exact fun _ _ _ h => h
          case hw313 => rfl
          case hy313 => (intro W hW; have f1 := (HV.out W hW).1; have f2 := (HV.out W hW).2; have f3 := (HZ.out W hW).1; have f4 := (HZ.out W hW).2; have f5 := HEQ.out; go_simp; all_goals rfl)
          simp only [Act.put, List.setIfInBounds_toArray, List.set_cons_zero, List.set_cons_succ]
          refine wpAnyH_take (i := 13) (oi := ?oi314) (v := ?v314) ?hi314 (by kernel_rfl) (by kernel_rfl) (by kernel_rfl) ?hQ314 (Or.inl ⟨?hw314, ?hy314⟩) (by assumption) ?rest314
          case hi314 => simp only [List.getElem?_toArray, List.getElem?_cons_succ, List.getElem?_cons_zero]; rfl
          case hQ314 => exact fun _ _ _ h => h
          case hw314 => rfl
          case hy314 => (intro W hW; have f1 := (HV.out W hW).1; have f2 := (HV.out W hW).2; have f3 := (HZ.out W hW).1; have f4 := (HZ.out W hW).2; have f5 := HEQ.out; go_simp; all_goals rfl)
          simp only [Act.put, List.setIfInBounds_toArray, List.set_cons_zero, List.set_cons_succ]
          refine wpAnyH_take (i := 14) (oi := ?oi315) (v := ?v315) ?hi315 (by kernel_rfl) (by kernel_rfl) (by kernel_rfl) ?hQ315 (Or.inl ⟨?hw315, ?hy315⟩) (by assumption) ?rest315
          case hi315 => simp only [List.getElem?_toArray, List.getElem?_cons_succ, List.getElem?_cons_zero]; rfl
          case hQ315 => exact fun _ _ _ h => h
          case hw315 => rfl
          case hy315 => (intro W hW; have f1 := (HV.out W hW).1; have f2 := (HV.out W hW).2; have f3 := (HZ.out W hW).1; have f4 := (HZ.out W hW).2; have f5 := HEQ.out; go_simp; all_goals rfl)
          simp only [Act.put, List.setIfInBounds_toArray, List.set_cons_zero, List.set_cons_succ]
          refine wpAnyH_take (i := 15) (oi := ?oi316) (v := ?v316) ?hi316 (by kernel_rfl) (by kernel_rfl) (by kernel_rfl) ?hQ316 (Or.inl ⟨?hw316, ?hy316⟩) (by assumption) ?rest316
          case hi316 => simp only [List.getElem?_toArray, List.getElem?_cons_succ, List.getElem?_cons_zero]; rfl
          case hQ316 => exact fun _ _ _ h => h
          case hw316 => rfl
          case hy316 => (intro W hW; have f1 := (HV.out W hW).1; have f2 := (HV.out W hW).2; have f3 := (HZ.out W hW).1; have f4 := (HZ.out W hW).2; have f5 := HEQ.out; go_simp; all_goals rfl)
          simp only [Act.put, List.setIfInBounds_toArray, List.set_cons_zero, List.set_cons_succ]
          refine wpAnyH_take (i := 16) (oi := ?oi317) (v := ?v317) ?hi317 (by kernel_rfl) (by kernel_rfl) (by kernel_rfl) ?hQ317 (Or.inl ⟨?hw317, ?hy317⟩) (by assumption) ?rest317
          case hi317 => simp only [List.getElem?_toArray, List.getElem?_cons_succ, List.getElem?_cons_zero]; rfl
          case hQ317 => exact fun _ _ _ h => h
          case hw317 => rfl
          case hy317 => (intro W hW; have f1 := (HV.out W hW).1; have f2 := (HV.out W hW).2; have f3 := (HZ.out W hW).1; have f4 := (HZ.out W hW).2; have f5 := HEQ.out; go_simp; all_goals rfl)
          simp only [Act.put, List.setIfInBounds_toArray, List.set_cons_zero, List.set_cons_succ]
          refine wpAnyH_take (i := 17) (oi := ?oi318) (v := ?v318) ?hi318 (by kernel_rfl) (by kernel_rfl) (by kernel_rfl) ?hQ318 (Or.inl ⟨?hw318, ?hy318⟩) (by assumption) ?rest318
          case hi318 => simp only [List.getElem?_toArray, List.getElem?_cons_succ, List.getElem?_cons_zero]; rfl
          case hQ318 => exact fun _ _ _ h => h
          case hw318 => rfl
          case hy318 => (intro W hW; have f1 := (HV.out W hW).1; have f2 := (HV.out W hW).2; have f3 := (HZ.out W hW).1; have f4 := (HZ.out W hW).2; have f5 := HEQ.out; go_simp; all_goals rfl)
          simp only [Act.put, List.setIfInBounds_toArray, List.set_cons_zero, List.set_cons_succ]
          refine wpAnyH_take (i := 18) (oi := ?oi319) (v := ?v319) ?hi319 (by kernel_rfl) (by kernel_rfl) (by kernel_rfl) ?hQ319 (Or.inl ⟨?hw319, ?hy319⟩) (by assumption) ?rest319
          case hi319 => simp only [List.getElem?_toArray, List.getElem?_cons_succ, List.getElem?_cons_zero]; rfl
          case hQ319 => exact fun _ _ _ h => h
          case hw319 => rfl
          case hy319 => (intro W hW; have f1 := (HV.out W hW).1; have f2 := (HV.out W hW).2; have f3 := (HZ.out W hW).1; have f4 := (HZ.out W hW).2; have f5 := HEQ.out; go_simp; all_goals rfl)
          simp only [Act.put, List.setIfInBounds_toArray, List.set_cons_zero, List.set_cons_succ]
          refine wpAnyH_take (i := 19) (oi := ?oi320) (v := ?v320) ?hi320 (by kernel_rfl) (by kernel_rfl) (by kernel_rfl) ?hQ320 (Or.inl ⟨?hw320, ?hy320⟩) (by assumption) ?rest320
          case hi320 => simp only [List.getElem?_toArray, List.getElem?_cons_succ, List.getElem?_cons_zero]; rfl
          case hQ320 => exact fun _ _ _ h => h
          case hw320 => rfl
          case hy320 => (intro W hW; have f1 := (HV.out W hW).1; have f2 := (HV.out W hW).2; have f3 := (HZ.out W hW).1; have f4 := (HZ.out W hW).2; have f5 := HEQ.out; go_simp; all_goals rfl)
          simp only [Act.put, List.setIfInBounds_toArray, List.set_cons_zero, List.set_cons_succ]
          refine wpAnyH_take (i := 20) (oi := ?oi321) (v := ?v321) ?hi321 (by kernel_rfl) (by kernel_rfl) (by kernel_rfl) ?hQ321 (Or.inl ⟨?hw321, ?hy321⟩) (by assumption) ?rest321
          case hi321 => simp only [List.getElem?_toArray, List.getElem?_cons_succ, List.getElem?_cons_zero]; rfl
          case hQ321 => exact fun _ _ _ h => h
          case hw321 => rfl
          case hy321 => (intro W hW; have f1 := (HV.out W hW).1; have f2 := (HV.out W hW).2; have f3 := (HZ.out W hW).1; have f4 := (HZ.out W hW).2; have f5 := HEQ.out; go_simp; all_goals rfl)
          simp only [Act.put, List.setIfInBounds_toArray, List.set_cons_zero, List.set_cons_succ]
          refine wpAnyH_take (i := 21) (oi := ?oi322) (v := ?v322) ?hi322 (by kernel_rfl) (by kernel_rfl) (by kernel_rfl) ?hQ322 (Or.inl ⟨?hw322, ?hy322⟩) (by assumption) ?rest322
          case hi322 => simp only [List.getElem?_toArray, List.getElem?_cons_succ, List.getElem?_cons_zero]; rfl
          case hQ322 => exact fun _ _ _ h => h
          case hw322 => rfl
          case hy322 => (intro W hW; have f1 := (HV.out W hW).1; have f2 := (HV.out W hW).2; have f3 := (HZ.out W hW).1; have f4 := (HZ.out W hW).2; have f5 := HEQ.out; go_simp; all_goals rfl)
          simp only [Act.put, List.setIfInBounds_toArray, List.set_cons_zero, List.set_cons_succ]
          refine wpAnyH_take (i := 22) (oi := ?oi323) (v := ?v323) ?hi323 (by kernel_rfl) (by kernel_rfl) (by kernel_rfl) ?hQ323 (Or.inl ⟨?hw323, ?hy323⟩) (by assumption) ?rest323
          case hi323 => simp only [List.getElem?_toArray, List.getElem?_cons_succ, List.getElem?_cons_zero]; rfl
          case hQ323 => exact fun _ _ _ h => h
          case hw323 => rfl
          case hy323 => (intro W hW; have f1 := (HV.out W hW).1; have f2 := (HV.out W hW).2; have f3 := (HZ.out W hW).1; have f4 := (HZ.out W hW).2; have f5 := HEQ.out; go_simp; all_goals rfl)
          simp only [Act.put, List.setIfInBounds_toArray, List.set_cons_zero, List.set_cons_succ]
          refine wpAnyH_take (i := 23) (oi := ?oi324) (v := ?v324) ?hi324 (by kernel_rfl) (by kernel_rfl) (by kernel_rfl) ?hQ324 (Or.inl ⟨?hw324, ?hy324⟩) (by assumption) ?rest324
          case hi324 => simp only [List.getElem?_toArray, List.getElem?_cons_succ, List.getElem?_cons_zero]; rfl
          case hQ324 => exact fun _ _ _ h => h
          case hw324 => rfl
          case hy324 => (intro W hW; have f1 := (HV.out W hW).1; have f2 := (HV.out W hW).2; have f3 := (HZ.out W hW).1; have f4 := (HZ.out W hW).2; have f5 := HEQ.out; go_simp; all_goals rfl)
          simp only [Act.put, List.setIfInBounds_toArray, List.set_cons_zero, List.set_cons_succ]
          refine wpAnyH_take (i := 24) (oi := ?oi325) (v := ?v325) ?hi325 (by kernel_rfl) (by kernel_rfl) (by kernel_rfl) ?hQ325 (Or.inl ⟨?hw325, ?hy325⟩) (by assumption) ?rest325
          case hi325 => simp only [List.getElem?_toArray, List.getElem?_cons_succ, List.getElem?_cons_zero]; rfl
          case hQ325 => exact fun _ _ _ h => h
          case hw325 => rfl
          case hy325 => (intro W hW; have f1 := (HV.out W hW).1; have f2 := (HV.out W hW).2; have f3 := (HZ.out W hW).1; have f4 := (HZ.out W hW).2; have f5 := HEQ.out; go_simp; all_goals rfl)
          simp only [Act.put, List.setIfInBounds_toArray, List.set_cons_zero, List.set_cons_succ]
          refine wpAnyH_take (i := 25) (oi := ?oi326) (v := ?v326) ?hi326 (by kernel_rfl) (by kernel_rfl) (by kernel_rfl) ?hQ326 (Or.inl ⟨?hw326, ?hy326⟩) (by assumption) ?rest326
          case hi326 => simp only [List.getElem?_toArray, List.getElem?_cons_succ, List.getElem?_cons_zero]; rfl
          case hQ326 => exact fun _ _ _ h => h
          case hw326 => rfl
          case hy326 => (intro W hW; have f1 := (HV.out W hW).1; have f2 := (HV.out W hW).2; have f3 := (HZ.out W hW).1; have f4 := (HZ.out W hW).2; have f5 := HEQ.out; go_simp; all_goals rfl)
          simp only [Act.put, List.setIfInBounds_toArray, List.set_cons_zero, List.set_cons_succ]
          refine wpAnyH_take (i := 26) (oi := ?oi327) (v := ?v327) ?hi327 (by kernel_rfl) (by kernel_rfl) (by kernel_rfl) ?hQ327 (Or.inl ⟨?hw327, ?hy327⟩) (by assumption) ?rest327
          case hi327 => simp only [List.getElem?_toArray, List.getElem?_cons_succ, List.getElem?_cons_zero]; rfl
          case hQ327 => exact fun _ _ _ h => h
          case hw327 => rfl
          case hy327 => (intro W hW; have f1 := (HV.out W hW).1; have f2 := (HV.out W hW).2; have f3 := (HZ.out W hW).1; have f4 := (HZ.out W hW).2; have f5 := HEQ.out; go_simp; all_goals rfl)
          simp only [Act.put, List.setIfInBounds_toArray, List.set_cons_zero, List.set_cons_succ]
          refine wpAnyH_take (i := 27) (oi := ?oi328) (v := ?v328) ?hi328 (by kernel_rfl) (by kernel_rfl) (by kernel_rfl) ?hQ328 (Or.inl ⟨?hw328, ?hy328⟩) (by assumption) ?rest328
          case hi328 => simp only [List.getElem?_toArray, List.getElem?_cons_succ, List.getElem?_cons_zero]; rfl
          case hQ328 => exact fun _ _ _ h => h
          case hw328 => rfl
          case hy328 => (intro W hW; have f1 := (HV.out W hW).1; have f2 := (HV.out W hW).2; have f3 := (HZ.out W hW).1; have f4 := (HZ.out W hW).2; have f5 := HEQ.out; go_simp; all_goals rfl)
          simp only [Act.put, List.setIfInBounds_toArray, List.set_cons_zero, List.set_cons_succ]
          refine wpAnyH_take (i := 28) (oi := ?oi329) (v := ?v329) ?hi329 (by kernel_rfl) (by kernel_rfl) (by kernel_rfl) ?hQ329 (Or.inl ⟨?hw329, ?hy329⟩) (by assumption) ?rest329
          case hi329 => simp only [List.getElem?_toArray, List.getElem?_cons_succ, List.getElem?_cons_zero]; rfl
          case hQ329 => exact fun _ _ _ h => h
          case hw329 => rfl
          case hy329 => (intro W hW; have f1 := (HV.out W hW).1; have f2 := (HV.out W hW).2; have f3 := (HZ.out W hW).1; have f4 := (HZ.out W hW).2; have f5 := HEQ.out; go_simp; all_goals rfl)
          simp only [Act.put, List.setIfInBounds_toArray, List.set_cons_zero, List.set_cons_succ]
          refine wpAnyH_take (i := 29) (oi := ?oi330) (v := ?v330) ?hi330 (by kernel_rfl) (by kernel_rfl) (by kernel_rfl) ?hQ330 (Or.inl ⟨?hw330, ?hy330⟩) (by assumption) ?rest330
          case hi330 => simp only [List.getElem?_toArray, List.getElem?_cons_succ, List.getElem?_cons_zero]; rfl
          case hQ330 => exact fun _ _ _ h => h
          case hw330 => rfl
          case hy330 => (intro W hW; have f1 := (HV.out W hW).1; have f2 := (HV.out W hW).2; have f3 := (HZ.out W hW).1; have f4 := (HZ.out W hW).2; have f5 := HEQ.out; go_simp; all_goals rfl)
          simp only [Act.put, List.setIfInBounds_toArray, List.set_cons_zero, List.set_cons_succ]
          refine wpAnyH_take (i := 30) (oi := ?oi331) (v := ?v331) ?hi331 (by kernel_rfl) (by kernel_rfl) (by kernel_rfl) ?hQ331 (Or.inl ⟨?hw331, ?hy331⟩) (by assumption) ?rest331
          case hi331 => simp only [List.getElem?_toArray, List.getElem?_cons_succ, List.getElem?_cons_zero]; rfl
          case hQ331 => exact fun _ _ _ h => h
          case hw331 => rfl
          case hy331 => (intro W hW; have f1 := (HV.out W hW).1; have f2 := (HV.out W hW).2; have f3 := (HZ.out W hW).1; have f4 := (HZ.out W hW).2; have f5 := HEQ.out; go_simp; all_goals rfl)
          simp only [Act.put, List.setIfInBounds_toArray, List.set_cons_zero, List.set_cons_succ]
          refine wpAnyH_take (i := 31) (oi := ?oi332) (v := ?v332) ?hi332 (by kernel_rfl) (by kernel_rfl) (by kernel_rfl) ?hQ332 (Or.inl ⟨?hw332, ?hy332⟩) (by assumption) ?rest332
          case hi332 => simp only [List.getElem?_toArray, List.getElem?_cons_succ, List.getElem?_cons_zero]; rfl
          case hQ332 => exact fun _ _ _ h => h
          case hw332 => rfl
          case hy332 => (intro W hW; have f1 := (HV.out W hW).1; have f2 := (HV.out W hW).2; have f3 := (HZ.out W hW).1; have f4 := (HZ.out W hW).2; have f5 := HEQ.out; go_simp; all_goals rfl)
          simp only [Act.put, List.setIfInBounds_toArray, List.set_cons_zero, List.set_cons_succ]
          refine wpAnyH_take (i := 32) (oi := ?oi333) (v := ?v333) ?hi333 (by kernel_rfl) (by kernel_rfl) (by kernel_rfl) ?hQ333 (Or.inl ⟨?hw333, ?hy333⟩) (by assumption) ?rest333
          case hi333 => simp only [List.getElem?_toArray, List.getElem?_cons_succ, List.getElem?_cons_zero]; rfl
          case hQ333 => exact fun _ _ _ h => h
          case hw333 => rfl
          case hy333 => (intro W hW; have f1 := (HV.out W hW).1; have f2 := (HV.out W hW).2; have f3 := (HZ.out W hW).1; have f4 := (HZ.out W hW).2; have f5 := HEQ.out; go_simp; all_goals rfl)
          simp only [Act.put, List.setIfInBounds_toArray, List.set_cons_zero, List.set_cons_succ]
          refine wpAnyH_take (i := 33) (oi := ?oi334) (v := ?v334) ?hi334 (by kernel_rfl) (by kernel_rfl) (by kernel_rfl) ?hQ334 (Or.inl ⟨?hw334, ?hy334⟩) (by assumption) ?rest334
          case hi334 => simp only [List.getElem?_toArray, List.getElem?_cons_succ, List.getElem?_cons_zero]; rfl
          case hQ334 => exact fun _ _ _ h => h
          case hw334 => rfl
          case hy334 => (intro W hW; have f1 := (HV.out W hW).1; have f2 := (HV.out W hW).2; have f3 := (HZ.out W hW).1; have f4 := (HZ.out W hW).2; have f5 := HEQ.out; go_simp; all_goals rfl)
          simp only [Act.put, List.setIfInBounds_toArray, List.set_cons_zero, List.set_cons_succ]
          refine wpAnyH_take (i := 34) (oi := ?oi335) (v := ?v335) ?hi335 (by kernel_rfl) (by kernel_rfl) (by kernel_rfl) ?hQ335 (Or.inl ⟨?hw335, ?hy335⟩) (by assumption) ?rest335
          case hi335 => simp only [List.getElem?_toArray, List.getElem?_cons_succ, List.getElem?_cons_zero]; rfl
          case hQ335 => exact fun _ _ _ h => h
          case hw335 => rfl
          case hy335 => (intro W hW; have f1 := (HV.out W hW).1; have f2 := (HV.out W hW).2; have f3 := (HZ.out W hW).1; have f4 := (HZ.out W hW).2; have f5 := HEQ.out; go_simp; all_goals rfl)
          simp only [Act.put, List.setIfInBounds_toArray, List.set_cons_zero, List.set_cons_succ]
          refine wpAnyH_take (i := 35) (oi := ?oi336) (v := ?v336) ?hi336 (by kernel_rfl) (by kernel_rfl) (by kernel_rfl) ?hQ336 (Or.inl ⟨?hw336, ?hy336⟩) (by assumption) ?rest336
          case hi336 => simp only [List.getElem?_toArray, List.getElem?_cons_succ, List.getElem?_cons_zero]; rfl
          case hQ336 => exact fun _ _ _ h => h
          case hw336 => rfl
          case hy336 => (intro W hW; have f1 := (HV.out W hW).1; have f2 := (HV.out W hW).2; have f3 := (HZ.out W hW).1; have f4 := (HZ.out W hW).2; have f5 := HEQ.out; go_simp; all_goals rfl)
          simp only [Act.put, List.setIfInBounds_toArray, List.set_cons_zero, List.set_cons_succ]
          refine wpAnyH_take (i := 36) (oi := ?oi337) (v := ?v337) ?hi337 (by kernel_rfl) (by kernel_rfl) (by kernel_rfl) ?hQ337 (Or.inl ⟨?hw337, ?hy337⟩) (by assumption) ?rest337
          case hi337 => simp only [List.getElem?_toArray, List.getElem?_cons_succ, List.getElem?_cons_zero]; rfl
          case hQ337 => exact fun _ _ _ h => h
          case hw337 => rfl
          case hy337 => (intro W hW; have f1 := (HV.out W hW).1; have f2 := (HV.out W hW).2; have f3 := (HZ.out W hW).1; have f4 := (HZ.out W hW).2; have f5 := HEQ.out; go_simp; all_goals rfl)
          simp only [Act.put, List.setIfInBounds_toArray, List.set_cons_zero, List.set_cons_succ]
          refine wpAnyH_take (i := 37) (oi := ?oi338) (v := ?v338) ?hi338 (by kernel_rfl) (by kernel_rfl) (by kernel_rfl) ?hQ338 (Or.inl ⟨?hw338, ?hy338⟩) (by assumption) ?rest338
          case hi338 => simp only [List.getElem?_toArray, List.getElem?_cons_succ, List.getElem?_cons_zero]; rfl
          case hQ338 => exact fun _ _ _ h => h
          case hw338 => rfl
          case hy338 => (intro W hW; have f1 := (HV.out W hW).1; have f2 := (HV.out W hW).2; have f3 := (HZ.out W hW).1; have f4 := (HZ.out W hW).2; have f5 := HEQ.out; go_simp; all_goals rfl)
          simp only [Act.put, List.setIfInBounds_toArray, List.set_cons_zero, List.set_cons_succ]
          refine wpAnyH_take (i := 38) (oi := ?oi339) (v := ?v339) ?hi339 (by kernel_rfl) (by kernel_rfl) (by kernel_rfl) ?hQ339 (Or.inr ⟨?hw339, ?hv339⟩) (by assumption) ?rest339
          case hi339 => simp only [List.getElem?_toArray, List.getElem?_cons_succ, List.getElem?_cons_zero]; rfl
          case hQ339 => exact fun _ _ _ h => h
          case hw339 => rfl
          case hv339 => rfl
          simp only [Act.put, List.setIfInBounds_toArray, List.set_cons_zero, List.set_cons_succ]
          refine wpAnyH_take (i := 39) (oi := ?oi340) (v := ?v340) ?hi340 (by kernel_rfl) (by kernel_rfl) (by kernel_rfl) ?hQ340 (Or.inr ⟨?hw340, ?hv340⟩) (by assumption) ?rest340
          case hi340 => simp only [List.getElem?_toArray, List.getElem?_cons_succ, List.getElem?_cons_zero]; rfl
          case hQ340 => exact fun _ _ _ h => h
          case hw340 => rfl
          case hv340 => rfl
          simp only [Act.put, List.setIfInBounds_toArray, List.set_cons_zero, List.set_cons_succ]
          refine wpAnyH_take (i := 40) (oi := ?oi341) (v := ?v341) ?hi341 (by kernel_rfl) (by kernel_rfl) (by kernel_rfl) ?hQ341 (Or.inr ⟨?hw341, ?hv341⟩) (by assumption) ?rest341
          case hi341 => simp only [List.getElem?_toArray, List.getElem?_cons_succ, List.getElem?_cons_zero]; rfl
          case hQ341 => exact fun _ _ _ h => h
          case hw341 => rfl
          case hv341 => rfl
          simp only [Act.put, List.setIfInBounds_toArray, List.set_cons_zero, List.set_cons_succ]
          refine wpAnyH_take (i := 41) (oi := ?oi342) (v := ?v342) ?hi342 (by kernel_rfl) (by kernel_rfl) (by kernel_rfl) ?hQ342 (Or.inr ⟨?hw342, ?hv342⟩) (by assumption) ?rest342
          case hi342 => simp only [List.getElem?_toArray, List.getElem?_cons_succ, List.getElem?_cons_zero]; rfl
          case hQ342 => exact fun _ _ _ h => h
          case hw342 => rfl
          case hv342 => rfl
          simp only [Act.put, List.setIfInBounds_toArray, List.set_cons_zero, List.set_cons_succ]
          refine wpAnyH_take (i := 42) (oi := ?oi343) (v := ?v343) ?hi343 (by kernel_rfl) (by kernel_rfl) (by kernel_rfl) ?hQ343 (Or.inr ⟨?hw343, ?hv343⟩) (by assumption) ?rest343
          case hi343 => simp only [List.getElem?_toArray, List.getElem?_cons_succ, List.getElem?_cons_zero]; rfl
          case hQ343 => exact fun _ _ _ h => h
          case hw343 => rfl
          case hv343 => rfl
          simp only [Act.put, List.setIfInBounds_toArray, List.set_cons_zero, List.set_cons_succ]
          refine wpAnyH_take (i := 43) (oi := ?oi344) (v := ?v344) ?hi344 (by kernel_rfl) (by kernel_rfl) (by kernel_rfl) ?hQ344 (Or.inr ⟨?hw344, ?hv344⟩) (by assumption) ?rest344
          case hi344 => simp only [List.getElem?_toArray, List.getElem?_cons_succ, List.getElem?_cons_zero]; rfl
          case hQ344 => exact fun _ _ _ h => h
          case hw344 => rfl
          case hv344 => rfl
          simp only [Act.put, List.setIfInBounds_toArray, List.set_cons_zero, List.set_cons_succ]
          refine wpAnyH_take (i := 44) (oi := ?oi345) (v := ?v345) ?hi345 (by kernel_rfl) (by kernel_rfl) (by kernel_rfl) ?hQ345 (Or.inr ⟨?hw345, ?hv345⟩) (by assumption) ?rest345
          case hi345 => simp only [List.getElem?_toArray, List.getElem?_cons_succ, List.getElem?_cons_zero]; rfl
          case hQ345 => exact fun _ _ _ h => h
          case hw345 => rfl
          case hv345 => rfl
          simp only [Act.put, List.setIfInBounds_toArray, List.set_cons_zero, List.set_cons_succ]
          refine wpAnyH_take (i := 45) (oi := ?oi346) (v := ?v346) ?hi346 (by kernel_rfl) (by kernel_rfl) (by kernel_rfl) ?hQ346 (Or.inr ⟨?hw346, ?hv346⟩) (by assumption) ?rest346
          case hi346 => simp only [List.getElem?_toArray, List.getElem?_cons_succ, List.getElem?_cons_zero]; rfl
          case hQ346 => exact fun _ _ _ h => h
          case hw346 => rfl
          case hv346 => rfl
          simp only [Act.put, List.setIfInBounds_toArray, List.set_cons_zero, List.set_cons_succ]
          refine wpAnyH_take (i := 46) (oi := ?oi347) (v := ?v347) ?hi347 (by kernel_rfl) (by kernel_rfl) (by kernel_rfl) ?hQ347 (Or.inr ⟨?hw347, ?hv347⟩) (by assumption) ?rest347
          case hi347 => simp only [List.getElem?_toArray, List.getElem?_cons_succ, List.getElem?_cons_zero]; rfl
          case hQ347 => exact fun _ _ _ h => h
          case hw347 => rfl
          case hv347 => rfl
          simp only [Act.put, List.setIfInBounds_toArray, List.set_cons_zero, List.set_cons_succ]
          refine wpAnyH_take (i := 47) (oi := ?oi348) (v := ?v348) ?hi348 (by kernel_rfl) (by kernel_rfl) (by kernel_rfl) ?hQ348 (Or.inr ⟨?hw348, ?hv348⟩) (by assumption) ?rest348
          case hi348 => simp only [List.getElem?_toArray, List.getElem?_cons_succ, List.getElem?_cons_zero]; rfl
          case hQ348 => exact fun _ _ _ h => h
          case hw348 => rfl
          case hv348 => rfl
          simp only [Act.put, List.setIfInBounds_toArray, List.set_cons_zero, List.set_cons_succ]
          refine wpAnyH_take (i := 48) (oi := ?oi349) (v := ?v349) ?hi349 (by kernel_rfl) (by kernel_rfl) (by kernel_rfl) ?hQ349 (Or.inr ⟨?hw349, ?hv349⟩) (by assumption) ?rest349
          case hi349 => simp only [List.getElem?_toArray, List.getElem?_cons_succ, List.getElem?_cons_zero]; rfl
          case hQ349 => exact fun _ _ _ h => h
          case hw349 => rfl
          case hv349 => rfl
          simp only [Act.put, List.setIfInBounds_toArray, List.set_cons_zero, List.set_cons_succ]
          refine wpAnyH_take (i := 49) (oi := ?oi350) (v := ?v350) ?hi350 (by kernel_rfl) (by kernel_rfl) (by kernel_rfl) ?hQ350 (Or.inr ⟨?hw350, ?hv350⟩) (by assumption) ?rest350
          case hi350 => simp only [List.getElem?_toArray, List.getElem?_cons_succ, List.getElem?_cons_zero]; rfl
          case hQ350 => exact fun _ _ _ h => h
          case hw350 => rfl
          case hv350 => rfl
          simp only [Act.put, List.setIfInBounds_toArray, List.set_cons_zero, List.set_cons_succ]
          refine wpAnyH_take (i := 50) (oi := ?oi351) (v := ?v351) ?hi351 (by kernel_rfl) (by kernel_rfl) (by kernel_rfl) ?hQ351 (Or.inr ⟨?hw351, ?hv351⟩) (by assumption) ?rest351
          case hi351 => simp only [List.getElem?_toArray, List.getElem?_cons_succ, List.getElem?_cons_zero]; rfl
          case hQ351 => exact fun _ _ _ h => h
          case hw351 => rfl
          case hv351 => rfl
          simp only [Act.put, List.setIfInBounds_toArray, List.set_cons_zero, List.set_cons_succ]
          refine wpAnyH_take (i := 51) (oi := ?oi352) (v := ?v352) ?hi352 (by kernel_rfl) (by kernel_rfl) (by kernel_rfl) ?hQ352 (Or.inl ⟨?hw352, ?hy352⟩) (by assumption) ?rest352
          case hi352 => simp only [List.getElem?_toArray, List.getElem?_cons_succ, List.getElem?_cons_zero]; rfl
          case hQ352 => exact fun _ _ _ h => h
          case hw352 => rfl
          case hy352 => (intro W hW; have f1 := (HV.out W hW).1; have f2 := (HV.out W hW).2; have f3 := (HZ.out W hW).1; have f4 := (HZ.out W hW).2; have f5 := HEQ.out; go_simp; all_goals rfl)
          simp only [Act.put, List.setIfInBounds_toArray, List.set_cons_zero, List.set_cons_succ]
          refine wpAnyH_take (i := 52) (oi := ?oi353) (v := ?v353) ?hi353 (by kernel_rfl) (by kernel_rfl) (by kernel_rfl) ?hQ353 (Or.inl ⟨?hw353, ?hy353⟩) (by assumption) ?rest353
          case hi353 => simp only [List.getElem?_toArray, List.getElem?_cons_succ, List.getElem?_cons_zero]; rfl
          case hQ353 => exact fun _ _ _ h => h
          case hw353 => rfl
          case hy353 => (intro W hW; have f1 := (HV.out W hW).1; have f2 := (HV.out W hW).2; have f3 := (HZ.out W hW).1; have f4 := (HZ.out W hW).2; have f5 := HEQ.out; go_simp; all_goals rfl)
          simp only [Act.put, List.setIfInBounds_toArray, List.set_cons_zero, List.set_cons_succ]
          refine wpAnyH_done (by kernel_rfl) ?_ _
          have HF : Hd (Chg [] wy wr.drew ∧ Chg (ablk us) w wr.drew) := ⟨H6.out.1.trans HWD.out, H6.out.2.trans (HWD.out.mono (by simp))⟩
          clear hHeld
          go_wp2_with fail
          go_roundw
          case rel => exact ⟨j + 1, by omega, by go_num, HF.out⟩
          case measure => simp [intOf]; omega
         ·have hji : ¬ (j : Int) < (m : Int) := by omega
          have hji2 : (m : Int) ≤ (j : Int) := by omega
          obtain ⟨b65, hb65⟩ : ∃ q, 65 + i = q := ⟨_, rfl⟩
          have hf : fbT n i j = .string (one1 b65) := by unfold fbT; rw [if_neg (by rw [HM.out]; exact hjm), hb65]
          simp only [hf] at hz
          have HZ : Hd (∀ W, Chg [] wr W → W.cell? ⟨bz, j, none⟩ = some (.string (one1 b65))) := ⟨fun W b => (hcell W b ⟨bz, j, none⟩ hzl).trans hz⟩
          have HB : Hd (IntKind.i64.wrap (65 + (i : Int)) = (b65 : Int) ∧ IntKind.u8.wrap (b65 : Int) = (b65 : Int)) := ⟨by rw [IntKind.wrap_i64]; omega, by rw [IntKind.wrap_u8]; omega⟩
          have HEQ : Hd (((one1 b65).toList == (one1 b65).toList) = true) := ⟨by simp⟩
          clear hz hcell hwo hh hC hf hb65
          go_upto_region 25 with fail
          clear hcl2
          refine wp_region_held_drew (S := fun W => Chg [] wr W) (by kernel_rfl) (Chg.refl _ wr).drew (fun hHeld => ?_)
          obtain ⟨wd, hwd⟩ : ∃ U, wr.drew = U := ⟨_, rfl⟩
          have HWD : Hd (Chg [] wr wd) := ⟨by rw [← hwd]; exact (Chg.refl _ wr).drew⟩
          rw [hwd] at hHeld ⊢
          clear hwd
          refine wpAnyH_take (i := 0) (oi := ?oi401) (v := ?v401) ?hi401 (by kernel_rfl) (by kernel_rfl) (by kernel_rfl) ?hQ401 (Or.inl ⟨?hw401, ?hy401⟩) (by assumption) ?rest401
          case hi401 => simp only [List.getElem?_toArray, List.getElem?_cons_succ, List.getElem?_cons_zero]; rfl
          case hQ401 => exact fun _ _ _ h => h
          case hw401 => rfl
          case hy401 => (intro W hW; have f1 := (HV.out W hW).1; have f2 := (HV.out W hW).2; have f3 := HZ.out W hW; have f5 := HB.out.1; have f6 := HB.out.2; go_simp; all_goals rfl)
          simp only [Act.put, List.setIfInBounds_toArray, List.set_cons_zero, List.set_cons_succ]
          refine wpAnyH_take (i := 1) (oi := ?oi402) (v := ?v402) ?hi402 (by kernel_rfl) (by kernel_rfl) (by kernel_rfl) ?hQ402 (Or.inl ⟨?hw402, ?hy402⟩) (by assumption) ?rest402
          case hi402 => simp only [List.getElem?_toArray, List.getElem?_cons_succ, List.getElem?_cons_zero]; rfl
          case hQ402 => exact fun _ _ _ h => h
          case hw402 => rfl
          case hy402 => (intro W hW; have f1 := (HV.out W hW).1; have f2 := (HV.out W hW).2; have f3 := HZ.out W hW; have f5 := HB.out.1; have f6 := HB.out.2; go_simp; all_goals rfl)
          simp only [Act.put, List.setIfInBounds_toArray, List.set_cons_zero, List.set_cons_succ]
          refine wpAnyH_take (i := 2) (oi := ?oi403) (v := ?v403) ?hi403 (by kernel_rfl) (by kernel_rfl) (by kernel_rfl) ?hQ403 (Or.inl ⟨?hw403, ?hy403⟩) (by assumption) ?rest403
          case hi403 => simp only [List.getElem?_toArray, List.getElem?_cons_succ, List.getElem?_cons_zero]; rfl
          case hQ403 => exact fun _ _ _ h => h
          case hw403 => rfl
          case hy403 => (intro W hW; have f1 := (HV.out W hW).1; have f2 := (HV.out W hW).2; have f3 := HZ.out W hW; have f5 := HB.out.1; have f6 := HB.out.2; go_simp; all_goals rfl)
          simp only [Act.put, List.setIfInBounds_toArray, List.set_cons_zero, List.set_cons_succ]
          refine wpAnyH_take (i := 3) (oi := ?oi404) (v := ?v404) ?hi404 (by kernel_rfl) (by kernel_rfl) (by kernel_rfl) ?hQ404 (Or.inl ⟨?hw404, ?hy404⟩) (by assumption) ?rest404
          case hi404 => simp only [List.getElem?_toArray, List.getElem?_cons_succ, List.getElem?_cons_zero]; rfl
          case hQ404 => exact fun _ _ _ h => h
          case hw404 => rfl
          case hy404 => (intro W hW; have f1 := (HV.out W hW).1; have f2 := (HV.out W hW).2; have f3 := HZ.out W hW; have f5 := HB.out.1; have f6 := HB.out.2; go_simp; all_goals rfl)
          simp only [Act.put, List.setIfInBounds_toArray, List.set_cons_zero, List.set_cons_succ]
          refine wpAnyH_take (i := 4) (oi := ?oi405) (v := ?v405) ?hi405 (by kernel_rfl) (by kernel_rfl) (by kernel_rfl) ?hQ405 (Or.inl ⟨?hw405, ?hy405⟩) (by assumption) ?rest405
          case hi405 => simp only [List.getElem?_toArray, List.getElem?_cons_succ, List.getElem?_cons_zero]; rfl
          case hQ405 => exact fun _ _ _ h => h
          case hw405 => rfl
          case hy405 => (intro W hW; have f1 := (HV.out W hW).1; have f2 := (HV.out W hW).2; have f3 := HZ.out W hW; have f5 := HB.out.1; have f6 := HB.out.2; go_simp; all_goals rfl)
          simp only [Act.put, List.setIfInBounds_toArray, List.set_cons_zero, List.set_cons_succ]
          refine wpAnyH_take (i := 5) (oi := ?oi406) (v := ?v406) ?hi406 (by kernel_rfl) (by kernel_rfl) (by kernel_rfl) ?hQ406 (Or.inl ⟨?hw406, ?hy406⟩) (by assumption) ?rest406
          case hi406 => simp only [List.getElem?_toArray, List.getElem?_cons_succ, List.getElem?_cons_zero]; rfl
          case hQ406 => exact fun _ _ _ h => h
          case hw406 => rfl
          case hy406 => (intro W hW; have f1 := (HV.out W hW).1; have f2 := (HV.out W hW).2; have f3 := HZ.out W hW; have f5 := HB.out.1; have f6 := HB.out.2; go_simp; all_goals rfl)
          simp only [Act.put, List.setIfInBounds_toArray, List.set_cons_zero, List.set_cons_succ]
          refine wpAnyH_take (i := 6) (oi := ?oi407) (v := ?v407) ?hi407 (by kernel_rfl) (by kernel_rfl) (by kernel_rfl) ?hQ407 (Or.inl ⟨?hw407, ?hy407⟩) (by assumption) ?rest407
          case hi407 => simp only [List.getElem?_toArray, List.getElem?_cons_succ, List.getElem?_cons_zero]; rfl
          case hQ407 => exact fun _ _ _ h => h
          case hw407 => rfl
          case hy407 => (intro W hW; have f1 := (HV.out W hW).1; have f2 := (HV.out W hW).2; have f3 := HZ.out W hW; have f5 := HB.out.1; have f6 := HB.out.2; go_simp; all_goals rfl)
          simp only [Act.put, List.setIfInBounds_toArray, List.set_cons_zero, List.set_cons_succ]
          refine wpAnyH_take (i := 7) (oi := ?oi408) (v := ?v408) ?hi408 (by kernel_rfl) (by kernel_rfl) (by kernel_rfl) ?hQ408 (Or.inl ⟨?hw408, ?hy408⟩) (by assumption) ?rest408
          case hi408 => simp only [List.getElem?_toArray, List.getElem?_cons_succ, List.getElem?_cons_zero]; rfl
          case hQ408 => exact fun _ _ _ h => h
          case hw408 => rfl
          case hy408 => (intro W hW; have f1 := (HV.out W hW).1; have f2 := (HV.out W hW).2; have f3 := HZ.out W hW; have f5 := HB.out.1; have f6 := HB.out.2; go_simp; all_goals rfl)
          simp only [Act.put, List.setIfInBounds_toArray, List.set_cons_zero, List.set_cons_succ]
          refine wpAnyH_take (i := 8) (oi := ?oi409) (v := ?v409) ?hi409 (by kernel_rfl) (by kernel_rfl) (by kernel_rfl) ?hQ409 (Or.inr ⟨?hw409, ?hv409⟩) (by assumption) ?rest409
          case hi409 => simp only [List.getElem?_toArray, List.getElem?_cons_succ, List.getElem?_cons_zero]; rfl
          case hQ409 => exact fun _ _ _ h => h
          case hw409 => rfl
          case hv409 => rfl
          simp only [Act.put, List.setIfInBounds_toArray, List.set_cons_zero, List.set_cons_succ]
          refine wpAnyH_take (i := 9) (oi := ?oi410) (v := ?v410) ?hi410 (by kernel_rfl) (by kernel_rfl) (by kernel_rfl) ?hQ410 (Or.inr ⟨?hw410, ?hv410⟩) (by assumption) ?rest410
          case hi410 => simp only [List.getElem?_toArray, List.getElem?_cons_succ, List.getElem?_cons_zero]; rfl
          case hQ410 => exact fun _ _ _ h => h
          case hw410 => rfl
          case hv410 => rfl
          simp only [Act.put, List.setIfInBounds_toArray, List.set_cons_zero, List.set_cons_succ]
          refine wpAnyH_take (i := 10) (oi := ?oi411) (v := ?v411) ?hi411 (by kernel_rfl) (by kernel_rfl) (by kernel_rfl) ?hQ411 (Or.inr ⟨?hw411, ?hv411⟩) (by assumption) ?rest411
          case hi411 => simp only [List.getElem?_toArray, List.getElem?_cons_succ, List.getElem?_cons_zero]; rfl
          case hQ411 => exact fun _ _ _ h => h
          case hw411 => rfl
          case hv411 => rfl
          simp only [Act.put, List.setIfInBounds_toArray, List.set_cons_zero, List.set_cons_succ]
          refine wpAnyH_take (i := 11) (oi := ?oi412) (v := ?v412) ?hi412 (by kernel_rfl) (by kernel_rfl) (by kernel_rfl) ?hQ412 (Or.inr ⟨?hw412, ?hv412⟩) (by assumption) ?rest412
          case hi412 => simp only [List.getElem?_toArray, List.getElem?_cons_succ, List.getElem?_cons_zero]; rfl
          case hQ412 => exact fun _ _ _ h => h
          case hw412 => rfl
          case hv412 => rfl
          simp only [Act.put, List.setIfInBounds_toArray, List.set_cons_zero, List.set_cons_succ]
          refine wpAnyH_take (i := 12) (oi := ?oi413) (v := ?v413) ?hi413 (by kernel_rfl) (by kernel_rfl) (by kernel_rfl) ?hQ413 (Or.inr ⟨?hw413, ?hv413⟩) (by assumption) ?rest413
          case hi413 => simp only [List.getElem?_toArray, List.getElem?_cons_succ, List.getElem?_cons_zero]; rfl
          case hQ413 => exact fun _ _ _ h => h
          case hw413 => rfl
          case hv413 => rfl
          simp only [Act.put, List.setIfInBounds_toArray, List.set_cons_zero, List.set_cons_succ]
          refine wpAnyH_take (i := 13) (oi := ?oi414) (v := ?v414) ?hi414 (by kernel_rfl) (by kernel_rfl) (by kernel_rfl) ?hQ414 (Or.inr ⟨?hw414, ?hv414⟩) (by assumption) ?rest414
          case hi414 => simp only [List.getElem?_toArray, List.getElem?_cons_succ, List.getElem?_cons_zero]; rfl
          case hQ414 => exact fun _ _ _ h => h
          case hw414 => rfl
          case hv414 => rfl
          simp only [Act.put, List.setIfInBounds_toArray, List.set_cons_zero, List.set_cons_succ]
          refine wpAnyH_take (i := 14) (oi := ?oi415) (v := ?v415) ?hi415 (by kernel_rfl) (by kernel_rfl) (by kernel_rfl) ?hQ415 (Or.inr ⟨?hw415, ?hv415⟩) (by assumption) ?rest415
          case hi415 => simp only [List.getElem?_toArray, List.getElem?_cons_succ, List.getElem?_cons_zero]; rfl
          case hQ415 => exact fun _ _ _ h => h
          case hw415 => rfl
          case hv415 => rfl
          simp only [Act.put, List.setIfInBounds_toArray, List.set_cons_zero, List.set_cons_succ]
          refine wpAnyH_take (i := 15) (oi := ?oi416) (v := ?v416) ?hi416 (by kernel_rfl) (by kernel_rfl) (by kernel_rfl) ?hQ416 (Or.inr ⟨?hw416, ?hv416⟩) (by assumption) ?rest416
          case hi416 => simp only [List.getElem?_toArray, List.getElem?_cons_succ, List.getElem?_cons_zero]; rfl
          case hQ416 => exact fun _ _ _ h => h
          case hw416 => rfl
          case hv416 => rfl
          simp only [Act.put, List.setIfInBounds_toArray, List.set_cons_zero, List.set_cons_succ]
          refine wpAnyH_take (i := 16) (oi := ?oi417) (v := ?v417) ?hi417 (by kernel_rfl) (by kernel_rfl) (by kernel_rfl) ?hQ417 (Or.inr ⟨?hw417, ?hv417⟩) (by assumption) ?rest417
          case hi417 => simp only [List.getElem?_toArray, List.getElem?_cons_succ, List.getElem?_cons_zero]; rfl
          case hQ417 => exact fun _ _ _ h => h
          case hw417 => rfl
          case hv417 => rfl
          simp only [Act.put, List.setIfInBounds_toArray, List.set_cons_zero, List.set_cons_succ]
          refine wpAnyH_take (i := 17) (oi := ?oi418) (v := ?v418) ?hi418 (by kernel_rfl) (by kernel_rfl) (by kernel_rfl) ?hQ418 (Or.inr ⟨?hw418, ?hv418⟩) (by assumption) ?rest418
          case hi418 => simp only [List.getElem?_toArray, List.getElem?_cons_succ, List.getElem?_cons_zero]; rfl
          case hQ418 => exact fun _ _ _ h => h
          case hw418 => rfl
          case hv418 => rfl
          simp only [Act.put, List.setIfInBounds_toArray, List.set_cons_zero, List.set_cons_succ]
          refine wpAnyH_take (i := 18) (oi := ?oi419) (v := ?v419) ?hi419 (by kernel_rfl) (by kernel_rfl) (by kernel_rfl) ?hQ419 (Or.inr ⟨?hw419, ?hv419⟩) (by assumption) ?rest419
          case hi419 => simp only [List.getElem?_toArray, List.getElem?_cons_succ, List.getElem?_cons_zero]; rfl
          case hQ419 => exact fun _ _ _ h => h
          case hw419 => rfl
          case hv419 => rfl
          simp only [Act.put, List.setIfInBounds_toArray, List.set_cons_zero, List.set_cons_succ]
          refine wpAnyH_take (i := 19) (oi := ?oi420) (v := ?v420) ?hi420 (by kernel_rfl) (by kernel_rfl) (by kernel_rfl) ?hQ420 (Or.inr ⟨?hw420, ?hv420⟩) (by assumption) ?rest420
          case hi420 => simp only [List.getElem?_toArray, List.getElem?_cons_succ, List.getElem?_cons_zero]; rfl
          case hQ420 => exact fun _ _ _ h => h
          case hw420 => rfl
          case hv420 => rfl
          simp only [Act.put, List.setIfInBounds_toArray, List.set_cons_zero, List.set_cons_succ]
          refine wpAnyH_take (i := 20) (oi := ?oi421) (v := ?v421) ?hi421 (by kernel_rfl) (by kernel_rfl) (by kernel_rfl) ?hQ421 (Or.inr ⟨?hw421, ?hv421⟩) (by assumption) ?rest421
          case hi421 => simp only [List.getElem?_toArray, List.getElem?_cons_succ, List.getElem?_cons_zero]; rfl
          case hQ421 => exact fun _ _ _ h => h
          case hw421 => rfl
          case hv421 => rfl
          simp only [Act.put, List.setIfInBounds_toArray, List.set_cons_zero, List.set_cons_succ]
          refine wpAnyH_take (i := 21) (oi := ?oi422) (v := ?v422) ?hi422 (by kernel_rfl) (by kernel_rfl) (by kernel_rfl) ?hQ422 (Or.inr ⟨?hw422, ?hv422⟩) (by assumption) ?rest422
          case hi422 => simp only [List.getElem?_toArray, List.getElem?_cons_succ, List.getElem?_cons_zero]; rfl
          case hQ422 => exact fun _ _ _ h => h
          case hw422 => rfl
          case hv422 => rfl
          simp only [Act.put, List.setIfInBounds_toArray, List.set_cons_zero, List.set_cons_succ]
          refine wpAnyH_take (i := 22) (oi := ?oi423) (v := ?v423) ?hi423 (by kernel_rfl) (by kernel_rfl) (by kernel_rfl) ?hQ423 (Or.inr ⟨?hw423, ?hv423⟩) (by assumption) ?rest423
          case hi423 => simp only [List.getElem?_toArray, List.getElem?_cons_succ, List.getElem?_cons_zero]; rfl
          case hQ423 => exact fun _ _ _ h => h
          case hw423 => rfl
          case hv423 => rfl
          simp only [Act.put, List.setIfInBounds_toArray, List.set_cons_zero, List.set_cons_succ]
          refine wpAnyH_take (i := 23) (oi := ?oi424) (v := ?v424) ?hi424 (by kernel_rfl) (by kernel_rfl) (by kernel_rfl) ?hQ424 (Or.inr ⟨?hw424, ?hv424⟩) (by assumption) ?rest424
          case hi424 => simp only [List.getElem?_toArray, List.getElem?_cons_succ, List.getElem?_cons_zero]; rfl
          case hQ424 => exact fun _ _ _ h => h
          case hw424 => rfl
          case hv424 => rfl
          simp only [Act.put, List.setIfInBounds_toArray, List.set_cons_zero, List.set_cons_succ]
          refine wpAnyH_take (i := 24) (oi := ?oi425) (v := ?v425) ?hi425 (by kernel_rfl) (by kernel_rfl) (by kernel_rfl) ?hQ425 (Or.inr ⟨?hw425, ?hv425⟩) (by assumption) ?rest425
          case hi425 => simp only [List.getElem?_toArray, List.getElem?_cons_succ, List.getElem?_cons_zero]; rfl
          case hQ425 => exact fun _ _ _ h => h
          case hw425 => rfl
          case hv425 => rfl
          simp only [Act.put, List.setIfInBounds_toArray, List.set_cons_zero, List.set_cons_succ]
          refine wpAnyH_take (i := 25) (oi := ?oi426) (v := ?v426) ?hi426 (by kernel_rfl) (by kernel_rfl) (by kernel_rfl) ?hQ426 (Or.inr ⟨?hw426, ?hv426⟩) (by assumption) ?rest426
          case hi426 => simp only [List.getElem?_toArray, List.getElem?_cons_succ, List.getElem?_cons_zero]; rfl
          case hQ426 => exact fun _ _ _ h => h
          case hw426 => rfl
          case hv426 => rfl
          simp only [Act.put, List.setIfInBounds_toArray, List.set_cons_zero, List.set_cons_succ]
          refine wpAnyH_take (i := 26) (oi := ?oi427) (v := ?v427) ?hi427 (by kernel_rfl) (by kernel_rfl) (by kernel_rfl) ?hQ427 (Or.inr ⟨?hw427, ?hv427⟩) (by assumption) ?rest427
          case hi427 => simp only [List.getElem?_toArray, List.getElem?_cons_succ, List.getElem?_cons_zero]; rfl
          case hQ427 => exact fun _ _ _ h => h
          case hw427 => rfl
          case hv427 => rfl
          simp only [Act.put, List.setIfInBounds_toArray, List.set_cons_zero, List.set_cons_succ]
          refine wpAnyH_take (i := 27) (oi := ?oi428) (v := ?v428) ?hi428 (by kernel_rfl) (by kernel_rfl) (by kernel_rfl) ?hQ428 (Or.inr ⟨?hw428, ?hv428⟩) (by assumption) ?rest428
          case hi428 => simp only [List.getElem?_toArray, List.getElem?_cons_succ, List.getElem?_cons_zero]; rfl
          case hQ428 => exact fun _ _ _ h => h
          case hw428 => rfl
          case hv428 => rfl
          simp only [Act.put, List.setIfInBounds_toArray, List.set_cons_zero, List.set_cons_succ]
          refine wpAnyH_take (i := 28) (oi := ?oi429) (v := ?v429) ?hi429 (by kernel_rfl) (by kernel_rfl) (by kernel_rfl) ?hQ429 (Or.inl ⟨?hw429, ?hy429⟩) (by assumption) ?rest429
          case hi429 => simp only [List.getElem?_toArray, List.getElem?_cons_succ, List.getElem?_cons_zero]; rfl
          case hQ429 => exact fun _ _ _ h => h
          case hw429 => rfl
          case hy429 => (intro W hW; have f1 := (HV.out W hW).1; have f2 := (HV.out W hW).2; have f3 := HZ.out W hW; have f5 := HB.out.1; have f6 := HB.out.2; go_simp; all_goals rfl)
          simp only [Act.put, List.setIfInBounds_toArray, List.set_cons_zero, List.set_cons_succ]
          refine wpAnyH_take (i := 29) (oi := ?oi430) (v := ?v430) ?hi430 (by kernel_rfl) (by kernel_rfl) (by kernel_rfl) ?hQ430 (Or.inl ⟨?hw430, ?hy430⟩) (by assumption) ?rest430
          case hi430 => simp only [List.getElem?_toArray, List.getElem?_cons_succ, List.getElem?_cons_zero]; rfl
          case hQ430 => exact fun _ _ _ h => h
          case hw430 => rfl
          case hy430 => (intro W hW; have f1 := (HV.out W hW).1; have f2 := (HV.out W hW).2; have f3 := HZ.out W hW; have f5 := HB.out.1; have f6 := HB.out.2; go_simp; all_goals rfl)
          simp only [Act.put, List.setIfInBounds_toArray, List.set_cons_zero, List.set_cons_succ]
          refine wpAnyH_take (i := 30) (oi := ?oi431) (v := ?v431) ?hi431 (by kernel_rfl) (by kernel_rfl) (by kernel_rfl) ?hQ431 (Or.inl ⟨?hw431, ?hy431⟩) (by assumption) ?rest431
          case hi431 => simp only [List.getElem?_toArray, List.getElem?_cons_succ, List.getElem?_cons_zero]; rfl
          case hQ431 => exact fun _ _ _ h => h
          case hw431 => rfl
          case hy431 => (intro W hW; have f1 := (HV.out W hW).1; have f2 := (HV.out W hW).2; have f3 := HZ.out W hW; have f5 := HB.out.1; have f6 := HB.out.2; go_simp; all_goals rfl)
          simp only [Act.put, List.setIfInBounds_toArray, List.set_cons_zero, List.set_cons_succ]
          refine wpAnyH_take (i := 31) (oi := ?oi432) (v := ?v432) ?hi432 (by kernel_rfl) (by kernel_rfl) (by kernel_rfl) ?hQ432 (Or.inl ⟨?hw432, ?hy432⟩) (by assumption) ?rest432
          case hi432 => simp only [List.getElem?_toArray, List.getElem?_cons_succ, List.getElem?_cons_zero]; rfl
          case hQ432 => exact fun _ _ _ h => h
          case hw432 => rfl
          case hy432 => (intro W hW; have f1 := (HV.out W hW).1; have f2 := (HV.out W hW).2; have f3 := HZ.out W hW; have f5 := HB.out.1; have f6 := HB.out.2; go_simp; all_goals rfl)
          simp only [Act.put, List.setIfInBounds_toArray, List.set_cons_zero, List.set_cons_succ]
          refine wpAnyH_take (i := 32) (oi := ?oi433) (v := ?v433) ?hi433 (by kernel_rfl) (by kernel_rfl) (by kernel_rfl) ?hQ433 (Or.inl ⟨?hw433, ?hy433⟩) (by assumption) ?rest433
          case hi433 => simp only [List.getElem?_toArray, List.getElem?_cons_succ, List.getElem?_cons_zero]; rfl
          case hQ433 => exact fun _ _ _ h => h
          case hw433 => rfl
          case hy433 => (intro W hW; have f1 := (HV.out W hW).1; have f2 := (HV.out W hW).2; have f3 := HZ.out W hW; have f5 := HB.out.1; have f6 := HB.out.2; go_simp; all_goals rfl)
          simp only [Act.put, List.setIfInBounds_toArray, List.set_cons_zero, List.set_cons_succ]
          refine wpAnyH_take (i := 33) (oi := ?oi434) (v := ?v434) ?hi434 (by kernel_rfl) (by kernel_rfl) (by kernel_rfl) ?hQ434 (Or.inl ⟨?hw434, ?hy434⟩) (by assumption) ?rest434
          case hi434 => simp only [List.getElem?_toArray, List.getElem?_cons_succ, List.getElem?_cons_zero]; rfl
          case hQ434 => exact fun _ _ _ h => h
          case hw434 => rfl
          case hy434 => (intro W hW; have f1 := (HV.out W hW).1; have f2 := (HV.out W hW).2; have f3 := HZ.out W hW; have f5 := HB.out.1; have f6 := HB.out.2; go_simp; all_goals rfl)
          simp only [Act.put, List.setIfInBounds_toArray, List.set_cons_zero, List.set_cons_succ]
          refine wpAnyH_take (i := 34) (oi := ?oi435) (v := ?v435) ?hi435 (by kernel_rfl) (by kernel_rfl) (by kernel_rfl) ?hQ435 (Or.inl ⟨?hw435, ?hy435⟩) (by assumption) ?rest435
          case hi435 => simp only [List.getElem?_toArray, List.getElem?_cons_succ, List.getElem?_cons_zero]; rfl
          case hQ435 => exact fun _ _ _ h => h
          case hw435 => rfl
          case hy435 => (intro W hW; have f1 := (HV.out W hW).1; have f2 := (HV.out W hW).2; have f3 := HZ.out W hW; have f5 := HB.out.1; have f6 := HB.out.2; go_simp; all_goals rfl)
          simp only [Act.put, List.setIfInBounds_toArray, List.set_cons_zero, List.set_cons_succ]
          refine wpAnyH_take (i := 35) (oi := ?oi436) (v := ?v436) ?hi436 (by kernel_rfl) (by kernel_rfl) (by kernel_rfl) ?hQ436 (Or.inl ⟨?hw436, ?hy436⟩) (by assumption) ?rest436
          case hi436 => simp only [List.getElem?_toArray, List.getElem?_cons_succ, List.getElem?_cons_zero]; rfl
          case hQ436 => exact fun _ _ _ h => h
          case hw436 => rfl
          case hy436 => (intro W hW; have f1 := (HV.out W hW).1; have f2 := (HV.out W hW).2; have f3 := HZ.out W hW; have f5 := HB.out.1; have f6 := HB.out.2; go_simp; all_goals rfl)
          simp only [Act.put, List.setIfInBounds_toArray, List.set_cons_zero, List.set_cons_succ]
          refine wpAnyH_take (i := 36) (oi := ?oi437) (v := ?v437) ?hi437 (by kernel_rfl) (by kernel_rfl) (by kernel_rfl) ?hQ437 (Or.inl ⟨?hw437, ?hy437⟩) (by assumption) ?rest437
          case hi437 => simp only [List.getElem?_toArray, List.getElem?_cons_succ, List.getElem?_cons_zero]; rfl
          case hQ437 => exact fun _ _ _ h => h
          case hw437 => rfl
          case hy437 => (intro W hW; have f1 := (HV.out W hW).1; have f2 := (HV.out W hW).2; have f3 := HZ.out W hW; have f5 := HB.out.1; have f6 := HB.out.2; go_simp; all_goals rfl)
          simp only [Act.put, List.setIfInBounds_toArray, List.set_cons_zero, List.set_cons_succ]
          refine wpAnyH_take (i := 37) (oi := ?oi438) (v := ?v438) ?hi438 (by kernel_rfl) (by kernel_rfl) (by kernel_rfl) ?hQ438 (Or.inl ⟨?hw438, ?hy438⟩) (by assumption) ?rest438
          case hi438 => simp only [List.getElem?_toArray, List.getElem?_cons_succ, List.getElem?_cons_zero]; rfl
          case hQ438 => exact fun _ _ _ h => h
          case hw438 => rfl
          case hy438 => (intro W hW; have f1 := (HV.out W hW).1; have f2 := (HV.out W hW).2; have f3 := HZ.out W hW; have f5 := HB.out.1; have f6 := HB.out.2; go_simp; all_goals rfl)
          simp only [Act.put, List.setIfInBounds_toArray, List.set_cons_zero, List.set_cons_succ]
          refine wpAnyH_take (i := 38) (oi := ?oi439) (v := ?v439) ?hi439 (by kernel_rfl) (by kernel_rfl) (by kernel_rfl) ?hQ439 (Or.inl ⟨?hw439, ?hy439⟩) (by assumption) ?rest439
          case hi439 => simp only [List.getElem?_toArray, List.getElem?_cons_succ, List.getElem?_cons_zero]; rfl
          case hQ439 => exact fun _ _ _ h => h
          case hw439 => rfl
          case hy439 => (intro W hW; have f1 := (HV.out W hW).1; have f2 := (HV.out W hW).2; have f3 := HZ.out W hW; have f5 := HB.out.1; have f6 := HB.out.2; go_simp; all_goals rfl)
          simp only [Act.put, List.setIfInBounds_toArray, List.set_cons_zero, List.set_cons_succ]
          refine wpAnyH_take (i := 39) (oi := ?oi440) (v := ?v440) ?hi440 (by kernel_rfl) (by kernel_rfl) (by kernel_rfl) ?hQ440 (Or.inl ⟨?hw440, ?hy440⟩) (by assumption) ?rest440
          case hi440 => simp only [List.getElem?_toArray, List.getElem?_cons_succ, List.getElem?_cons_zero]; rfl
          case hQ440 => exact fun _ _ _ h => h
          case hw440 => rfl
          case hy440 => (intro W hW; have f1 := (HV.out W hW).1; have f2 := (HV.out W hW).2; have f3 := HZ.out W hW; have f5 := HB.out.1; have f6 := HB.out.2; go_simp; all_goals rfl)
          simp only [Act.put, List.setIfInBounds_toArray, List.set_cons_zero, List.set_cons_succ]
          refine wpAnyH_take (i := 40) (oi := ?oi441) (v := ?v441) ?hi441 (by kernel_rfl) (by kernel_rfl) (by kernel_rfl) ?hQ441 (Or.inl ⟨?hw441, ?hy441⟩) (by assumption) ?rest441
          case hi441 => simp only [List.getElem?_toArray, List.getElem?_cons_succ, List.getElem?_cons_zero]; rfl
          case hQ441 => exact fun _ _ _ h => h
          case hw441 => rfl
          case hy441 => (intro W hW; have f1 := (HV.out W hW).1; have f2 := (HV.out W hW).2; have f3 := HZ.out W hW; have f5 := HB.out.1; have f6 := HB.out.2; go_simp; all_goals rfl)
          simp only [Act.put, List.setIfInBounds_toArray, List.set_cons_zero, List.set_cons_succ]
          refine wpAnyH_take (i := 41) (oi := ?oi442) (v := ?v442) ?hi442 (by kernel_rfl) (by kernel_rfl) (by kernel_rfl) ?hQ442 (Or.inl ⟨?hw442, ?hy442⟩) (by assumption) ?rest442
          case hi442 => simp only [List.getElem?_toArray, List.getElem?_cons_succ, List.getElem?_cons_zero]; rfl
          case hQ442 => exact fun _ _ _ h => h
          case hw442 => rfl
          case hy442 => (intro W hW; have f1 := (HV.out W hW).1; have f2 := (HV.out W hW).2; have f3 := HZ.out W hW; have f5 := HB.out.1; have f6 := HB.out.2; go_simp; all_goals rfl)
          simp only [Act.put, List.setIfInBounds_toArray, List.set_cons_zero, List.set_cons_succ]
          refine wpAnyH_take (i := 42) (oi := ?oi443) (v := ?v443) ?hi443 (by kernel_rfl) (by kernel_rfl) (by kernel_rfl) ?hQ443 (Or.inl ⟨?hw443, ?hy443⟩) (by assumption) ?rest443
          case hi443 => simp only [List.getElem?_toArray, List.getElem?_cons_succ, List.getElem?_cons_zero]; rfl
          case hQ443 => exact fun _ _ _ h => h
          case hw443 => rfl
          case hy443 => (intro W hW; have f1 := (HV.out W hW).1; have f2 := (HV.out W hW).2; have f3 := HZ.out W hW; have f5 := HB.out.1; have f6 := HB.out.2; go_simp; all_goals rfl)
          simp only [Act.put, List.setIfInBounds_toArray, List.set_cons_zero, List.set_cons_succ]
          refine wpAnyH_take (i := 43) (oi := ?oi444) (v := ?v444) ?hi444 (by kernel_rfl) (by kernel_rfl) (by kernel_rfl) ?hQ444 (Or.inl ⟨?hw444, ?hy444⟩) (by assumption) ?rest444
          case hi444 => simp only [List.getElem?_toArray, List.getElem?_cons_succ, List.getElem?_cons_zero]; rfl
          case hQ444 => exact fun _ _ _ h => h
          case hw444 => rfl
          case hy444 => (intro W hW; have f1 := (HV.out W hW).1; have f2 := (HV.out W hW).2; have f3 := HZ.out W hW; have f5 := HB.out.1; have f6 := HB.out.2; go_simp; all_goals rfl)
          simp only [Act.put, List.setIfInBounds_toArray, List.set_cons_zero, List.set_cons_succ]
          refine wpAnyH_take (i := 44) (oi := ?oi445) (v := ?v445) ?hi445 (by kernel_rfl) (by kernel_rfl) (by kernel_rfl) ?hQ445 (Or.inl ⟨?hw445, ?hy445⟩) (by assumption) ?rest445
          case hi445 => simp only [List.getElem?_toArray, List.getElem?_cons_succ, List.getElem?_cons_zero]; rfl
          case hQ445 => exact fun _ _ _ h => h
          case hw445 => rfl
          case hy445 => (intro W hW; have f1 := (HV.out W hW).1; have f2 := (HV.out W hW).2; have f3 := HZ.out W hW; have f5 := HB.out.1; have f6 := HB.out.2; go_simp; all_goals rfl)
          simp only [Act.put, List.setIfInBounds_toArray, List.set_cons_zero, List.set_cons_succ]
          refine wpAnyH_take (i := 45) (oi := ?oi446) (v := ?v446) ?hi446 (by kernel_rfl) (by kernel_rfl) (by kernel_rfl) ?hQ446 (Or.inl ⟨?hw446, ?hy446⟩) (by assumption) ?rest446
          case hi446 => simp only [List.getElem?_toArray, List.getElem?_cons_succ, List.getElem?_cons_zero]; rfl
          case hQ446 => exact fun _ _ _ h => h
          case hw446 => rfl
          case hy446 => (intro W hW; have f1 := (HV.out W hW).1; have f2 := (HV.out W hW).2; have f3 := HZ.out W hW; have f5 := HB.out.1; have f6 := HB.out.2; go_simp; all_goals rfl)
          simp only [Act.put, List.setIfInBounds_toArray, List.set_cons_zero, List.set_cons_succ]
          refine wpAnyH_take (i := 46) (oi := ?oi447) (v := ?v447) ?hi447 (by kernel_rfl) (by kernel_rfl) (by kernel_rfl) ?hQ447 (Or.inl ⟨?hw447, ?hy447⟩) (by assumption) ?rest447
          case hi447 => simp only [List.getElem?_toArray, List.getElem?_cons_succ, List.getElem?_cons_zero]; rfl
          case hQ447 => exact fun _ _ _ h => h
          case hw447 => rfl
          case hy447 => (intro W hW; have f1 := (HV.out W hW).1; have f2 := (HV.out W hW).2; have f3 := HZ.out W hW; have f5 := HB.out.1; have f6 := HB.out.2; go_simp; all_goals rfl)
          simp only [Act.put, List.setIfInBounds_toArray, List.set_cons_zero, List.set_cons_succ]
          refine wpAnyH_take (i := 47) (oi := ?oi448) (v := ?v448) ?hi448 (by kernel_rfl) (by kernel_rfl) (by kernel_rfl) ?hQ448 (Or.inl ⟨?hw448, ?hy448⟩) (by assumption) ?rest448
          case hi448 => simp only [List.getElem?_toArray, List.getElem?_cons_succ, List.getElem?_cons_zero]; rfl
          case hQ448 => exact fun _ _ _ h => h
          case hw448 => rfl
          case hy448 => (intro W hW; have f1 := (HV.out W hW).1; have f2 := (HV.out W hW).2; have f3 := HZ.out W hW; have f5 := HB.out.1; have f6 := HB.out.2; go_simp; all_goals rfl)
          simp only [Act.put, List.setIfInBounds_toArray, List.set_cons_zero, List.set_cons_succ]
          refine wpAnyH_ready (rs := [48]) (by kernel_rfl) (by simp) ?_
          refine AllReadyH.cons (i := 48) (o := ?oR5) ?hoR5 (fun Kq hK => ?stR5) AllReadyH.nil
          case hoR5 => simp only [List.getElem?_toArray, List.getElem?_cons_succ, List.getElem?_cons_zero]; rfl
          go_simp
          obtain ⟨wa, hwa⟩ : ∃ U, wd.alloc (.cells #[.int .u8 (b65 : Int)] 5) = U := ⟨_, rfl⟩
          have f15 := conv_one wd b65
          obtain ⟨gn, hgn⟩ : ∃ q, wd.heap.size = q := ⟨_, rfl⟩
          rw [hwa, hgn] at f15
          have HWA : Hd (Chg [] wr wa) := ⟨by rw [← hwa]; exact HWD.out.alloc _⟩
          try rw [hwa]
          try rw [hgn]
          refine hK.out _ _ (HWA.out) (fun _ => ?_)
          clear hK Kq hwa hgn
          try simp only [Act.put, List.setIfInBounds_toArray, List.set_cons_zero, List.set_cons_succ]
          refine wpAnyH_ready (rs := [49]) (by kernel_rfl) (by simp) ?_
          refine AllReadyH.cons (i := 49) (o := ?oR4) ?hoR4 (fun Kq hK => ?stR4) AllReadyH.nil
          case hoR4 => simp only [List.getElem?_toArray, List.getElem?_cons_succ, List.getElem?_cons_zero]; rfl
          go_simp
          refine hK.out _ _ (HWA.out) (fun _ => ?_)
          clear hK Kq f15
          try simp only [Act.put, List.setIfInBounds_toArray, List.set_cons_zero, List.set_cons_succ]
          refine wpAnyH_take (i := 50) (oi := ?oi501) (v := ?v501) ?hi501 (by kernel_rfl) (by kernel_rfl) (by kernel_rfl) ?hQ501 (Or.inl ⟨?hw501, ?hy501⟩) (by assumption) ?rest501
          case hi501 => simp only [List.getElem?_toArray, List.getElem?_cons_succ, List.getElem?_cons_zero]; rfl
          case hQ501 => exact fun _ _ _ h => h
          case hw501 => rfl
          case hy501 => (intro W hW; have f5 := HEQ.out; go_simp; all_goals rfl)
          simp only [Act.put, List.setIfInBounds_toArray, List.set_cons_zero, List.set_cons_succ]
          refine wpAnyH_take (i := 51) (oi := ?oi502) (v := ?v502) ?hi502 (by kernel_rfl) (by kernel_rfl) (by kernel_rfl) ?hQ502 (Or.inl ⟨?hw502, ?hy502⟩) (by assumption) ?rest502
          case hi502 => simp only [List.getElem?_toArray, List.getElem?_cons_succ, List.getElem?_cons_zero]; rfl
          case hQ502 => exact fun _ _ _ h => h
          case hw502 => rfl
          case hy502 => (intro W hW; have f5 := HEQ.out; go_simp; all_goals rfl)
          simp only [Act.put, List.setIfInBounds_toArray, List.set_cons_zero, List.set_cons_succ]
          refine wpAnyH_take (i := 52) (oi := ?oi503) (v := ?v503) ?hi503 (by kernel_rfl) (by kernel_rfl) (by kernel_rfl) ?hQ503 (Or.inl ⟨?hw503, ?hy503⟩) (by assumption) ?rest503
          case hi503 => simp only [List.getElem?_toArray, List.getElem?_cons_succ, List.getElem?_cons_zero]; rfl
          case hQ503 => exact fun _ _ _ h => h
          case hw503 => rfl
          case hy503 => (intro W hW; have f5 := HEQ.out; go_simp; all_goals rfl)
          simp only [Act.put, List.setIfInBounds_toArray, List.set_cons_zero, List.set_cons_succ]
          refine wpAnyH_done (by kernel_rfl) ?_ _
          have HF : Hd (Chg [] wy wa ∧ Chg (ablk us) w wa) := ⟨H6.out.1.trans HWA.out, H6.out.2.trans (HWA.out.mono (by simp))⟩
          clear hHeld
          go_wp2_with fail
          go_roundw
          case rel => exact ⟨j + 1, by omega, by go_num, HF.out⟩
          case measure => simp [intOf]; omega
        ·have hjm : j = m + 64 := by omega
         subst hjm
         clear hcell hwo hh hC
         go_wp2_with fail
         go_roundw
         case rel => exact ⟨i + 1, by omega, by go_num, H6.out⟩
         case measure => simp [intOf]; omega
      ·have hiL : L = i := by omega
       subst hiL
       clear hcell hh hC
       go_wp2_with fail
       go_ret
       exact ⟨rfl, H5.out.2⟩
end Go.Proofs.Ytbcmjjcbjojakaa
