/- Put together of: ApartB AsksWalk MemT MemV. -/
import Derived.Test.YtbcmjjcbjojakaaPk12
import Derived.Test.YtbcmjjcbjojakaaPk2
import Derived.Test.YtbcmjjcbjojakaaPk3
import Derived.Test.YtbcmjjcbjojakaaPk13
import Derived.Test.YtbcmjjcbjojakaaMsgX
import Derived.Test.YtbcmjjcbjojakaaPk10
import Derived.Test.YtbcmjjcbjojakaaPk11
import Derived.Test.YtbcmjjcbjojakaaTellC
section
namespace Go.Proofs.Ytbcmjjcbjojakaa
open Go.RowKit
set_option linter.unusedVariables false
theorem own_at {w : World} {base e g n cap : Nat} {xs : List Value} (h : w.ownsRow base e 1 (.slice (some ⟨g, 0, none⟩) n cap) n xs) {j : Nat} {u : Value} (hj : xs[j]? = some u) : w.cell? ⟨g, j, none⟩ = some u ∧ w.frozen? ⟨g, j, none⟩ = false := by
 have h1 := h.cells (g := g) rfl j u hj
 rw [show (⟨g, 0, none⟩ : Addr).add j = ⟨g, j, none⟩ by unfold Addr.add; split <;> simp_all] at h1
 refine ⟨h1, ?_⟩
 rcases h.2 with ⟨hv, _⟩ | ⟨g', cap', cur, hv, hb, hg, _⟩
 ·cases hv
 ·cases hv
  simp [World.frozen?, hg]
theorem elB1 : ElN Try.prog 26 5 1 1 := elB.toN
theorem infoBB : (Try.prog.info? 26).map (fun i => (i.zero, i.size, i.bytes)) = some (some (.slice none 0 0), 1, 24) := by kernel_rfl
theorem elBB : El Try.prog 89 26 24 (.slice none 0 0) := ⟨Try.underlying89, info_parts infoBB, rfl⟩
def fbB (n : Nat → Nat) (i t : Nat) : Value := if t < n i then .int .u8 (2 * (i : Int)) else .int .u8 (2 * (i : Int) + 1)
set_option maxRecDepth 20000 in
set_option maxHeartbeats 4000000 in
theorem bytesApart_any (w : World) (base L c : Nat) (A : Option Addr) (us : List Value) (n : Nat → Nat) (hL : us.length = L) (H : Fil w base 26 5 (.slice A L c) us n (fbB n) (fun _ _ => False)) (hl : L ≤ 100) (hn : ∀ i, n i ≤ 140737488355000) (hbase : base ≤ w.heap.size) :
  Calls Try.prog 38 #[.slice A L c] w fun e w' => e = .returned (.bool true) ∧ Chg (ablk us) w w' := by
 have HH : Hd (Fil w base 26 5 (.slice A L c) us n (fbB n) (fun _ _ => False) ∧ us.length = L ∧ base ≤ w.heap.size ∧ (∀ i, n i ≤ 140737488355000)) := ⟨H, hL, hbase, hn⟩
 clear H hL hbase hn
 go_enter Try.func38, Try.ntmps38
 go_wp2_with fail
 go_loopw [3] (fun u3 wr => ∃ i : Nat, i ≤ L ∧ u3 = .int .i64 (i : Int) ∧ Fil wr base 26 5 (.slice A L c) us n (fbB n) (fun k _ => k < i) ∧ Chg (ablk us) w wr) (fun u3 _ => L - (intOf u3).toNat)
 case atStart => exact ⟨0, by omega, rfl, HH.out.1.imp fun k s _ h => absurd h (by omega), Chg.refl _ _⟩
 case round =>
  obtain ⟨i, hi, rfl, hF, hC⟩ := hrel
  have H1 := Hd.mk (And.intro hF hC)
  clear hF hC
  by_cases hlt : i < L
  ·have hii : (i : Int) < (L : Int) := by omega
   obtain ⟨u, hu⟩ : ∃ u, us[i]? = some u := ⟨_, List.getElem?_eq_getElem (by rw [HH.out.2.1]; exact hlt)⟩
   have ho := H1.out.1.out
   rw [HH.out.2.1] at ho
   obtain ⟨gv, cv, e, _, hgv⟩ := own_pos ho (by omega)
   cases e
   obtain ⟨xs, hr, hd⟩ := H1.out.1.row i u hu
   obtain ⟨Ai, ci, hui, _, _⟩ := own_form hr
   subst hui
   obtain ⟨m, hm⟩ : ∃ m, n i = m := ⟨_, rfl⟩
   have hm2 := HH.out.2.2.2 i
   have HM := Hd.mk hm
   rw [hm] at hm2 hr
   have HU : Hd (us[i]? = some (.slice Ai m ci) ∧ True) := ⟨by rw [← hm]; exact hu, trivial⟩
   obtain ⟨wo, hwo⟩ : ∃ wo : World, wo = wr := ⟨_, rfl⟩
   subst hwo
   clear hr hd hu ho hm
   go_wp2_with fail
   go_loopw [4] (fun u4 wr => ∃ j : Nat, j ≤ m ∧ u4 = .int .i64 (j : Int) ∧ Fil wr base 26 5 (.slice (some ⟨gv, 0, none⟩) L c) us n (fbB n) (fun k s => k < i ∨ (k = i ∧ s < j)) ∧ Chg (ablk us) w wr) (fun u4 _ => m - (intOf u4).toNat)
   case atStart => exact ⟨0, by omega, rfl, H1.out.1.imp fun k s _ h => Or.elim h id (fun h => absurd h.2 (by omega)), H1.out.2⟩
   case round =>
    obtain ⟨j, hj, rfl, hF, hC⟩ := hrel
    have H2 := Hd.mk (And.intro hF hC)
    have ho := hF.out
    rw [HH.out.2.1] at ho
    obtain ⟨xs2, hr, hd⟩ := hF.row i _ HU.out.1
    have hcv := (own_at ho (j := i) (u := .slice Ai m ci) HU.out.1).1
    clear hF hC ho hd
    by_cases hjl : j < m
    ·have hji : (j : Int) < (m : Int) := by omega
     rw [HM.out] at hr
     obtain ⟨g, c2, e, _, hg⟩ := own_pos hr (by omega)
     cases e
     obtain ⟨old, hold⟩ : ∃ old, xs2[j]? = some old := ⟨_, List.getElem?_eq_getElem (by have := hr.1; omega)⟩
     obtain ⟨hc1, hc2⟩ := own_at hr hold
     have HR := Hd.mk (And.intro hr hg)
     have hb1 : (2 * (i : Int)) % 256 = 2 * (i : Int) := by omega
     clear hr hold hg
     go_wp2_with fail
     go_roundw
     case rel =>
      refine ⟨j + 1, by omega, by go_num, ?_, H2.out.2.setCell (show g ∈ ablk us from blk_mem HU.out.1 rfl) _⟩
      have h := H2.out.1.set (i := i) (t := j) (g := g) (c := ci) (D' := fun k s => k < i ∨ (k = i ∧ s < j + 1)) (by rw [HM.out]; exact HU.out.1) (by rw [HM.out]; exact hjl) (fun k s h => by omega)
      rw [show fbB n i j = .int .u8 (2 * (i : Int)) by unfold fbB; rw [if_pos (by rw [HM.out]; exact hjl)]] at h
      exact h
     case measure => simp [intOf]; omega
    ·have hjm : j = m := by omega
     subst hjm
     go_wp2_with fail
     go_roundw
     case rel => exact ⟨i + 1, by omega, by go_num, H2.out.1.imp fun k s hs h => by
      rcases Nat.lt_or_ge k i with h1 | h1
      ·exact .inl h1
      ·have : k = i := by omega
       subst this
       exact .inr ⟨rfl, by rw [← HM.out]; exact hs⟩, H2.out.2⟩
     case measure => simp [intOf]; omega
  ·have hiL : i = L := by omega
   subst hiL
   have HG : Hd (Gro w wr base 5 (O2 (.slice A i c) 26 us (.slice none 0 0) 26 []) us n (fbB n) 0 []) := ⟨Gro.start (by rw [HH.out.2.1]; exact H1.out.1) H1.out.2⟩
   clear H1
   obtain ⟨L, hL⟩ : ∃ L, L = i := ⟨_, rfl⟩
   subst hL
   go_wp2_with fail
   obtain ⟨wz, hwz⟩ : ∃ wz : World, wz = wr := ⟨_, rfl⟩
   subst hwz
   go_loopw [5, 6] (fun u5 u6 wr => ∃ (i : Nat) (ls : List Value) (S : List (Value × Nat × Nat)), i ≤ L ∧ u6 = .int .i64 (i : Int) ∧ ls.length = i ∧ Gro w wr base 5 (O2 (.slice A L c) 26 us u5 26 ls) us n (fbB n) i S ∧ (∀ (q : Nat) (z : Value), ls[q]? = some z → (z, q, n q + 64) ∈ S) ∧ (∀ (k : Nat) (z : Value), k < i → us[k]? = some z → (z, k, n k) ∈ S)) (fun _ u6 _ => L - (intOf u6).toNat)
   case atStart => exact ⟨0, [], [], by omega, rfl, rfl, HG.out, fun q z h => by simp at h, fun k z h => absurd h (by omega)⟩
   case round =>
    obtain ⟨i, ls, S, hi, rfl, hll, hG, hs1, hs2⟩ := hrel
    have H1 := Hd.mk (And.intro hG (And.intro hll (And.intro hs1 hs2)))
    clear hG hll hs1 hs2
    by_cases hlt : i < L
    ·have hii : (i : Int) < (L : Int) := by omega
     obtain ⟨u, hu⟩ : ∃ u, us[i]? = some u := ⟨_, List.getElem?_eq_getElem (by rw [HH.out.2.1]; exact hlt)⟩
     have HC := Hd.mk (H1.out.1.enter hu)
     have ho : wr.ownsRow base 26 1 (.slice A L c) us.length us := H1.out.1.out 0
     rw [HH.out.2.1] at ho
     obtain ⟨gv, cv, e, _, hgv⟩ := own_pos ho (by omega)
     cases e
     have hcv := (own_at ho hu).1
     obtain ⟨Ai, ci, hui, _, _⟩ := own_form (H1.out.1.rest i u (Nat.le_refl _) hu)
     obtain ⟨m, hm⟩ : ∃ m, n i = m := ⟨_, rfl⟩
     have hm2 := HH.out.2.2.2 i
     have HM := Hd.mk hm
     rw [hm] at hm2 hui HC
     have HU := Hd.mk (And.intro hu hui)
     rw [hui] at hcv
     obtain ⟨wo, hwo⟩ : ∃ wo : World, wo = wr := ⟨_, rfl⟩
     subst hwo
     clear hu hui ho hm
     go_wp2_with fail
     go_loopw [7, 8] (fun u7 u8 wr => ∃ k : Nat, k ≤ 64 ∧ u8 = .int .i64 (k : Int) ∧ Cur w wr base 5 (O2 (.slice (some ⟨gv, 0, none⟩) L c) 26 us u5 26 ls) us n (fbB n) i S u7 (m + k) [(u, i, m)]) (fun _ u8 _ => 64 - (intOf u8).toNat)
     case atStart => exact ⟨0, by omega, rfl, by rw [← HU.out.2]; exact HC.out⟩
     case round =>
      obtain ⟨k, hk, rfl, hc⟩ := hrel
      have H2 := Hd.mk hc
      have hws : base ≤ wr.heap.size := Nat.le_trans HH.out.2.2.1 hc.gro.chg.size
      clear hc
      by_cases hkl : k < 64
      ·have hb1 : (2 * (i : Int) + 1) % 256 = 2 * (i : Int) + 1 := by omega
       have h63 : Hd (m + k + 1 ≤ maxLen) := ⟨by unfold maxLen; omega⟩
       have hby : Hd ((m + k + 1) * 1 ≤ 140737488355328) := ⟨by omega⟩
       go_wp2_with (at_builtin; refine pushSN_at0 elB1 rfl (.tmp 49) (.tmp 54) rfl base u7 (m + k) (cellsF (fbB n i) (m + k)) [.int .u8 (2 * (i : Int) + 1)] rfl wr.heap.size rfl rfl rfl (by simp [Value.oneCell']) H2.out.own h63.out hby.out hws ?_; intro v2 w2 hO2; have H3 := Hd.mk hO2; clear hO2)
       go_roundw
       case rel =>
        refine ⟨k + 1, by omega, by go_num, ?_⟩
        exact H2.out.app1 (by unfold fbB; rw [if_neg (by rw [HM.out]; omega)]) H3.out
       case measure => simp [intOf]; omega
      ·have hk64 : k = 64 := by omega
       subst hk64
       have h63 : Hd (i + 1 ≤ maxLen) := ⟨by unfold maxLen; omega⟩
       have hby : Hd ((i + 1) * 24 ≤ 140737488355328) := ⟨by omega⟩
       obtain ⟨A7, c7, h7, _, _⟩ := own_form H2.out.own
       subst h7
       have ho5 : Hd (wr.ownsRow base 26 1 u5 i ls) := ⟨by have := H2.out.gro.out 1; rw [← H1.out.2.1]; exact this⟩
       go_wp2_with (refine at_buildSlice ?_; refine wpList_push elBB rfl rfl (.tmp 56) (.tmp 57) 58 rfl rfl rfl base u5 i ls (.slice A7 (m + 64) c7) rfl rfl rfl rfl ho5.out h63.out hby.out hws ?_; intro v2 w2 hO2; have H3 := Hd.mk hO2; clear hO2)
       go_roundw
       case rel =>
        refine ⟨i + 1, ls ++ [.slice A7 (m + 64) c7], _, by omega, by go_num, by rw [List.length_append, H1.out.2.1]; rfl, (H2.out.push (q := 1) (O' := O2 (.slice (some ⟨gv, 0, none⟩) L c) 26 us v2 26 (ls ++ [.slice A7 (m + 64) c7])) (y := .slice A7 (m + 64) c7) (M' := [(.slice A7 (m + 64) c7, i, m + 64), (u, i, m)]) (by decide) rfl (by rw [H1.out.2.1]; exact H3.out) rfl O2_other (fun x hx => by
         rcases List.mem_cons.1 hx with h | h
         ·exact .inr h
         ·exact .inl h)).leave, fun q z hz => ?_, fun k z hk hz => ?_⟩
        ·rcases Nat.lt_or_ge q ls.length with h | h
         ·rw [List.getElem?_append_left h] at hz
          exact List.mem_append_right _ (H1.out.2.2.1 q z hz)
         ·have hq := (List.getElem?_eq_some_iff.1 hz).1
          have hq2 : q = ls.length := by simp at hq; omega
          subst hq2
          rw [List.getElem?_append_right (Nat.le_refl _)] at hz
          simp at hz
          subst hz
          rw [H1.out.2.1, HM.out]
          exact List.mem_append_left _ (by simp)
        ·rcases Nat.lt_or_ge k i with h | h
         ·exact List.mem_append_right _ (H1.out.2.2.2 k z h hz)
         ·have hq2 : k = i := by omega
          subst hq2
          have : u = z := by have := HU.out.1; rw [hz] at this; injection this with this; exact this.symm
          subst this
          rw [HM.out]
          exact List.mem_append_left _ (by simp)
       case measure => simp [intOf]; omega
    ·have hiL : i = L := by omega
     subst hiL
     have H4 : Hd ((∀ (q : Nat) (z : Value), ls[q]? = some z → SnapOf wr (fbB n) (z, q, n q + 64)) ∧ (∀ (k : Nat) (z : Value), us[k]? = some z → SnapOf wr (fbB n) (z, k, n k)) ∧ Chg (ablk us) w wr ∧ wr.ownsRow base 26 1 (.slice A i c) i us ∧ wr.ownsRow base 26 1 u5 i ls) :=
      ⟨fun q z h => (H1.out.1.snap _ (H1.out.2.2.1 q z h)).1, fun k z h => (H1.out.1.snap _ (H1.out.2.2.2 k z (by rw [← HH.out.2.1]; exact (List.getElem?_eq_some_iff.1 h).1) h)).1, H1.out.1.chg, by have := H1.out.1.out 0; rw [← HH.out.2.1] at this ⊢; exact this, by have := H1.out.1.out 1; rw [← H1.out.2.1]; exact this⟩
     have HL : Hd (us.length = i ∧ ls.length = i) := ⟨HH.out.2.1, H1.out.2.1⟩
     clear H1
     obtain ⟨L, hL⟩ : ∃ L, L = i := ⟨_, rfl⟩
     subst hL
     obtain ⟨wy, hwy⟩ : ∃ wy : World, wy = wr := ⟨_, rfl⟩
     subst hwy
     go_wp2_with fail
     go_loopw [9] (fun u9 wr => ∃ (i : Nat), i ≤ L ∧ u9 = .int .i64 (i : Int) ∧ wr.heap = wy.heap ∧ Chg (ablk us) w wr) (fun u9 _ => L - (intOf u9).toNat)
     case atStart => exact ⟨0, by omega, rfl, rfl, H4.out.2.2.1⟩
     case round =>
      obtain ⟨i, hi, rfl, hh, hC⟩ := hrel
      have H5 := Hd.mk (And.intro hh hC)
      have hcell : ∀ p : Addr, wr.cell? p = wy.cell? p := fun p => by simp [World.cell?, hh]
      by_cases hlt : i < L
      ·have hii : (i : Int) < (L : Int) := by omega
       obtain ⟨u, hu⟩ : ∃ u, us[i]? = some u := ⟨_, List.getElem?_eq_getElem (by rw [HL.out.1]; exact hlt)⟩
       obtain ⟨z, hz⟩ : ∃ z, ls[i]? = some z := ⟨_, List.getElem?_eq_getElem (by rw [HL.out.2]; exact hlt)⟩
       have ho := H4.out.2.2.2.1
       obtain ⟨gv, cv, e, _, hgv⟩ := own_pos ho (by omega)
       cases e
       have ho5 := H4.out.2.2.2.2
       obtain ⟨gl, cl, e, _, hgl⟩ := own_pos ho5 (by omega)
       subst e
       have hcv := (hcell _).trans (own_at ho hu).1
       have hcl := (hcell _).trans (own_at ho5 hz).1
       have hsu := H4.out.2.1 i u hu
       have hsz := H4.out.1 i z hz
       obtain ⟨Ai, ci, hui⟩ := hsu.form
       obtain ⟨Az, cz, hzi⟩ := hsz.form
       simp only at hui hzi
       obtain ⟨m, hm⟩ : ∃ m, n i = m := ⟨_, rfl⟩
       have hm2 := HH.out.2.2.2 i
       have HM := Hd.mk hm
       rw [hm] at hm2 hui hzi hsu hsz
       subst hui hzi
       have HS := Hd.mk (And.intro hsu hsz)
       obtain ⟨wo, hwo⟩ : ∃ wo : World, wo = wr := ⟨_, rfl⟩
       subst hwo
       clear hsu hsz hu hz ho ho5 hm hh hC hcell
       have HCC := Hd.mk (And.intro hcv hcl)
       go_wp2_with fail
       go_loopw [10] (fun u10 wr => ∃ j : Nat, j ≤ m + 64 ∧ u10 = .int .i64 (j : Int) ∧ wr.heap = wy.heap ∧ Chg (ablk us) w wr) (fun u10 _ => m + 64 - (intOf u10).toNat)
       case atStart => exact ⟨0, by omega, rfl, H5.out⟩
       case round =>
        obtain ⟨j, hj, rfl, hh, hC⟩ := hrel
        have H6 := Hd.mk (And.intro hh hC)
        have hcell : ∀ p : Addr, wr.cell? p = wy.cell? p := fun p => by simp [World.cell?, hh]
        have hcv2 := (hcell ⟨gv, i, none⟩).trans ((World.cell?_of_block (a := ⟨gv, i, none⟩) (by rw [H5.out.1])).symm.trans hcv)
        have hcl2 := (hcell ⟨gl, i, none⟩).trans ((World.cell?_of_block (a := ⟨gl, i, none⟩) (by rw [H5.out.1])).symm.trans hcl)
        clear hcv hcl
        by_cases hjl : j < m + 64
        ·have hjt : (j : Int) < ((m + 64 : Nat) : Int) := by omega
         obtain ⟨bz, _, ez, _, hz⟩ := HS.out.2.cell (t := j) hjl
         cases ez
         have hz2 := (hcell _).trans hz
         by_cases hjm : j < m
         ·have hji : (j : Int) < (m : Int) := by omega
          obtain ⟨bu, _, eu, _, hu⟩ := HS.out.1.cell (t := j) hjm
          cases eu
          have hu2 := (hcell _).trans hu
          have hf : fbB n i j = .int .u8 (2 * (i : Int)) := by unfold fbB; rw [if_pos (by rw [HM.out]; exact hjm)]
          simp only [hf] at hz2 hu2
          clear hz hu hcell hh hC hf
          have hb1 : (2 * (i : Int)) % 256 = 2 * (i : Int) := by omega
          have e4 : (2 * (i : Int) != 2 * (i : Int)) = false := by simp
          go_wp2_with fail
          go_roundw
          case rel => exact ⟨j + 1, by omega, by go_num, H6.out⟩
          case measure => simp [intOf]; omega
         ·have hji : ¬ (j : Int) < (m : Int) := by omega
          have hji2 : (m : Int) ≤ (j : Int) := by omega
          have hf : fbB n i j = .int .u8 (2 * (i : Int) + 1) := by unfold fbB; rw [if_neg (by rw [HM.out]; exact hjm)]
          simp only [hf] at hz2
          clear hz hcell hh hC hf
          have hb1 : (2 * (i : Int) + 1) % 256 = 2 * (i : Int) + 1 := by omega
          have e4 : (2 * (i : Int) + 1 != 2 * (i : Int) + 1) = false := by simp
          go_wp2_with fail
          go_roundw
          case rel => exact ⟨j + 1, by omega, by go_num, H6.out⟩
          case measure => simp [intOf]; omega
        ·have hjm : j = m + 64 := by omega
         subst hjm
         clear hcell hh hC
         go_wp2_with fail
         go_roundw
         case rel => exact ⟨i + 1, by omega, by go_num, H6.out⟩
         case measure => simp [intOf]; omega
      ·have hiL : L = i := by omega
       subst hiL
       clear hcell hh hC
       go_wp2_with fail
       go_ret
       exact ⟨rfl, H5.out.2⟩
end Go.Proofs.Ytbcmjjcbjojakaa
end
section
namespace Go.Proofs.Ytbcmjjcbjojakaa
open Go.RowKit
set_option linter.unusedVariables false
set_option linter.unusedSimpArgs false
theorem copied_any (w : World) (A : Option Addr) (n c B : Nat) (bs : List Nat) (hr : Rd w B A n (cb bs)) (hn : n ≤ 140737488355328) : Calls Try.prog 17 #[.slice A n c] w fun e w' => ∃ A' c', e = .returned (.slice A' n c') ∧ w'.ownsRow w.heap.size 5 1 (.slice A' n c') n (cb bs) ∧ n ≤ c' ∧ Below w.heap.size w w' := by
 have HH := Hd.mk hr
 have h63 : Hd (0 + n ≤ maxLen) := ⟨by unfold maxLen; omega⟩
 have hby : Hd ((0 + n) * 1 ≤ 140737488355328) := ⟨by omega⟩
 clear hr
 go_enter Try.func17, Try.ntmps17
 go_wp2_with (at_builtin; refine wpList_app elB rfl (.const (.slice none 0 0)) (.tmp 3) rfl w.heap.size (.slice none 0 0) 0 [] rfl (World.ownsRow_nil ..) B A n c (cb bs) rfl HH.out (cb_one bs) h63.out hby.out (Nat.le_refl _) ?_; intro v1 w1 hO1; have H1 : Hd (Onto w w1 w.heap.size 5 (.slice none 0 0) v1 n (cb bs)) := ⟨by simpa using hO1⟩; clear hO1)
 go_ret
 obtain ⟨A', c', rfl, hc, _⟩ := own_form H1.out.own
 exact ⟨A', c', rfl, H1.out.own, hc, H1.out.below (fun k hk => by cases hk) (Nat.le_refl _)⟩
/-- Where WireAsks stands. -/
structure AW (w W : World) (g : Nat) (k : Int) (tag : Nat) (key after : ByteArray) (off num delim : Int) (V : Value) (RL : List (Nat × Value × List Value)) : Prop where
 box : W.heap[g]? = some (.cells #[.int .i64 k, .int .u64 (tag : Int), .string key, .string after, .int .i64 off, .int .i64 num, .int .i64 delim, V] 28)
 bag : Bag W (g + 1) RL []
 bel : Below g w W
section
variable {w W W' : World} {g : Nat} {k : Int} {tag : Nat} {key after : ByteArray} {off num delim : Int} {V V' : Value} {RL : List (Nat × Value × List Value)}
end
/-- The next bytes. -/
def turnB (b : Nat) (i : Nat) : Nat := (b * 3 + i + 1) % 256
end Go.Proofs.Ytbcmjjcbjojakaa
end
section
namespace Go.Proofs.Ytbcmjjcbjojakaa
open Go.RowKit
set_option linter.unusedVariables false
section
variable {w0 w w' : World} {RL NR RL2 : List (Nat × Value × List Value)} {X X' Y : List Nat} {BL BL' : List (Nat × Array Value × Nat)} {us : List Value} {g : Nat}
/-- A reader that holds just whole messages, of the blocks X. -/
def RdP {T : Type} (Z : Kd T) (b : Nat) (w : World) (g : Nat) (X : List Nat) (ws : List Wm) (xs : List T) : Prop :=
 ∃ (vl vc vq : Value) (C : Nat), RdS Z b w g vl vc vq [] mid0.c mid0.s C mid0.k mid0.p 0 ws xs ∧ rdX g vl vc vq = X
section
variable {T : Type} {Z : Kd T} {b g : Nat} {ws : List Wm} {xs : List T}
theorem RdP.keep (h : RdP Z b w g X ws xs) (c : Chg Y w w') (hX : ∀ x ∈ X, x ∉ Y) (hm : ∀ W ∈ ws, W.off Y) : RdP Z b w' g X ws xs := by
 obtain ⟨vl, vc, vq, C, h, rfl⟩ := h
 exact ⟨vl, vc, vq, C, h.keep c hX hm, rfl⟩
theorem RdP.below (h : RdP Z b w g X ws xs) (be : Below w.heap.size w w') : RdP Z b w' g X ws xs := by
 obtain ⟨vl, vc, vq, C, h, rfl⟩ := h
 exact ⟨vl, vc, vq, C, h.below be, rfl⟩
theorem RdP.mem (h : RdP Z b w g X ws xs) : g ∈ X := by
 obtain ⟨vl, vc, vq, C, h, rfl⟩ := h
 exact mem_X.2 (.inr (.inl rfl))
theorem RdP.lt (h : RdP Z b w g X ws xs) {x : Nat} (hx : x ∈ X) : b ≤ x ∧ x < w.heap.size := by
 obtain ⟨vl, vc, vq, C, h, rfl⟩ := h
 exact h.ltX hx
theorem RdP.off (h : RdP Z b w g X ws xs) : ∀ W ∈ ws, W.off X := by
 obtain ⟨vl, vc, vq, C, h, rfl⟩ := h
 exact h.off
theorem RdP.held (h : RdP Z b w g X ws xs) : Calls Try.prog 40 #[.pointer (some ⟨g, 0, none⟩)] w fun e w' => e = .returned (.int .i64 0) ∧ Below w.heap.size w w' := by
 obtain ⟨vl, vc, vq, C, h, rfl⟩ := h
 exact held_any Z b w g vl vc vq [] mid0.c mid0.s C mid0.k mid0.p 0 ws xs h ⟨fun _ => by show (0 : Nat) ≤ _; omega⟩ (by simp)
theorem RdP.push (HMS : MsgLaw Z) (h : RdP Z b w g X [] []) {A : Option Addr} {n cp : Nat} {bs : List Nat} {ms : List T} (hr : Rd w w.heap.size A n (cb bs)) (hl : ∀ x ∈ bs, x < 256) (hn : n ≤ 137438953472) (hgo : go Z.rd mid0 bs = ⟨ms, 0, mid0, []⟩) :
  Calls Try.prog 35 #[.pointer (some ⟨g, 0, none⟩), .slice A n cp] w fun e w' => e = .returned (.int .i64 0) ∧ ∃ X' ws, RdP Z b w' g X' ws ms ∧ Chg X w w' ∧ (∀ x ∈ X', x ∈ X ∨ w.heap.size ≤ x) ∧ (∀ W ∈ ws, W.ok w' w.heap.size) ∧ PwA ws ∧ Alike Z.is ws ms := by
 obtain ⟨vl, vc, vq, C, h, rfl⟩ := h
 refine (push_apart Z HMS b w g vl vc vq [] mid0 C [] [] h A n cp bs hr hl MidOk.zero (by simp; omega)).mono ?_
 rintro e w' ⟨vl', vc', vq', L', m', C', nw, he, h1, h2, h3, h4, h5, h6, h7⟩
 rw [List.nil_append, hgo] at he h1 h2
 simp only [List.nil_append] at h1 h2
 obtain ⟨e1, e2, _⟩ := h2 trivial
 subst e1 e2
 exact ⟨he, _, nw, ⟨_, _, _, _, h1, rfl⟩, h4, h5, h6, h7, h1.is⟩
end
theorem RdP.pop {b g : Nat} {W : Wm} {ws : List Wm} {x : Rq} {xs : List Rq} (h : RdP askK b w g X (W :: ws) (x :: xs)) :
  Calls Try.prog 36 #[.pointer (some ⟨g, 0, none⟩)] w fun e w' => e = .returned (.tuple #[.agg W.cells.toArray, .bool true]) ∧ RdP askK b w' g X ws xs ∧ Chg [g] w w' := by
 obtain ⟨vl, vc, vq, C, h, rfl⟩ := h
 refine (some_ask b w g vl vc vq [] mid0.c mid0.s C mid0.k mid0.p 0 W ws x xs h).mono ?_
 rintro e w' ⟨he, vq', h1, h2, h3⟩
 exact ⟨he, ⟨vl, vc, vq', C, h1, by unfold rdX rdY; rw [h3]⟩, h2⟩
theorem Alike.imp {α β : Type} {R S : α → β → Prop} (hRS : ∀ a b, R a b → S a b) : ∀ {l : List α} {m : List β}, Alike R l m → Alike S l m
 | [], [], _ => trivial
 | [], _ :: _, h => h.elim
 | _ :: _, [], h => h.elim
 | _ :: _, _ :: _, h => ⟨hRS _ _ h.1, Alike.imp hRS h.2⟩
theorem RdS.weak {b g : Nat} {vl vc vq : Value} {L c : List Nat} {S C k p : Nat} {fl : Int} {ws : List Wm} {xs : List An} (h : RdS telK2 b w g vl vc vq L c S C k p fl ws xs) : RdS telK b w g vl vc vq L c S C k p fl ws xs :=
 ⟨h.box, h.lo, h.co, h.qu, h.alc, h.alq, h.acq, h.gl, h.gc, h.gq, h.bg, h.ok, h.off, Alike.imp (fun _ _ h => h.1) h.is, h.s, h.c64, h.lb, h.cb_⟩
theorem RdP.weak {b g : Nat} {ws : List Wm} {xs : List An} (h : RdP telK2 b w g X ws xs) : RdP telK b w g X ws xs := by
 obtain ⟨vl, vc, vq, C, h, e⟩ := h
 exact ⟨vl, vc, vq, C, h.weak, e⟩
theorem RdP.popA {b g : Nat} {W : Wm} {ws : List Wm} {x : An} {xs : List An} (h : RdP telK b w g X (W :: ws) (x :: xs)) :
  Calls Try.prog 37 #[.pointer (some ⟨g, 0, none⟩)] w fun e w' => e = .returned (.tuple #[.agg W.cells.toArray, .bool true]) ∧ RdP telK b w' g X ws xs ∧ Chg [g] w w' := by
 obtain ⟨vl, vc, vq, C, h, rfl⟩ := h
 refine (some_tel b w g vl vc vq [] mid0.c mid0.s C mid0.k mid0.p 0 W ws x xs h).mono ?_
 rintro e w' ⟨he, vq', h1, h2, h3⟩
 exact ⟨he, ⟨vl, vc, vq', C, h1, by unfold rdX rdY; rw [h3]⟩, h2⟩
/-- A message was taken, laid into a new box. -/
structure PopR {T : Type} (Z : Kd T) (b : Nat) (wr wx : World) (ga g : Nat) (X : List Nat) (ws : List Wm) (xs : List T) (V : Array Value) (t : Nat) : Prop where
 bk : wx.heap[g]? = some (.cells V t)
 lo : wr.heap.size ≤ g
 ch : Chg [ga] wr wx
 rd : RdP Z b wx ga X ws xs
/-- The readers' blocks after a Push. -/
theorem Ms.pushA (H : Ms w0 w RL (X ++ Y ++ X') BL) {Y' : List Nat} (c : Chg Y w w') (hn : ∀ x ∈ Y', x ∈ Y ∨ w.heap.size ≤ x) (hl : ∀ x ∈ Y', x < w'.heap.size) (hb : ∀ p ∈ BL, p.1 ∈ X ∧ p.1 ∉ Y)
  (hN : ∀ r ∈ NR, w'.ownsRow w.heap.size r.1 1 r.2.1 r.2.2.length r.2.2) (hA : NR.Pairwise fun r s => Apart r.2.1 s.2.1) (hO : ∀ r ∈ NR, ∀ k ∈ Y', r.2.1.ownBlock ≠ some k) : Ms w0 w' (RL ++ NR) (X ++ Y' ++ X') BL := by
 have old : ∀ k, (k ∈ X ∨ k ∈ X') → k < w.heap.size := fun k hk => H.bag.ltX k (hk.elim (fun h => List.mem_append_left _ (List.mem_append_left _ h)) (fun h => List.mem_append_right _ h))
 refine H.turn c (fun y hy => List.mem_append_left _ (List.mem_append_right _ hy)) (fun p hp => (hb p hp).2) (fun x hx => ?_) (fun p hp => List.mem_append_left _ (List.mem_append_left _ (hb p hp).1)) hN hA fun r hr k hk => ?_
 ·rcases List.mem_append.1 hx with hx | hx
  ·rcases List.mem_append.1 hx with hx | hx
   ·exact ⟨Nat.lt_of_lt_of_le (old x (.inl hx)) c.size, .inl (List.mem_append_left _ (List.mem_append_left _ hx))⟩
   ·exact ⟨hl x hx, (hn x hx).imp (fun h => List.mem_append_left _ (List.mem_append_right _ h)) id⟩
  ·exact ⟨Nat.lt_of_lt_of_le (old x (.inr hx)) c.size, .inl (List.mem_append_right _ hx)⟩
 ·rcases List.mem_append.1 hk with hk | hk
  ·rcases List.mem_append.1 hk with hk | hk
   ·intro e
    have := ((hN r hr).lt k e).1
    have := old k (.inl hk); omega
   ·exact hO r hr k hk
  ·intro e
   have := ((hN r hr).lt k e).1
   have := old k (.inr hk); omega
/-- The other reader stands. -/
theorem RdP.other {T : Type} {Z : Kd T} {b g ga : Nat} {ws : List Wm} {xs : List T} (h : RdP Z b w g X' ws xs) (H : Ms w0 w RL X BL) (c : Chg [ga] w w') (hga : ga ∈ X) (hT : ga ∉ X') (hsub : ∀ W ∈ ws, ∀ r ∈ W.rows, r ∈ RL) : RdP Z b w' g X' ws xs :=
 h.keep c (fun x hx hm => hT (by rw [List.mem_singleton.1 hm] at hx; exact hx)) fun W hW r hr k hk hm => H.bag.off r (hsub W hW r hr) k (by rw [List.mem_singleton.1 hm]; exact hga) hk
/-- Rows were written over that are not the reader's. -/
theorem RdP.marked {T : Type} {Z : Kd T} {b g : Nat} {ws : List Wm} {xs : List T} (h : RdP Z b w g X' ws xs) (H : Ms w0 w RL X BL) (I : List Nat) (c : Chg (ablk us) w w') (hus : ∀ u ∈ us, ∃ i x, i ∈ I ∧ RL[i]? = some x ∧ u = x.2.1) (hX : ∀ x ∈ X', x ∈ X) (hsub : ∀ W ∈ ws, ∀ r ∈ W.rows, ∃ j, j ∉ I ∧ RL[j]? = some r) : RdP Z b w' g X' ws xs :=
 h.keep c (fun x hx => H.bag.off_blk (fun u hu => (hus u hu).imp fun i ⟨x, h⟩ => ⟨x, h.2⟩) (hX x hx)) fun W hW r hr k hk hm => by
  obtain ⟨u, hu, he⟩ := List.mem_filterMap.1 hm
  obtain ⟨i, x, hi, hx, rfl⟩ := hus u hu
  obtain ⟨j, hj, hr⟩ := hsub W hW r hr
  exact H.bag.apart i j x r hx hr (fun e => hj (e ▸ hi)) k he hk
theorem asks_m (w : World) : Calls Try.prog 25 #[] w fun e w' => e = .returned (.pointer (some ⟨w.heap.size, 0, none⟩)) ∧ RdP askK w.heap.size w' w.heap.size [w.heap.size] [] [] ∧ Below w.heap.size w w' :=
 (asks_new w).mono fun e w' ⟨h1, h2, h3⟩ => ⟨h1, ⟨_, _, _, _, h2, rfl⟩, h3⟩
theorem tells_m (w : World) : Calls Try.prog 26 #[] w fun e w' => e = .returned (.pointer (some ⟨w.heap.size, 0, none⟩)) ∧ RdP telK2 w.heap.size w' w.heap.size [w.heap.size] [] [] ∧ Below w.heap.size w w' :=
 (tells_new w).mono fun e w' ⟨h1, h, h3⟩ => ⟨h1, ⟨_, _, _, _, ⟨h.box, h.lo, h.co, h.qu, h.alc, h.alq, h.acq, h.gl, h.gc, h.gq, h.bg, h.ok, h.off, trivial, h.s, h.c64, h.lb, h.cb_⟩, rfl⟩, h3⟩
end
/-- The rows of messages that lie apart. -/
theorem flat_rows {ws : List Wm} (hpw : PwA ws) (hap : ∀ W ∈ ws, RAp W) : (ws.flatMap Wm.rows).Pairwise fun r s => Apart r.2.1 s.2.1 := by
 induction ws with
 | nil => exact List.Pairwise.nil
 | cons W ws ih =>
  rw [List.flatMap_cons]
  obtain ⟨h1, h2⟩ := List.pairwise_cons.1 hpw
  refine List.pairwise_append.2 ⟨hap W List.mem_cons_self, ih h2 (fun V hV => hap V (List.mem_cons_of_mem _ hV)), fun r hr s hs => ?_⟩
  obtain ⟨V, hV, hs⟩ := List.mem_flatMap.1 hs
  exact h1 V hV r hr s hs
/-- A reader was pushed to: its messages come in. -/
theorem Ms.told {w0 w w' : World} {RL : List (Nat × Value × List Value)} {X Y Y' X' : List Nat} {BL : List (Nat × Array Value × Nat)} {T : Type} {Z : Kd T} {b g : Nat} {ws : List Wm} {xs : List T} (H : Ms w0 w RL (X ++ Y ++ X') BL) (hr : RdP Z b w' g Y' ws xs) (c : Chg Y w w') (hn : ∀ x ∈ Y', x ∈ Y ∨ w.heap.size ≤ x) (hb : ∀ p ∈ BL, p.1 ∈ X ∧ p.1 ∉ Y) (hok : ∀ W ∈ ws, W.ok w' w.heap.size) (hpw : PwA ws) (hap : ∀ W ∈ ws, RAp W) : Ms w0 w' (RL ++ ws.flatMap Wm.rows) (X ++ Y' ++ X') BL :=
 H.pushA c hn (fun x hx => (hr.lt hx).2) hb (fun r hr => by obtain ⟨V, hV, hr⟩ := List.mem_flatMap.1 hr; exact hok V hV r hr) (flat_rows hpw hap) fun r hm k hk e => by
  obtain ⟨V, hV, h⟩ := List.mem_flatMap.1 hm
  exact hr.off V hV r h k e hk
theorem Ms.toldT {w0 w w' : World} {RL : List (Nat × Value × List Value)} {X Y Y' : List Nat} {BL : List (Nat × Array Value × Nat)} {T : Type} {Z : Kd T} {b g : Nat} {ws : List Wm} {xs : List T} (H : Ms w0 w RL (X ++ Y) BL) (hr : RdP Z b w' g Y' ws xs) (c : Chg Y w w') (hn : ∀ x ∈ Y', x ∈ Y ∨ w.heap.size ≤ x) (hb : ∀ p ∈ BL, p.1 ∈ X ∧ p.1 ∉ Y) (hok : ∀ W ∈ ws, W.ok w' w.heap.size) (hpw : PwA ws) (hap : ∀ W ∈ ws, RAp W) : Ms w0 w' (RL ++ ws.flatMap Wm.rows) (X ++ Y') BL := by
 have := Ms.told (X' := []) (by rwa [List.append_nil]) hr c hn hb hok hpw hap
 rwa [List.append_nil] at this
theorem rq_form {W : Wm} {P : Rq} {w : World} {b : Nat} (h : rqIs W P) (ho : W.ok w b) : ∃ A c, W = rqW P (.slice A P.body.length c) := by
 obtain ⟨vb, rfl⟩ := h
 obtain ⟨A, c, hv, _⟩ := own_form (ho _ (List.mem_singleton.2 rfl))
 simp only [cb_length] at hv
 exact ⟨A, c, by rw [hv]⟩
theorem an_form {W : Wm} {a : An} {w : World} {b : Nat} (h : anIs W a) (ho : W.ok w b) : ∃ A1 c1 A2 c2 A3 c3, W = anW a (.slice A1 a.body.length c1) (.slice A2 a.keys.length c2) (.slice A3 a.groups.length c3) := by
 obtain ⟨v1, v2, v3, rfl⟩ := h
 obtain ⟨q1, q2, q3⟩ := anW_rr ho
 obtain ⟨B1, d1, rfl, _⟩ := own_form q1
 obtain ⟨B2, d2, rfl, _⟩ := own_form q2
 obtain ⟨B3, d3, rfl, _⟩ := own_form q3
 exact ⟨_, _, _, _, _, _, rfl⟩
theorem alike3 {ws : List Wm} {P : Rq} {w : World} {b : Nat} (h : Alike askK.is ws [P, P, P]) (ho : ∀ W ∈ ws, W.ok w b) : ∃ A1 c1 A2 c2 A3 c3, ws = [rqW P (.slice A1 P.body.length c1), rqW P (.slice A2 P.body.length c2), rqW P (.slice A3 P.body.length c3)] := by
 match ws, h with
 | [W1, W2, W3], ⟨h1, h2, h3, _⟩ =>
  obtain ⟨A1, c1, rfl⟩ := rq_form h1 (ho _ (by simp))
  obtain ⟨A2, c2, rfl⟩ := rq_form h2 (ho _ (by simp))
  obtain ⟨A3, c3, rfl⟩ := rq_form h3 (ho _ (by simp))
  exact ⟨_, _, _, _, _, _, rfl⟩
theorem rq_rap (P : Rq) (v : Value) : RAp (rqW P v) := List.pairwise_singleton _ _
theorem alike4 {ws : List Wm} {a g : An} {w : World} {b : Nat} (h : Alike telK2.is ws [a, g, a, g]) (ho : ∀ W ∈ ws, W.ok w b) : (∀ W ∈ ws, RAp W) ∧ ∃ A1 c1 A2 c2 A3 c3 B1 d1 B2 d2 B3 d3 C1 e1 C2 e2 C3 e3 D1 f1 D2 f2 D3 f3, ws = [anW a (.slice A1 a.body.length c1) (.slice A2 a.keys.length c2) (.slice A3 a.groups.length c3), anW g (.slice B1 g.body.length d1) (.slice B2 g.keys.length d2) (.slice B3 g.groups.length d3), anW a (.slice C1 a.body.length e1) (.slice C2 a.keys.length e2) (.slice C3 a.groups.length e3), anW g (.slice D1 g.body.length f1) (.slice D2 g.keys.length f2) (.slice D3 g.groups.length f3)] := by
 match ws, h with
 | [W1, W2, W3, W4], ⟨h1, h2, h3, h4, _⟩ =>
  refine ⟨fun W hW => ?_, ?_⟩
  ·simp only [List.mem_cons, List.not_mem_nil, or_false] at hW
   rcases hW with rfl | rfl | rfl | rfl
   ·exact h1.2
   ·exact h2.2
   ·exact h3.2
   ·exact h4.2
  ·obtain ⟨A1, c1, A2, c2, A3, c3, rfl⟩ := an_form h1.1 (ho _ (by simp))
   obtain ⟨B1, d1, B2, d2, B3, d3, rfl⟩ := an_form h2.1 (ho _ (by simp))
   obtain ⟨C1, e1, C2, e2, C3, e3, rfl⟩ := an_form h3.1 (ho _ (by simp))
   obtain ⟨D1, f1, D2, f2, D3, f3, rfl⟩ := an_form h4.1 (ho _ (by simp))
   exact ⟨_, _, _, _, _, _, _, _, _, _, _, _, _, _, _, _, _, _, _, _, _, _, _, _, rfl⟩
/-- A call that took a message, and nothing else. -/
structure PopC {T : Type} (Z : Kd T) (b : Nat) (w w' : World) (ga : Nat) (X : List Nat) (ws : List Wm) (xs : List T) : Prop where
 ch : Chg [ga] w w'
 rd : RdP Z b w' ga X ws xs
/-- A fit request, and its form. -/
structure PRq (P : Rq) (F : List Nat) : Prop where
 ok : rqOk P
 fit : rqFit P
 b : RqB P
 same : fitP P = P
 ask : askP P = (F, 0)
 lt : ∀ x ∈ F, x < 256
 len : F.length ≤ 4194400
 go3 : go rdRq mid0 ((F ++ F) ++ F) = ⟨[P, P, P], 0, mid0, []⟩
 go1 : go rdRq mid0 F = ⟨[P], 0, mid0, []⟩
theorem fmF_ltM : ∀ (f s : Nat) (c : List Nat), (∀ y ∈ c, y < 256) → ∀ y ∈ fmF f s c, y < 256
 | 0, s, c, h => fun y hy => by cases hy
 | f + 1, s, c, h => fun y hy => by
  by_cases h0 : 0 < c.length
  ·rw [fmF_step f s c h0] at hy
   rcases List.mem_append.1 hy with h1 | h1
   ·unfold chk hd3 at h1
    simp only [List.mem_append] at h1
    have hfx : ∀ k v, ∀ y ∈ fx k v, y < 256 := fun k v y hy => fx_lt k v y hy
    rcases h1 with ((h2 | h2) | h2) | h2
    ·first | (rcases h2 with h2 | h2 <;> exact hfx _ _ y h2) | exact hfx _ _ y h2
    ·exact hfx _ _ y h2
    ·exact h y (List.mem_of_mem_take h2)
    ·exact hfx _ _ y h2
   ·exact fmF_ltM f _ _ (fun z hz => h z (List.mem_of_mem_drop hz)) y h1
  ·have : c = [] := List.eq_nil_of_length_eq_zero (by omega)
   subst this; rw [fmF_nil] at hy; cases hy
theorem PRq.of (R : Rq) (h : RqB R) : PRq (fitP R) (formP (rqC (fitP R))) where
 ok := fitP_ok R
 fit := fitP_fit R
 b := fitP_b R h
 same := fitP_idem R
 ask := fitP_ask R
 lt := fmF_ltM _ _ _ (rqC_lt (fitP_fit R) (fitP_b R h))
 len := by have := formP_le (rqC (fitP R)); have := rqC_len (fitP_fit R); omega
 go3 := go_rq3 R h rfl
 go1 := go_rq1 R h rfl
/-- A fit answer, and its form. -/
structure PAn (a : An) (T : List Nat) : Prop where
 ok : anOk a
 fit : anFit a
 b : AnB a
 same : fitAnP a = a
 tell : tellP a = (T, 0)
 lt : ∀ x ∈ T, x < 256
 len : T.length ≤ 67108900
theorem PAn.of (a : An) (h : AnB a) (hs : fitAnP (fitAnP a) = fitAnP a) : PAn (fitAnP a) (formP (anC (fitAnP a))) where
 ok := fitAnP_ok a
 fit := fitAnP_fit a
 b := fitAnP_b a h
 same := hs
 tell := fitAnP_tell a
 lt := fmF_ltM _ _ _ (anC_ltT (fitAnP_ok a) (fitAnP_fit a) (fitAnP_b a h))
 len := by have := formP_le (anC (fitAnP a)); have := anC_len (fitAnP_fit a); omega
theorem go4_m {a g : An} {T U : List Nat} (ha : PAn a T) (hg : PAn g U) : go rdAn mid0 ((T ++ U) ++ (T ++ U)) = ⟨[a, g, a, g], 0, mid0, []⟩ := by
 have e1 := fitAnP_tell a
 have e2 := fitAnP_tell g
 rw [ha.same, ha.tell] at e1
 rw [hg.same, hg.tell] at e2
 have h1 : formP (anC (fitAnP a)) = T := by rw [ha.same]; exact (congrArg Prod.fst e1).symm
 have h2 : formP (anC (fitAnP g)) = U := by rw [hg.same]; exact (congrArg Prod.fst e2).symm
 have := go_an4 a g ha.b hg.b h1 h2
 rwa [ha.same, hg.same] at this
section
variable {W : World}
theorem fit_m {R : Rq} {A : Option Addr} {n c : Nat} (hr : Rd W W.heap.size A n (cb R.body)) (hnc : n ≤ c) (hk : I64 R.kind) (h1 : R.key.size ≤ maxLen) (h2 : R.after.size ≤ maxLen) :
  Calls Try.prog 33 #[.agg #[.int .i64 R.kind, .int .u64 (R.tag : Int), .string R.key, .string R.after, .int .i64 R.off, .int .i64 R.num, .int .i64 R.delim, .slice A n c]] W fun e w' => ∃ A' c', e = .returned (.agg (rqW (fitP R) (.slice A' (fitP R).body.length c')).cells.toArray) ∧ (rqW (fitP R) (.slice A' (fitP R).body.length c')).ok w' W.heap.size ∧ (fitP R).body.length ≤ c' ∧ Below W.heap.size W w' := by
 refine (fit_any0 W R R.kind R.off R.num R.delim R.tag R.key R.after R.body rfl A n c hr hnc hk h1 h2).mono ?_
 rintro e w' ⟨vb, rfl, hok, hbe⟩
 obtain ⟨A', c', hv, hc', _⟩ := own_form (hok _ (List.mem_singleton.2 rfl))
 simp only [cb_length] at hv hc'
 subst hv
 exact ⟨A', c', rfl, hok, hc', hbe⟩
theorem fitAn_m (HFL : FitLaw) {a : An} {A A2 A3 : Option Addr} {n c n2 c2 n3 c3 : Nat} (hr : Rd W W.heap.size A n (cb a.body)) (hr2 : Rd W W.heap.size A2 n2 (cs a.keys)) (hr3 : Rd W W.heap.size A3 n3 (cs a.groups)) (hnc : n ≤ c) (hn2 : n2 ≤ 8796093022000) (hn3 : n3 ≤ 8796093022000) (hk : I64 a.kind) (hc : I64 a.code) (hx : a.next.size ≤ maxLen) (hs2 : ∀ t ∈ a.keys, t.size ≤ maxLen) (hs3 : ∀ t ∈ a.groups, t.size ≤ maxLen) :
  Calls Try.prog 34 #[.agg #[.int .i64 a.kind, .int .u64 (a.tag : Int), .int .i64 a.code, .slice A n c, .slice A2 n2 c2, .slice A3 n3 c3, .string a.next, .bool a.more, .int .i64 a.ge, .int .i64 a.gc, .int .i64 a.size, .int .i64 a.h1, .int .i64 a.h2, .int .i64 a.h3, .int .i64 a.h4]] W fun e w' =>
   ∃ B1 d1 B2 d2 B3 d3, e = .returned (.agg (anW (fitAnP a) (.slice B1 (fitAnP a).body.length d1) (.slice B2 (fitAnP a).keys.length d2) (.slice B3 (fitAnP a).groups.length d3)).cells.toArray) ∧ (anW (fitAnP a) (.slice B1 (fitAnP a).body.length d1) (.slice B2 (fitAnP a).keys.length d2) (.slice B3 (fitAnP a).groups.length d3)).ok w' W.heap.size ∧
    RAp (anW (fitAnP a) (.slice B1 (fitAnP a).body.length d1) (.slice B2 (fitAnP a).keys.length d2) (.slice B3 (fitAnP a).groups.length d3)) ∧ (fitAnP a).body.length ≤ d1 ∧ Below W.heap.size W w' := by
 refine (HFL W a a.kind a.code a.ge a.gc a.size a.h1 a.h2 a.h3 a.h4 a.tag a.body a.keys a.groups a.next a.more rfl A A2 A3 n c n2 c2 n3 c3 hr hr2 hr3 hnc hn2 hn3 hk hc hx hs2 hs3).mono ?_
 rintro e w' ⟨v1, v2, v3, rfl, hok, hap, hbe⟩
 obtain ⟨q1, q2, q3⟩ := anW_rr hok
 obtain ⟨B1, d1, rfl, hd1, _⟩ := own_form q1
 obtain ⟨B2, d2, rfl, _⟩ := own_form q2
 obtain ⟨B3, d3, rfl, _⟩ := own_form q3
 exact ⟨B1, d1, B2, d2, B3, d3, rfl, hok, hap, hd1, hbe⟩
theorem ask_m {P : Rq} {F : List Nat} (h : PRq P F) {A : Option Addr} {n c : Nat} (hr : Rd W W.heap.size A n (cb P.body)) (hc : n ≤ c) :
  Calls Try.prog 19 #[.agg #[.int .i64 P.kind, .int .u64 (P.tag : Int), .string P.key, .string P.after, .int .i64 P.off, .int .i64 P.num, .int .i64 P.delim, .slice A n c]] W fun e w' => ∃ A' c', e = .returned (.tuple #[.slice A' F.length c', .int .i64 0]) ∧ w'.ownsRow W.heap.size 5 1 (.slice A' F.length c') F.length (cb F) ∧ Below W.heap.size W w' := by
 refine (ask_any W P A n c hr h.b hc).mono ?_
 rintro e w' ⟨v, he, hO⟩
 rw [h.ask] at he hO
 obtain ⟨A', c', rfl, _⟩ := own_form hO.own
 exact ⟨A', c', he, hO.own, hO.below (fun k hk => by cases hk) (Nat.le_refl _)⟩
theorem tell_m {a : An} {T : List Nat} (h : PAn a T) {A A2 A3 : Option Addr} {n c n2 c2 n3 c3 : Nat} (hr : Rd W W.heap.size A n (cb a.body)) (hr2 : Rd W W.heap.size A2 n2 (cs a.keys)) (hr3 : Rd W W.heap.size A3 n3 (cs a.groups)) :
  Calls Try.prog 23 #[.agg #[.int .i64 a.kind, .int .u64 (a.tag : Int), .int .i64 a.code, .slice A n c, .slice A2 n2 c2, .slice A3 n3 c3, .string a.next, .bool a.more, .int .i64 a.ge, .int .i64 a.gc, .int .i64 a.size, .int .i64 a.h1, .int .i64 a.h2, .int .i64 a.h3, .int .i64 a.h4]] W fun e w' =>
   ∃ A' c', e = .returned (.tuple #[.slice A' T.length c', .int .i64 0]) ∧ w'.ownsRow W.heap.size 5 1 (.slice A' T.length c') T.length (cb T) ∧ Below W.heap.size W w' := by
 have k2 : n2 ≤ 8796093022000 := by have := hr2.1; rw [cs_len] at this; have := h.fit.2.1.1; split at this <;> omega
 have k3 : n3 ≤ 8796093022000 := by have := hr3.1; rw [cs_len] at this; have := h.fit.2.2.1.1; omega
 refine (tell_any W a A A2 A3 n c n2 c2 n3 c3 hr hr2 hr3 h.b k2 k3 (by have := h.ok.1; have := h.ok.2.1; omega) (by have := h.ok.2.2.1; have := h.ok.2.2.2.1; omega)).mono ?_
 rintro e w' ⟨v, he, hO⟩
 rw [h.tell] at he hO
 obtain ⟨A', c', rfl, _⟩ := own_form hO.own
 exact ⟨A', c', he, hO.own, hO.below (fun k hk => by cases hk) (Nat.le_refl _)⟩
theorem fit_s {P : Rq} {F : List Nat} (h : PRq P F) {A : Option Addr} {n c : Nat} (hr : Rd W W.heap.size A n (cb P.body)) (hnc : n ≤ c) :
  Calls Try.prog 33 #[.agg #[.int .i64 P.kind, .int .u64 (P.tag : Int), .string P.key, .string P.after, .int .i64 P.off, .int .i64 P.num, .int .i64 P.delim, .slice A n c]] W fun e w' => ∃ A' c', e = .returned (.agg (rqW P (.slice A' P.body.length c')).cells.toArray) ∧ (rqW P (.slice A' P.body.length c')).ok w' W.heap.size ∧ P.body.length ≤ c' ∧ Below W.heap.size W w' := by
 have := fit_m (W := W) (R := P) hr hnc (by have := h.ok.1; have := h.ok.2.1; unfold I64; omega) (by have := h.fit.1; unfold maxLen; omega) (by have := h.fit.2.1; unfold maxLen; omega)
 rwa [h.same] at this
theorem fitAn_s (HFL : FitLaw) {a : An} {T : List Nat} (h : PAn a T) {A A2 A3 : Option Addr} {n c n2 c2 n3 c3 : Nat} (hr : Rd W W.heap.size A n (cb a.body)) (hr2 : Rd W W.heap.size A2 n2 (cs a.keys)) (hr3 : Rd W W.heap.size A3 n3 (cs a.groups)) (hnc : n ≤ c) :
  Calls Try.prog 34 #[.agg #[.int .i64 a.kind, .int .u64 (a.tag : Int), .int .i64 a.code, .slice A n c, .slice A2 n2 c2, .slice A3 n3 c3, .string a.next, .bool a.more, .int .i64 a.ge, .int .i64 a.gc, .int .i64 a.size, .int .i64 a.h1, .int .i64 a.h2, .int .i64 a.h3, .int .i64 a.h4]] W fun e w' =>
   ∃ B1 d1 B2 d2 B3 d3, e = .returned (.agg (anW a (.slice B1 a.body.length d1) (.slice B2 a.keys.length d2) (.slice B3 a.groups.length d3)).cells.toArray) ∧ (anW a (.slice B1 a.body.length d1) (.slice B2 a.keys.length d2) (.slice B3 a.groups.length d3)).ok w' W.heap.size ∧
    RAp (anW a (.slice B1 a.body.length d1) (.slice B2 a.keys.length d2) (.slice B3 a.groups.length d3)) ∧ a.body.length ≤ d1 ∧ Below W.heap.size W w' := by
 have k2 : n2 ≤ 8796093022000 := by have := hr2.1; rw [cs_len] at this; have := h.fit.2.1.1; split at this <;> omega
 have k3 : n3 ≤ 8796093022000 := by have := hr3.1; rw [cs_len] at this; have := h.fit.2.2.1.1; omega
 have := fitAn_m (W := W) HFL (a := a) (c2 := c2) (c3 := c3) hr hr2 hr3 hnc k2 k3 (by have := h.ok.1; have := h.ok.2.1; unfold I64; omega) (by have := h.ok.2.2.1; have := h.ok.2.2.2.1; unfold I64; omega) (by have := h.fit.2.2.2; unfold maxLen; omega) (fun t ht => by have := h.fit.2.1.2 t ht; unfold maxLen; omega) (fun t ht => by have := h.fit.2.2.1.2 t ht; unfold maxLen; omega)
 rwa [h.same] at this
end
end Go.Proofs.Ytbcmjjcbjojakaa
end
section
namespace Go.Proofs.Ytbcmjjcbjojakaa
open Go.RowKit
set_option linter.unusedVariables false
theorem map_some_get {α β : Type} {I : List α} {us : List β} {f : α → Option β} (h : I.map f = us.map some) {k : Nat} {u : β} (hu : us[k]? = some u) : ∃ i, I[k]? = some i ∧ f i = some u := by
 have e : (I.map f)[k]? = (us.map some)[k]? := by rw [h]
 rw [List.getElem?_map, List.getElem?_map, hu] at e
 cases hI : I[k]? with
 | none => rw [hI] at e; cases e
 | some i => rw [hI] at e; simp only [Option.map_some, Option.some.injEq] at e; exact ⟨i, rfl, e⟩
abbrev Row := Nat × Value × List Value
/-- How long the k-th picked row is. -/
def nOf (RL : List Row) (I : List Nat) (k : Nat) : Nat := ((I[k]?.bind fun i => RL[i]?).map fun x => x.2.2.length).getD 0
theorem nOf_le {RL : List Row} {I : List Nat} {B : Nat} (h : ∀ i ∈ I, ∀ x, RL[i]? = some x → x.2.2.length ≤ B) (k : Nat) : nOf RL I k ≤ B := by
 unfold nOf
 cases hI : I[k]? with
 | none => exact Nat.zero_le _
 | some i =>
  simp only [Option.bind_some]
  cases hx : RL[i]? with
  | none => exact Nat.zero_le _
  | some x => exact h i (List.mem_of_getElem? hI) x hx
/-- The picked rows. -/
def pick (RL : List Row) (J : List Nat) : List Row := J.filterMap fun j => RL[j]?
theorem pick_get {RL : List Row} : ∀ {J : List Nat}, (J.all fun j => RL[j]?.isSome) = true → ∀ (k : Nat) (y : Row), (pick RL J)[k]? = some y → ∃ j, J[k]? = some j ∧ RL[j]? = some y
 | [], _, k, y, h => by simp [pick] at h
 | j :: J, hs, k, y, h => by
  rw [List.all_cons, Bool.and_eq_true] at hs
  obtain ⟨x, hx⟩ := Option.isSome_iff_exists.1 hs.1
  have e : pick RL (j :: J) = x :: pick RL J := by unfold pick; rw [List.filterMap_cons, hx]
  rw [e] at h
  cases k with
  | zero => simp only [List.getElem?_cons_zero, Option.some.injEq] at h; subst h; exact ⟨j, rfl, hx⟩
  | succ k => simp only [List.getElem?_cons_succ] at h ⊢; exact pick_get hs.2 k y h
section
variable {w0 w w' : World} {RL : List Row} {X : List Nat} {BL : List (Nat × Array Value × Nat)} {us : List Value} {I : List Nat}
theorem us_rows (hus : I.map (fun i => RL[i]?.map (·.2.1)) = us.map some) {k : Nat} {u : Value} (hu : us[k]? = some u) : ∃ i x, I[k]? = some i ∧ RL[i]? = some x ∧ u = x.2.1 := by
 obtain ⟨i, hi, hf⟩ := map_some_get hus hu
 cases hx : RL[i]? with
 | none => rw [hx] at hf; cases hf
 | some x => rw [hx] at hf; simp only [Option.map_some, Option.some.injEq] at hf; exact ⟨i, x, hi, hx, hf.symm⟩
theorem us_mem (hus : I.map (fun i => RL[i]?.map (·.2.1)) = us.map some) : ∀ u ∈ us, ∃ i x, i ∈ I ∧ RL[i]? = some x ∧ u = x.2.1 := fun u hu => by
 obtain ⟨k, hk⟩ := List.getElem?_of_mem hu
 obtain ⟨i, x, hi, h⟩ := us_rows hus hk
 exact ⟨i, x, List.mem_of_getElem? hi, h⟩
theorem Ms.fil {E e : Nat} (H : Ms w0 w RL X BL) (hI : I.Nodup) (hus : I.map (fun i => RL[i]?.map (·.2.1)) = us.map some) (he : I.map (fun i => RL[i]?.map (·.1)) = I.map fun _ => some e) (hx : us.length ≤ maxLen) (F : Nat → Nat → Value) :
  Fil (w.alloc (.cells us.toArray E)) w0.heap.size E e (.slice (some ⟨w.heap.size, 0, none⟩) us.length us.length) us (nOf RL I) F (fun _ _ => False) := by
 refine Fil.of_bag H.bag rfl H.be.size rfl hx I hI fun k u hu => ?_
 obtain ⟨i, x, hi, hr, e1⟩ := us_rows hus hu
 refine ⟨i, x, hi, hr, e1, ?_, ?_⟩
 ·have e2 : (I.map (fun i => RL[i]?.map (·.1)))[k]? = (I.map fun _ => some e)[k]? := by rw [he]
  rw [List.getElem?_map, List.getElem?_map, hi] at e2
  simp only [Option.map_some, Option.some.injEq, hr] at e2
  exact e2
 ·unfold nOf; rw [hi]; simp only [Option.bind_some, hr, Option.map_some, Option.getD_some]
theorem Ms.mark (H : Ms w0 w RL X BL) (J : List Nat) (c : Chg (ablk us) w w') (hus : I.map (fun i => RL[i]?.map (·.2.1)) = us.map some) (hJ : J.Nodup) (hIJ : ∀ j ∈ J, j ∉ I) (hs : (J.all fun j => RL[j]?.isSome) = true) : Ms w0 w' (pick RL J) X BL :=
 H.chg I J c (us_mem hus) hJ hIJ (pick_get hs)
theorem Ms.took (H : Ms w0 w RL X BL) {ga : Nat} (c : Chg [ga] w w') (hg : ga ∈ X) (hb : ∀ p ∈ BL, p.1 ≠ ga) : Ms w0 w' RL X BL := by
 have := H.turn (X' := X) (NR := []) c (fun y hy => by rw [List.mem_singleton.1 hy]; exact hg) (fun p hp hm => hb p hp (List.mem_singleton.1 hm)) (fun x hx => ⟨Nat.lt_of_lt_of_le (H.bag.ltX x hx) c.size, .inl hx⟩) (fun p hp => (H.bx p hp).2) (fun r h => absurd h List.not_mem_nil) List.Pairwise.nil (fun r h => absurd h List.not_mem_nil)
 rwa [List.append_nil] at this
/-- No box is one of these two blocks. -/
def NoB (BL : List (Nat × Array Value × Nat)) (a b : Nat) : Prop := ∀ p ∈ BL, p.1 ≠ a ∧ p.1 ≠ b
theorem NoB.more {a b g : Nat} {c : Array Value} {t : Nat} (h : NoB BL a b) (h1 : a < g) (h2 : b < g) : NoB (BL ++ [(g, c, t)]) a b := fun p hp => by
 rcases List.mem_append.1 hp with hp | hp
 ·exact h p hp
 ·rw [List.mem_singleton.1 hp]; exact ⟨by show g ≠ a; omega, by show g ≠ b; omega⟩
end
end Go.Proofs.Ytbcmjjcbjojakaa
end
