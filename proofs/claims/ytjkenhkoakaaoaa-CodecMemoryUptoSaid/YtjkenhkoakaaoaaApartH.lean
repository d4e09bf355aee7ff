/- Contract of the law's apartTexts. (tools/aparthgen.py prints it.) -/
import Derived.Test.YtjkenhkoakaaoaaApartG
import Derived.Test.YtjkenhkoakaaoaaChg
import Derived.Deep.RegionHeld
import Derived.Deep.MidRow
import Derived.Deep.CutRange
import Derived.Deep.Cut
namespace Go.Proofs.Ytjkenhkoakaaoaa
open Go.RowKit
set_option linter.unusedVariables false
set_option linter.unusedSimpArgs false
theorem infoSNH : (Try.prog.info? 9).map (fun i => (i.zero, i.size, i.bytes)) = some (some (.string ⟨#[]⟩), 1, 16) := by kernel_rfl
theorem elS0H : El Try.prog 49 9 16 (.string ⟨#[]⟩) := ⟨Try.underlying49, info_parts infoSNH, rfl⟩
theorem elS1H : ElN Try.prog 49 9 1 16 := elS0H.toN
theorem infoSSH : (Try.prog.info? 49).map (fun i => (i.zero, i.size, i.bytes)) = some (some (.slice none 0 0), 1, 24) := by kernel_rfl
theorem elSSH : El Try.prog 91 49 24 (.slice none 0 0) := ⟨Try.underlying91, info_parts infoSSH, rfl⟩
def two2 (i t : Nat) : ByteArray := bstr [i, t % 256]
def three3 (i t : Nat) : ByteArray := bstr [i, t % 256, 9]
def fbH (n : Nat → Nat) (i t : Nat) : Value := if t < n i then .string (two2 i t) else .string (three3 i (t - n i))
theorem conv_two (w : World) (v u : Nat) : (convert 45 9 (.slice (some ⟨w.heap.size, 0, none⟩) 2 2)).run Try.prog (w.alloc (.cells #[.int .u8 (v : Int), .int .u8 (u : Int)] 5)) = .ok (.string (bstr [v, u])) (w.alloc (.cells #[.int .u8 (v : Int), .int .u8 (u : Int)] 5)) := by
  have hr := rd_litF (w := w) (e := 5) (cb [v, u]) (0, 0)
  have h2 : Rd (w.alloc (.cells #[.int .u8 (v : Int), .int .u8 (u : Int)] 5)) (w.heap.size + 1) (some ⟨w.heap.size, 0, none⟩) 2 (cb [v, u]) := hr
  rw [cb_ints] at h2
  exact run_conv_str _ _ 5 Try.underlying45 Try.underlying5 Try.underlying9 2 h2
theorem conv_three (w : World) (v u : Nat) : (convert 45 9 (.slice (some ⟨w.heap.size, 0, none⟩) 3 3)).run Try.prog (w.alloc (.cells #[.int .u8 (v : Int), .int .u8 (u : Int), .int .u8 9] 5)) = .ok (.string (bstr [v, u, 9])) (w.alloc (.cells #[.int .u8 (v : Int), .int .u8 (u : Int), .int .u8 9] 5)) := by
  have hr := rd_litF (w := w) (e := 5) (cb [v, u, 9]) (0, 0)
  have h2 : Rd (w.alloc (.cells #[.int .u8 (v : Int), .int .u8 (u : Int), .int .u8 9] 5)) (w.heap.size + 1) (some ⟨w.heap.size, 0, none⟩) 3 (cb [v, u, 9]) := hr
  rw [cb_ints] at h2
  exact run_conv_str _ _ 5 Try.underlying45 Try.underlying5 Try.underlying9 3 h2
theorem wrap8 (j : Nat) : IntKind.u8.wrap (j : Int) = ((j % 256 : Nat) : Int) := by rw [IntKind.wrap_u8]; omega
set_option maxRecDepth 20000 in
set_option maxHeartbeats 16000000 in
theorem apartTexts_any07 (w : World) (base L c : Nat) (A : Option Addr) (us : List Value) (n : Nat → Nat) (hL : us.length = L) (H : Fil w base 49 9 (.slice A L c) us n (fbH n) (fun _ _ => False)) (hl : L ≤ 100) (hn : ∀ i, n i ≤ 8796093021000) (hbase : base ≤ w.heap.size) :
    Calls Try.prog 55 #[.slice A L c] w fun e w' => e = .returned (.bool true) ∧ Chg (ablk us) w w' := by
  have HH : Hd (Fil w base 49 9 (.slice A L c) us n (fbH n) (fun _ _ => False) ∧ us.length = L ∧ base ≤ w.heap.size ∧ (∀ i, n i ≤ 8796093021000)) := ⟨H, hL, hbase, hn⟩
  clear H hL hbase hn
  go_enter Try.func55, Try.ntmps55
  go_wp2_with fail
  go_loopw [3] (fun u3 wr => ∃ i : Nat, i ≤ L ∧ u3 = .int .i64 (i : Int) ∧ Fil wr base 49 9 (.slice A L c) us n (fbH n) (fun k _ => k < i) ∧ Chg (ablk us) w wr) (fun u3 _ => L - (intOf u3).toNat)
  case atStart => exact ⟨0, by omega, rfl, HH.out.1.imp fun k s _ h => absurd h (by omega), Chg.refl _ _⟩
  case round =>
    obtain ⟨i, hi, rfl, hF, hC⟩ := hrel
    have H1 := Hd.mk (And.intro hF hC)
    clear hF hC
    by_cases hlt : i < L
    · have hii : (i : Int) < (L : Int) := by omega
      obtain ⟨u, hu⟩ : ∃ u, us[i]? = some u := ⟨_, List.getElem?_eq_getElem (by rw [HH.out.2.1]; exact hlt)⟩
      have ho := H1.out.1.out
      rw [HH.out.2.1] at ho
      obtain ⟨gv, cv, e, _, hgv⟩ := own_pos ho (by omega)
      cases e
      obtain ⟨xs, hr, hd⟩ := H1.out.1.row i u hu
      obtain ⟨Ai, ci, hui, _, _⟩ := own_form hr
      subst hui
      obtain ⟨m, hm⟩ : ∃ m, n i = m := ⟨_, rfl⟩
      have hm2 := HH.out.2.2.2 i
      have HM := Hd.mk hm
      rw [hm] at hm2 hr
      have HU : Hd (us[i]? = some (.slice Ai m ci) ∧ True) := ⟨by rw [← hm]; exact hu, trivial⟩
      obtain ⟨wo, hwo⟩ : ∃ wo : World, wo = wr := ⟨_, rfl⟩
      subst hwo
      clear hr hd hu ho hm
      go_wp2_with fail
      go_loopw [4] (fun u4 wr => ∃ j : Nat, j ≤ m ∧ u4 = .int .i64 (j : Int) ∧ Fil wr base 49 9 (.slice (some ⟨gv, 0, none⟩) L c) us n (fbH n) (fun k s => k < i ∨ (k = i ∧ s < j)) ∧ Chg (ablk us) w wr) (fun u4 _ => m - (intOf u4).toNat)
      case atStart => exact ⟨0, by omega, rfl, H1.out.1.imp fun k s _ h => Or.elim h id (fun h => absurd h.2 (by omega)), H1.out.2⟩
      case round =>
        obtain ⟨j, hj, rfl, hF, hC⟩ := hrel
        have H2 := Hd.mk (And.intro hF hC)
        have ho := hF.out
        rw [HH.out.2.1] at ho
        obtain ⟨xs2, hr, hd⟩ := hF.row i _ HU.out.1
        have hcv := (own_atG ho (j := i) (u := .slice Ai m ci) HU.out.1).1
        clear hF hC ho hd
        by_cases hjl : j < m
        · have hji : (j : Int) < (m : Int) := by omega
          rw [HM.out] at hr
          obtain ⟨g, c2, e, _, hg⟩ := own_pos hr (by omega)
          cases e
          obtain ⟨old, hold⟩ : ∃ old, xs2[j]? = some old := ⟨_, List.getElem?_eq_getElem (by have := hr.1; omega)⟩
          obtain ⟨hc1, hc2⟩ := own_atG hr hold
          have HR := Hd.mk (And.intro hr hg)
          clear hr hold hg
          have hb1 : IntKind.u8.wrap (i : Int) = (i : Int) := by rw [IntKind.wrap_u8]; omega
          have hb2 := wrap8 j
          obtain ⟨jm, hjm⟩ : ∃ q, j % 256 = q := ⟨_, rfl⟩
          rw [hjm] at hb2
          have HB := Hd.mk (And.intro hb1 hb2)
          have HJM := Hd.mk hjm
          have hgv2 : g ≠ gv := fun e => by
            have h1 := H2.out.1.off i _ HU.out.1
            exact h1 gv rfl (by rw [← e]; rfl)
          have hgl : g < wr.heap.size := by have := World.block_lt_of_cell? wr _ hc1; exact this
          have hgvl : gv < wr.heap.size := by have := World.block_lt_of_cell? wr _ hcv; exact this
          have HCV : Hd (∀ W, Chg [g] wr W → W.cell? ⟨gv, i, none⟩ = some (.slice (some ⟨g, 0, none⟩) m ci)) := ⟨fun W b => (b.cell (p := ⟨gv, i, none⟩) hgvl (by simp; exact fun e => hgv2 e.symm)).trans hcv⟩
          have HC1 : Hd (wr.cell? ⟨g, j, none⟩ = some old ∧ wr.frozen? ⟨g, j, none⟩ = false) := ⟨hc1, hc2⟩
          clear hb1 hb2 hc1 hc2 hjm
          go_upto_region 7 with fail
          clear hcv
          refine wp_region_held_drew (S := fun W => Chg [g] wr W) (by kernel_rfl) (Chg.refl _ wr).drew (fun hHeld => ?_)
          obtain ⟨wd, hwd⟩ : ∃ U, wr.drew = U := ⟨_, rfl⟩
          have HWD : Hd (Chg [g] wr wd ∧ Below wr.heap.size wr wd ∧ wd.cell? ⟨g, j, none⟩ = some old ∧ wd.frozen? ⟨g, j, none⟩ = false) := ⟨by rw [← hwd]; exact ⟨(Chg.refl _ wr).drew, (Below.refl _ wr).drew, HC1.out.1, HC1.out.2⟩⟩
          rw [hwd] at hHeld ⊢
          clear hwd
          refine wpAnyH_take (i := 0) (oi := ?oi101) (v := ?v101) ?hi101 (by kernel_rfl) (by kernel_rfl) (by kernel_rfl) ?hQ101 (Or.inl ⟨?hw101, ?hy101⟩) (by assumption) ?rest101
          case hi101 => simp only [List.getElem?_toArray, List.getElem?_cons_succ, List.getElem?_cons_zero]; rfl
          case hQ101 => exact fun _ _ _ h => h
          case hw101 => rfl
          case hy101 => (intro W hW; have f1 := HCV.out W hW; go_simp; all_goals rfl)
          simp only [Act.put, List.setIfInBounds_toArray, List.set_cons_zero, List.set_cons_succ]
          refine wpAnyH_take (i := 1) (oi := ?oi102) (v := ?v102) ?hi102 (by kernel_rfl) (by kernel_rfl) (by kernel_rfl) ?hQ102 (Or.inl ⟨?hw102, ?hy102⟩) (by assumption) ?rest102
          case hi102 => simp only [List.getElem?_toArray, List.getElem?_cons_succ, List.getElem?_cons_zero]; rfl
          case hQ102 => exact fun _ _ _ h => h
          case hw102 => rfl
          case hy102 => (intro W hW; have f1 := HCV.out W hW; go_simp; all_goals rfl)
          simp only [Act.put, List.setIfInBounds_toArray, List.set_cons_zero, List.set_cons_succ]
          refine wpAnyH_take (i := 2) (oi := ?oi103) (v := ?v103) ?hi103 (by kernel_rfl) (by kernel_rfl) (by kernel_rfl) ?hQ103 (Or.inl ⟨?hw103, ?hy103⟩) (by assumption) ?rest103
          case hi103 => simp only [List.getElem?_toArray, List.getElem?_cons_succ, List.getElem?_cons_zero]; rfl
          case hQ103 => exact fun _ _ _ h => h
          case hw103 => rfl
          case hy103 => (intro W hW; have f1 := HCV.out W hW; go_simp; all_goals rfl)
          simp only [Act.put, List.setIfInBounds_toArray, List.set_cons_zero, List.set_cons_succ]
          refine wpAnyH_take (i := 3) (oi := ?oi104) (v := ?v104) ?hi104 (by kernel_rfl) (by kernel_rfl) (by kernel_rfl) ?hQ104 (Or.inl ⟨?hw104, ?hy104⟩) (by assumption) ?rest104
          case hi104 => simp only [List.getElem?_toArray, List.getElem?_cons_succ, List.getElem?_cons_zero]; rfl
          case hQ104 => exact fun _ _ _ h => h
          case hw104 => rfl
          case hy104 => (intro W hW; have f1 := HCV.out W hW; go_simp; all_goals rfl)
          simp only [Act.put, List.setIfInBounds_toArray, List.set_cons_zero, List.set_cons_succ]
          refine wpAnyH_take (i := 4) (oi := ?oi105) (v := ?v105) ?hi105 (by kernel_rfl) (by kernel_rfl) (by kernel_rfl) ?hQ105 (Or.inl ⟨?hw105, ?hy105⟩) (by assumption) ?rest105
          case hi105 => simp only [List.getElem?_toArray, List.getElem?_cons_succ, List.getElem?_cons_zero]; rfl
          case hQ105 => exact fun _ _ _ h => h
          case hw105 => rfl
          case hy105 => (intro W hW; have f1 := HB.out.1; have f2 := HB.out.2; go_simp; all_goals rfl)
          simp only [Act.put, List.setIfInBounds_toArray, List.set_cons_zero, List.set_cons_succ]
          refine wpAnyH_take (i := 5) (oi := ?oi106) (v := ?v106) ?hi106 (by kernel_rfl) (by kernel_rfl) (by kernel_rfl) ?hQ106 (Or.inl ⟨?hw106, ?hy106⟩) (by assumption) ?rest106
          case hi106 => simp only [List.getElem?_toArray, List.getElem?_cons_succ, List.getElem?_cons_zero]; rfl
          case hQ106 => exact fun _ _ _ h => h
          case hw106 => rfl
          case hy106 => (intro W hW; have f1 := HB.out.1; have f2 := HB.out.2; go_simp; all_goals rfl)
          simp only [Act.put, List.setIfInBounds_toArray, List.set_cons_zero, List.set_cons_succ]
          refine wpAnyH_take (i := 6) (oi := ?oi107) (v := ?v107) ?hi107 (by kernel_rfl) (by kernel_rfl) (by kernel_rfl) ?hQ107 (Or.inl ⟨?hw107, ?hy107⟩) (by assumption) ?rest107
          case hi107 => simp only [List.getElem?_toArray, List.getElem?_cons_succ, List.getElem?_cons_zero]; rfl
          case hQ107 => exact fun _ _ _ h => h
          case hw107 => rfl
          case hy107 => (intro W hW; have f1 := HB.out.1; have f2 := HB.out.2; go_simp; all_goals rfl)
          simp only [Act.put, List.setIfInBounds_toArray, List.set_cons_zero, List.set_cons_succ]
          refine wpAnyH_take (i := 7) (oi := ?oi108) (v := ?v108) ?hi108 (by kernel_rfl) (by kernel_rfl) (by kernel_rfl) ?hQ108 (Or.inl ⟨?hw108, ?hy108⟩) (by assumption) ?rest108
          case hi108 => simp only [List.getElem?_toArray, List.getElem?_cons_succ, List.getElem?_cons_zero]; rfl
          case hQ108 => exact fun _ _ _ h => h
          case hw108 => rfl
          case hy108 => (intro W hW; have f1 := HB.out.1; have f2 := HB.out.2; go_simp; all_goals rfl)
          simp only [Act.put, List.setIfInBounds_toArray, List.set_cons_zero, List.set_cons_succ]
          refine wpAnyH_take (i := 8) (oi := ?oi109) (v := ?v109) ?hi109 (by kernel_rfl) (by kernel_rfl) (by kernel_rfl) ?hQ109 (Or.inl ⟨?hw109, ?hy109⟩) (by assumption) ?rest109
          case hi109 => simp only [List.getElem?_toArray, List.getElem?_cons_succ, List.getElem?_cons_zero]; rfl
          case hQ109 => exact fun _ _ _ h => h
          case hw109 => rfl
          case hy109 => (intro W hW; have f1 := HB.out.1; have f2 := HB.out.2; go_simp; all_goals rfl)
          simp only [Act.put, List.setIfInBounds_toArray, List.set_cons_zero, List.set_cons_succ]
          refine wpAnyH_ready (rs := [9]) (by kernel_rfl) (by simp) ?_
          refine AllReadyH.cons (i := 9) (o := ?oR3) ?hoR3 (fun Kq hK => ?stR3) AllReadyH.nil
          case hoR3 => simp only [List.getElem?_toArray, List.getElem?_cons_succ, List.getElem?_cons_zero]; rfl
          go_simp
          obtain ⟨wa, hwa⟩ : ∃ U, wd.alloc (.cells #[.int .u8 (i : Int), .int .u8 (jm : Int)] 5) = U := ⟨_, rfl⟩
          have f15 := conv_two wd i jm
          obtain ⟨gn, hgn⟩ : ∃ q, wd.heap.size = q := ⟨_, rfl⟩
          rw [hwa, hgn] at f15
          have HWA : Hd (Chg [g] wr wa ∧ Below wr.heap.size wr wa ∧ wa.cell? ⟨g, j, none⟩ = some old ∧ wa.frozen? ⟨g, j, none⟩ = false) := ⟨by
            have hgd : g < wd.heap.size := by have := HWD.out.1.size; omega
            rw [← hwa]
            refine ⟨HWD.out.1.alloc _, HWD.out.2.1.alloc HWD.out.1.size _, ?_, ?_⟩
            · rw [World.cell?_alloc_lt _ _ _ hgd]; exact HWD.out.2.2.1
            · rw [World.frozen?_alloc_past _ _ _ hgd]; exact HWD.out.2.2.2⟩
          try rw [hwa]
          try rw [hgn]
          refine hK.out _ _ (HWA.out.1) (fun _ => ?_)
          clear hK Kq hwa hgn
          try simp only [Act.put, List.setIfInBounds_toArray, List.set_cons_zero, List.set_cons_succ]
          refine wpAnyH_ready (rs := [10]) (by kernel_rfl) (by simp) ?_
          refine AllReadyH.cons (i := 10) (o := ?oR2) ?hoR2 (fun Kq hK => ?stR2) AllReadyH.nil
          case hoR2 => simp only [List.getElem?_toArray, List.getElem?_cons_succ, List.getElem?_cons_zero]; rfl
          go_simp
          refine hK.out _ _ (HWA.out.1) (fun _ => ?_)
          clear hK Kq f15
          try simp only [Act.put, List.setIfInBounds_toArray, List.set_cons_zero, List.set_cons_succ]
          refine wpAnyH_take (i := 11) (oi := ?oi201) (v := ?v201) ?hi201 (by kernel_rfl) (by kernel_rfl) (by kernel_rfl) ?hQ201 (Or.inl ⟨?hw201, ?hy201⟩) (by assumption) ?rest201
          case hi201 => simp only [List.getElem?_toArray, List.getElem?_cons_succ, List.getElem?_cons_zero]; rfl
          case hQ201 => exact fun _ _ _ h => h
          case hw201 => rfl
          case hy201 => (intro W hW; go_simp; all_goals rfl)
          simp only [Act.put, List.setIfInBounds_toArray, List.set_cons_zero, List.set_cons_succ]
          have c11 := HWA.out.2.2.1
          have z11 := HWA.out.2.2.2
          refine wpAnyH_ready (rs := [12]) (by kernel_rfl) (by simp) ?_
          refine AllReadyH.cons (i := 12) (o := ?oR1) ?hoR1 (fun Kq hK => ?stR1) AllReadyH.nil
          case hoR1 => simp only [List.getElem?_toArray, List.getElem?_cons_succ, List.getElem?_cons_zero]; rfl
          go_simp
          have hC7 : Chg [g] wr (wa.setCell ⟨g, j, none⟩ (.string (bstr [i, jm]))) := HWA.out.1.setCell (by simp) _
          refine hK.out _ _ (hC7) (fun _ => ?_)
          clear hK Kq c11 z11 hC7
          try simp only [Act.put, List.setIfInBounds_toArray, List.set_cons_zero, List.set_cons_succ]
          refine wpAnyH_done (by kernel_rfl) ?_ _
          clear hHeld
          (try go_wp2_with fail)
          go_roundw
          case rel =>
            refine ⟨j + 1, by omega, by go_num, ?_, (H2.out.2.trans ((Chg.of_below HWA.out.2.1).mono (fun q hq _ => absurd hq List.not_mem_nil))).setCell (show g ∈ ablk us from blk_mem HU.out.1 rfl) _⟩
            have h := (H2.out.1.below (B := 0) HWA.out.2.1).set (i := i) (t := j) (g := g) (c := ci) (D' := fun k s => k < i ∨ (k = i ∧ s < j + 1)) (by rw [HM.out]; exact HU.out.1) (by rw [HM.out]; exact hjl) (fun k s h => by omega)
            rw [show fbH n i j = .string (bstr [i, jm]) by unfold fbH two2; rw [if_pos (by rw [HM.out]; exact hjl), HJM.out]] at h
            exact h
          case measure => simp [intOf]; omega
        · have hjm : j = m := by omega
          subst hjm
          go_wp2_with fail
          go_roundw
          case rel => exact ⟨i + 1, by omega, by go_num, H2.out.1.imp fun k s hs h => by
            rcases Nat.lt_or_ge k i with h1 | h1
            · exact .inl h1
            · have : k = i := by omega
              subst this
              exact .inr ⟨rfl, by rw [← HM.out]; exact hs⟩, H2.out.2⟩
          case measure => simp [intOf]; omega
    · have hiL : i = L := by omega
      subst hiL
      have HG : Hd (Gro w wr base 9 (O3 (.slice A i c) 49 us (.slice none 0 0) 49 [] (.slice none 0 0) 3 []) us n (fbH n) 0 []) := ⟨Gro.start3 (by rw [HH.out.2.1]; exact H1.out.1) H1.out.2⟩
      clear H1
      obtain ⟨L, hL⟩ : ∃ L, L = i := ⟨_, rfl⟩
      subst hL
      go_wp2_with fail
      obtain ⟨wz, hwz⟩ : ∃ wz : World, wz = wr := ⟨_, rfl⟩
      subst hwz
      go_loopw [5, 6, 7] (fun u5 u6 u7 wr => ∃ (i : Nat) (E S : List Ent), i ≤ L ∧ u7 = .int .i64 (i : Int) ∧ E.length ≤ 64 * i ∧ Gro w wr base 9 (O3 (.slice A L c) 49 us u5 49 (lsE E) u6 3 (hsE E)) us n (fbH n) i S ∧ (∀ x ∈ E, x ∈ S ∧ x.2.1 < i ∧ x.2.2 ≤ n x.2.1 + 64) ∧ (∀ (k : Nat) (z : Value), k < i → us[k]? = some z → (z, k, n k) ∈ S)) (fun _ _ u7 _ => L - (intOf u7).toNat)
      case atStart => exact ⟨0, [], [], by omega, rfl, by simp, HG.out, fun x h => absurd h List.not_mem_nil, fun k z h => absurd h (by omega)⟩
      case round =>
        obtain ⟨i, E, S, hi, rfl, hll, hG, hs1, hs2⟩ := hrel
        have H1 := Hd.mk (And.intro hG (And.intro hll (And.intro hs1 hs2)))
        clear hG hll hs1 hs2
        by_cases hlt : i < L
        · have hii : (i : Int) < (L : Int) := by omega
          obtain ⟨u, hu⟩ : ∃ u, us[i]? = some u := ⟨_, List.getElem?_eq_getElem (by rw [HH.out.2.1]; exact hlt)⟩
          have HC := Hd.mk (H1.out.1.enter hu)
          have ho : wr.ownsRow base 49 1 (.slice A L c) us.length us := H1.out.1.out 0
          rw [HH.out.2.1] at ho
          obtain ⟨gv, cv, e, _, hgv⟩ := own_pos ho (by omega)
          cases e
          have hcv := (own_atG ho hu).1
          obtain ⟨Ai, ci, hui, _, _⟩ := own_form (H1.out.1.rest i u (Nat.le_refl _) hu)
          obtain ⟨m, hm⟩ : ∃ m, n i = m := ⟨_, rfl⟩
          have hm2 := HH.out.2.2.2 i
          have HM := Hd.mk hm
          rw [hm] at hm2 hui HC
          have HU := Hd.mk (And.intro hu hui)
          rw [hui] at hcv
          obtain ⟨wo, hwo⟩ : ∃ wo : World, wo = wr := ⟨_, rfl⟩
          subst hwo
          clear hu hui ho hm
          go_wp2_with fail
          go_loopw [5, 6, 8, 9] (fun u5 u6 u8 u9 wr => ∃ (k : Nat) (E2 M : List Ent), k ≤ 64 ∧ u9 = .int .i64 (k : Int) ∧ E2.length ≤ 64 * i + k ∧ Cur w wr base 9 (O3 (.slice (some ⟨gv, 0, none⟩) L c) 49 us u5 49 (lsE E2) u6 3 (hsE E2)) us n (fbH n) i S u8 (m + k) M ∧ (∀ x ∈ E2, x ∈ M ++ S ∧ x.2.1 < i + 1 ∧ x.2.2 ≤ n x.2.1 + 64) ∧ (u, i, m) ∈ M) (fun _ _ _ u9 _ => 64 - (intOf u9).toNat)
          case atStart => exact ⟨0, E, [(u, i, m)], by omega, rfl, by have := H1.out.2.1; omega, by rw [← HU.out.2]; exact HC.out, fun x hx => ⟨List.mem_append_right _ (H1.out.2.2.1 x hx).1, by have := (H1.out.2.2.1 x hx).2.1; omega, (H1.out.2.2.1 x hx).2.2⟩, List.mem_singleton.2 rfl⟩
          case round =>
            obtain ⟨k, E2, M, hk, rfl, hel, hc, he2, huM⟩ := hrel
            have H2 := Hd.mk hc
            have HE2 := Hd.mk (And.intro hel (And.intro he2 huM))
            have hws : base ≤ wr.heap.size := Nat.le_trans HH.out.2.2.1 hc.gro.chg.size
            clear hc hel he2 huM
            by_cases hkl : k < 64
            · have hb1 : IntKind.u8.wrap (i : Int) = (i : Int) := by rw [IntKind.wrap_u8]; omega
              have hb2 : IntKind.u8.wrap (k : Int) = (k : Int) := by rw [IntKind.wrap_u8]; omega
              have f15 := conv_three wr i k
              have H2b := Hd.mk (H2.out.below ((Below.refl wr.heap.size wr).alloc (Nat.le_refl _) (.cells #[.int .u8 (i : Int), .int .u8 (k : Int), .int .u8 9] 5)))
              have hws2 : base ≤ (wr.alloc (.cells #[.int .u8 (i : Int), .int .u8 (k : Int), .int .u8 9] 5)).heap.size := by simp; omega
              have h63 : Hd (m + k + 1 ≤ maxLen) := ⟨by unfold maxLen; omega⟩
              have hby : Hd ((m + k + 1) * 16 ≤ 140737488355328) := ⟨by omega⟩
              have HWS := Hd.mk hws
              go_upto_region 18 with (at_builtin; refine pushSN_at0 elS1H rfl (.tmp 54) (.tmp 61) rfl base u8 (m + k) (cellsF (fbH n i) (m + k)) [.string (bstr [i, k, 9])] rfl (wr.heap.size + 1) (by simp) rfl rfl (by simp [Value.oneCell']) H2b.out.own h63.out hby.out hws2 ?_; intro v2 w2 hO2; have H3 := Hd.mk hO2; clear hO2)
              have HC2 : Hd (Cur w w2 base 9 (O3 (.slice (some ⟨gv, 0, none⟩) L c) 49 us u5 49 (lsE E2) u6 3 (hsE E2)) us n (fbH n) i S v2 (m + (k + 1)) M ∧ base ≤ w2.heap.size) := ⟨by
                have hap := H2b.out.app1 (by unfold fbH three3; rw [if_neg (by rw [HM.out]; omega), HM.out, show m + k - m = k by omega, Nat.mod_eq_of_lt (show k < 256 by omega)]) H3.out
                exact ⟨hap, Nat.le_trans HH.out.2.2.1 hap.gro.chg.size⟩⟩
              clear H2 H2b H3 hws hws2 h63 hby f15 hb1 hb2
              obtain ⟨bq, hbq⟩ : ∃ b : Bool, (decide (k < 16) || decide (k = 63)) = b := ⟨_, rfl⟩
              have HBQ := Hd.mk hbq
              clear hbq
              go_upto_region 18 with fail
              go_cut [68] from 63 to 68 (fun r wx => r = .bool bq ∧ wx = w2)
              case first =>
                by_cases h1 : k < 16
                · have h1i : (k : Int) < 16 := by omega
                  have e1 : bq = true := by rw [← HBQ.out]; simp [h1]
                  subst e1
                  go_wp2_with fail
                  go_meet
                  case rel => exact ⟨rfl, rfl⟩
                · have h1i : ¬ (k : Int) < 16 := by omega
                  by_cases h2 : k = 63
                  · subst h2
                    have e1 : bq = true := by rw [← HBQ.out]; rfl
                    subst e1
                    go_wp2_with fail
                    go_meet
                    case rel => exact ⟨rfl, rfl⟩
                  · have h2i : ¬ (k : Int) = 63 := by omega
                    have e1 : bq = false := by rw [← HBQ.out]; simp [h1, h2]
                    subst e1
                    go_wp2_with fail
                    go_meet
                    case rel => first | exact ⟨rfl, rfl⟩ | exact ⟨by simp [h2i], rfl⟩
              obtain ⟨hr68, hwc⟩ := hcut
              subst hr68
              rw [hwc]
              clear hwc
              go_upto_if 68 with fail
              rcases hbb : bq with _ | _
              · subst hbb
                go_wp2_with fail
                go_roundw
                case rel => exact ⟨k + 1, E2, M, by omega, by go_num, by have := HE2.out.1; omega, HC2.out.1, HE2.out.2.1, HE2.out.2.2⟩
                case measure => simp [intOf]; omega
              · subst hbb
                obtain ⟨Ag, cg, hv2, _⟩ := own_form HC2.out.1.own
                subst hv2
                have he := HE2.out.1
                have h63 : Hd (E2.length + 1 ≤ maxLen) := ⟨by unfold maxLen; omega⟩
                have hby : Hd ((E2.length + 1) * 24 ≤ 140737488355328) := ⟨by omega⟩
                have hby2 : Hd ((E2.length + 1) * 8 ≤ 140737488355328) := ⟨by omega⟩
                have ho5 : Hd (w2.ownsRow base 49 1 u5 E2.length (lsE E2)) := ⟨by have := HC2.out.1.gro.out 1; rw [← lsE_len]; exact this⟩
                clear he
                go_wp2_with (refine at_buildSlice ?_; first | (refine wpList_push elSSH rfl rfl (.tmp 69) (.tmp 70) 71 rfl rfl rfl base u5 E2.length (lsE E2) (.slice Ag (m + (k + 1)) cg) rfl rfl rfl rfl ho5.out h63.out hby.out HC2.out.2 ?_; intro v3 w3 hO2; have HC3 : Hd (Cur w w3 base 9 (O3 (.slice (some ⟨gv, 0, none⟩) L c) 49 us v3 49 (lsE E2 ++ [.slice Ag (m + (k + 1)) cg]) u6 3 (hsE E2)) us n (fbH n) i S (.slice Ag (m + (k + 1)) cg) (m + (k + 1)) ((.slice Ag (m + (k + 1)) cg, i, m + (k + 1)) :: M) ∧ base ≤ w3.heap.size) := ⟨by
                  have hp := HC2.out.1.push (q := 1) (O' := (O3 (.slice (some ⟨gv, 0, none⟩) L c) 49 us v3 49 (lsE E2 ++ [.slice Ag (m + (k + 1)) cg]) u6 3 (hsE E2))) (y := .slice Ag (m + (k + 1)) cg) (M' := (.slice Ag (m + (k + 1)) cg, i, m + (k + 1)) :: M) (by decide) rfl (by rw [lsE_len]; exact hO2) rfl O3_one (fun x hx => (List.mem_cons.1 hx).elim .inr .inl)
                  exact ⟨hp, Nat.le_trans HH.out.2.2.1 hp.gro.chg.size⟩⟩; have ho6 : Hd (w3.ownsRow base 3 1 u6 E2.length (hsE E2)) := ⟨by have := HC3.out.1.gro.out 2; rw [← hsE_len]; exact this⟩; clear hO2) | (refine wpList_push elIG rfl rfl (.tmp 73) (.tmp 74) 75 rfl rfl rfl base u6 E2.length (hsE E2) (.int .i64 (i : Int)) rfl rfl rfl rfl ho6.out h63.out hby2.out HC3.out.2 ?_; intro v4 w4 hO2; have HC4 : Hd (Cur w w4 base 9 (O3 (.slice (some ⟨gv, 0, none⟩) L c) 49 us v3 49 (lsE E2 ++ [.slice Ag (m + (k + 1)) cg]) v4 3 (hsE E2 ++ [.int .i64 (i : Int)])) us n (fbH n) i S (.slice Ag (m + (k + 1)) cg) (m + (k + 1)) ((.slice Ag (m + (k + 1)) cg, i, m + (k + 1)) :: M)) := ⟨HC3.out.1.push (q := 2) (O' := (O3 (.slice (some ⟨gv, 0, none⟩) L c) 49 us v3 49 (lsE E2 ++ [.slice Ag (m + (k + 1)) cg]) v4 3 (hsE E2 ++ [.int .i64 (i : Int)]))) (y := .int .i64 (i : Int)) (by decide) rfl (by rw [hsE_len]; exact hO2) rfl O3_two (fun x hx => .inl hx)⟩; clear hO2))
                go_roundw
                case rel =>
                  refine ⟨k + 1, E2 ++ [(.slice Ag (m + (k + 1)) cg, i, m + (k + 1))], (.slice Ag (m + (k + 1)) cg, i, m + (k + 1)) :: M, by omega, by go_num, by have := HE2.out.1; rw [List.length_append]; simp; omega, by rw [lsE_snoc, hsE_snoc]; exact HC4.out, fun x hx => ?_, List.mem_cons_of_mem _ HE2.out.2.2⟩
                  rcases List.mem_append.1 hx with h | h
                  · exact ⟨List.mem_append.2 ((List.mem_append.1 (HE2.out.2.1 x h).1).imp (fun h => List.mem_cons_of_mem _ h) id), (HE2.out.2.1 x h).2⟩
                  · rw [List.mem_singleton.1 h]; exact ⟨List.mem_append_left _ List.mem_cons_self, by show i < i + 1; omega, by show m + (k + 1) ≤ n i + 64; rw [HM.out]; omega⟩
                case measure => simp [intOf]; omega
            · have hk64 : k = 64 := by omega
              subst hk64
              go_wp2_with fail
              go_roundw
              case rel => exact ⟨i + 1, E2, M ++ S, by omega, by go_num, by have := HE2.out.1; omega, H2.out.leave, fun x hx => HE2.out.2.1 x hx, fun k z hk hz => by
                rcases Nat.lt_or_ge k i with h | h
                · exact List.mem_append_right _ (H1.out.2.2.2 k z h hz)
                · have hq2 : k = i := by omega
                  subst hq2
                  have : u = z := by have := HU.out.1; rw [hz] at this; injection this with this; exact this.symm
                  subst this
                  rw [HM.out]
                  exact List.mem_append_left _ HE2.out.2.2⟩
              case measure => simp [intOf]; omega
        · have hiL : i = L := by omega
          subst hiL
          have H4 : Hd ((∀ x ∈ E, SnapOf wr (fbH n) x) ∧ (∀ (k : Nat) (z : Value), us[k]? = some z → SnapOf wr (fbH n) (z, k, n k)) ∧ Chg (ablk us) w wr ∧ wr.ownsRow base 49 1 (.slice A i c) i us ∧ wr.ownsRow base 49 1 u5 E.length (lsE E) ∧ wr.ownsRow base 3 1 u6 E.length (hsE E) ∧ ∀ x ∈ E, x.2.1 < i ∧ x.2.2 ≤ n x.2.1 + 64) :=
            ⟨fun x h => (H1.out.1.snap _ (H1.out.2.2.1 x h).1).1, fun k z h => (H1.out.1.snap _ (H1.out.2.2.2 k z (by rw [← HH.out.2.1]; exact (List.getElem?_eq_some_iff.1 h).1) h)).1, H1.out.1.chg, by have := H1.out.1.out 0; rw [← HH.out.2.1] at this ⊢; exact this, by have := H1.out.1.out 1; rw [← lsE_len]; exact this, by have := H1.out.1.out 2; rw [← hsE_len]; exact this, fun x h => (H1.out.2.2.1 x h).2⟩
          have HL : Hd (us.length = i ∧ E.length ≤ 64 * i) := ⟨HH.out.2.1, H1.out.2.1⟩
          have hel : E.length ≤ 6400 := by have := H1.out.2.1; omega
          clear H1
          obtain ⟨L, hL⟩ : ∃ L, L = i := ⟨_, rfl⟩
          subst hL
          obtain ⟨N, hN⟩ : ∃ N, E.length = N := ⟨_, rfl⟩
          have HN := Hd.mk hN
          rw [hN] at H4 HL hel
          clear hN
          obtain ⟨A5, c5, hv5, _⟩ := own_form H4.out.2.2.2.2.1
          obtain ⟨A6, c6, hv6, _⟩ := own_form H4.out.2.2.2.2.2.1
          subst hv5 hv6
          obtain ⟨wy, hwy⟩ : ∃ wy : World, wy = wr := ⟨_, rfl⟩
          subst hwy
          go_wp2_with fail
          go_loopw [10] (fun u10 wr => ∃ (q : Nat), q ≤ N ∧ u10 = .int .i64 (q : Int) ∧ Chg [] wy wr ∧ Chg (ablk us) w wr) (fun u10 _ => N - (intOf u10).toNat)
          case atStart => exact ⟨0, by omega, rfl, Chg.refl _ _, H4.out.2.2.1⟩
          case round =>
            obtain ⟨q, hq, rfl, hh, hC⟩ := hrel
            have H5 := Hd.mk (And.intro hh hC)
            have hcell : ∀ p : Addr, p.block < wy.heap.size → wr.cell? p = wy.cell? p := fun p hp => hh.cell hp List.not_mem_nil
            by_cases hlt : q < N
            · have hii : (q : Int) < (N : Int) := by omega
              obtain ⟨x, hx⟩ : ∃ x, E[q]? = some x := ⟨_, List.getElem?_eq_getElem (by rw [HN.out]; exact hlt)⟩
              obtain ⟨z, i, p⟩ := x
              have hxm := List.mem_of_getElem? hx
              have hb := H4.out.2.2.2.2.2.2 _ hxm
              simp only at hb
              have hiL := hb.1
              have hiI : (i : Int) < (L : Int) := by omega
              obtain ⟨u, hu⟩ : ∃ u, us[i]? = some u := ⟨_, List.getElem?_eq_getElem (by rw [HL.out.1]; exact hiL)⟩
              have hz : (lsE E)[q]? = some z := by unfold lsE; rw [List.getElem?_map, hx]; rfl
              have hw : (hsE E)[q]? = some (.int .i64 (i : Int)) := by unfold hsE; rw [List.getElem?_map, hx]; rfl
              have ho := H4.out.2.2.2.1
              obtain ⟨gv, cv, e, _, hgv⟩ := own_pos ho (by omega)
              cases e
              have ho5 := H4.out.2.2.2.2.1
              obtain ⟨gl, cl, e, _, hgl⟩ := own_pos ho5 (by omega)
              cases e
              have ho6 := H4.out.2.2.2.2.2.1
              obtain ⟨gh, chh, e, _, hgh⟩ := own_pos ho6 (by omega)
              cases e
              have hcv := (hcell ⟨gv, i, none⟩ hgv).trans (own_atG ho hu).1
              have hcl := (hcell ⟨gl, q, none⟩ hgl).trans (own_atG ho5 hz).1
              have hch := (hcell ⟨gh, q, none⟩ hgh).trans (own_atG ho6 hw).1
              have hsu := H4.out.2.1 i u hu
              have hsz := H4.out.1 _ hxm
              obtain ⟨Ai, ci, hui⟩ := hsu.form
              obtain ⟨Az, cz, hzi⟩ := hsz.form
              simp only at hui hzi
              obtain ⟨m, hm⟩ : ∃ m, n i = m := ⟨_, rfl⟩
              have hm2 := HH.out.2.2.2 i
              have hpb := hb.2
              have HM := Hd.mk hm
              rw [hm] at hm2 hui hsu hpb
              subst hui hzi
              have HS := Hd.mk (And.intro hsu hsz)
              obtain ⟨wo, hwo⟩ : ∃ wo : World, wo = wr := ⟨_, rfl⟩
              subst hwo
              clear hsu hsz hu hz hw ho ho5 ho6 hm hh hC hcell hb hx hxm
              have HCC := Hd.mk (And.intro hcv hcl)
              have HGV := Hd.mk (And.intro hgv hgl)
              go_wp2_with fail
              go_loopw [12] (fun u12 wr => ∃ j : Nat, j ≤ p ∧ u12 = .int .i64 (j : Int) ∧ Chg [] wy wr ∧ Chg (ablk us) w wr) (fun u12 _ => p - (intOf u12).toNat)
              case atStart => exact ⟨0, by omega, rfl, H5.out⟩
              case round =>
                obtain ⟨j, hj, rfl, hh, hC⟩ := hrel
                have H6 := Hd.mk (And.intro hh hC)
                have hcell : ∀ W, Chg [] wr W → ∀ p : Addr, p.block < wy.heap.size → W.cell? p = wy.cell? p := fun W b p hp => (H6.out.1.trans b).cell hp List.not_mem_nil
                have hwo : ∀ p : Addr, p.block < wy.heap.size → wo.cell? p = wy.cell? p := fun p hp => H5.out.1.cell hp List.not_mem_nil
                have HV : Hd (∀ W, Chg [] wr W → W.cell? ⟨gv, i, none⟩ = some (.slice Ai m ci) ∧ W.cell? ⟨gl, q, none⟩ = some (.slice Az p cz)) := ⟨fun W b => ⟨(hcell W b _ HGV.out.1).trans ((hwo _ HGV.out.1).symm.trans HCC.out.1), (hcell W b _ HGV.out.2).trans ((hwo _ HGV.out.2).symm.trans HCC.out.2)⟩⟩
                clear hcv hcl hch
                have hcl2 := (HV.out wr (Chg.refl _ _)).2
                by_cases hjl : j < p
                · have hjt : (j : Int) < (p : Int) := by omega
                  obtain ⟨bz, _, ez, hzl, hz⟩ := HS.out.2.cell (t := j) hjl
                  cases ez
                  have hb1 : IntKind.u8.wrap (i : Int) = (i : Int) := by rw [IntKind.wrap_u8]; omega
                  by_cases hjm : j < m
                  · have hji : (j : Int) < (m : Int) := by omega
                    have hjge : ¬ (m : Int) ≤ (j : Int) := by omega
                    obtain ⟨bu, _, eu, hul, hu⟩ := HS.out.1.cell (t := j) hjm
                    cases eu
                    obtain ⟨jm, hjmm⟩ : ∃ q, j % 256 = q := ⟨_, rfl⟩
                    have hb2 := wrap8 j
                    rw [hjmm] at hb2
                    have hf : fbH n i j = .string (bstr [i, jm]) := by unfold fbH two2; rw [if_pos (by rw [HM.out]; exact hjm), hjmm]
                    simp only [hf] at hz hu
                    have HZ : Hd (∀ W, Chg [] wr W → W.cell? ⟨bz, j, none⟩ = some (.string (bstr [i, jm])) ∧ W.cell? ⟨bu, j, none⟩ = some (.string (bstr [i, jm]))) := ⟨fun W b => ⟨(hcell W b ⟨bz, j, none⟩ hzl).trans hz, (hcell W b ⟨bu, j, none⟩ hul).trans hu⟩⟩
                    have HB := Hd.mk (And.intro hb1 hb2)
                    have HEQ : Hd (((bstr [i, jm]).toList == (bstr [i, jm]).toList) = true) := ⟨by simp⟩
                    clear hz hu hcell hwo hh hC hf hb1 hb2 hjmm
                    go_upto_region 28 with fail
                    clear hcl2
                    refine wp_region_held_drew (S := fun W => Chg [] wr W) (by kernel_rfl) (Chg.refl _ wr).drew (fun hHeld => ?_)
                    obtain ⟨wd, hwd⟩ : ∃ U, wr.drew = U := ⟨_, rfl⟩
                    have HWD : Hd (Chg [] wr wd) := ⟨by rw [← hwd]; exact (Chg.refl _ wr).drew⟩
                    rw [hwd] at hHeld ⊢
                    clear hwd
                    refine wpAnyH_take (i := 0) (oi := ?oi301) (v := ?v301) ?hi301 (by kernel_rfl) (by kernel_rfl) (by kernel_rfl) ?hQ301 (Or.inl ⟨?hw301, ?hy301⟩) (by assumption) ?rest301
                    case hi301 => simp only [List.getElem?_toArray, List.getElem?_cons_succ, List.getElem?_cons_zero]; rfl
                    case hQ301 => exact fun _ _ _ h => h
                    case hw301 => rfl
                    case hy301 => (intro W hW; have f1 := (HV.out W hW).1; have f2 := (HV.out W hW).2; have f3 := (HZ.out W hW).1; have f4 := (HZ.out W hW).2; have f5 := HEQ.out; have f6 := HB.out.1; have f7 := HB.out.2; go_simp; all_goals rfl)
                    simp only [Act.put, List.setIfInBounds_toArray, List.set_cons_zero, List.set_cons_succ]
                    refine wpAnyH_take (i := 1) (oi := ?oi302) (v := ?v302) ?hi302 (by kernel_rfl) (by kernel_rfl) (by kernel_rfl) ?hQ302 (Or.inl ⟨?hw302, ?hy302⟩) (by assumption) ?rest302
                    case hi302 => simp only [List.getElem?_toArray, List.getElem?_cons_succ, List.getElem?_cons_zero]; rfl
                    case hQ302 => exact fun _ _ _ h => h
                    case hw302 => rfl
                    case hy302 => (intro W hW; have f1 := (HV.out W hW).1; have f2 := (HV.out W hW).2; have f3 := (HZ.out W hW).1; have f4 := (HZ.out W hW).2; have f5 := HEQ.out; have f6 := HB.out.1; have f7 := HB.out.2; go_simp; all_goals rfl)
                    simp only [Act.put, List.setIfInBounds_toArray, List.set_cons_zero, List.set_cons_succ]
                    refine wpAnyH_take (i := 2) (oi := ?oi303) (v := ?v303) ?hi303 (by kernel_rfl) (by kernel_rfl) (by kernel_rfl) ?hQ303 (Or.inl ⟨?hw303, ?hy303⟩) (by assumption) ?rest303
                    case hi303 => simp only [List.getElem?_toArray, List.getElem?_cons_succ, List.getElem?_cons_zero]; rfl
                    case hQ303 => exact fun _ _ _ h => h
                    case hw303 => rfl
                    case hy303 => (intro W hW; have f1 := (HV.out W hW).1; have f2 := (HV.out W hW).2; have f3 := (HZ.out W hW).1; have f4 := (HZ.out W hW).2; have f5 := HEQ.out; have f6 := HB.out.1; have f7 := HB.out.2; go_simp; all_goals rfl)
                    simp only [Act.put, List.setIfInBounds_toArray, List.set_cons_zero, List.set_cons_succ]
                    refine wpAnyH_take (i := 3) (oi := ?oi304) (v := ?v304) ?hi304 (by kernel_rfl) (by kernel_rfl) (by kernel_rfl) ?hQ304 (Or.inl ⟨?hw304, ?hy304⟩) (by assumption) ?rest304
                    case hi304 => simp only [List.getElem?_toArray, List.getElem?_cons_succ, List.getElem?_cons_zero]; rfl
                    case hQ304 => exact fun _ _ _ h => h
                    case hw304 => rfl
                    case hy304 => (intro W hW; have f1 := (HV.out W hW).1; have f2 := (HV.out W hW).2; have f3 := (HZ.out W hW).1; have f4 := (HZ.out W hW).2; have f5 := HEQ.out; have f6 := HB.out.1; have f7 := HB.out.2; go_simp; all_goals rfl)
                    simp only [Act.put, List.setIfInBounds_toArray, List.set_cons_zero, List.set_cons_succ]
                    refine wpAnyH_take (i := 4) (oi := ?oi305) (v := ?v305) ?hi305 (by kernel_rfl) (by kernel_rfl) (by kernel_rfl) ?hQ305 (Or.inl ⟨?hw305, ?hy305⟩) (by assumption) ?rest305
                    case hi305 => simp only [List.getElem?_toArray, List.getElem?_cons_succ, List.getElem?_cons_zero]; rfl
                    case hQ305 => exact fun _ _ _ h => h
                    case hw305 => rfl
                    case hy305 => (intro W hW; have f1 := (HV.out W hW).1; have f2 := (HV.out W hW).2; have f3 := (HZ.out W hW).1; have f4 := (HZ.out W hW).2; have f5 := HEQ.out; have f6 := HB.out.1; have f7 := HB.out.2; go_simp; all_goals rfl)
                    simp only [Act.put, List.setIfInBounds_toArray, List.set_cons_zero, List.set_cons_succ]
                    refine wpAnyH_take (i := 5) (oi := ?oi306) (v := ?v306) ?hi306 (by kernel_rfl) (by kernel_rfl) (by kernel_rfl) ?hQ306 (Or.inl ⟨?hw306, ?hy306⟩) (by assumption) ?rest306
                    case hi306 => simp only [List.getElem?_toArray, List.getElem?_cons_succ, List.getElem?_cons_zero]; rfl
                    case hQ306 => exact fun _ _ _ h => h
                    case hw306 => rfl
                    case hy306 => (intro W hW; have f1 := (HV.out W hW).1; have f2 := (HV.out W hW).2; have f3 := (HZ.out W hW).1; have f4 := (HZ.out W hW).2; have f5 := HEQ.out; have f6 := HB.out.1; have f7 := HB.out.2; go_simp; all_goals rfl)
                    simp only [Act.put, List.setIfInBounds_toArray, List.set_cons_zero, List.set_cons_succ]
                    refine wpAnyH_take (i := 6) (oi := ?oi307) (v := ?v307) ?hi307 (by kernel_rfl) (by kernel_rfl) (by kernel_rfl) ?hQ307 (Or.inl ⟨?hw307, ?hy307⟩) (by assumption) ?rest307
                    case hi307 => simp only [List.getElem?_toArray, List.getElem?_cons_succ, List.getElem?_cons_zero]; rfl
                    case hQ307 => exact fun _ _ _ h => h
                    case hw307 => rfl
                    case hy307 => (intro W hW; have f1 := (HV.out W hW).1; have f2 := (HV.out W hW).2; have f3 := (HZ.out W hW).1; have f4 := (HZ.out W hW).2; have f5 := HEQ.out; have f6 := HB.out.1; have f7 := HB.out.2; go_simp; all_goals rfl)
                    simp only [Act.put, List.setIfInBounds_toArray, List.set_cons_zero, List.set_cons_succ]
                    refine wpAnyH_take (i := 7) (oi := ?oi308) (v := ?v308) ?hi308 (by kernel_rfl) (by kernel_rfl) (by kernel_rfl) ?hQ308 (Or.inl ⟨?hw308, ?hy308⟩) (by assumption) ?rest308
                    case hi308 => simp only [List.getElem?_toArray, List.getElem?_cons_succ, List.getElem?_cons_zero]; rfl
                    case hQ308 => exact fun _ _ _ h => h
                    case hw308 => rfl
                    case hy308 => (intro W hW; have f1 := (HV.out W hW).1; have f2 := (HV.out W hW).2; have f3 := (HZ.out W hW).1; have f4 := (HZ.out W hW).2; have f5 := HEQ.out; have f6 := HB.out.1; have f7 := HB.out.2; go_simp; all_goals rfl)
                    simp only [Act.put, List.setIfInBounds_toArray, List.set_cons_zero, List.set_cons_succ]
                    refine wpAnyH_take (i := 8) (oi := ?oi309) (v := ?v309) ?hi309 (by kernel_rfl) (by kernel_rfl) (by kernel_rfl) ?hQ309 (Or.inl ⟨?hw309, ?hy309⟩) (by assumption) ?rest309
                    case hi309 => simp only [List.getElem?_toArray, List.getElem?_cons_succ, List.getElem?_cons_zero]; rfl
                    case hQ309 => exact fun _ _ _ h => h
                    case hw309 => rfl
                    case hy309 => (intro W hW; have f1 := (HV.out W hW).1; have f2 := (HV.out W hW).2; have f3 := (HZ.out W hW).1; have f4 := (HZ.out W hW).2; have f5 := HEQ.out; have f6 := HB.out.1; have f7 := HB.out.2; go_simp; all_goals rfl)
                    simp only [Act.put, List.setIfInBounds_toArray, List.set_cons_zero, List.set_cons_succ]
                    refine wpAnyH_take (i := 9) (oi := ?oi310) (v := ?v310) ?hi310 (by kernel_rfl) (by kernel_rfl) (by kernel_rfl) ?hQ310 (Or.inl ⟨?hw310, ?hy310⟩) (by assumption) ?rest310
                    case hi310 => simp only [List.getElem?_toArray, List.getElem?_cons_succ, List.getElem?_cons_zero]; rfl
                    case hQ310 => exact fun _ _ _ h => h
                    case hw310 => rfl
                    case hy310 => (intro W hW; have f1 := (HV.out W hW).1; have f2 := (HV.out W hW).2; have f3 := (HZ.out W hW).1; have f4 := (HZ.out W hW).2; have f5 := HEQ.out; have f6 := HB.out.1; have f7 := HB.out.2; go_simp; all_goals rfl)
                    simp only [Act.put, List.setIfInBounds_toArray, List.set_cons_zero, List.set_cons_succ]
                    refine wpAnyH_take (i := 10) (oi := ?oi311) (v := ?v311) ?hi311 (by kernel_rfl) (by kernel_rfl) (by kernel_rfl) ?hQ311 (Or.inl ⟨?hw311, ?hy311⟩) (by assumption) ?rest311
                    case hi311 => simp only [List.getElem?_toArray, List.getElem?_cons_succ, List.getElem?_cons_zero]; rfl
                    case hQ311 => exact fun _ _ _ h => h
                    case hw311 => rfl
                    case hy311 => (intro W hW; have f1 := (HV.out W hW).1; have f2 := (HV.out W hW).2; have f3 := (HZ.out W hW).1; have f4 := (HZ.out W hW).2; have f5 := HEQ.out; have f6 := HB.out.1; have f7 := HB.out.2; go_simp; all_goals rfl)
                    simp only [Act.put, List.setIfInBounds_toArray, List.set_cons_zero, List.set_cons_succ]
                    refine wpAnyH_take (i := 11) (oi := ?oi312) (v := ?v312) ?hi312 (by kernel_rfl) (by kernel_rfl) (by kernel_rfl) ?hQ312 (Or.inl ⟨?hw312, ?hy312⟩) (by assumption) ?rest312
                    case hi312 => simp only [List.getElem?_toArray, List.getElem?_cons_succ, List.getElem?_cons_zero]; rfl
                    case hQ312 => exact fun _ _ _ h => h
                    case hw312 => rfl
                    case hy312 => (intro W hW; have f1 := (HV.out W hW).1; have f2 := (HV.out W hW).2; have f3 := (HZ.out W hW).1; have f4 := (HZ.out W hW).2; have f5 := HEQ.out; have f6 := HB.out.1; have f7 := HB.out.2; go_simp; all_goals rfl)
                    simp only [Act.put, List.setIfInBounds_toArray, List.set_cons_zero, List.set_cons_succ]
                    refine wpAnyH_take (i := 12) (oi := ?oi313) (v := ?v313) ?hi313 (by kernel_rfl) (by kernel_rfl) (by kernel_rfl) ?hQ313 (Or.inl ⟨?hw313, ?hy313⟩) (by assumption) ?rest313
                    case hi313 => simp only [List.getElem?_toArray, List.getElem?_cons_succ, List.getElem?_cons_zero]; rfl
                    case hQ313 => exact fun _ _ _ h => h
                    case hw313 => rfl
                    case hy313 => (intro W hW; have f1 := (HV.out W hW).1; have f2 := (HV.out W hW).2; have f3 := (HZ.out W hW).1; have f4 := (HZ.out W hW).2; have f5 := HEQ.out; have f6 := HB.out.1; have f7 := HB.out.2; go_simp; all_goals rfl)
                    simp only [Act.put, List.setIfInBounds_toArray, List.set_cons_zero, List.set_cons_succ]
                    refine wpAnyH_take (i := 13) (oi := ?oi314) (v := ?v314) ?hi314 (by kernel_rfl) (by kernel_rfl) (by kernel_rfl) ?hQ314 (Or.inl ⟨?hw314, ?hy314⟩) (by assumption) ?rest314
                    case hi314 => simp only [List.getElem?_toArray, List.getElem?_cons_succ, List.getElem?_cons_zero]; rfl
                    case hQ314 => exact fun _ _ _ h => h
                    case hw314 => rfl
                    case hy314 => (intro W hW; have f1 := (HV.out W hW).1; have f2 := (HV.out W hW).2; have f3 := (HZ.out W hW).1; have f4 := (HZ.out W hW).2; have f5 := HEQ.out; have f6 := HB.out.1; have f7 := HB.out.2; go_simp; all_goals rfl)
                    simp only [Act.put, List.setIfInBounds_toArray, List.set_cons_zero, List.set_cons_succ]
                    refine wpAnyH_take (i := 14) (oi := ?oi315) (v := ?v315) ?hi315 (by kernel_rfl) (by kernel_rfl) (by kernel_rfl) ?hQ315 (Or.inl ⟨?hw315, ?hy315⟩) (by assumption) ?rest315
                    case hi315 => simp only [List.getElem?_toArray, List.getElem?_cons_succ, List.getElem?_cons_zero]; rfl
                    case hQ315 => exact fun _ _ _ h => h
                    case hw315 => rfl
                    case hy315 => (intro W hW; have f1 := (HV.out W hW).1; have f2 := (HV.out W hW).2; have f3 := (HZ.out W hW).1; have f4 := (HZ.out W hW).2; have f5 := HEQ.out; have f6 := HB.out.1; have f7 := HB.out.2; go_simp; all_goals rfl)
                    simp only [Act.put, List.setIfInBounds_toArray, List.set_cons_zero, List.set_cons_succ]
                    refine wpAnyH_take (i := 15) (oi := ?oi316) (v := ?v316) ?hi316 (by kernel_rfl) (by kernel_rfl) (by kernel_rfl) ?hQ316 (Or.inl ⟨?hw316, ?hy316⟩) (by assumption) ?rest316
                    case hi316 => simp only [List.getElem?_toArray, List.getElem?_cons_succ, List.getElem?_cons_zero]; rfl
                    case hQ316 => exact fun _ _ _ h => h
                    case hw316 => rfl
                    case hy316 => (intro W hW; have f1 := (HV.out W hW).1; have f2 := (HV.out W hW).2; have f3 := (HZ.out W hW).1; have f4 := (HZ.out W hW).2; have f5 := HEQ.out; have f6 := HB.out.1; have f7 := HB.out.2; go_simp; all_goals rfl)
                    simp only [Act.put, List.setIfInBounds_toArray, List.set_cons_zero, List.set_cons_succ]
                    refine wpAnyH_take (i := 16) (oi := ?oi317) (v := ?v317) ?hi317 (by kernel_rfl) (by kernel_rfl) (by kernel_rfl) ?hQ317 (Or.inl ⟨?hw317, ?hy317⟩) (by assumption) ?rest317
                    case hi317 => simp only [List.getElem?_toArray, List.getElem?_cons_succ, List.getElem?_cons_zero]; rfl
                    case hQ317 => exact fun _ _ _ h => h
                    case hw317 => rfl
                    case hy317 => (intro W hW; have f1 := (HV.out W hW).1; have f2 := (HV.out W hW).2; have f3 := (HZ.out W hW).1; have f4 := (HZ.out W hW).2; have f5 := HEQ.out; have f6 := HB.out.1; have f7 := HB.out.2; go_simp; all_goals rfl)
                    simp only [Act.put, List.setIfInBounds_toArray, List.set_cons_zero, List.set_cons_succ]
                    refine wpAnyH_take (i := 17) (oi := ?oi318) (v := ?v318) ?hi318 (by kernel_rfl) (by kernel_rfl) (by kernel_rfl) ?hQ318 (Or.inl ⟨?hw318, ?hy318⟩) (by assumption) ?rest318
                    case hi318 => simp only [List.getElem?_toArray, List.getElem?_cons_succ, List.getElem?_cons_zero]; rfl
                    case hQ318 => exact fun _ _ _ h => h
                    case hw318 => rfl
                    case hy318 => (intro W hW; have f1 := (HV.out W hW).1; have f2 := (HV.out W hW).2; have f3 := (HZ.out W hW).1; have f4 := (HZ.out W hW).2; have f5 := HEQ.out; have f6 := HB.out.1; have f7 := HB.out.2; go_simp; all_goals rfl)
                    simp only [Act.put, List.setIfInBounds_toArray, List.set_cons_zero, List.set_cons_succ]
                    refine wpAnyH_take (i := 18) (oi := ?oi319) (v := ?v319) ?hi319 (by kernel_rfl) (by kernel_rfl) (by kernel_rfl) ?hQ319 (Or.inl ⟨?hw319, ?hy319⟩) (by assumption) ?rest319
                    case hi319 => simp only [List.getElem?_toArray, List.getElem?_cons_succ, List.getElem?_cons_zero]; rfl
                    case hQ319 => exact fun _ _ _ h => h
                    case hw319 => rfl
                    case hy319 => (intro W hW; have f1 := (HV.out W hW).1; have f2 := (HV.out W hW).2; have f3 := (HZ.out W hW).1; have f4 := (HZ.out W hW).2; have f5 := HEQ.out; have f6 := HB.out.1; have f7 := HB.out.2; go_simp; all_goals rfl)
                    simp only [Act.put, List.setIfInBounds_toArray, List.set_cons_zero, List.set_cons_succ]
                    refine wpAnyH_ready (rs := [19]) (by kernel_rfl) (by simp) ?_
                    refine AllReadyH.cons (i := 19) (o := ?oR5) ?hoR5 (fun Kq hK => ?stR5) AllReadyH.nil
                    case hoR5 => simp only [List.getElem?_toArray, List.getElem?_cons_succ, List.getElem?_cons_zero]; rfl
                    go_simp
                    obtain ⟨wa, hwa⟩ : ∃ U, wd.alloc (.cells #[.int .u8 (i : Int), .int .u8 (jm : Int)] 5) = U := ⟨_, rfl⟩
                    have f15 := conv_two wd i jm
                    obtain ⟨gn, hgn⟩ : ∃ q, wd.heap.size = q := ⟨_, rfl⟩
                    rw [hwa, hgn] at f15
                    have HWA : Hd (Chg [] wr wa) := ⟨by rw [← hwa]; exact HWD.out.alloc _⟩
                    try rw [hwa]
                    try rw [hgn]
                    refine hK.out _ _ (HWA.out) (fun _ => ?_)
                    clear hK Kq hwa hgn
                    try simp only [Act.put, List.setIfInBounds_toArray, List.set_cons_zero, List.set_cons_succ]
                    refine wpAnyH_ready (rs := [20]) (by kernel_rfl) (by simp) ?_
                    refine AllReadyH.cons (i := 20) (o := ?oR4) ?hoR4 (fun Kq hK => ?stR4) AllReadyH.nil
                    case hoR4 => simp only [List.getElem?_toArray, List.getElem?_cons_succ, List.getElem?_cons_zero]; rfl
                    go_simp
                    refine hK.out _ _ (HWA.out) (fun _ => ?_)
                    clear hK Kq f15
                    try simp only [Act.put, List.setIfInBounds_toArray, List.set_cons_zero, List.set_cons_succ]
                    refine wpAnyH_take (i := 21) (oi := ?oi401) (v := ?v401) ?hi401 (by kernel_rfl) (by kernel_rfl) (by kernel_rfl) ?hQ401 (Or.inl ⟨?hw401, ?hy401⟩) (by assumption) ?rest401
                    case hi401 => simp only [List.getElem?_toArray, List.getElem?_cons_succ, List.getElem?_cons_zero]; rfl
                    case hQ401 => exact fun _ _ _ h => h
                    case hw401 => rfl
                    case hy401 => (intro W hW; have f1 := (HV.out W hW).1; have f2 := (HV.out W hW).2; have f3 := (HZ.out W hW).1; have f4 := (HZ.out W hW).2; have f5 := HEQ.out; have f6 := HB.out.1; have f7 := HB.out.2; go_simp; all_goals rfl)
                    simp only [Act.put, List.setIfInBounds_toArray, List.set_cons_zero, List.set_cons_succ]
                    refine wpAnyH_take (i := 22) (oi := ?oi402) (v := ?v402) ?hi402 (by kernel_rfl) (by kernel_rfl) (by kernel_rfl) ?hQ402 (Or.inl ⟨?hw402, ?hy402⟩) (by assumption) ?rest402
                    case hi402 => simp only [List.getElem?_toArray, List.getElem?_cons_succ, List.getElem?_cons_zero]; rfl
                    case hQ402 => exact fun _ _ _ h => h
                    case hw402 => rfl
                    case hy402 => (intro W hW; have f1 := (HV.out W hW).1; have f2 := (HV.out W hW).2; have f3 := (HZ.out W hW).1; have f4 := (HZ.out W hW).2; have f5 := HEQ.out; have f6 := HB.out.1; have f7 := HB.out.2; go_simp; all_goals rfl)
                    simp only [Act.put, List.setIfInBounds_toArray, List.set_cons_zero, List.set_cons_succ]
                    refine wpAnyH_take (i := 23) (oi := ?oi403) (v := ?v403) ?hi403 (by kernel_rfl) (by kernel_rfl) (by kernel_rfl) ?hQ403 (Or.inl ⟨?hw403, ?hy403⟩) (by assumption) ?rest403
                    case hi403 => simp only [List.getElem?_toArray, List.getElem?_cons_succ, List.getElem?_cons_zero]; rfl
                    case hQ403 => exact fun _ _ _ h => h
                    case hw403 => rfl
                    case hy403 => (intro W hW; have f1 := (HV.out W hW).1; have f2 := (HV.out W hW).2; have f3 := (HZ.out W hW).1; have f4 := (HZ.out W hW).2; have f5 := HEQ.out; have f6 := HB.out.1; have f7 := HB.out.2; go_simp; all_goals rfl)
                    simp only [Act.put, List.setIfInBounds_toArray, List.set_cons_zero, List.set_cons_succ]
                    refine wpAnyH_take (i := 24) (oi := ?oi404) (v := ?v404) ?hi404 (by kernel_rfl) (by kernel_rfl) (by kernel_rfl) ?hQ404 (Or.inl ⟨?hw404, ?hy404⟩) (by assumption) ?rest404
                    case hi404 => simp only [List.getElem?_toArray, List.getElem?_cons_succ, List.getElem?_cons_zero]; rfl
                    case hQ404 => exact fun _ _ _ h => h
                    case hw404 => rfl
                    case hy404 => (intro W hW; have f1 := (HV.out W hW).1; have f2 := (HV.out W hW).2; have f3 := (HZ.out W hW).1; have f4 := (HZ.out W hW).2; have f5 := HEQ.out; have f6 := HB.out.1; have f7 := HB.out.2; go_simp; all_goals rfl)
                    simp only [Act.put, List.setIfInBounds_toArray, List.set_cons_zero, List.set_cons_succ]
                    refine wpAnyH_take (i := 25) (oi := ?oi405) (v := ?v405) ?hi405 (by kernel_rfl) (by kernel_rfl) (by kernel_rfl) ?hQ405 (Or.inl ⟨?hw405, ?hy405⟩) (by assumption) ?rest405
                    case hi405 => simp only [List.getElem?_toArray, List.getElem?_cons_succ, List.getElem?_cons_zero]; rfl
                    case hQ405 => exact fun _ _ _ h => h
                    case hw405 => rfl
                    case hy405 => (intro W hW; have f1 := (HV.out W hW).1; have f2 := (HV.out W hW).2; have f3 := (HZ.out W hW).1; have f4 := (HZ.out W hW).2; have f5 := HEQ.out; have f6 := HB.out.1; have f7 := HB.out.2; go_simp; all_goals rfl)
                    simp only [Act.put, List.setIfInBounds_toArray, List.set_cons_zero, List.set_cons_succ]
                    refine wpAnyH_take (i := 26) (oi := ?oi406) (v := ?v406) ?hi406 (by kernel_rfl) (by kernel_rfl) (by kernel_rfl) ?hQ406 (Or.inl ⟨?hw406, ?hy406⟩) (by assumption) ?rest406
                    case hi406 => simp only [List.getElem?_toArray, List.getElem?_cons_succ, List.getElem?_cons_zero]; rfl
                    case hQ406 => exact fun _ _ _ h => h
                    case hw406 => rfl
                    case hy406 => (intro W hW; have f1 := (HV.out W hW).1; have f2 := (HV.out W hW).2; have f3 := (HZ.out W hW).1; have f4 := (HZ.out W hW).2; have f5 := HEQ.out; have f6 := HB.out.1; have f7 := HB.out.2; go_simp; all_goals rfl)
                    simp only [Act.put, List.setIfInBounds_toArray, List.set_cons_zero, List.set_cons_succ]
                    refine wpAnyH_take (i := 27) (oi := ?oi407) (v := ?v407) ?hi407 (by kernel_rfl) (by kernel_rfl) (by kernel_rfl) ?hQ407 (Or.inl ⟨?hw407, ?hy407⟩) (by assumption) ?rest407
                    case hi407 => simp only [List.getElem?_toArray, List.getElem?_cons_succ, List.getElem?_cons_zero]; rfl
                    case hQ407 => exact fun _ _ _ h => h
                    case hw407 => rfl
                    case hy407 => (intro W hW; have f1 := (HV.out W hW).1; have f2 := (HV.out W hW).2; have f3 := (HZ.out W hW).1; have f4 := (HZ.out W hW).2; have f5 := HEQ.out; have f6 := HB.out.1; have f7 := HB.out.2; go_simp; all_goals rfl)
                    simp only [Act.put, List.setIfInBounds_toArray, List.set_cons_zero, List.set_cons_succ]
                    refine wpAnyH_take (i := 28) (oi := ?oi408) (v := ?v408) ?hi408 (by kernel_rfl) (by kernel_rfl) (by kernel_rfl) ?hQ408 (Or.inl ⟨?hw408, ?hy408⟩) (by assumption) ?rest408
                    case hi408 => simp only [List.getElem?_toArray, List.getElem?_cons_succ, List.getElem?_cons_zero]; rfl
                    case hQ408 => exact fun _ _ _ h => h
                    case hw408 => rfl
                    case hy408 => (intro W hW; have f1 := (HV.out W hW).1; have f2 := (HV.out W hW).2; have f3 := (HZ.out W hW).1; have f4 := (HZ.out W hW).2; have f5 := HEQ.out; have f6 := HB.out.1; have f7 := HB.out.2; go_simp; all_goals rfl)
                    simp only [Act.put, List.setIfInBounds_toArray, List.set_cons_zero, List.set_cons_succ]
                    refine wpAnyH_take (i := 29) (oi := ?oi409) (v := ?v409) ?hi409 (by kernel_rfl) (by kernel_rfl) (by kernel_rfl) ?hQ409 (Or.inl ⟨?hw409, ?hy409⟩) (by assumption) ?rest409
                    case hi409 => simp only [List.getElem?_toArray, List.getElem?_cons_succ, List.getElem?_cons_zero]; rfl
                    case hQ409 => exact fun _ _ _ h => h
                    case hw409 => rfl
                    case hy409 => (intro W hW; have f1 := (HV.out W hW).1; have f2 := (HV.out W hW).2; have f3 := (HZ.out W hW).1; have f4 := (HZ.out W hW).2; have f5 := HEQ.out; have f6 := HB.out.1; have f7 := HB.out.2; go_simp; all_goals rfl)
                    simp only [Act.put, List.setIfInBounds_toArray, List.set_cons_zero, List.set_cons_succ]
                    refine wpAnyH_take (i := 30) (oi := ?oi410) (v := ?v410) ?hi410 (by kernel_rfl) (by kernel_rfl) (by kernel_rfl) ?hQ410 (Or.inl ⟨?hw410, ?hy410⟩) (by assumption) ?rest410
                    case hi410 => simp only [List.getElem?_toArray, List.getElem?_cons_succ, List.getElem?_cons_zero]; rfl
                    case hQ410 => exact fun _ _ _ h => h
                    case hw410 => rfl
                    case hy410 => (intro W hW; have f1 := (HV.out W hW).1; have f2 := (HV.out W hW).2; have f3 := (HZ.out W hW).1; have f4 := (HZ.out W hW).2; have f5 := HEQ.out; have f6 := HB.out.1; have f7 := HB.out.2; go_simp; all_goals rfl)
                    simp only [Act.put, List.setIfInBounds_toArray, List.set_cons_zero, List.set_cons_succ]
                    refine wpAnyH_take (i := 31) (oi := ?oi411) (v := ?v411) ?hi411 (by kernel_rfl) (by kernel_rfl) (by kernel_rfl) ?hQ411 (Or.inl ⟨?hw411, ?hy411⟩) (by assumption) ?rest411
                    case hi411 => simp only [List.getElem?_toArray, List.getElem?_cons_succ, List.getElem?_cons_zero]; rfl
                    case hQ411 => exact fun _ _ _ h => h
                    case hw411 => rfl
                    case hy411 => (intro W hW; have f1 := (HV.out W hW).1; have f2 := (HV.out W hW).2; have f3 := (HZ.out W hW).1; have f4 := (HZ.out W hW).2; have f5 := HEQ.out; have f6 := HB.out.1; have f7 := HB.out.2; go_simp; all_goals rfl)
                    simp only [Act.put, List.setIfInBounds_toArray, List.set_cons_zero, List.set_cons_succ]
                    refine wpAnyH_take (i := 32) (oi := ?oi412) (v := ?v412) ?hi412 (by kernel_rfl) (by kernel_rfl) (by kernel_rfl) ?hQ412 (Or.inl ⟨?hw412, ?hy412⟩) (by assumption) ?rest412
                    case hi412 => simp only [List.getElem?_toArray, List.getElem?_cons_succ, List.getElem?_cons_zero]; rfl
                    case hQ412 => exact fun _ _ _ h => h
                    case hw412 => rfl
                    case hy412 => (intro W hW; have f1 := (HV.out W hW).1; have f2 := (HV.out W hW).2; have f3 := (HZ.out W hW).1; have f4 := (HZ.out W hW).2; have f5 := HEQ.out; have f6 := HB.out.1; have f7 := HB.out.2; go_simp; all_goals rfl)
                    simp only [Act.put, List.setIfInBounds_toArray, List.set_cons_zero, List.set_cons_succ]
                    refine wpAnyH_take (i := 33) (oi := ?oi413) (v := ?v413) ?hi413 (by kernel_rfl) (by kernel_rfl) (by kernel_rfl) ?hQ413 (Or.inl ⟨?hw413, ?hy413⟩) (by assumption) ?rest413
                    case hi413 => simp only [List.getElem?_toArray, List.getElem?_cons_succ, List.getElem?_cons_zero]; rfl
                    case hQ413 => exact fun _ _ _ h => h
                    case hw413 => rfl
                    case hy413 => (intro W hW; have f1 := (HV.out W hW).1; have f2 := (HV.out W hW).2; have f3 := (HZ.out W hW).1; have f4 := (HZ.out W hW).2; have f5 := HEQ.out; have f6 := HB.out.1; have f7 := HB.out.2; go_simp; all_goals rfl)
                    simp only [Act.put, List.setIfInBounds_toArray, List.set_cons_zero, List.set_cons_succ]
                    refine wpAnyH_take (i := 34) (oi := ?oi414) (v := ?v414) ?hi414 (by kernel_rfl) (by kernel_rfl) (by kernel_rfl) ?hQ414 (Or.inl ⟨?hw414, ?hy414⟩) (by assumption) ?rest414
                    case hi414 => simp only [List.getElem?_toArray, List.getElem?_cons_succ, List.getElem?_cons_zero]; rfl
                    case hQ414 => exact fun _ _ _ h => h
                    case hw414 => rfl
                    case hy414 => (intro W hW; have f1 := (HV.out W hW).1; have f2 := (HV.out W hW).2; have f3 := (HZ.out W hW).1; have f4 := (HZ.out W hW).2; have f5 := HEQ.out; have f6 := HB.out.1; have f7 := HB.out.2; go_simp; all_goals rfl)
                    simp only [Act.put, List.setIfInBounds_toArray, List.set_cons_zero, List.set_cons_succ]
                    refine wpAnyH_take (i := 35) (oi := ?oi415) (v := ?v415) ?hi415 (by kernel_rfl) (by kernel_rfl) (by kernel_rfl) ?hQ415 (Or.inl ⟨?hw415, ?hy415⟩) (by assumption) ?rest415
                    case hi415 => simp only [List.getElem?_toArray, List.getElem?_cons_succ, List.getElem?_cons_zero]; rfl
                    case hQ415 => exact fun _ _ _ h => h
                    case hw415 => rfl
                    case hy415 => (intro W hW; have f1 := (HV.out W hW).1; have f2 := (HV.out W hW).2; have f3 := (HZ.out W hW).1; have f4 := (HZ.out W hW).2; have f5 := HEQ.out; have f6 := HB.out.1; have f7 := HB.out.2; go_simp; all_goals rfl)
                    simp only [Act.put, List.setIfInBounds_toArray, List.set_cons_zero, List.set_cons_succ]
                    refine wpAnyH_take (i := 36) (oi := ?oi416) (v := ?v416) ?hi416 (by kernel_rfl) (by kernel_rfl) (by kernel_rfl) ?hQ416 (Or.inl ⟨?hw416, ?hy416⟩) (by assumption) ?rest416
                    case hi416 => simp only [List.getElem?_toArray, List.getElem?_cons_succ, List.getElem?_cons_zero]; rfl
                    case hQ416 => exact fun _ _ _ h => h
                    case hw416 => rfl
                    case hy416 => (intro W hW; have f1 := (HV.out W hW).1; have f2 := (HV.out W hW).2; have f3 := (HZ.out W hW).1; have f4 := (HZ.out W hW).2; have f5 := HEQ.out; have f6 := HB.out.1; have f7 := HB.out.2; go_simp; all_goals rfl)
                    simp only [Act.put, List.setIfInBounds_toArray, List.set_cons_zero, List.set_cons_succ]
                    refine wpAnyH_take (i := 37) (oi := ?oi417) (v := ?v417) ?hi417 (by kernel_rfl) (by kernel_rfl) (by kernel_rfl) ?hQ417 (Or.inl ⟨?hw417, ?hy417⟩) (by assumption) ?rest417
                    case hi417 => simp only [List.getElem?_toArray, List.getElem?_cons_succ, List.getElem?_cons_zero]; rfl
                    case hQ417 => exact fun _ _ _ h => h
                    case hw417 => rfl
                    case hy417 => (intro W hW; have f1 := (HV.out W hW).1; have f2 := (HV.out W hW).2; have f3 := (HZ.out W hW).1; have f4 := (HZ.out W hW).2; have f5 := HEQ.out; have f6 := HB.out.1; have f7 := HB.out.2; go_simp; all_goals rfl)
                    simp only [Act.put, List.setIfInBounds_toArray, List.set_cons_zero, List.set_cons_succ]
                    refine wpAnyH_take (i := 38) (oi := ?oi418) (v := ?v418) ?hi418 (by kernel_rfl) (by kernel_rfl) (by kernel_rfl) ?hQ418 (Or.inl ⟨?hw418, ?hy418⟩) (by assumption) ?rest418
                    case hi418 => simp only [List.getElem?_toArray, List.getElem?_cons_succ, List.getElem?_cons_zero]; rfl
                    case hQ418 => exact fun _ _ _ h => h
                    case hw418 => rfl
                    case hy418 => (intro W hW; have f1 := (HV.out W hW).1; have f2 := (HV.out W hW).2; have f3 := (HZ.out W hW).1; have f4 := (HZ.out W hW).2; have f5 := HEQ.out; have f6 := HB.out.1; have f7 := HB.out.2; go_simp; all_goals rfl)
                    simp only [Act.put, List.setIfInBounds_toArray, List.set_cons_zero, List.set_cons_succ]
                    refine wpAnyH_take (i := 39) (oi := ?oi419) (v := ?v419) ?hi419 (by kernel_rfl) (by kernel_rfl) (by kernel_rfl) ?hQ419 (Or.inl ⟨?hw419, ?hy419⟩) (by assumption) ?rest419
                    case hi419 => simp only [List.getElem?_toArray, List.getElem?_cons_succ, List.getElem?_cons_zero]; rfl
                    case hQ419 => exact fun _ _ _ h => h
                    case hw419 => rfl
                    case hy419 => (intro W hW; have f1 := (HV.out W hW).1; have f2 := (HV.out W hW).2; have f3 := (HZ.out W hW).1; have f4 := (HZ.out W hW).2; have f5 := HEQ.out; have f6 := HB.out.1; have f7 := HB.out.2; go_simp; all_goals rfl)
                    simp only [Act.put, List.setIfInBounds_toArray, List.set_cons_zero, List.set_cons_succ]
                    refine wpAnyH_done (by kernel_rfl) ?_ _
                    clear hHeld
                    go_upto_region 30 with fail
                    have HW5 := Hd.mk HWA.out
                    refine wp_region_held_drew (S := fun W => Chg [] wr W) (by kernel_rfl) (HWA.out.drew) (fun hHeld => ?_)
                    have HWE : Hd (Chg [] wr wa.drew) := ⟨hHeld⟩
                    refine wpAnyH_take (i := 0) (oi := ?oi601) (v := ?v601) ?hi601 (by kernel_rfl) (by kernel_rfl) (by kernel_rfl) ?hQ601 (Or.inl ⟨?hw601, ?hy601⟩) (by assumption) ?rest601
                    case hi601 => simp only [List.getElem?_toArray, List.getElem?_cons_succ, List.getElem?_cons_zero]; rfl
                    case hQ601 => exact fun _ _ _ h => h
                    case hw601 => rfl
                    case hy601 => (intro W hW; have f1 := (HV.out W hW).1; have f2 := (HV.out W hW).2; have f3 := (HZ.out W hW).1; have f4 := (HZ.out W hW).2; have f5 := HEQ.out; have f6 := HB.out.1; have f7 := HB.out.2; go_simp; all_goals rfl)
                    simp only [Act.put, List.setIfInBounds_toArray, List.set_cons_zero, List.set_cons_succ]
                    refine wpAnyH_take (i := 1) (oi := ?oi602) (v := ?v602) ?hi602 (by kernel_rfl) (by kernel_rfl) (by kernel_rfl) ?hQ602 (Or.inl ⟨?hw602, ?hy602⟩) (by assumption) ?rest602
                    case hi602 => simp only [List.getElem?_toArray, List.getElem?_cons_succ, List.getElem?_cons_zero]; rfl
                    case hQ602 => exact fun _ _ _ h => h
                    case hw602 => rfl
                    case hy602 => (intro W hW; have f1 := (HV.out W hW).1; have f2 := (HV.out W hW).2; have f3 := (HZ.out W hW).1; have f4 := (HZ.out W hW).2; have f5 := HEQ.out; have f6 := HB.out.1; have f7 := HB.out.2; go_simp; all_goals rfl)
                    simp only [Act.put, List.setIfInBounds_toArray, List.set_cons_zero, List.set_cons_succ]
                    refine wpAnyH_take (i := 2) (oi := ?oi603) (v := ?v603) ?hi603 (by kernel_rfl) (by kernel_rfl) (by kernel_rfl) ?hQ603 (Or.inl ⟨?hw603, ?hy603⟩) (by assumption) ?rest603
                    case hi603 => simp only [List.getElem?_toArray, List.getElem?_cons_succ, List.getElem?_cons_zero]; rfl
                    case hQ603 => exact fun _ _ _ h => h
                    case hw603 => rfl
                    case hy603 => (intro W hW; have f1 := (HV.out W hW).1; have f2 := (HV.out W hW).2; have f3 := (HZ.out W hW).1; have f4 := (HZ.out W hW).2; have f5 := HEQ.out; have f6 := HB.out.1; have f7 := HB.out.2; go_simp; all_goals rfl)
                    simp only [Act.put, List.setIfInBounds_toArray, List.set_cons_zero, List.set_cons_succ]
                    refine wpAnyH_take (i := 3) (oi := ?oi604) (v := ?v604) ?hi604 (by kernel_rfl) (by kernel_rfl) (by kernel_rfl) ?hQ604 (Or.inl ⟨?hw604, ?hy604⟩) (by assumption) ?rest604
                    case hi604 => simp only [List.getElem?_toArray, List.getElem?_cons_succ, List.getElem?_cons_zero]; rfl
                    case hQ604 => exact fun _ _ _ h => h
                    case hw604 => rfl
                    case hy604 => (intro W hW; have f1 := (HV.out W hW).1; have f2 := (HV.out W hW).2; have f3 := (HZ.out W hW).1; have f4 := (HZ.out W hW).2; have f5 := HEQ.out; have f6 := HB.out.1; have f7 := HB.out.2; go_simp; all_goals rfl)
                    simp only [Act.put, List.setIfInBounds_toArray, List.set_cons_zero, List.set_cons_succ]
                    refine wpAnyH_take (i := 4) (oi := ?oi605) (v := ?v605) ?hi605 (by kernel_rfl) (by kernel_rfl) (by kernel_rfl) ?hQ605 (Or.inl ⟨?hw605, ?hy605⟩) (by assumption) ?rest605
                    case hi605 => simp only [List.getElem?_toArray, List.getElem?_cons_succ, List.getElem?_cons_zero]; rfl
                    case hQ605 => exact fun _ _ _ h => h
                    case hw605 => rfl
                    case hy605 => (intro W hW; have f1 := (HV.out W hW).1; have f2 := (HV.out W hW).2; have f3 := (HZ.out W hW).1; have f4 := (HZ.out W hW).2; have f5 := HEQ.out; have f6 := HB.out.1; have f7 := HB.out.2; go_simp; all_goals rfl)
                    simp only [Act.put, List.setIfInBounds_toArray, List.set_cons_zero, List.set_cons_succ]
                    refine wpAnyH_take (i := 5) (oi := ?oi606) (v := ?v606) ?hi606 (by kernel_rfl) (by kernel_rfl) (by kernel_rfl) ?hQ606 (Or.inl ⟨?hw606, ?hy606⟩) (by assumption) ?rest606
                    case hi606 => simp only [List.getElem?_toArray, List.getElem?_cons_succ, List.getElem?_cons_zero]; rfl
                    case hQ606 => exact fun _ _ _ h => h
                    case hw606 => rfl
                    case hy606 => (intro W hW; have f1 := (HV.out W hW).1; have f2 := (HV.out W hW).2; have f3 := (HZ.out W hW).1; have f4 := (HZ.out W hW).2; have f5 := HEQ.out; have f6 := HB.out.1; have f7 := HB.out.2; go_simp; all_goals rfl)
                    simp only [Act.put, List.setIfInBounds_toArray, List.set_cons_zero, List.set_cons_succ]
                    refine wpAnyH_take (i := 6) (oi := ?oi607) (v := ?v607) ?hi607 (by kernel_rfl) (by kernel_rfl) (by kernel_rfl) ?hQ607 (Or.inl ⟨?hw607, ?hy607⟩) (by assumption) ?rest607
                    case hi607 => simp only [List.getElem?_toArray, List.getElem?_cons_succ, List.getElem?_cons_zero]; rfl
                    case hQ607 => exact fun _ _ _ h => h
                    case hw607 => rfl
                    case hy607 => (intro W hW; have f1 := (HV.out W hW).1; have f2 := (HV.out W hW).2; have f3 := (HZ.out W hW).1; have f4 := (HZ.out W hW).2; have f5 := HEQ.out; have f6 := HB.out.1; have f7 := HB.out.2; go_simp; all_goals rfl)
                    simp only [Act.put, List.setIfInBounds_toArray, List.set_cons_zero, List.set_cons_succ]
                    refine wpAnyH_take (i := 7) (oi := ?oi608) (v := ?v608) ?hi608 (by kernel_rfl) (by kernel_rfl) (by kernel_rfl) ?hQ608 (Or.inl ⟨?hw608, ?hy608⟩) (by assumption) ?rest608
                    case hi608 => simp only [List.getElem?_toArray, List.getElem?_cons_succ, List.getElem?_cons_zero]; rfl
                    case hQ608 => exact fun _ _ _ h => h
                    case hw608 => rfl
                    case hy608 => (intro W hW; have f1 := (HV.out W hW).1; have f2 := (HV.out W hW).2; have f3 := (HZ.out W hW).1; have f4 := (HZ.out W hW).2; have f5 := HEQ.out; have f6 := HB.out.1; have f7 := HB.out.2; go_simp; all_goals rfl)
                    simp only [Act.put, List.setIfInBounds_toArray, List.set_cons_zero, List.set_cons_succ]
                    refine wpAnyH_take (i := 8) (oi := ?oi609) (v := ?v609) ?hi609 (by kernel_rfl) (by kernel_rfl) (by kernel_rfl) ?hQ609 (Or.inr ⟨?hw609, ?hv609⟩) (by assumption) ?rest609
                    case hi609 => simp only [List.getElem?_toArray, List.getElem?_cons_succ, List.getElem?_cons_zero]; rfl
                    case hQ609 => exact fun _ _ _ h => h
                    case hw609 => rfl
                    case hv609 => rfl
                    simp only [Act.put, List.setIfInBounds_toArray, List.set_cons_zero, List.set_cons_succ]
                    refine wpAnyH_take (i := 9) (oi := ?oi610) (v := ?v610) ?hi610 (by kernel_rfl) (by kernel_rfl) (by kernel_rfl) ?hQ610 (Or.inr ⟨?hw610, ?hv610⟩) (by assumption) ?rest610
                    case hi610 => simp only [List.getElem?_toArray, List.getElem?_cons_succ, List.getElem?_cons_zero]; rfl
                    case hQ610 => exact fun _ _ _ h => h
                    case hw610 => rfl
                    case hv610 => rfl
                    simp only [Act.put, List.setIfInBounds_toArray, List.set_cons_zero, List.set_cons_succ]
                    refine wpAnyH_take (i := 10) (oi := ?oi611) (v := ?v611) ?hi611 (by kernel_rfl) (by kernel_rfl) (by kernel_rfl) ?hQ611 (Or.inr ⟨?hw611, ?hv611⟩) (by assumption) ?rest611
                    case hi611 => simp only [List.getElem?_toArray, List.getElem?_cons_succ, List.getElem?_cons_zero]; rfl
                    case hQ611 => exact fun _ _ _ h => h
                    case hw611 => rfl
                    case hv611 => rfl
                    simp only [Act.put, List.setIfInBounds_toArray, List.set_cons_zero, List.set_cons_succ]
                    refine wpAnyH_take (i := 11) (oi := ?oi612) (v := ?v612) ?hi612 (by kernel_rfl) (by kernel_rfl) (by kernel_rfl) ?hQ612 (Or.inr ⟨?hw612, ?hv612⟩) (by assumption) ?rest612
                    case hi612 => simp only [List.getElem?_toArray, List.getElem?_cons_succ, List.getElem?_cons_zero]; rfl
                    case hQ612 => exact fun _ _ _ h => h
                    case hw612 => rfl
                    case hv612 => rfl
                    simp only [Act.put, List.setIfInBounds_toArray, List.set_cons_zero, List.set_cons_succ]
                    refine wpAnyH_take (i := 12) (oi := ?oi613) (v := ?v613) ?hi613 (by kernel_rfl) (by kernel_rfl) (by kernel_rfl) ?hQ613 (Or.inr ⟨?hw613, ?hv613⟩) (by assumption) ?rest613
                    case hi613 => simp only [List.getElem?_toArray, List.getElem?_cons_succ, List.getElem?_cons_zero]; rfl
                    case hQ613 => exact fun _ _ _ h => h
                    case hw613 => rfl
                    case hv613 => rfl
                    simp only [Act.put, List.setIfInBounds_toArray, List.set_cons_zero, List.set_cons_succ]
                    refine wpAnyH_take (i := 13) (oi := ?oi614) (v := ?v614) ?hi614 (by kernel_rfl) (by kernel_rfl) (by kernel_rfl) ?hQ614 (Or.inr ⟨?hw614, ?hv614⟩) (by assumption) ?rest614
                    case hi614 => simp only [List.getElem?_toArray, List.getElem?_cons_succ, List.getElem?_cons_zero]; rfl
                    case hQ614 => exact fun _ _ _ h => h
                    case hw614 => rfl
                    case hv614 => rfl
                    simp only [Act.put, List.setIfInBounds_toArray, List.set_cons_zero, List.set_cons_succ]
                    refine wpAnyH_take (i := 14) (oi := ?oi615) (v := ?v615) ?hi615 (by kernel_rfl) (by kernel_rfl) (by kernel_rfl) ?hQ615 (Or.inr ⟨?hw615, ?hv615⟩) (by assumption) ?rest615
                    case hi615 => simp only [List.getElem?_toArray, List.getElem?_cons_succ, List.getElem?_cons_zero]; rfl
                    case hQ615 => exact fun _ _ _ h => h
                    case hw615 => rfl
                    case hv615 => rfl
                    simp only [Act.put, List.setIfInBounds_toArray, List.set_cons_zero, List.set_cons_succ]
                    refine wpAnyH_take (i := 15) (oi := ?oi616) (v := ?v616) ?hi616 (by kernel_rfl) (by kernel_rfl) (by kernel_rfl) ?hQ616 (Or.inr ⟨?hw616, ?hv616⟩) (by assumption) ?rest616
                    case hi616 => simp only [List.getElem?_toArray, List.getElem?_cons_succ, List.getElem?_cons_zero]; rfl
                    case hQ616 => exact fun _ _ _ h => h
                    case hw616 => rfl
                    case hv616 => rfl
                    simp only [Act.put, List.setIfInBounds_toArray, List.set_cons_zero, List.set_cons_succ]
                    refine wpAnyH_take (i := 16) (oi := ?oi617) (v := ?v617) ?hi617 (by kernel_rfl) (by kernel_rfl) (by kernel_rfl) ?hQ617 (Or.inr ⟨?hw617, ?hv617⟩) (by assumption) ?rest617
                    case hi617 => simp only [List.getElem?_toArray, List.getElem?_cons_succ, List.getElem?_cons_zero]; rfl
                    case hQ617 => exact fun _ _ _ h => h
                    case hw617 => rfl
                    case hv617 => rfl
                    simp only [Act.put, List.setIfInBounds_toArray, List.set_cons_zero, List.set_cons_succ]
                    refine wpAnyH_take (i := 17) (oi := ?oi618) (v := ?v618) ?hi618 (by kernel_rfl) (by kernel_rfl) (by kernel_rfl) ?hQ618 (Or.inr ⟨?hw618, ?hv618⟩) (by assumption) ?rest618
                    case hi618 => simp only [List.getElem?_toArray, List.getElem?_cons_succ, List.getElem?_cons_zero]; rfl
                    case hQ618 => exact fun _ _ _ h => h
                    case hw618 => rfl
                    case hv618 => rfl
                    simp only [Act.put, List.setIfInBounds_toArray, List.set_cons_zero, List.set_cons_succ]
                    refine wpAnyH_take (i := 18) (oi := ?oi619) (v := ?v619) ?hi619 (by kernel_rfl) (by kernel_rfl) (by kernel_rfl) ?hQ619 (Or.inr ⟨?hw619, ?hv619⟩) (by assumption) ?rest619
                    case hi619 => simp only [List.getElem?_toArray, List.getElem?_cons_succ, List.getElem?_cons_zero]; rfl
                    case hQ619 => exact fun _ _ _ h => h
                    case hw619 => rfl
                    case hv619 => rfl
                    simp only [Act.put, List.setIfInBounds_toArray, List.set_cons_zero, List.set_cons_succ]
                    refine wpAnyH_take (i := 19) (oi := ?oi620) (v := ?v620) ?hi620 (by kernel_rfl) (by kernel_rfl) (by kernel_rfl) ?hQ620 (Or.inr ⟨?hw620, ?hv620⟩) (by assumption) ?rest620
                    case hi620 => simp only [List.getElem?_toArray, List.getElem?_cons_succ, List.getElem?_cons_zero]; rfl
                    case hQ620 => exact fun _ _ _ h => h
                    case hw620 => rfl
                    case hv620 => rfl
                    simp only [Act.put, List.setIfInBounds_toArray, List.set_cons_zero, List.set_cons_succ]
                    refine wpAnyH_take (i := 20) (oi := ?oi621) (v := ?v621) ?hi621 (by kernel_rfl) (by kernel_rfl) (by kernel_rfl) ?hQ621 (Or.inr ⟨?hw621, ?hv621⟩) (by assumption) ?rest621
                    case hi621 => simp only [List.getElem?_toArray, List.getElem?_cons_succ, List.getElem?_cons_zero]; rfl
                    case hQ621 => exact fun _ _ _ h => h
                    case hw621 => rfl
                    case hv621 => rfl
                    simp only [Act.put, List.setIfInBounds_toArray, List.set_cons_zero, List.set_cons_succ]
                    refine wpAnyH_take (i := 21) (oi := ?oi622) (v := ?v622) ?hi622 (by kernel_rfl) (by kernel_rfl) (by kernel_rfl) ?hQ622 (Or.inr ⟨?hw622, ?hv622⟩) (by assumption) ?rest622
                    case hi622 => simp only [List.getElem?_toArray, List.getElem?_cons_succ, List.getElem?_cons_zero]; rfl
                    case hQ622 => exact fun _ _ _ h => h
                    case hw622 => rfl
                    case hv622 => rfl
                    simp only [Act.put, List.setIfInBounds_toArray, List.set_cons_zero, List.set_cons_succ]
                    refine wpAnyH_take (i := 22) (oi := ?oi623) (v := ?v623) ?hi623 (by kernel_rfl) (by kernel_rfl) (by kernel_rfl) ?hQ623 (Or.inr ⟨?hw623, ?hv623⟩) (by assumption) ?rest623
                    case hi623 => simp only [List.getElem?_toArray, List.getElem?_cons_succ, List.getElem?_cons_zero]; rfl
                    case hQ623 => exact fun _ _ _ h => h
                    case hw623 => rfl
                    case hv623 => rfl
                    simp only [Act.put, List.setIfInBounds_toArray, List.set_cons_zero, List.set_cons_succ]
                    refine wpAnyH_take (i := 23) (oi := ?oi624) (v := ?v624) ?hi624 (by kernel_rfl) (by kernel_rfl) (by kernel_rfl) ?hQ624 (Or.inr ⟨?hw624, ?hv624⟩) (by assumption) ?rest624
                    case hi624 => simp only [List.getElem?_toArray, List.getElem?_cons_succ, List.getElem?_cons_zero]; rfl
                    case hQ624 => exact fun _ _ _ h => h
                    case hw624 => rfl
                    case hv624 => rfl
                    simp only [Act.put, List.setIfInBounds_toArray, List.set_cons_zero, List.set_cons_succ]
                    refine wpAnyH_take (i := 24) (oi := ?oi625) (v := ?v625) ?hi625 (by kernel_rfl) (by kernel_rfl) (by kernel_rfl) ?hQ625 (Or.inr ⟨?hw625, ?hv625⟩) (by assumption) ?rest625
                    case hi625 => simp only [List.getElem?_toArray, List.getElem?_cons_succ, List.getElem?_cons_zero]; rfl
                    case hQ625 => exact fun _ _ _ h => h
                    case hw625 => rfl
                    case hv625 => rfl
                    simp only [Act.put, List.setIfInBounds_toArray, List.set_cons_zero, List.set_cons_succ]
                    refine wpAnyH_take (i := 25) (oi := ?oi626) (v := ?v626) ?hi626 (by kernel_rfl) (by kernel_rfl) (by kernel_rfl) ?hQ626 (Or.inr ⟨?hw626, ?hv626⟩) (by assumption) ?rest626
                    case hi626 => simp only [List.getElem?_toArray, List.getElem?_cons_succ, List.getElem?_cons_zero]; rfl
                    case hQ626 => exact fun _ _ _ h => h
                    case hw626 => rfl
                    case hv626 => rfl
                    simp only [Act.put, List.setIfInBounds_toArray, List.set_cons_zero, List.set_cons_succ]
                    refine wpAnyH_take (i := 26) (oi := ?oi627) (v := ?v627) ?hi627 (by kernel_rfl) (by kernel_rfl) (by kernel_rfl) ?hQ627 (Or.inr ⟨?hw627, ?hv627⟩) (by assumption) ?rest627
                    case hi627 => simp only [List.getElem?_toArray, List.getElem?_cons_succ, List.getElem?_cons_zero]; rfl
                    case hQ627 => exact fun _ _ _ h => h
                    case hw627 => rfl
                    case hv627 => rfl
                    simp only [Act.put, List.setIfInBounds_toArray, List.set_cons_zero, List.set_cons_succ]
                    refine wpAnyH_take (i := 27) (oi := ?oi628) (v := ?v628) ?hi628 (by kernel_rfl) (by kernel_rfl) (by kernel_rfl) ?hQ628 (Or.inr ⟨?hw628, ?hv628⟩) (by assumption) ?rest628
                    case hi628 => simp only [List.getElem?_toArray, List.getElem?_cons_succ, List.getElem?_cons_zero]; rfl
                    case hQ628 => exact fun _ _ _ h => h
                    case hw628 => rfl
                    case hv628 => rfl
                    simp only [Act.put, List.setIfInBounds_toArray, List.set_cons_zero, List.set_cons_succ]
                    refine wpAnyH_take (i := 28) (oi := ?oi629) (v := ?v629) ?hi629 (by kernel_rfl) (by kernel_rfl) (by kernel_rfl) ?hQ629 (Or.inl ⟨?hw629, ?hy629⟩) (by assumption) ?rest629
                    case hi629 => simp only [List.getElem?_toArray, List.getElem?_cons_succ, List.getElem?_cons_zero]; rfl
                    case hQ629 => exact fun _ _ _ h => h
                    case hw629 => rfl
                    case hy629 => (intro W hW; have f1 := (HV.out W hW).1; have f2 := (HV.out W hW).2; have f3 := (HZ.out W hW).1; have f4 := (HZ.out W hW).2; have f5 := HEQ.out; have f6 := HB.out.1; have f7 := HB.out.2; go_simp; all_goals rfl)
                    simp only [Act.put, List.setIfInBounds_toArray, List.set_cons_zero, List.set_cons_succ]
                    refine wpAnyH_done (by kernel_rfl) ?_ _
                    have HF : Hd (Chg [] wy wa.drew ∧ Chg (ablk us) w wa.drew) := ⟨H6.out.1.trans HWE.out, H6.out.2.trans (HWE.out.mono (by simp))⟩
                    clear hHeld
                    go_wp2_with fail
                    go_roundw
                    case rel => exact ⟨j + 1, by omega, by go_num, HF.out⟩
                    case measure => simp [intOf]; omega
                  · have hji : ¬ (j : Int) < (m : Int) := by omega
                    have hji2 : (m : Int) ≤ (j : Int) := by omega
                    have hsub : IntKind.i64.wrap ((j : Int) - (m : Int)) = ((j - m : Nat) : Int) := by rw [IntKind.wrap_i64]; omega
                    obtain ⟨jd, hjd⟩ : ∃ q, j - m = q := ⟨_, rfl⟩
                    obtain ⟨jm, hjmm⟩ : ∃ q, jd % 256 = q := ⟨_, rfl⟩
                    have hb2 := wrap8 jd
                    rw [hjmm] at hb2
                    rw [hjd] at hsub
                    have hf : fbH n i j = .string (bstr [i, jm, 9]) := by unfold fbH three3; rw [if_neg (by rw [HM.out]; exact hjm), HM.out, hjd, hjmm]
                    simp only [hf] at hz
                    have HZ : Hd (∀ W, Chg [] wr W → W.cell? ⟨bz, j, none⟩ = some (.string (bstr [i, jm, 9]))) := ⟨fun W b => (hcell W b ⟨bz, j, none⟩ hzl).trans hz⟩
                    have HB := Hd.mk (And.intro hb1 (And.intro hb2 hsub))
                    have HEQ : Hd (((bstr [i, jm, 9]).toList == (bstr [i, jm, 9]).toList) = true) := ⟨by simp⟩
                    clear hz hcell hwo hh hC hf hb1 hb2 hsub hjd hjmm
                    go_upto_region 28 with fail
                    clear hcl2
                    refine wp_region_held_drew (S := fun W => Chg [] wr W) (by kernel_rfl) (Chg.refl _ wr).drew (fun hHeld => ?_)
                    obtain ⟨wd, hwd⟩ : ∃ U, wr.drew = U := ⟨_, rfl⟩
                    have HWD : Hd (Chg [] wr wd) := ⟨by rw [← hwd]; exact (Chg.refl _ wr).drew⟩
                    rw [hwd] at hHeld ⊢
                    clear hwd
                    refine wpAnyH_take (i := 0) (oi := ?oi501) (v := ?v501) ?hi501 (by kernel_rfl) (by kernel_rfl) (by kernel_rfl) ?hQ501 (Or.inl ⟨?hw501, ?hy501⟩) (by assumption) ?rest501
                    case hi501 => simp only [List.getElem?_toArray, List.getElem?_cons_succ, List.getElem?_cons_zero]; rfl
                    case hQ501 => exact fun _ _ _ h => h
                    case hw501 => rfl
                    case hy501 => (intro W hW; have f1 := (HV.out W hW).1; have f2 := (HV.out W hW).2; have f3 := HZ.out W hW; have f5 := HB.out.1; have f6 := HB.out.2.1; have f7 := HB.out.2.2; go_simp; all_goals rfl)
                    simp only [Act.put, List.setIfInBounds_toArray, List.set_cons_zero, List.set_cons_succ]
                    refine wpAnyH_take (i := 1) (oi := ?oi502) (v := ?v502) ?hi502 (by kernel_rfl) (by kernel_rfl) (by kernel_rfl) ?hQ502 (Or.inl ⟨?hw502, ?hy502⟩) (by assumption) ?rest502
                    case hi502 => simp only [List.getElem?_toArray, List.getElem?_cons_succ, List.getElem?_cons_zero]; rfl
                    case hQ502 => exact fun _ _ _ h => h
                    case hw502 => rfl
                    case hy502 => (intro W hW; have f1 := (HV.out W hW).1; have f2 := (HV.out W hW).2; have f3 := HZ.out W hW; have f5 := HB.out.1; have f6 := HB.out.2.1; have f7 := HB.out.2.2; go_simp; all_goals rfl)
                    simp only [Act.put, List.setIfInBounds_toArray, List.set_cons_zero, List.set_cons_succ]
                    refine wpAnyH_take (i := 2) (oi := ?oi503) (v := ?v503) ?hi503 (by kernel_rfl) (by kernel_rfl) (by kernel_rfl) ?hQ503 (Or.inl ⟨?hw503, ?hy503⟩) (by assumption) ?rest503
                    case hi503 => simp only [List.getElem?_toArray, List.getElem?_cons_succ, List.getElem?_cons_zero]; rfl
                    case hQ503 => exact fun _ _ _ h => h
                    case hw503 => rfl
                    case hy503 => (intro W hW; have f1 := (HV.out W hW).1; have f2 := (HV.out W hW).2; have f3 := HZ.out W hW; have f5 := HB.out.1; have f6 := HB.out.2.1; have f7 := HB.out.2.2; go_simp; all_goals rfl)
                    simp only [Act.put, List.setIfInBounds_toArray, List.set_cons_zero, List.set_cons_succ]
                    refine wpAnyH_take (i := 3) (oi := ?oi504) (v := ?v504) ?hi504 (by kernel_rfl) (by kernel_rfl) (by kernel_rfl) ?hQ504 (Or.inl ⟨?hw504, ?hy504⟩) (by assumption) ?rest504
                    case hi504 => simp only [List.getElem?_toArray, List.getElem?_cons_succ, List.getElem?_cons_zero]; rfl
                    case hQ504 => exact fun _ _ _ h => h
                    case hw504 => rfl
                    case hy504 => (intro W hW; have f1 := (HV.out W hW).1; have f2 := (HV.out W hW).2; have f3 := HZ.out W hW; have f5 := HB.out.1; have f6 := HB.out.2.1; have f7 := HB.out.2.2; go_simp; all_goals rfl)
                    simp only [Act.put, List.setIfInBounds_toArray, List.set_cons_zero, List.set_cons_succ]
                    refine wpAnyH_take (i := 4) (oi := ?oi505) (v := ?v505) ?hi505 (by kernel_rfl) (by kernel_rfl) (by kernel_rfl) ?hQ505 (Or.inl ⟨?hw505, ?hy505⟩) (by assumption) ?rest505
                    case hi505 => simp only [List.getElem?_toArray, List.getElem?_cons_succ, List.getElem?_cons_zero]; rfl
                    case hQ505 => exact fun _ _ _ h => h
                    case hw505 => rfl
                    case hy505 => (intro W hW; have f1 := (HV.out W hW).1; have f2 := (HV.out W hW).2; have f3 := HZ.out W hW; have f5 := HB.out.1; have f6 := HB.out.2.1; have f7 := HB.out.2.2; go_simp; all_goals rfl)
                    simp only [Act.put, List.setIfInBounds_toArray, List.set_cons_zero, List.set_cons_succ]
                    refine wpAnyH_take (i := 5) (oi := ?oi506) (v := ?v506) ?hi506 (by kernel_rfl) (by kernel_rfl) (by kernel_rfl) ?hQ506 (Or.inl ⟨?hw506, ?hy506⟩) (by assumption) ?rest506
                    case hi506 => simp only [List.getElem?_toArray, List.getElem?_cons_succ, List.getElem?_cons_zero]; rfl
                    case hQ506 => exact fun _ _ _ h => h
                    case hw506 => rfl
                    case hy506 => (intro W hW; have f1 := (HV.out W hW).1; have f2 := (HV.out W hW).2; have f3 := HZ.out W hW; have f5 := HB.out.1; have f6 := HB.out.2.1; have f7 := HB.out.2.2; go_simp; all_goals rfl)
                    simp only [Act.put, List.setIfInBounds_toArray, List.set_cons_zero, List.set_cons_succ]
                    refine wpAnyH_take (i := 6) (oi := ?oi507) (v := ?v507) ?hi507 (by kernel_rfl) (by kernel_rfl) (by kernel_rfl) ?hQ507 (Or.inl ⟨?hw507, ?hy507⟩) (by assumption) ?rest507
                    case hi507 => simp only [List.getElem?_toArray, List.getElem?_cons_succ, List.getElem?_cons_zero]; rfl
                    case hQ507 => exact fun _ _ _ h => h
                    case hw507 => rfl
                    case hy507 => (intro W hW; have f1 := (HV.out W hW).1; have f2 := (HV.out W hW).2; have f3 := HZ.out W hW; have f5 := HB.out.1; have f6 := HB.out.2.1; have f7 := HB.out.2.2; go_simp; all_goals rfl)
                    simp only [Act.put, List.setIfInBounds_toArray, List.set_cons_zero, List.set_cons_succ]
                    refine wpAnyH_take (i := 7) (oi := ?oi508) (v := ?v508) ?hi508 (by kernel_rfl) (by kernel_rfl) (by kernel_rfl) ?hQ508 (Or.inl ⟨?hw508, ?hy508⟩) (by assumption) ?rest508
                    case hi508 => simp only [List.getElem?_toArray, List.getElem?_cons_succ, List.getElem?_cons_zero]; rfl
                    case hQ508 => exact fun _ _ _ h => h
                    case hw508 => rfl
                    case hy508 => (intro W hW; have f1 := (HV.out W hW).1; have f2 := (HV.out W hW).2; have f3 := HZ.out W hW; have f5 := HB.out.1; have f6 := HB.out.2.1; have f7 := HB.out.2.2; go_simp; all_goals rfl)
                    simp only [Act.put, List.setIfInBounds_toArray, List.set_cons_zero, List.set_cons_succ]
                    refine wpAnyH_take (i := 8) (oi := ?oi509) (v := ?v509) ?hi509 (by kernel_rfl) (by kernel_rfl) (by kernel_rfl) ?hQ509 (Or.inr ⟨?hw509, ?hv509⟩) (by assumption) ?rest509
                    case hi509 => simp only [List.getElem?_toArray, List.getElem?_cons_succ, List.getElem?_cons_zero]; rfl
                    case hQ509 => exact fun _ _ _ h => h
                    case hw509 => rfl
                    case hv509 => rfl
                    simp only [Act.put, List.setIfInBounds_toArray, List.set_cons_zero, List.set_cons_succ]
                    refine wpAnyH_take (i := 9) (oi := ?oi510) (v := ?v510) ?hi510 (by kernel_rfl) (by kernel_rfl) (by kernel_rfl) ?hQ510 (Or.inr ⟨?hw510, ?hv510⟩) (by assumption) ?rest510
                    case hi510 => simp only [List.getElem?_toArray, List.getElem?_cons_succ, List.getElem?_cons_zero]; rfl
                    case hQ510 => exact fun _ _ _ h => h
                    case hw510 => rfl
                    case hv510 => rfl
                    simp only [Act.put, List.setIfInBounds_toArray, List.set_cons_zero, List.set_cons_succ]
                    refine wpAnyH_take (i := 10) (oi := ?oi511) (v := ?v511) ?hi511 (by kernel_rfl) (by kernel_rfl) (by kernel_rfl) ?hQ511 (Or.inr ⟨?hw511, ?hv511⟩) (by assumption) ?rest511
                    case hi511 => simp only [List.getElem?_toArray, List.getElem?_cons_succ, List.getElem?_cons_zero]; rfl
                    case hQ511 => exact fun _ _ _ h => h
                    case hw511 => rfl
                    case hv511 => rfl
                    simp only [Act.put, List.setIfInBounds_toArray, List.set_cons_zero, List.set_cons_succ]
                    refine wpAnyH_take (i := 11) (oi := ?oi512) (v := ?v512) ?hi512 (by kernel_rfl) (by kernel_rfl) (by kernel_rfl) ?hQ512 (Or.inr ⟨?hw512, ?hv512⟩) (by assumption) ?rest512
                    case hi512 => simp only [List.getElem?_toArray, List.getElem?_cons_succ, List.getElem?_cons_zero]; rfl
                    case hQ512 => exact fun _ _ _ h => h
                    case hw512 => rfl
                    case hv512 => rfl
                    simp only [Act.put, List.setIfInBounds_toArray, List.set_cons_zero, List.set_cons_succ]
                    refine wpAnyH_take (i := 12) (oi := ?oi513) (v := ?v513) ?hi513 (by kernel_rfl) (by kernel_rfl) (by kernel_rfl) ?hQ513 (Or.inr ⟨?hw513, ?hv513⟩) (by assumption) ?rest513
                    case hi513 => simp only [List.getElem?_toArray, List.getElem?_cons_succ, List.getElem?_cons_zero]; rfl
                    case hQ513 => exact fun _ _ _ h => h
                    case hw513 => rfl
                    case hv513 => rfl
                    simp only [Act.put, List.setIfInBounds_toArray, List.set_cons_zero, List.set_cons_succ]
                    refine wpAnyH_take (i := 13) (oi := ?oi514) (v := ?v514) ?hi514 (by kernel_rfl) (by kernel_rfl) (by kernel_rfl) ?hQ514 (Or.inr ⟨?hw514, ?hv514⟩) (by assumption) ?rest514
                    case hi514 => simp only [List.getElem?_toArray, List.getElem?_cons_succ, List.getElem?_cons_zero]; rfl
                    case hQ514 => exact fun _ _ _ h => h
                    case hw514 => rfl
                    case hv514 => rfl
                    simp only [Act.put, List.setIfInBounds_toArray, List.set_cons_zero, List.set_cons_succ]
                    refine wpAnyH_take (i := 14) (oi := ?oi515) (v := ?v515) ?hi515 (by kernel_rfl) (by kernel_rfl) (by kernel_rfl) ?hQ515 (Or.inr ⟨?hw515, ?hv515⟩) (by assumption) ?rest515
                    case hi515 => simp only [List.getElem?_toArray, List.getElem?_cons_succ, List.getElem?_cons_zero]; rfl
                    case hQ515 => exact fun _ _ _ h => h
                    case hw515 => rfl
                    case hv515 => rfl
                    simp only [Act.put, List.setIfInBounds_toArray, List.set_cons_zero, List.set_cons_succ]
                    refine wpAnyH_take (i := 15) (oi := ?oi516) (v := ?v516) ?hi516 (by kernel_rfl) (by kernel_rfl) (by kernel_rfl) ?hQ516 (Or.inr ⟨?hw516, ?hv516⟩) (by assumption) ?rest516
                    case hi516 => simp only [List.getElem?_toArray, List.getElem?_cons_succ, List.getElem?_cons_zero]; rfl
                    case hQ516 => exact fun _ _ _ h => h
                    case hw516 => rfl
                    case hv516 => rfl
                    simp only [Act.put, List.setIfInBounds_toArray, List.set_cons_zero, List.set_cons_succ]
                    refine wpAnyH_take (i := 16) (oi := ?oi517) (v := ?v517) ?hi517 (by kernel_rfl) (by kernel_rfl) (by kernel_rfl) ?hQ517 (Or.inr ⟨?hw517, ?hv517⟩) (by assumption) ?rest517
                    case hi517 => simp only [List.getElem?_toArray, List.getElem?_cons_succ, List.getElem?_cons_zero]; rfl
                    case hQ517 => exact fun _ _ _ h => h
                    case hw517 => rfl
                    case hv517 => rfl
                    simp only [Act.put, List.setIfInBounds_toArray, List.set_cons_zero, List.set_cons_succ]
                    refine wpAnyH_take (i := 17) (oi := ?oi518) (v := ?v518) ?hi518 (by kernel_rfl) (by kernel_rfl) (by kernel_rfl) ?hQ518 (Or.inr ⟨?hw518, ?hv518⟩) (by assumption) ?rest518
                    case hi518 => simp only [List.getElem?_toArray, List.getElem?_cons_succ, List.getElem?_cons_zero]; rfl
                    case hQ518 => exact fun _ _ _ h => h
                    case hw518 => rfl
                    case hv518 => rfl
                    simp only [Act.put, List.setIfInBounds_toArray, List.set_cons_zero, List.set_cons_succ]
                    refine wpAnyH_take (i := 18) (oi := ?oi519) (v := ?v519) ?hi519 (by kernel_rfl) (by kernel_rfl) (by kernel_rfl) ?hQ519 (Or.inr ⟨?hw519, ?hv519⟩) (by assumption) ?rest519
                    case hi519 => simp only [List.getElem?_toArray, List.getElem?_cons_succ, List.getElem?_cons_zero]; rfl
                    case hQ519 => exact fun _ _ _ h => h
                    case hw519 => rfl
                    case hv519 => rfl
                    simp only [Act.put, List.setIfInBounds_toArray, List.set_cons_zero, List.set_cons_succ]
                    refine wpAnyH_take (i := 19) (oi := ?oi520) (v := ?v520) ?hi520 (by kernel_rfl) (by kernel_rfl) (by kernel_rfl) ?hQ520 (Or.inr ⟨?hw520, ?hv520⟩) (by assumption) ?rest520
                    case hi520 => simp only [List.getElem?_toArray, List.getElem?_cons_succ, List.getElem?_cons_zero]; rfl
                    case hQ520 => exact fun _ _ _ h => h
                    case hw520 => rfl
                    case hv520 => rfl
                    simp only [Act.put, List.setIfInBounds_toArray, List.set_cons_zero, List.set_cons_succ]
                    refine wpAnyH_take (i := 20) (oi := ?oi521) (v := ?v521) ?hi521 (by kernel_rfl) (by kernel_rfl) (by kernel_rfl) ?hQ521 (Or.inr ⟨?hw521, ?hv521⟩) (by assumption) ?rest521
                    case hi521 => simp only [List.getElem?_toArray, List.getElem?_cons_succ, List.getElem?_cons_zero]; rfl
                    case hQ521 => exact fun _ _ _ h => h
                    case hw521 => rfl
                    case hv521 => rfl
                    simp only [Act.put, List.setIfInBounds_toArray, List.set_cons_zero, List.set_cons_succ]
                    refine wpAnyH_take (i := 21) (oi := ?oi522) (v := ?v522) ?hi522 (by kernel_rfl) (by kernel_rfl) (by kernel_rfl) ?hQ522 (Or.inr ⟨?hw522, ?hv522⟩) (by assumption) ?rest522
                    case hi522 => simp only [List.getElem?_toArray, List.getElem?_cons_succ, List.getElem?_cons_zero]; rfl
                    case hQ522 => exact fun _ _ _ h => h
                    case hw522 => rfl
                    case hv522 => rfl
                    simp only [Act.put, List.setIfInBounds_toArray, List.set_cons_zero, List.set_cons_succ]
                    refine wpAnyH_take (i := 22) (oi := ?oi523) (v := ?v523) ?hi523 (by kernel_rfl) (by kernel_rfl) (by kernel_rfl) ?hQ523 (Or.inr ⟨?hw523, ?hv523⟩) (by assumption) ?rest523
                    case hi523 => simp only [List.getElem?_toArray, List.getElem?_cons_succ, List.getElem?_cons_zero]; rfl
                    case hQ523 => exact fun _ _ _ h => h
                    case hw523 => rfl
                    case hv523 => rfl
                    simp only [Act.put, List.setIfInBounds_toArray, List.set_cons_zero, List.set_cons_succ]
                    refine wpAnyH_take (i := 23) (oi := ?oi524) (v := ?v524) ?hi524 (by kernel_rfl) (by kernel_rfl) (by kernel_rfl) ?hQ524 (Or.inr ⟨?hw524, ?hv524⟩) (by assumption) ?rest524
                    case hi524 => simp only [List.getElem?_toArray, List.getElem?_cons_succ, List.getElem?_cons_zero]; rfl
                    case hQ524 => exact fun _ _ _ h => h
                    case hw524 => rfl
                    case hv524 => rfl
                    simp only [Act.put, List.setIfInBounds_toArray, List.set_cons_zero, List.set_cons_succ]
                    refine wpAnyH_take (i := 24) (oi := ?oi525) (v := ?v525) ?hi525 (by kernel_rfl) (by kernel_rfl) (by kernel_rfl) ?hQ525 (Or.inr ⟨?hw525, ?hv525⟩) (by assumption) ?rest525
                    case hi525 => simp only [List.getElem?_toArray, List.getElem?_cons_succ, List.getElem?_cons_zero]; rfl
                    case hQ525 => exact fun _ _ _ h => h
                    case hw525 => rfl
                    case hv525 => rfl
                    simp only [Act.put, List.setIfInBounds_toArray, List.set_cons_zero, List.set_cons_succ]
                    refine wpAnyH_take (i := 25) (oi := ?oi526) (v := ?v526) ?hi526 (by kernel_rfl) (by kernel_rfl) (by kernel_rfl) ?hQ526 (Or.inr ⟨?hw526, ?hv526⟩) (by assumption) ?rest526
                    case hi526 => simp only [List.getElem?_toArray, List.getElem?_cons_succ, List.getElem?_cons_zero]; rfl
                    case hQ526 => exact fun _ _ _ h => h
                    case hw526 => rfl
                    case hv526 => rfl
                    simp only [Act.put, List.setIfInBounds_toArray, List.set_cons_zero, List.set_cons_succ]
                    refine wpAnyH_take (i := 26) (oi := ?oi527) (v := ?v527) ?hi527 (by kernel_rfl) (by kernel_rfl) (by kernel_rfl) ?hQ527 (Or.inr ⟨?hw527, ?hv527⟩) (by assumption) ?rest527
                    case hi527 => simp only [List.getElem?_toArray, List.getElem?_cons_succ, List.getElem?_cons_zero]; rfl
                    case hQ527 => exact fun _ _ _ h => h
                    case hw527 => rfl
                    case hv527 => rfl
                    simp only [Act.put, List.setIfInBounds_toArray, List.set_cons_zero, List.set_cons_succ]
                    refine wpAnyH_take (i := 27) (oi := ?oi528) (v := ?v528) ?hi528 (by kernel_rfl) (by kernel_rfl) (by kernel_rfl) ?hQ528 (Or.inr ⟨?hw528, ?hv528⟩) (by assumption) ?rest528
                    case hi528 => simp only [List.getElem?_toArray, List.getElem?_cons_succ, List.getElem?_cons_zero]; rfl
                    case hQ528 => exact fun _ _ _ h => h
                    case hw528 => rfl
                    case hv528 => rfl
                    simp only [Act.put, List.setIfInBounds_toArray, List.set_cons_zero, List.set_cons_succ]
                    refine wpAnyH_take (i := 28) (oi := ?oi529) (v := ?v529) ?hi529 (by kernel_rfl) (by kernel_rfl) (by kernel_rfl) ?hQ529 (Or.inr ⟨?hw529, ?hv529⟩) (by assumption) ?rest529
                    case hi529 => simp only [List.getElem?_toArray, List.getElem?_cons_succ, List.getElem?_cons_zero]; rfl
                    case hQ529 => exact fun _ _ _ h => h
                    case hw529 => rfl
                    case hv529 => rfl
                    simp only [Act.put, List.setIfInBounds_toArray, List.set_cons_zero, List.set_cons_succ]
                    refine wpAnyH_take (i := 29) (oi := ?oi530) (v := ?v530) ?hi530 (by kernel_rfl) (by kernel_rfl) (by kernel_rfl) ?hQ530 (Or.inr ⟨?hw530, ?hv530⟩) (by assumption) ?rest530
                    case hi530 => simp only [List.getElem?_toArray, List.getElem?_cons_succ, List.getElem?_cons_zero]; rfl
                    case hQ530 => exact fun _ _ _ h => h
                    case hw530 => rfl
                    case hv530 => rfl
                    simp only [Act.put, List.setIfInBounds_toArray, List.set_cons_zero, List.set_cons_succ]
                    refine wpAnyH_take (i := 30) (oi := ?oi531) (v := ?v531) ?hi531 (by kernel_rfl) (by kernel_rfl) (by kernel_rfl) ?hQ531 (Or.inr ⟨?hw531, ?hv531⟩) (by assumption) ?rest531
                    case hi531 => simp only [List.getElem?_toArray, List.getElem?_cons_succ, List.getElem?_cons_zero]; rfl
                    case hQ531 => exact fun _ _ _ h => h
                    case hw531 => rfl
                    case hv531 => rfl
                    simp only [Act.put, List.setIfInBounds_toArray, List.set_cons_zero, List.set_cons_succ]
                    refine wpAnyH_take (i := 31) (oi := ?oi532) (v := ?v532) ?hi532 (by kernel_rfl) (by kernel_rfl) (by kernel_rfl) ?hQ532 (Or.inr ⟨?hw532, ?hv532⟩) (by assumption) ?rest532
                    case hi532 => simp only [List.getElem?_toArray, List.getElem?_cons_succ, List.getElem?_cons_zero]; rfl
                    case hQ532 => exact fun _ _ _ h => h
                    case hw532 => rfl
                    case hv532 => rfl
                    simp only [Act.put, List.setIfInBounds_toArray, List.set_cons_zero, List.set_cons_succ]
                    refine wpAnyH_take (i := 32) (oi := ?oi533) (v := ?v533) ?hi533 (by kernel_rfl) (by kernel_rfl) (by kernel_rfl) ?hQ533 (Or.inr ⟨?hw533, ?hv533⟩) (by assumption) ?rest533
                    case hi533 => simp only [List.getElem?_toArray, List.getElem?_cons_succ, List.getElem?_cons_zero]; rfl
                    case hQ533 => exact fun _ _ _ h => h
                    case hw533 => rfl
                    case hv533 => rfl
                    simp only [Act.put, List.setIfInBounds_toArray, List.set_cons_zero, List.set_cons_succ]
                    refine wpAnyH_take (i := 33) (oi := ?oi534) (v := ?v534) ?hi534 (by kernel_rfl) (by kernel_rfl) (by kernel_rfl) ?hQ534 (Or.inr ⟨?hw534, ?hv534⟩) (by assumption) ?rest534
                    case hi534 => simp only [List.getElem?_toArray, List.getElem?_cons_succ, List.getElem?_cons_zero]; rfl
                    case hQ534 => exact fun _ _ _ h => h
                    case hw534 => rfl
                    case hv534 => rfl
                    simp only [Act.put, List.setIfInBounds_toArray, List.set_cons_zero, List.set_cons_succ]
                    refine wpAnyH_take (i := 34) (oi := ?oi535) (v := ?v535) ?hi535 (by kernel_rfl) (by kernel_rfl) (by kernel_rfl) ?hQ535 (Or.inr ⟨?hw535, ?hv535⟩) (by assumption) ?rest535
                    case hi535 => simp only [List.getElem?_toArray, List.getElem?_cons_succ, List.getElem?_cons_zero]; rfl
                    case hQ535 => exact fun _ _ _ h => h
                    case hw535 => rfl
                    case hv535 => rfl
                    simp only [Act.put, List.setIfInBounds_toArray, List.set_cons_zero, List.set_cons_succ]
                    refine wpAnyH_take (i := 35) (oi := ?oi536) (v := ?v536) ?hi536 (by kernel_rfl) (by kernel_rfl) (by kernel_rfl) ?hQ536 (Or.inr ⟨?hw536, ?hv536⟩) (by assumption) ?rest536
                    case hi536 => simp only [List.getElem?_toArray, List.getElem?_cons_succ, List.getElem?_cons_zero]; rfl
                    case hQ536 => exact fun _ _ _ h => h
                    case hw536 => rfl
                    case hv536 => rfl
                    simp only [Act.put, List.setIfInBounds_toArray, List.set_cons_zero, List.set_cons_succ]
                    refine wpAnyH_take (i := 36) (oi := ?oi537) (v := ?v537) ?hi537 (by kernel_rfl) (by kernel_rfl) (by kernel_rfl) ?hQ537 (Or.inr ⟨?hw537, ?hv537⟩) (by assumption) ?rest537
                    case hi537 => simp only [List.getElem?_toArray, List.getElem?_cons_succ, List.getElem?_cons_zero]; rfl
                    case hQ537 => exact fun _ _ _ h => h
                    case hw537 => rfl
                    case hv537 => rfl
                    simp only [Act.put, List.setIfInBounds_toArray, List.set_cons_zero, List.set_cons_succ]
                    refine wpAnyH_take (i := 37) (oi := ?oi538) (v := ?v538) ?hi538 (by kernel_rfl) (by kernel_rfl) (by kernel_rfl) ?hQ538 (Or.inr ⟨?hw538, ?hv538⟩) (by assumption) ?rest538
                    case hi538 => simp only [List.getElem?_toArray, List.getElem?_cons_succ, List.getElem?_cons_zero]; rfl
                    case hQ538 => exact fun _ _ _ h => h
                    case hw538 => rfl
                    case hv538 => rfl
                    simp only [Act.put, List.setIfInBounds_toArray, List.set_cons_zero, List.set_cons_succ]
                    refine wpAnyH_take (i := 38) (oi := ?oi539) (v := ?v539) ?hi539 (by kernel_rfl) (by kernel_rfl) (by kernel_rfl) ?hQ539 (Or.inr ⟨?hw539, ?hv539⟩) (by assumption) ?rest539
                    case hi539 => simp only [List.getElem?_toArray, List.getElem?_cons_succ, List.getElem?_cons_zero]; rfl
                    case hQ539 => exact fun _ _ _ h => h
                    case hw539 => rfl
                    case hv539 => rfl
                    simp only [Act.put, List.setIfInBounds_toArray, List.set_cons_zero, List.set_cons_succ]
                    refine wpAnyH_take (i := 39) (oi := ?oi540) (v := ?v540) ?hi540 (by kernel_rfl) (by kernel_rfl) (by kernel_rfl) ?hQ540 (Or.inl ⟨?hw540, ?hy540⟩) (by assumption) ?rest540
                    case hi540 => simp only [List.getElem?_toArray, List.getElem?_cons_succ, List.getElem?_cons_zero]; rfl
                    case hQ540 => exact fun _ _ _ h => h
                    case hw540 => rfl
                    case hy540 => (intro W hW; have f1 := (HV.out W hW).1; have f2 := (HV.out W hW).2; have f3 := HZ.out W hW; have f5 := HB.out.1; have f6 := HB.out.2.1; have f7 := HB.out.2.2; go_simp; all_goals rfl)
                    simp only [Act.put, List.setIfInBounds_toArray, List.set_cons_zero, List.set_cons_succ]
                    refine wpAnyH_done (by kernel_rfl) ?_ _
                    clear hHeld
                    go_upto_region 30 with fail
                    refine wp_region_held_drew (S := fun W => Chg [] wr W) (by kernel_rfl) (HWD.out.drew) (fun hHeld => ?_)
                    obtain ⟨we, hwe⟩ : ∃ U, wd.drew = U := ⟨_, rfl⟩
                    have HWE : Hd (Chg [] wr we) := ⟨by rw [← hwe]; exact HWD.out.drew⟩
                    rw [hwe] at hHeld ⊢
                    clear hwe
                    refine wpAnyH_take (i := 0) (oi := ?oi701) (v := ?v701) ?hi701 (by kernel_rfl) (by kernel_rfl) (by kernel_rfl) ?hQ701 (Or.inl ⟨?hw701, ?hy701⟩) (by assumption) ?rest701
                    case hi701 => simp only [List.getElem?_toArray, List.getElem?_cons_succ, List.getElem?_cons_zero]; rfl
                    case hQ701 => exact fun _ _ _ h => h
                    case hw701 => rfl
                    case hy701 => (intro W hW; have f1 := (HV.out W hW).1; have f2 := (HV.out W hW).2; have f3 := HZ.out W hW; have f5 := HB.out.1; have f6 := HB.out.2.1; have f7 := HB.out.2.2; go_simp; all_goals rfl)
                    simp only [Act.put, List.setIfInBounds_toArray, List.set_cons_zero, List.set_cons_succ]
                    refine wpAnyH_take (i := 1) (oi := ?oi702) (v := ?v702) ?hi702 (by kernel_rfl) (by kernel_rfl) (by kernel_rfl) ?hQ702 (Or.inl ⟨?hw702, ?hy702⟩) (by assumption) ?rest702
                    case hi702 => simp only [List.getElem?_toArray, List.getElem?_cons_succ, List.getElem?_cons_zero]; rfl
                    case hQ702 => exact fun _ _ _ h => h
                    case hw702 => rfl
                    case hy702 => (intro W hW; have f1 := (HV.out W hW).1; have f2 := (HV.out W hW).2; have f3 := HZ.out W hW; have f5 := HB.out.1; have f6 := HB.out.2.1; have f7 := HB.out.2.2; go_simp; all_goals rfl)
                    simp only [Act.put, List.setIfInBounds_toArray, List.set_cons_zero, List.set_cons_succ]
                    refine wpAnyH_take (i := 2) (oi := ?oi703) (v := ?v703) ?hi703 (by kernel_rfl) (by kernel_rfl) (by kernel_rfl) ?hQ703 (Or.inl ⟨?hw703, ?hy703⟩) (by assumption) ?rest703
                    case hi703 => simp only [List.getElem?_toArray, List.getElem?_cons_succ, List.getElem?_cons_zero]; rfl
                    case hQ703 => exact fun _ _ _ h => h
                    case hw703 => rfl
                    case hy703 => (intro W hW; have f1 := (HV.out W hW).1; have f2 := (HV.out W hW).2; have f3 := HZ.out W hW; have f5 := HB.out.1; have f6 := HB.out.2.1; have f7 := HB.out.2.2; go_simp; all_goals rfl)
                    simp only [Act.put, List.setIfInBounds_toArray, List.set_cons_zero, List.set_cons_succ]
                    refine wpAnyH_take (i := 3) (oi := ?oi704) (v := ?v704) ?hi704 (by kernel_rfl) (by kernel_rfl) (by kernel_rfl) ?hQ704 (Or.inl ⟨?hw704, ?hy704⟩) (by assumption) ?rest704
                    case hi704 => simp only [List.getElem?_toArray, List.getElem?_cons_succ, List.getElem?_cons_zero]; rfl
                    case hQ704 => exact fun _ _ _ h => h
                    case hw704 => rfl
                    case hy704 => (intro W hW; have f1 := (HV.out W hW).1; have f2 := (HV.out W hW).2; have f3 := HZ.out W hW; have f5 := HB.out.1; have f6 := HB.out.2.1; have f7 := HB.out.2.2; go_simp; all_goals rfl)
                    simp only [Act.put, List.setIfInBounds_toArray, List.set_cons_zero, List.set_cons_succ]
                    refine wpAnyH_take (i := 4) (oi := ?oi705) (v := ?v705) ?hi705 (by kernel_rfl) (by kernel_rfl) (by kernel_rfl) ?hQ705 (Or.inl ⟨?hw705, ?hy705⟩) (by assumption) ?rest705
                    case hi705 => simp only [List.getElem?_toArray, List.getElem?_cons_succ, List.getElem?_cons_zero]; rfl
                    case hQ705 => exact fun _ _ _ h => h
                    case hw705 => rfl
                    case hy705 => (intro W hW; have f1 := (HV.out W hW).1; have f2 := (HV.out W hW).2; have f3 := HZ.out W hW; have f5 := HB.out.1; have f6 := HB.out.2.1; have f7 := HB.out.2.2; go_simp; all_goals rfl)
                    simp only [Act.put, List.setIfInBounds_toArray, List.set_cons_zero, List.set_cons_succ]
                    refine wpAnyH_take (i := 5) (oi := ?oi706) (v := ?v706) ?hi706 (by kernel_rfl) (by kernel_rfl) (by kernel_rfl) ?hQ706 (Or.inl ⟨?hw706, ?hy706⟩) (by assumption) ?rest706
                    case hi706 => simp only [List.getElem?_toArray, List.getElem?_cons_succ, List.getElem?_cons_zero]; rfl
                    case hQ706 => exact fun _ _ _ h => h
                    case hw706 => rfl
                    case hy706 => (intro W hW; have f1 := (HV.out W hW).1; have f2 := (HV.out W hW).2; have f3 := HZ.out W hW; have f5 := HB.out.1; have f6 := HB.out.2.1; have f7 := HB.out.2.2; go_simp; all_goals rfl)
                    simp only [Act.put, List.setIfInBounds_toArray, List.set_cons_zero, List.set_cons_succ]
                    refine wpAnyH_take (i := 6) (oi := ?oi707) (v := ?v707) ?hi707 (by kernel_rfl) (by kernel_rfl) (by kernel_rfl) ?hQ707 (Or.inl ⟨?hw707, ?hy707⟩) (by assumption) ?rest707
                    case hi707 => simp only [List.getElem?_toArray, List.getElem?_cons_succ, List.getElem?_cons_zero]; rfl
                    case hQ707 => exact fun _ _ _ h => h
                    case hw707 => rfl
                    case hy707 => (intro W hW; have f1 := (HV.out W hW).1; have f2 := (HV.out W hW).2; have f3 := HZ.out W hW; have f5 := HB.out.1; have f6 := HB.out.2.1; have f7 := HB.out.2.2; go_simp; all_goals rfl)
                    simp only [Act.put, List.setIfInBounds_toArray, List.set_cons_zero, List.set_cons_succ]
                    refine wpAnyH_take (i := 7) (oi := ?oi708) (v := ?v708) ?hi708 (by kernel_rfl) (by kernel_rfl) (by kernel_rfl) ?hQ708 (Or.inl ⟨?hw708, ?hy708⟩) (by assumption) ?rest708
                    case hi708 => simp only [List.getElem?_toArray, List.getElem?_cons_succ, List.getElem?_cons_zero]; rfl
                    case hQ708 => exact fun _ _ _ h => h
                    case hw708 => rfl
                    case hy708 => (intro W hW; have f1 := (HV.out W hW).1; have f2 := (HV.out W hW).2; have f3 := HZ.out W hW; have f5 := HB.out.1; have f6 := HB.out.2.1; have f7 := HB.out.2.2; go_simp; all_goals rfl)
                    simp only [Act.put, List.setIfInBounds_toArray, List.set_cons_zero, List.set_cons_succ]
                    refine wpAnyH_take (i := 8) (oi := ?oi709) (v := ?v709) ?hi709 (by kernel_rfl) (by kernel_rfl) (by kernel_rfl) ?hQ709 (Or.inl ⟨?hw709, ?hy709⟩) (by assumption) ?rest709
                    case hi709 => simp only [List.getElem?_toArray, List.getElem?_cons_succ, List.getElem?_cons_zero]; rfl
                    case hQ709 => exact fun _ _ _ h => h
                    case hw709 => rfl
                    case hy709 => (intro W hW; have f1 := (HV.out W hW).1; have f2 := (HV.out W hW).2; have f3 := HZ.out W hW; have f5 := HB.out.1; have f6 := HB.out.2.1; have f7 := HB.out.2.2; go_simp; all_goals rfl)
                    simp only [Act.put, List.setIfInBounds_toArray, List.set_cons_zero, List.set_cons_succ]
                    refine wpAnyH_take (i := 9) (oi := ?oi710) (v := ?v710) ?hi710 (by kernel_rfl) (by kernel_rfl) (by kernel_rfl) ?hQ710 (Or.inl ⟨?hw710, ?hy710⟩) (by assumption) ?rest710
                    case hi710 => simp only [List.getElem?_toArray, List.getElem?_cons_succ, List.getElem?_cons_zero]; rfl
                    case hQ710 => exact fun _ _ _ h => h
                    case hw710 => rfl
                    case hy710 => (intro W hW; have f1 := (HV.out W hW).1; have f2 := (HV.out W hW).2; have f3 := HZ.out W hW; have f5 := HB.out.1; have f6 := HB.out.2.1; have f7 := HB.out.2.2; go_simp; all_goals rfl)
                    simp only [Act.put, List.setIfInBounds_toArray, List.set_cons_zero, List.set_cons_succ]
                    refine wpAnyH_take (i := 10) (oi := ?oi711) (v := ?v711) ?hi711 (by kernel_rfl) (by kernel_rfl) (by kernel_rfl) ?hQ711 (Or.inl ⟨?hw711, ?hy711⟩) (by assumption) ?rest711
                    case hi711 => simp only [List.getElem?_toArray, List.getElem?_cons_succ, List.getElem?_cons_zero]; rfl
                    case hQ711 => exact fun _ _ _ h => h
                    case hw711 => rfl
                    case hy711 => (intro W hW; have f1 := (HV.out W hW).1; have f2 := (HV.out W hW).2; have f3 := HZ.out W hW; have f5 := HB.out.1; have f6 := HB.out.2.1; have f7 := HB.out.2.2; go_simp; all_goals rfl)
                    simp only [Act.put, List.setIfInBounds_toArray, List.set_cons_zero, List.set_cons_succ]
                    refine wpAnyH_take (i := 11) (oi := ?oi712) (v := ?v712) ?hi712 (by kernel_rfl) (by kernel_rfl) (by kernel_rfl) ?hQ712 (Or.inl ⟨?hw712, ?hy712⟩) (by assumption) ?rest712
                    case hi712 => simp only [List.getElem?_toArray, List.getElem?_cons_succ, List.getElem?_cons_zero]; rfl
                    case hQ712 => exact fun _ _ _ h => h
                    case hw712 => rfl
                    case hy712 => (intro W hW; have f1 := (HV.out W hW).1; have f2 := (HV.out W hW).2; have f3 := HZ.out W hW; have f5 := HB.out.1; have f6 := HB.out.2.1; have f7 := HB.out.2.2; go_simp; all_goals rfl)
                    simp only [Act.put, List.setIfInBounds_toArray, List.set_cons_zero, List.set_cons_succ]
                    refine wpAnyH_take (i := 12) (oi := ?oi713) (v := ?v713) ?hi713 (by kernel_rfl) (by kernel_rfl) (by kernel_rfl) ?hQ713 (Or.inl ⟨?hw713, ?hy713⟩) (by assumption) ?rest713
                    case hi713 => simp only [List.getElem?_toArray, List.getElem?_cons_succ, List.getElem?_cons_zero]; rfl
                    case hQ713 => exact fun _ _ _ h => h
                    case hw713 => rfl
                    case hy713 => (intro W hW; have f1 := (HV.out W hW).1; have f2 := (HV.out W hW).2; have f3 := HZ.out W hW; have f5 := HB.out.1; have f6 := HB.out.2.1; have f7 := HB.out.2.2; go_simp; all_goals rfl)
                    simp only [Act.put, List.setIfInBounds_toArray, List.set_cons_zero, List.set_cons_succ]
                    refine wpAnyH_take (i := 13) (oi := ?oi714) (v := ?v714) ?hi714 (by kernel_rfl) (by kernel_rfl) (by kernel_rfl) ?hQ714 (Or.inl ⟨?hw714, ?hy714⟩) (by assumption) ?rest714
                    case hi714 => simp only [List.getElem?_toArray, List.getElem?_cons_succ, List.getElem?_cons_zero]; rfl
                    case hQ714 => exact fun _ _ _ h => h
                    case hw714 => rfl
                    case hy714 => (intro W hW; have f1 := (HV.out W hW).1; have f2 := (HV.out W hW).2; have f3 := HZ.out W hW; have f5 := HB.out.1; have f6 := HB.out.2.1; have f7 := HB.out.2.2; go_simp; all_goals rfl)
                    simp only [Act.put, List.setIfInBounds_toArray, List.set_cons_zero, List.set_cons_succ]
                    refine wpAnyH_take (i := 14) (oi := ?oi715) (v := ?v715) ?hi715 (by kernel_rfl) (by kernel_rfl) (by kernel_rfl) ?hQ715 (Or.inl ⟨?hw715, ?hy715⟩) (by assumption) ?rest715
                    case hi715 => simp only [List.getElem?_toArray, List.getElem?_cons_succ, List.getElem?_cons_zero]; rfl
                    case hQ715 => exact fun _ _ _ h => h
                    case hw715 => rfl
                    case hy715 => (intro W hW; have f1 := (HV.out W hW).1; have f2 := (HV.out W hW).2; have f3 := HZ.out W hW; have f5 := HB.out.1; have f6 := HB.out.2.1; have f7 := HB.out.2.2; go_simp; all_goals rfl)
                    simp only [Act.put, List.setIfInBounds_toArray, List.set_cons_zero, List.set_cons_succ]
                    refine wpAnyH_take (i := 15) (oi := ?oi716) (v := ?v716) ?hi716 (by kernel_rfl) (by kernel_rfl) (by kernel_rfl) ?hQ716 (Or.inl ⟨?hw716, ?hy716⟩) (by assumption) ?rest716
                    case hi716 => simp only [List.getElem?_toArray, List.getElem?_cons_succ, List.getElem?_cons_zero]; rfl
                    case hQ716 => exact fun _ _ _ h => h
                    case hw716 => rfl
                    case hy716 => (intro W hW; have f1 := (HV.out W hW).1; have f2 := (HV.out W hW).2; have f3 := HZ.out W hW; have f5 := HB.out.1; have f6 := HB.out.2.1; have f7 := HB.out.2.2; go_simp; all_goals rfl)
                    simp only [Act.put, List.setIfInBounds_toArray, List.set_cons_zero, List.set_cons_succ]
                    refine wpAnyH_take (i := 16) (oi := ?oi717) (v := ?v717) ?hi717 (by kernel_rfl) (by kernel_rfl) (by kernel_rfl) ?hQ717 (Or.inl ⟨?hw717, ?hy717⟩) (by assumption) ?rest717
                    case hi717 => simp only [List.getElem?_toArray, List.getElem?_cons_succ, List.getElem?_cons_zero]; rfl
                    case hQ717 => exact fun _ _ _ h => h
                    case hw717 => rfl
                    case hy717 => (intro W hW; have f1 := (HV.out W hW).1; have f2 := (HV.out W hW).2; have f3 := HZ.out W hW; have f5 := HB.out.1; have f6 := HB.out.2.1; have f7 := HB.out.2.2; go_simp; all_goals rfl)
                    simp only [Act.put, List.setIfInBounds_toArray, List.set_cons_zero, List.set_cons_succ]
                    refine wpAnyH_take (i := 17) (oi := ?oi718) (v := ?v718) ?hi718 (by kernel_rfl) (by kernel_rfl) (by kernel_rfl) ?hQ718 (Or.inl ⟨?hw718, ?hy718⟩) (by assumption) ?rest718
                    case hi718 => simp only [List.getElem?_toArray, List.getElem?_cons_succ, List.getElem?_cons_zero]; rfl
                    case hQ718 => exact fun _ _ _ h => h
                    case hw718 => rfl
                    case hy718 => (intro W hW; have f1 := (HV.out W hW).1; have f2 := (HV.out W hW).2; have f3 := HZ.out W hW; have f5 := HB.out.1; have f6 := HB.out.2.1; have f7 := HB.out.2.2; go_simp; all_goals rfl)
                    simp only [Act.put, List.setIfInBounds_toArray, List.set_cons_zero, List.set_cons_succ]
                    refine wpAnyH_take (i := 18) (oi := ?oi719) (v := ?v719) ?hi719 (by kernel_rfl) (by kernel_rfl) (by kernel_rfl) ?hQ719 (Or.inl ⟨?hw719, ?hy719⟩) (by assumption) ?rest719
                    case hi719 => simp only [List.getElem?_toArray, List.getElem?_cons_succ, List.getElem?_cons_zero]; rfl
                    case hQ719 => exact fun _ _ _ h => h
                    case hw719 => rfl
                    case hy719 => (intro W hW; have f1 := (HV.out W hW).1; have f2 := (HV.out W hW).2; have f3 := HZ.out W hW; have f5 := HB.out.1; have f6 := HB.out.2.1; have f7 := HB.out.2.2; go_simp; all_goals rfl)
                    simp only [Act.put, List.setIfInBounds_toArray, List.set_cons_zero, List.set_cons_succ]
                    refine wpAnyH_take (i := 19) (oi := ?oi720) (v := ?v720) ?hi720 (by kernel_rfl) (by kernel_rfl) (by kernel_rfl) ?hQ720 (Or.inl ⟨?hw720, ?hy720⟩) (by assumption) ?rest720
                    case hi720 => simp only [List.getElem?_toArray, List.getElem?_cons_succ, List.getElem?_cons_zero]; rfl
                    case hQ720 => exact fun _ _ _ h => h
                    case hw720 => rfl
                    case hy720 => (intro W hW; have f1 := (HV.out W hW).1; have f2 := (HV.out W hW).2; have f3 := HZ.out W hW; have f5 := HB.out.1; have f6 := HB.out.2.1; have f7 := HB.out.2.2; go_simp; all_goals rfl)
                    simp only [Act.put, List.setIfInBounds_toArray, List.set_cons_zero, List.set_cons_succ]
                    refine wpAnyH_take (i := 20) (oi := ?oi721) (v := ?v721) ?hi721 (by kernel_rfl) (by kernel_rfl) (by kernel_rfl) ?hQ721 (Or.inl ⟨?hw721, ?hy721⟩) (by assumption) ?rest721
                    case hi721 => simp only [List.getElem?_toArray, List.getElem?_cons_succ, List.getElem?_cons_zero]; rfl
                    case hQ721 => exact fun _ _ _ h => h
                    case hw721 => rfl
                    case hy721 => (intro W hW; have f1 := (HV.out W hW).1; have f2 := (HV.out W hW).2; have f3 := HZ.out W hW; have f5 := HB.out.1; have f6 := HB.out.2.1; have f7 := HB.out.2.2; go_simp; all_goals rfl)
                    simp only [Act.put, List.setIfInBounds_toArray, List.set_cons_zero, List.set_cons_succ]
                    refine wpAnyH_take (i := 21) (oi := ?oi722) (v := ?v722) ?hi722 (by kernel_rfl) (by kernel_rfl) (by kernel_rfl) ?hQ722 (Or.inl ⟨?hw722, ?hy722⟩) (by assumption) ?rest722
                    case hi722 => simp only [List.getElem?_toArray, List.getElem?_cons_succ, List.getElem?_cons_zero]; rfl
                    case hQ722 => exact fun _ _ _ h => h
                    case hw722 => rfl
                    case hy722 => (intro W hW; have f1 := (HV.out W hW).1; have f2 := (HV.out W hW).2; have f3 := HZ.out W hW; have f5 := HB.out.1; have f6 := HB.out.2.1; have f7 := HB.out.2.2; go_simp; all_goals rfl)
                    simp only [Act.put, List.setIfInBounds_toArray, List.set_cons_zero, List.set_cons_succ]
                    refine wpAnyH_take (i := 22) (oi := ?oi723) (v := ?v723) ?hi723 (by kernel_rfl) (by kernel_rfl) (by kernel_rfl) ?hQ723 (Or.inl ⟨?hw723, ?hy723⟩) (by assumption) ?rest723
                    case hi723 => simp only [List.getElem?_toArray, List.getElem?_cons_succ, List.getElem?_cons_zero]; rfl
                    case hQ723 => exact fun _ _ _ h => h
                    case hw723 => rfl
                    case hy723 => (intro W hW; have f1 := (HV.out W hW).1; have f2 := (HV.out W hW).2; have f3 := HZ.out W hW; have f5 := HB.out.1; have f6 := HB.out.2.1; have f7 := HB.out.2.2; go_simp; all_goals rfl)
                    simp only [Act.put, List.setIfInBounds_toArray, List.set_cons_zero, List.set_cons_succ]
                    refine wpAnyH_take (i := 23) (oi := ?oi724) (v := ?v724) ?hi724 (by kernel_rfl) (by kernel_rfl) (by kernel_rfl) ?hQ724 (Or.inl ⟨?hw724, ?hy724⟩) (by assumption) ?rest724
                    case hi724 => simp only [List.getElem?_toArray, List.getElem?_cons_succ, List.getElem?_cons_zero]; rfl
                    case hQ724 => exact fun _ _ _ h => h
                    case hw724 => rfl
                    case hy724 => (intro W hW; have f1 := (HV.out W hW).1; have f2 := (HV.out W hW).2; have f3 := HZ.out W hW; have f5 := HB.out.1; have f6 := HB.out.2.1; have f7 := HB.out.2.2; go_simp; all_goals rfl)
                    simp only [Act.put, List.setIfInBounds_toArray, List.set_cons_zero, List.set_cons_succ]
                    refine wpAnyH_take (i := 24) (oi := ?oi725) (v := ?v725) ?hi725 (by kernel_rfl) (by kernel_rfl) (by kernel_rfl) ?hQ725 (Or.inl ⟨?hw725, ?hy725⟩) (by assumption) ?rest725
                    case hi725 => simp only [List.getElem?_toArray, List.getElem?_cons_succ, List.getElem?_cons_zero]; rfl
                    case hQ725 => exact fun _ _ _ h => h
                    case hw725 => rfl
                    case hy725 => (intro W hW; have f1 := (HV.out W hW).1; have f2 := (HV.out W hW).2; have f3 := HZ.out W hW; have f5 := HB.out.1; have f6 := HB.out.2.1; have f7 := HB.out.2.2; go_simp; all_goals rfl)
                    simp only [Act.put, List.setIfInBounds_toArray, List.set_cons_zero, List.set_cons_succ]
                    refine wpAnyH_ready (rs := [25]) (by kernel_rfl) (by simp) ?_
                    refine AllReadyH.cons (i := 25) (o := ?oR7) ?hoR7 (fun Kq hK => ?stR7) AllReadyH.nil
                    case hoR7 => simp only [List.getElem?_toArray, List.getElem?_cons_succ, List.getElem?_cons_zero]; rfl
                    go_simp
                    obtain ⟨wa, hwa⟩ : ∃ U, we.alloc (.cells #[.int .u8 (i : Int), .int .u8 (jm : Int), .int .u8 9] 5) = U := ⟨_, rfl⟩
                    have f15 := conv_three we i jm
                    obtain ⟨gn, hgn⟩ : ∃ q, we.heap.size = q := ⟨_, rfl⟩
                    rw [hwa, hgn] at f15
                    have HWA : Hd (Chg [] wr wa) := ⟨by rw [← hwa]; exact HWE.out.alloc _⟩
                    try rw [hwa]
                    try rw [hgn]
                    refine hK.out _ _ (HWA.out) (fun _ => ?_)
                    clear hK Kq hwa hgn
                    try simp only [Act.put, List.setIfInBounds_toArray, List.set_cons_zero, List.set_cons_succ]
                    refine wpAnyH_ready (rs := [26]) (by kernel_rfl) (by simp) ?_
                    refine AllReadyH.cons (i := 26) (o := ?oR6) ?hoR6 (fun Kq hK => ?stR6) AllReadyH.nil
                    case hoR6 => simp only [List.getElem?_toArray, List.getElem?_cons_succ, List.getElem?_cons_zero]; rfl
                    go_simp
                    refine hK.out _ _ (HWA.out) (fun _ => ?_)
                    clear hK Kq f15
                    try simp only [Act.put, List.setIfInBounds_toArray, List.set_cons_zero, List.set_cons_succ]
                    refine wpAnyH_take (i := 27) (oi := ?oi801) (v := ?v801) ?hi801 (by kernel_rfl) (by kernel_rfl) (by kernel_rfl) ?hQ801 (Or.inl ⟨?hw801, ?hy801⟩) (by assumption) ?rest801
                    case hi801 => simp only [List.getElem?_toArray, List.getElem?_cons_succ, List.getElem?_cons_zero]; rfl
                    case hQ801 => exact fun _ _ _ h => h
                    case hw801 => rfl
                    case hy801 => (intro W hW; have f5 := HEQ.out; go_simp; all_goals rfl)
                    simp only [Act.put, List.setIfInBounds_toArray, List.set_cons_zero, List.set_cons_succ]
                    refine wpAnyH_take (i := 28) (oi := ?oi802) (v := ?v802) ?hi802 (by kernel_rfl) (by kernel_rfl) (by kernel_rfl) ?hQ802 (Or.inl ⟨?hw802, ?hy802⟩) (by assumption) ?rest802
                    case hi802 => simp only [List.getElem?_toArray, List.getElem?_cons_succ, List.getElem?_cons_zero]; rfl
                    case hQ802 => exact fun _ _ _ h => h
                    case hw802 => rfl
                    case hy802 => (intro W hW; have f5 := HEQ.out; go_simp; all_goals rfl)
                    simp only [Act.put, List.setIfInBounds_toArray, List.set_cons_zero, List.set_cons_succ]
                    refine wpAnyH_done (by kernel_rfl) ?_ _
                    have HF : Hd (Chg [] wy wa ∧ Chg (ablk us) w wa) := ⟨H6.out.1.trans HWA.out, H6.out.2.trans (HWA.out.mono (by simp))⟩
                    clear hHeld
                    go_wp2_with fail
                    go_roundw
                    case rel => exact ⟨j + 1, by omega, by go_num, HF.out⟩
                    case measure => simp [intOf]; omega
                · have hjm : j = p := by omega
                  subst hjm
                  clear hcell hwo hh hC
                  go_wp2_with fail
                  go_roundw
                  case rel => exact ⟨q + 1, by omega, by go_num, H6.out⟩
                  case measure => simp [intOf]; omega
            · have hiL : N = q := by omega
              subst hiL
              clear hcell hh hC
              go_wp2_with fail
              go_ret
              exact ⟨rfl, H5.out.2⟩
end Go.Proofs.Ytjkenhkoakaaoaa
