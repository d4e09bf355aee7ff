/- Contract of the laws' kept. -/
import Derived.Test.YtplpaipmkpjgfaaLentA
import Derived.Test.YtplpaipmkpjgfaaOneA
namespace Go.Proofs.Ytplpaipmkpjgfaa
open Go.RowKit
set_option linter.unusedVariables false
set_option linter.unusedSimpArgs false
theorem LBl.blk {w : World} {Q : Nat} {v : Value} {Bs : List (List Nat)} (h : LBl w (· < Q) v Bs) (hb : ∀ r, r < Bs.length → ∀ x ∈ Bs.getD r [], x < 256) : Blk w Q v Bs := by
  obtain ⟨g, c, e, hp, hc, hr, _⟩ := h
  refine ⟨some ⟨g, 0, none⟩, c, e, fun r hrr => ?_⟩
  obtain ⟨u, hu, g2, c2, rfl, hp2, hc2, hj⟩ := hr r hrr
  refine ⟨g, 0, some ⟨g2, 0, none⟩, c2, rfl, hp, by rw [Nat.zero_add]; exact hu, ⟨cb_length _, fun hn => ⟨g2, 0, rfl, hp2, fun i hi => ?_⟩⟩, hb r hrr⟩
  rw [Nat.zero_add, hj i (by omega), cb_append, List.getElem?_append_left (by rw [cb_length]; exact hi)]
theorem Lent.below {w w' : World} {Q n c : Nat} {A : Option Addr} {S : Nat → Sn} {B : Nat → List (List Nat)} (h : Lent w Q A n c S B) (b : Below Q w w') : Lent w' Q A n c S B := by
  obtain ⟨g, bl, e, hg, hc, h1, h2⟩ := h
  exact ⟨g, bl, e, hg, hc, fun r hr => ⟨fun j v hv => (b.cell (p := ⟨g, _, none⟩) hg).trans ((h1 r hr).1 j v hv), (h1 r hr).2.below b⟩, fun k hk j v hv => (b.cell (p := ⟨g, _, none⟩) hg).trans (h2 k hk j v hv)⟩
theorem byte_lt {w : World} {Q : Nat} {bl : Value} {Bs : List (List Nat)} (h : Blk w Q bl Bs) (r : Nat) (hr : r < Bs.length) : ∀ x ∈ Bs.getD r [], x < 256 := by
  obtain ⟨A, c, e, hb⟩ := h
  obtain ⟨_, _, _, _, _, _, _, _, h⟩ := hb r hr
  exact h
set_option maxRecDepth 20000 in
set_option maxHeartbeats 8000000 in
theorem kept_any (w : World) (A' A : Option Addr) (n c' c : Nat) (S : Nat → Sn) (B : Nat → List (List Nat)) (hL : Lent w w.heap.size A' n c' S B) (hA : SeenA w A n S B) :
    Calls Try.prog 14 #[.slice A' n c', .slice A n c] w fun e w' => e = .returned (.bool true) ∧ Below w.heap.size w w' := by
  obtain ⟨gl, bl, rfl, hgl, hcl, hrows, hmarks⟩ := hL
  have hn := hA.lenA
  have HA := Hd.mk (And.intro hA (And.intro hrows hmarks))
  clear hA hrows hmarks
  go_enter Try.func14, Try.ntmps14
  go_wp2_with fail
  go_loopw [5] (fun i wr => ∃ k : Nat, k ≤ n ∧ i = .int .i64 (k : Int) ∧ Below w.heap.size w wr) (fun i _ => n - (intOf i).toNat)
  case atStart => exact ⟨0, by omega, rfl, Below.refl _ _⟩
  case round =>
    obtain ⟨i, hi, rfl, hb⟩ := hrel
    have HB := Hd.mk hb
    clear hb
    by_cases hlt : i < n
    · have hki : (i : Int) < (n : Int) := by omega
      obtain ⟨g, off, hAe, hg, hrg, hok⟩ := HA.out.1.view i hlt
      subst hAe
      have HRG : Hd (w.rangeAt gl (i * 19) (Sn.cells { S i with bl := bl i }) ∧ w.rangeAt g (off + i * 19) (S i).cells) := ⟨(HA.out.2.1 i hlt).1, hrg⟩
      have HG := Hd.mk hg
      have HOK := Hd.mk hok
      have hrl : ∀ W, Below w.heap.size w W → W.rangeAt gl (i * 19) (Sn.cells { S i with bl := bl i }) ∧ W.rangeAt g (off + i * 19) (S i).cells := fun W hW => ⟨fun j v hv => (hW.cell (p := ⟨gl, _, none⟩) hgl).trans (HRG.out.1 j v hv), fun j v hv => (hW.cell (p := ⟨g, _, none⟩) hg).trans (HRG.out.2 j v hv)⟩
      have HRL := Hd.mk hrl
      clear hrg hok hrl
      go_wp2_with fail
      refine wp_region_held_drew (S := fun W => Below w.heap.size w W) (by kernel_rfl) (HB.out.drew) (fun hHeld => ?_)
      refine wpAnyH_take (i := 0) (oi := ?oi1) (v := ?v1) ?hi1 (by kernel_rfl) (by kernel_rfl) (by kernel_rfl) ?hQ1 (Or.inl ⟨?hw1, ?hy1⟩) (by assumption) ?rest1
      case hi1 => simp only [List.getElem?_toArray, List.getElem?_cons_succ, List.getElem?_cons_zero]; rfl
      case hQ1 => exact fun _ _ _ h => h
      case hw1 => rfl
      case hy1 => (intro W hW; go_simp; all_goals rfl)
      simp only [Act.put, List.setIfInBounds_toArray, List.set_cons_zero, List.set_cons_succ]
      refine wpAnyH_take (i := 1) (oi := ?oi2) (v := ?v2) ?hi2 (by kernel_rfl) (by kernel_rfl) (by kernel_rfl) ?hQ2 (Or.inl ⟨?hw2, ?hy2⟩) (by assumption) ?rest2
      case hi2 => simp only [List.getElem?_toArray, List.getElem?_cons_succ, List.getElem?_cons_zero]; rfl
      case hQ2 => exact fun _ _ _ h => h
      case hw2 => rfl
      case hy2 => (intro W hW; go_simp; all_goals rfl)
      simp only [Act.put, List.setIfInBounds_toArray, List.set_cons_zero, List.set_cons_succ]
      refine wpAnyH_take (i := 2) (oi := ?oi3) (v := ?v3) ?hi3 (by kernel_rfl) (by kernel_rfl) (by kernel_rfl) ?hQ3 (Or.inl ⟨?hw3, ?hy3⟩) (by assumption) ?rest3
      case hi3 => simp only [List.getElem?_toArray, List.getElem?_cons_succ, List.getElem?_cons_zero]; rfl
      case hQ3 => exact fun _ _ _ h => h
      case hw3 => rfl
      case hy3 => (intro W hW; go_simp; all_goals rfl)
      simp only [Act.put, List.setIfInBounds_toArray, List.set_cons_zero, List.set_cons_succ]
      refine wpAnyH_take (i := 3) (oi := ?oiA) (v := .agg (Sn.cells { S i with bl := bl i }).toArray) ?hiA (by kernel_rfl) (by kernel_rfl) (by kernel_rfl) ?hQA ?hyA (by assumption) ?restA
      case hiA => simp only [List.getElem?_toArray, List.getElem?_cons_succ, List.getElem?_cons_zero]; rfl
      case hQA => exact fun _ _ _ h => h
      case hyA => exact yieldsIf_load_mid rfl 58 (.tmp 28) rfl gl (i * 19) rfl (Sn.cells { S i with bl := bl i }) _ (fun W hW => (HRL.out W hW).1) Try.underlying58 rfl infoS
      simp only [Act.put, List.setIfInBounds_toArray, List.set_cons_zero, List.set_cons_succ]
      refine wpAnyH_take (i := 4) (oi := ?oi4) (v := ?v4) ?hi4 (by kernel_rfl) (by kernel_rfl) (by kernel_rfl) ?hQ4 (Or.inl ⟨?hw4, ?hy4⟩) (by assumption) ?rest4
      case hi4 => simp only [List.getElem?_toArray, List.getElem?_cons_succ, List.getElem?_cons_zero]; rfl
      case hQ4 => exact fun _ _ _ h => h
      case hw4 => rfl
      case hy4 => (intro W hW; go_simp; all_goals rfl)
      simp only [Act.put, List.setIfInBounds_toArray, List.set_cons_zero, List.set_cons_succ]
      refine wpAnyH_take (i := 5) (oi := ?oi5) (v := ?v5) ?hi5 (by kernel_rfl) (by kernel_rfl) (by kernel_rfl) ?hQ5 (Or.inl ⟨?hw5, ?hy5⟩) (by assumption) ?rest5
      case hi5 => simp only [List.getElem?_toArray, List.getElem?_cons_succ, List.getElem?_cons_zero]; rfl
      case hQ5 => exact fun _ _ _ h => h
      case hw5 => rfl
      case hy5 => (intro W hW; go_simp; all_goals rfl)
      simp only [Act.put, List.setIfInBounds_toArray, List.set_cons_zero, List.set_cons_succ]
      refine wpAnyH_take (i := 6) (oi := ?oi6) (v := ?v6) ?hi6 (by kernel_rfl) (by kernel_rfl) (by kernel_rfl) ?hQ6 (Or.inl ⟨?hw6, ?hy6⟩) (by assumption) ?rest6
      case hi6 => simp only [List.getElem?_toArray, List.getElem?_cons_succ, List.getElem?_cons_zero]; rfl
      case hQ6 => exact fun _ _ _ h => h
      case hw6 => rfl
      case hy6 => (intro W hW; go_simp; all_goals rfl)
      simp only [Act.put, List.setIfInBounds_toArray, List.set_cons_zero, List.set_cons_succ]
      refine wpAnyH_take (i := 7) (oi := ?oiB) (v := .agg ((S i).cells).toArray) ?hiB (by kernel_rfl) (by kernel_rfl) (by kernel_rfl) ?hQB ?hyB (by assumption) ?restB
      case hiB => simp only [List.getElem?_toArray, List.getElem?_cons_succ, List.getElem?_cons_zero]; rfl
      case hQB => exact fun _ _ _ h => h
      case hyB => exact yieldsIf_load_mid rfl 58 (.tmp 32) rfl g (off + i * 19) rfl ((S i).cells) _ (fun W hW => (HRL.out W hW).2) Try.underlying58 rfl infoS
      simp only [Act.put, List.setIfInBounds_toArray, List.set_cons_zero, List.set_cons_succ]
      refine wpAnyH_ready (rs := [8]) (by kernel_rfl) (by simp) ?_
      refine AllReadyH.cons (i := 8) (o := ?o7) ?ho7 (fun Kq hK => ?step7) AllReadyH.nil
      case ho7 => simp only [List.getElem?_toArray, List.getElem?_cons_succ, List.getElem?_cons_zero]; rfl
      go_simp
      (refine (one_any _ { S i with bl := bl i } (S i) (B i) rfl rfl rfl (((HA.out.2.1 i hlt).2.blk (fun r hr => byte_lt (HA.out.1.blk i hlt) r hr)).below hHeld |>.more hHeld.size) (((HA.out.1.blk i hlt).below hHeld).more hHeld.size) (HA.out.1.lenB i hlt)).mono ?_; rintro e w2 ⟨rfl, hb2⟩)
      have hF : Below w.heap.size w w2 := hHeld.trans (hb2.mono hHeld.size)
      refine hK.out _ _ hF (fun _ => ?_)
      clear hK Kq
      try simp only [Act.put, List.setIfInBounds_toArray, List.set_cons_zero, List.set_cons_succ]
      refine wpAnyH_take (i := 9) (oi := ?oi8) (v := ?v8) ?hi8 (by kernel_rfl) (by kernel_rfl) (by kernel_rfl) ?hQ8 (Or.inl ⟨?hw8, ?hy8⟩) (by assumption) ?rest8
      case hi8 => simp only [List.getElem?_toArray, List.getElem?_cons_succ, List.getElem?_cons_zero]; rfl
      case hQ8 => exact fun _ _ _ h => h
      case hw8 => rfl
      case hy8 => (intro W hW; go_simp; all_goals rfl)
      simp only [Act.put, List.setIfInBounds_toArray, List.set_cons_zero, List.set_cons_succ]
      refine wpAnyH_done (by kernel_rfl) ?_ _
      have H2 : Hd (Below w.heap.size w w2) := ⟨hF⟩
      clear hF hHeld hb2 HB
      obtain ⟨Ab, cb', ebl, hbk⟩ := HA.out.1.blk i hlt
      obtain ⟨hh, ch, ehl, hhq, hch, hrw, gm, cm, hm1, hm2, hm3, hm4⟩ := (HA.out.2.1 i hlt).2
      obtain ⟨m, hm⟩ : ∃ m, (B i).length = m := ⟨_, rfl⟩
      have HM := Hd.mk hm
      have hlb := HA.out.1.lenB i hlt
      rw [hm] at ebl ehl hch hm1 hlb
      have h17 : ∀ W, Below w.heap.size w W → W.cell? ⟨gl, i * 19 + 17, none⟩ = some (.slice (some ⟨hh, 0, none⟩) m ch) ∧ W.cell? ⟨g, off + i * 19 + 17, none⟩ = some (.slice Ab m cb') := fun W hW => ⟨by
        have := (HRL.out W hW).1 17 _ rfl
        rw [this]; show some (bl i) = _; rw [ehl], by
        have := (HRL.out W hW).2 17 _ rfl
        rw [this]; show some (S i).bl = _; rw [ebl]⟩
      have H17 := Hd.mk h17
      have HBK := Hd.mk (And.intro hbk (And.intro hrw (And.intro hm1 (And.intro hm2 hm4))))
      have hcm : 1 ≤ cm := hm3
      clear h17 hbk hrw hm1 hm2 hm3 hm4 ebl ehl hm HRL HRG
      have d17 := (H17.out w2 H2.out).2
      have hsz2 := H2.out.size
      have hg := HG.out
      go_wp2_with fail
      clear d17
      go_loopw [8] (fun j wr => ∃ k : Nat, k ≤ m ∧ j = .int .i64 (k : Int) ∧ Below w.heap.size w wr) (fun j _ => m - (intOf j).toNat)
      case atStart => exact ⟨0, by omega, rfl, H2.out⟩
      case round =>
        clear H2 hsz2
        obtain ⟨k, hk, rfl, hb⟩ := hrel
        have HB := Hd.mk hb
        have d17 := (H17.out wr hb).2
        have e17 := (H17.out wr hb).1
        clear hb
        by_cases hkm : k < m
        · have hkj : (k : Int) < (m : Int) := by omega
          obtain ⟨gk, ok, Ar, Cr, eA, hgk, hck, hrk, _⟩ := HBK.out.1 k (by rw [HM.out]; exact hkm)
          obtain ⟨u, hu, hr2, cr2, rfl, hp2, hc2, hj⟩ := HBK.out.2.1 k (by rw [HM.out]; exact hkm)
          have hlr := HA.out.1.lenR i k hlt
          obtain ⟨bs, hbs⟩ : ∃ bs, (B i).getD k [] = bs := ⟨_, rfl⟩
          rw [hbs] at hck hu hc2 hj hlr
          obtain ⟨len, hle⟩ : ∃ len, bs.length = len := ⟨_, rfl⟩
          have HLE := Hd.mk hle
          rw [hle] at hck hu hc2 hlr
          have ck : wr.cell? ⟨gk, ok + k, none⟩ = some (.slice Ar len Cr) := (HB.out.cell (p := ⟨gk, _, none⟩) hgk).trans hck
          have cu : wr.cell? ⟨hh, k, none⟩ = some (.slice (some ⟨hr2, 0, none⟩) len cr2) := (HB.out.cell (p := ⟨hh, _, none⟩) hhq).trans hu
          have cj : ∀ j, j < 3 → wr.cell? ⟨hr2, len + j, none⟩ = some (.int .u8 (81 + (j : Int))) := fun j hj3 => by
            rw [(HB.out.cell (p := ⟨hr2, len + j, none⟩) hp2), hj (len + j) (by omega), cb_append, List.getElem?_append_right (by rw [cb_length]; omega), cb_length, ← hle, Nat.add_sub_cancel_left]
            rcases (by omega : j = 0 ∨ j = 1 ∨ j = 2) with rfl | rfl | rfl <;> rfl
          have j0 : wr.cell? ⟨hr2, len, none⟩ = some (.int .u8 81) := cj 0 (by omega)
          have j1 : wr.cell? ⟨hr2, len + 1, none⟩ = some (.int .u8 82) := cj 1 (by omega)
          have j2 : wr.cell? ⟨hr2, len + 2, none⟩ = some (.int .u8 83) := cj 2 (by omega)
          have sB := fun W => run_cut_to (P := Try.prog) (w := W) elB (some ⟨hr2, 0, none⟩) len cr2 (len + 3) (by omega)
          have ei : ((len + 3 : Nat) : Int) = (len : Int) + 3 := by omega
          simp only [ei] at sB
          have t1 : ((len : Int) + 1).toNat = len + 1 := by omega
          have t2 : ((len : Int) + 2).toNat = len + 2 := by omega
          subst eA
          clear cj hck hrk hu hj hbs hle ei
          go_wp2_with fail
          go_roundw
          case rel => exact ⟨k + 1, by omega, by go_num, HB.out⟩
          case measure => simp [intOf]; omega
        · obtain rfl : k = m := by omega
          have sC := fun W => run_cut_to (P := Try.prog) (w := W) elBB (some ⟨hh, 0, none⟩) k ch (k + 1) (by omega)
          have cm1 : wr.cell? ⟨hh, k, none⟩ = some (.slice (some ⟨gm, 0, none⟩) 1 cm) := (HB.out.cell (p := ⟨hh, _, none⟩) hhq).trans HBK.out.2.2.1
          have cm2 : wr.cell? ⟨gm, 0, none⟩ = some (.int .u8 84) := (HB.out.cell (p := ⟨gm, 0, none⟩) HBK.out.2.2.2.1).trans HBK.out.2.2.2.2
          go_wp2_with fail
          go_roundw
          case rel => exact ⟨i + 1, by omega, by go_num, HB.out⟩
          case measure => simp [intOf]; omega
    · obtain rfl : i = n := by omega
      have sN := fun W => run_cut_toN (P := Try.prog) (w := W) elS (some ⟨gl, 0, none⟩) i c' (i + 20) (by omega)
      go_wp2_with fail
      go_loopw [13] (fun j wr => ∃ k : Nat, k ≤ 20 ∧ j = .int .i64 (k : Int) ∧ Below w.heap.size w wr) (fun j _ => 20 - (intOf j).toNat)
      case atStart => exact ⟨0, by omega, rfl, HB.out⟩
      case round =>
        clear HB
        obtain ⟨k, hk, rfl, hb⟩ := hrel
        have HB := Hd.mk hb
        clear hb
        by_cases hkm : k < 20
        · have hkj : (k : Int) < 20 := by omega
          have HR : Hd (wr.rangeAt gl ((i + k) * 19) (markSn k).cells) := ⟨fun j v hv => (HB.out.cell (p := ⟨gl, _, none⟩) hgl).trans (HA.out.2.2 k hkm j v hv)⟩
          have t1 : ((i : Int) + (k : Int)).toNat = i + k := by omega
          go_wp2_with (refine wpList_load_mid rfl 58 (.tmp 130) rfl gl ((i + k) * 19) rfl (markSn k).cells _ HR.out Try.underlying58 rfl infoS ?_)
          refine (one_any wr (markSn k) (markSn k) [] rfl rfl rfl ⟨none, 0, rfl, fun r hr => absurd hr (by simp)⟩ ⟨none, 0, rfl, fun r hr => absurd hr (by simp)⟩ (by simp)).mono ?_
          rintro e w3 ⟨rfl, hb3⟩
          have H3 : Hd (Below w.heap.size w w3) := ⟨HB.out.trans (hb3.mono HB.out.size)⟩
          clear hb3 HB
          go_wp2_with fail
          go_roundw
          case rel => exact ⟨k + 1, by omega, by go_num, H3.out⟩
          case measure => simp [intOf]; omega
        · go_wp2_with fail
          go_ret
          exact ⟨rfl, HB.out⟩
end Go.Proofs.Ytplpaipmkpjgfaa
