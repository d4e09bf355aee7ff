/- Contract of the document's going through a stream. (tools/thrugen.py prints it.) -/
import Derived.Test.YtbcmjjcbjojakaaPk12
import Derived.Test.YtbcmjjcbjojakaaPk13
import Derived.Deep.CutRange
import Derived.Deep.Cut
import Derived.StillTailTactics
namespace Go.Proofs.Ytbcmjjcbjojakaa
open Go.RowKit
set_option linter.unusedVariables false
set_option linter.unusedSimpArgs false
set_option maxRecDepth 20000 in
set_option maxHeartbeats 16000000 in
theorem thru_ask (w : World) (base : Nat) (vs v0 v1 : Value) (hd : Nat) (f0 h0 : Int) (st : List Nat) (hs : w.ownsRow base 5 1 vs st.length (cb st)) (hl : ∀ x ∈ st, x < 256) (hn : st.length ≤ 67108864) (hv0 : v0.oneCell' = true) (hv1 : v1.oneCell' = true) :
  Calls Try.prog 100 #[.agg #[.bool false, vs, .int .i64 (hd : Int), v0, v1, .int .i64 f0, .int .i64 h0]] w (ThDone askK w st) := by
 obtain ⟨A, c, hvs, hcc, _⟩ := own_form hs
 subst hvs
 have H0 : Hd (w.ownsRow base 5 1 (.slice A st.length c) st.length (cb st) ∧ (∀ x ∈ st, x < 256)) := ⟨hs, hl⟩
 obtain ⟨n, hnn⟩ : ∃ n, st.length = n := ⟨_, rfl⟩
 rw [hnn] at hcc hn H0 ⊢
 have HN := Hd.mk hnn
 have HNC := Hd.mk hcc
 clear hs hl hnn hcc
 go_enter Try.func100, Try.ntmps100
 go_upto_region 2 with fail
 obtain ⟨g1, hg1⟩ : ∃ g, w.heap.size = g := ⟨_, rfl⟩
 have HL := Hd.mk (ThL.start askK w #[.bool false, .slice A n c, .int .i64 (hd : Int), v0, v1, .int .i64 f0, .int .i64 h0])
 obtain ⟨RC, hRC⟩ : ∃ R : Array Value, #[.bool false, .slice A n c, .int .i64 (hd : Int), v0, v1, .int .i64 f0, .int .i64 h0] = R := ⟨_, rfl⟩
 have HRC : Hd (RC[0]? = some (.bool false) ∧ RC[1]? = some (.slice A n c)) := ⟨by rw [← hRC]; exact ⟨rfl, rfl⟩⟩
 rw [hRC] at HL ⊢
 clear hRC
 generalize hw3 : ((w.alloc (.cells RC 65)).alloc (.cells #[.slice none 0 0, .slice none 0 0, .int .i64 0, .int .i64 0] 63)).alloc (.cells #[.slice none 0 0, .slice none 0 0, .int .i64 0, .int .i64 0] 63) = w3 at HL ⊢
 clear hw3
 rw [hg1] at HL ⊢
 have HG1 := Hd.mk hg1
 clear hg1
 obtain ⟨g2, hg2⟩ : ∃ g, g1 + 1 = g := ⟨_, rfl⟩
 rw [hg2] at HL ⊢
 obtain ⟨g3, hg3⟩ : ∃ g, g2 + 1 = g := ⟨_, rfl⟩
 rw [hg3] at HL ⊢
 obtain ⟨N, hNN⟩ : ∃ g, g3 + 1 = g := ⟨_, rfl⟩
 rw [hNN] at HL
 have HGG : Hd (g1 + 1 = g2 ∧ g2 + 1 = g3 ∧ g3 + 1 = N) := ⟨hg2, hg3, hNN⟩
 clear hg2 hg3 hNN
 have c1 : w3.cell? ⟨g1, 1, none⟩ = some (.slice A n c) := by rw [cell_of_row w3 g1 1 _ _ (0, 0) HL.out.b1]; exact HRC.out.2
 go_wp2_with fail
 clear c1
 go_loopw [5, 6, 7, 8, 9] (fun u5 u6 u7 u8 u9 wr => ∃ (mc : List Nat) (S k p a wh : Nat) (vc vq : Value) (ws : List Wm) (xs : List Rq), u5 = vc ∧ u6 = .int .u32 (S : Int) ∧ u7 = .int .i64 (k : Int) ∧ u8 = .int .i64 (a : Int) ∧ u9 = .int .i64 (wh : Int) ∧ Thru rdRq st ⟨mc, S, k, p⟩ a wh xs ∧ ThL askK w N g1 g2 g3 RC wr vc vq mc ws xs ∧ k ≤ 2047 ∧ mc.length ≤ 16384 * k ∧ S < 4294967296) (fun _ _ _ u8 _ _ => n - (intOf u8).toNat)
 case atStart => exact ⟨[], 0, 0, 0, 0, 0, _, _, [], [], rfl, rfl, rfl, rfl, rfl, Thru.start _ _, HL.out, by decide, by decide, by decide⟩
 case round =>
  obtain ⟨mc, S, k, p, a, wh, vc, vq, ws, xs, rfl, rfl, rfl, rfl, rfl, hT, hL, hk, hcl, hS⟩ := hrel
  obtain ⟨Ac, cc, hvc, hncc, _⟩ := own_form hL.co
  obtain ⟨Aq, cq, hvq, hncq⟩ := hL.qu.form
  subst hvc hvq
  obtain ⟨lc, hlc⟩ : ∃ l, mc.length = l := ⟨_, rfl⟩
  obtain ⟨lw, hlw⟩ : ∃ l, ws.length = l := ⟨_, rfl⟩
  have hfew : lw ≤ n := by have := hT.few; have := hL.is.len; have := HN.out; omega
  have han : a ≤ n := by have := hT.le; have := HN.out; omega
  have hwha : wh ≤ a := by have := hT.wh; omega
  rw [hlc] at hL hcl hncc ⊢
  rw [hlw] at hL hncq
  have HT := Hd.mk hT
  have HW := Hd.mk hL
  have HLN : Hd (mc.length = lc ∧ ws.length = lw ∧ lc ≤ 16384 * k ∧ k ≤ 2047 ∧ lc ≤ cc ∧ lw ≤ cq) := ⟨hlc, hlw, hcl, hk, hncc, hncq⟩
  have HRD : Hd (∀ W, Chg [] w W → Rd W W.heap.size A n (cb st)) := ⟨fun W h1 => ((Rd.of_own H0.out.1).below (h1.below (Nat.le_refl _) (by simp))).more h1.size⟩
  have HTS := Hd.mk hS
  clear hT hL hlc hlw hncc hncq HL hcl
  have hkk : k ≤ 2047 := hk
  clear hk
  by_cases h7 : a + 7 ≤ n
  ·skip
   obtain ⟨b, hb⟩ : ∃ b, st.drop a = b := ⟨_, rfl⟩
   obtain ⟨N0, hN0⟩ : ∃ q, ckN b = q := ⟨_, rfl⟩
   obtain ⟨b0, hb0⟩ : ∃ q, b.getD 0 0 = q := ⟨_, rfl⟩
   obtain ⟨b1, hb1⟩ : ∃ q, b.getD 1 0 = q := ⟨_, rfl⟩
   obtain ⟨b2, hb2⟩ : ∃ q, b.getD 2 0 = q := ⟨_, rfl⟩
   have hbl : b.length = n - a := by rw [← hb, List.length_drop, HN.out]
   have hbb : ∀ x ∈ b, x < 256 := fun x hx => H0.out.2 x (by rw [← hb] at hx; exact List.mem_of_mem_drop hx)
   have hlt : ∀ i, b.getD i 0 < 256 := fun i => by
    rw [List.getD_eq_getElem?_getD]
    cases hq : b[i]? with
    | none => simp
    | some x => exact hbb x (List.mem_of_getElem? hq)
   have hb0l : b0 < 256 := hb0 ▸ hlt 0
   have hb1l : b1 < 256 := hb1 ▸ hlt 1
   have hb2l : b2 < 256 := hb2 ▸ hlt 2
   have hNs : b1 + 256 * b2 = N0 := by rw [← hN0, ← hb1, ← hb2]; rfl
   have hNl : N0 < 65536 := by omega
   have HB : Hd (st.drop a = b ∧ b.length = n - a ∧ (∀ x ∈ b, x < 256) ∧ ckN b = N0 ∧ b.getD 0 0 = b0) := ⟨hb, hbl, hbb, hN0, hb0⟩
   obtain ⟨ga, oa, hAe, hcells⟩ : ∃ ga oa, A = some ⟨ga, oa, none⟩ ∧ ∀ W, Chg [] wr W → ∀ i, i < n - a → W.cell? ⟨ga, oa + (a + i), none⟩ = some (.int .u8 ((b.getD i 0 : Nat) : Int)) := by
    obtain ⟨ga, oa, hAe, _, _⟩ := (HRD.out wr HW.out.ch).2 (by omega)
    refine ⟨ga, oa, hAe, fun W bb i hi => ?_⟩
    obtain ⟨g', o', h1, _, h2⟩ := (HRD.out W (HW.out.ch.trans bb)).2 (by omega)
    rw [hAe] at h1; injection h1 with h1; injection h1 with h3 h4
    have := h2 (a + i) (by omega)
    rw [cb_get _ _ (by have := HN.out; omega)] at this
    rw [h3, h4, this, ← hb]
    simp [List.getD_eq_getElem?_getD]
   subst hAe
   have HC0 : Hd (∀ W, Chg [] wr W → W.cell? ⟨ga, oa + a, none⟩ = some (.int .u8 (b0 : Int))) := ⟨fun W bb => by rw [← hb0]; exact hcells W bb 0 (by omega)⟩
   obtain ⟨a1, ha1⟩ : ∃ q, a + 1 = q := ⟨_, rfl⟩
   obtain ⟨a2, ha2⟩ : ∃ q, a + 2 = q := ⟨_, rfl⟩
   obtain ⟨a3, ha3⟩ : ∃ q, a + 3 = q := ⟨_, rfl⟩
   obtain ⟨a7, ha7⟩ : ∃ q, a + 7 = q := ⟨_, rfl⟩
   have HC1 : Hd (∀ W, Chg [] wr W → W.cell? ⟨ga, oa + a1, none⟩ = some (.int .u8 (b1 : Int))) := ⟨fun W bb => by rw [← hb1, ← ha1]; exact hcells W bb 1 (by omega)⟩
   have HC2 : Hd (∀ W, Chg [] wr W → W.cell? ⟨ga, oa + a2, none⟩ = some (.int .u8 (b2 : Int))) := ⟨fun W bb => by rw [← hb2, ← ha2]; exact hcells W bb 2 (by omega)⟩
   have e1w : IntKind.i64.wrap ((a : Int) + 1) = (a1 : Int) := by rw [IntKind.wrap_i64]; omega
   have e2w : IntKind.i64.wrap ((a : Int) + 2) = (a2 : Int) := by rw [IntKind.wrap_i64]; omega
   have e3w : IntKind.i64.wrap ((a : Int) + 3) = (a3 : Int) := by rw [IntKind.wrap_i64]; omega
   have e7w : IntKind.i64.wrap ((a : Int) + 7) = (a7 : Int) := by rw [IntKind.wrap_i64]; omega
   have eb1 : IntKind.i64.wrap (b1 : Int) = (b1 : Int) := by rw [IntKind.wrap_i64]; omega
   have eb2 : IntKind.i64.wrap (b2 : Int) = (b2 : Int) := by rw [IntKind.wrap_i64]; omega
   have em2 : IntKind.i64.wrap (256 * (b2 : Int)) = 256 * (b2 : Int) := by rw [IntKind.wrap_i64]; omega
   have es2 : IntKind.i64.wrap ((b1 : Int) + 256 * (b2 : Int)) = (N0 : Int) := by rw [IntKind.wrap_i64]; omega
   have HE := Hd.mk (And.intro e1w (And.intro e2w (And.intro e3w (And.intro e7w (And.intro eb1 (And.intro eb2 (And.intro em2 es2)))))))
   have i1 : (a1 : Int) < (n : Int) := by omega
   have i2 : (a2 : Int) < (n : Int) := by omega
   have i1n : a1 < n := by omega
   have i2n : a2 < n := by omega
   have HI := Hd.mk (And.intro i1 (And.intro i2 (And.intro i1n i2n)))
   obtain ⟨A3, d3, s03, hd3, r03⟩ := cut_seg (A := some ⟨ga, oa, none⟩) st HNC.out (l := a) (h := a3) (k := 3) ha3 (by omega)
   obtain ⟨A4, d4, s37, hd4, r37⟩ := cut_seg (A := some ⟨ga, oa, none⟩) st HNC.out (l := a3) (h := a7) (k := 4) (by omega) (by omega)
   have HS1 := Hd.mk (And.intro s03 s37)
   obtain ⟨q1, hq1⟩ : ∃ q, Crc.more 0 (b.take 3) = q := ⟨_, rfl⟩
   obtain ⟨q2, hq2⟩ : ∃ q, le256 (seg b 3 4) = q := ⟨_, rfl⟩
   obtain ⟨S2, hS2⟩ : ∃ s, bstr (seg b 3 4) = s := ⟨_, rfl⟩
   have hsb : seg st a 3 = b.take 3 := by rw [← hb]; rfl
   have hs4 : seg st a3 4 = seg b 3 4 := by rw [← hb, seg_drop, ha3]
   have HR1 : Hd (∀ W, Chg [] wr W → Rd W W.heap.size A3 3 (cb (b.take 3)) ∧ Rd W W.heap.size A4 4 (cb (seg b 3 4)) ∧ (convert 26 9 (.slice A4 4 d4)).run Try.prog W = .ok (.string S2) W) := ⟨fun W bb => by
    have h1 := r03 W _ (HRD.out W (HW.out.ch.trans bb))
    have h2 := r37 W _ (HRD.out W (HW.out.ch.trans bb))
    rw [hsb] at h1
    rw [hs4] at h2
    exact ⟨h1, h2, by rw [← hS2]; exact conv_th h2⟩⟩
   have hq1l : q1 < 4294967296 := by rw [← hq1]; exact Crc.more_lt _ _
   have HQ : Hd (Crc.more 0 (b.take 3) = q1 ∧ le256 (seg b 3 4) = q2 ∧ bstr (seg b 3 4) = S2 ∧ q1 < 4294967296) := ⟨hq1, hq2, hS2, hq1l⟩
   have ha7i : (7 : Int) ≤ (n : Int) - (a : Int) := by omega
   have HA : Hd (a + 1 = a1 ∧ a + 2 = a2 ∧ a + 3 = a3 ∧ a + 7 = a7 ∧ a + 7 ≤ n ∧ N0 < 65536 ∧ b0 < 256) := ⟨ha1, ha2, ha3, ha7, h7, hNl, hb0l⟩
   clear hb hN0 hb0 hb1 hb2 hbl hbb hlt hcells ha1 ha2 ha3 ha7 i1 i2 i1n i2n s03 s37 r03 r37 hq1 hq2 hS2 hsb hs4 e1w e2w e3w e7w eb1 eb2 em2 es2 hd3 hd4 hNs hb1l hb2l hq1l h7
   have hsub : IntKind.i64.wrap ((n : Int) - (a : Int)) = (n : Int) - (a : Int) := by rw [IntKind.wrap_i64]; omega
   go_upto_region 9 with fail
   clear hsub ha7i
   obtain ⟨e1w, e2w, e3w, e7w, eb1, eb2, em2, es2⟩ := HE.out
   obtain ⟨i1, i2, i1n, i2n⟩ := HI.out
   refine wp_region_held_drew (S := fun W => Chg [] wr W) (by kernel_rfl) (Chg.refl [] wr).drew (fun hHeld => ?_)
   have HW1 := Hd.mk hHeld
   refine wpAnyH_take (i := 0) (oi := ?oi101) (v := ?v101) ?hi101 (by kernel_rfl) (by kernel_rfl) (by kernel_rfl) ?hQ101 (Or.inl ⟨?hw101, ?hy101⟩) (by assumption) ?rest101
   case hi101 => simp only [List.getElem?_toArray, List.getElem?_cons_succ, List.getElem?_cons_zero]; rfl
   case hQ101 => exact fun _ _ _ h => h
   case hw101 => rfl
   case hy101 => (intro W hW; have f1 := HC1.out W hW; have f2 := HC2.out W hW; go_simp; all_goals rfl)
   simp only [Act.put, List.setIfInBounds_toArray, List.set_cons_zero, List.set_cons_succ]
   refine wpAnyH_take (i := 1) (oi := ?oi102) (v := ?v102) ?hi102 (by kernel_rfl) (by kernel_rfl) (by kernel_rfl) ?hQ102 (Or.inl ⟨?hw102, ?hy102⟩) (by assumption) ?rest102
   case hi102 => simp only [List.getElem?_toArray, List.getElem?_cons_succ, List.getElem?_cons_zero]; rfl
   case hQ102 => exact fun _ _ _ h => h
   case hw102 => rfl
   case hy102 => (intro W hW; have f1 := HC1.out W hW; have f2 := HC2.out W hW; go_simp; all_goals rfl)
   simp only [Act.put, List.setIfInBounds_toArray, List.set_cons_zero, List.set_cons_succ]
   refine wpAnyH_take (i := 2) (oi := ?oi103) (v := ?v103) ?hi103 (by kernel_rfl) (by kernel_rfl) (by kernel_rfl) ?hQ103 (Or.inl ⟨?hw103, ?hy103⟩) (by assumption) ?rest103
   case hi103 => simp only [List.getElem?_toArray, List.getElem?_cons_succ, List.getElem?_cons_zero]; rfl
   case hQ103 => exact fun _ _ _ h => h
   case hw103 => rfl
   case hy103 => (intro W hW; have f1 := HC1.out W hW; have f2 := HC2.out W hW; go_simp; all_goals rfl)
   simp only [Act.put, List.setIfInBounds_toArray, List.set_cons_zero, List.set_cons_succ]
   refine wpAnyH_take (i := 3) (oi := ?oi104) (v := ?v104) ?hi104 (by kernel_rfl) (by kernel_rfl) (by kernel_rfl) ?hQ104 (Or.inl ⟨?hw104, ?hy104⟩) (by assumption) ?rest104
   case hi104 => simp only [List.getElem?_toArray, List.getElem?_cons_succ, List.getElem?_cons_zero]; rfl
   case hQ104 => exact fun _ _ _ h => h
   case hw104 => rfl
   case hy104 => (intro W hW; have f1 := HC1.out W hW; have f2 := HC2.out W hW; go_simp; all_goals rfl)
   simp only [Act.put, List.setIfInBounds_toArray, List.set_cons_zero, List.set_cons_succ]
   refine wpAnyH_take (i := 4) (oi := ?oi105) (v := ?v105) ?hi105 (by kernel_rfl) (by kernel_rfl) (by kernel_rfl) ?hQ105 (Or.inl ⟨?hw105, ?hy105⟩) (by assumption) ?rest105
   case hi105 => simp only [List.getElem?_toArray, List.getElem?_cons_succ, List.getElem?_cons_zero]; rfl
   case hQ105 => exact fun _ _ _ h => h
   case hw105 => rfl
   case hy105 => (intro W hW; have f1 := HC1.out W hW; have f2 := HC2.out W hW; go_simp; all_goals rfl)
   simp only [Act.put, List.setIfInBounds_toArray, List.set_cons_zero, List.set_cons_succ]
   refine wpAnyH_take (i := 5) (oi := ?oi106) (v := ?v106) ?hi106 (by kernel_rfl) (by kernel_rfl) (by kernel_rfl) ?hQ106 (Or.inl ⟨?hw106, ?hy106⟩) (by assumption) ?rest106
   case hi106 => simp only [List.getElem?_toArray, List.getElem?_cons_succ, List.getElem?_cons_zero]; rfl
   case hQ106 => exact fun _ _ _ h => h
   case hw106 => rfl
   case hy106 => (intro W hW; have f1 := HC1.out W hW; have f2 := HC2.out W hW; go_simp; all_goals rfl)
   simp only [Act.put, List.setIfInBounds_toArray, List.set_cons_zero, List.set_cons_succ]
   refine wpAnyH_take (i := 6) (oi := ?oi107) (v := ?v107) ?hi107 (by kernel_rfl) (by kernel_rfl) (by kernel_rfl) ?hQ107 (Or.inl ⟨?hw107, ?hy107⟩) (by assumption) ?rest107
   case hi107 => simp only [List.getElem?_toArray, List.getElem?_cons_succ, List.getElem?_cons_zero]; rfl
   case hQ107 => exact fun _ _ _ h => h
   case hw107 => rfl
   case hy107 => (intro W hW; have f1 := HC1.out W hW; have f2 := HC2.out W hW; go_simp; all_goals rfl)
   simp only [Act.put, List.setIfInBounds_toArray, List.set_cons_zero, List.set_cons_succ]
   refine wpAnyH_take (i := 7) (oi := ?oi108) (v := ?v108) ?hi108 (by kernel_rfl) (by kernel_rfl) (by kernel_rfl) ?hQ108 (Or.inl ⟨?hw108, ?hy108⟩) (by assumption) ?rest108
   case hi108 => simp only [List.getElem?_toArray, List.getElem?_cons_succ, List.getElem?_cons_zero]; rfl
   case hQ108 => exact fun _ _ _ h => h
   case hw108 => rfl
   case hy108 => (intro W hW; have f1 := HC1.out W hW; have f2 := HC2.out W hW; go_simp; all_goals rfl)
   simp only [Act.put, List.setIfInBounds_toArray, List.set_cons_zero, List.set_cons_succ]
   refine wpAnyH_take (i := 8) (oi := ?oi109) (v := ?v109) ?hi109 (by kernel_rfl) (by kernel_rfl) (by kernel_rfl) ?hQ109 (Or.inl ⟨?hw109, ?hy109⟩) (by assumption) ?rest109
   case hi109 => simp only [List.getElem?_toArray, List.getElem?_cons_succ, List.getElem?_cons_zero]; rfl
   case hQ109 => exact fun _ _ _ h => h
   case hw109 => rfl
   case hy109 => (intro W hW; have f1 := HC1.out W hW; have f2 := HC2.out W hW; go_simp; all_goals rfl)
   simp only [Act.put, List.setIfInBounds_toArray, List.set_cons_zero, List.set_cons_succ]
   refine wpAnyH_take (i := 9) (oi := ?oi110) (v := ?v110) ?hi110 (by kernel_rfl) (by kernel_rfl) (by kernel_rfl) ?hQ110 (Or.inl ⟨?hw110, ?hy110⟩) (by assumption) ?rest110
   case hi110 => simp only [List.getElem?_toArray, List.getElem?_cons_succ, List.getElem?_cons_zero]; rfl
   case hQ110 => exact fun _ _ _ h => h
   case hw110 => rfl
   case hy110 => (intro W hW; have f1 := HC1.out W hW; have f2 := HC2.out W hW; go_simp; all_goals rfl)
   simp only [Act.put, List.setIfInBounds_toArray, List.set_cons_zero, List.set_cons_succ]
   refine wpAnyH_take (i := 10) (oi := ?oi111) (v := ?v111) ?hi111 (by kernel_rfl) (by kernel_rfl) (by kernel_rfl) ?hQ111 (Or.inl ⟨?hw111, ?hy111⟩) (by assumption) ?rest111
   case hi111 => simp only [List.getElem?_toArray, List.getElem?_cons_succ, List.getElem?_cons_zero]; rfl
   case hQ111 => exact fun _ _ _ h => h
   case hw111 => rfl
   case hy111 => (intro W hW; have f1 := HC1.out W hW; have f2 := HC2.out W hW; go_simp; all_goals rfl)
   simp only [Act.put, List.setIfInBounds_toArray, List.set_cons_zero, List.set_cons_succ]
   refine wpAnyH_take (i := 11) (oi := ?oi112) (v := ?v112) ?hi112 (by kernel_rfl) (by kernel_rfl) (by kernel_rfl) ?hQ112 (Or.inl ⟨?hw112, ?hy112⟩) (by assumption) ?rest112
   case hi112 => simp only [List.getElem?_toArray, List.getElem?_cons_succ, List.getElem?_cons_zero]; rfl
   case hQ112 => exact fun _ _ _ h => h
   case hw112 => rfl
   case hy112 => (intro W hW; have f1 := HC1.out W hW; have f2 := HC2.out W hW; go_simp; all_goals rfl)
   simp only [Act.put, List.setIfInBounds_toArray, List.set_cons_zero, List.set_cons_succ]
   refine wpAnyH_take (i := 12) (oi := ?oi113) (v := ?v113) ?hi113 (by kernel_rfl) (by kernel_rfl) (by kernel_rfl) ?hQ113 (Or.inl ⟨?hw113, ?hy113⟩) (by assumption) ?rest113
   case hi113 => simp only [List.getElem?_toArray, List.getElem?_cons_succ, List.getElem?_cons_zero]; rfl
   case hQ113 => exact fun _ _ _ h => h
   case hw113 => rfl
   case hy113 => (intro W hW; have f1 := HC1.out W hW; have f2 := HC2.out W hW; go_simp; all_goals rfl)
   simp only [Act.put, List.setIfInBounds_toArray, List.set_cons_zero, List.set_cons_succ]
   refine wpAnyH_take (i := 13) (oi := ?oi114) (v := ?v114) ?hi114 (by kernel_rfl) (by kernel_rfl) (by kernel_rfl) ?hQ114 (Or.inl ⟨?hw114, ?hy114⟩) (by assumption) ?rest114
   case hi114 => simp only [List.getElem?_toArray, List.getElem?_cons_succ, List.getElem?_cons_zero]; rfl
   case hQ114 => exact fun _ _ _ h => h
   case hw114 => rfl
   case hy114 => (intro W hW; have f1 := HC1.out W hW; have f2 := HC2.out W hW; go_simp; all_goals rfl)
   simp only [Act.put, List.setIfInBounds_toArray, List.set_cons_zero, List.set_cons_succ]
   refine wpAnyH_take (i := 14) (oi := ?oi115) (v := ?v115) ?hi115 (by kernel_rfl) (by kernel_rfl) (by kernel_rfl) ?hQ115 (Or.inl ⟨?hw115, ?hy115⟩) (by assumption) ?rest115
   case hi115 => simp only [List.getElem?_toArray, List.getElem?_cons_succ, List.getElem?_cons_zero]; rfl
   case hQ115 => exact fun _ _ _ h => h
   case hw115 => rfl
   case hy115 => (intro W hW; have f1 := HC1.out W hW; have f2 := HC2.out W hW; go_simp; all_goals rfl)
   simp only [Act.put, List.setIfInBounds_toArray, List.set_cons_zero, List.set_cons_succ]
   refine wpAnyH_done (by kernel_rfl) ?_ _
   obtain ⟨w1, hw1⟩ : ∃ U, wr.drew = U := ⟨_, rfl⟩
   rw [hw1] at HW1 ⊢
   clear hw1 hHeld
   clear i1 i2 i1n i2n
   go_upto_region 10 with fail
   obtain ⟨s03, s37⟩ := HS1.out
   refine wp_region_held_drew (S := fun W => Chg [] wr W) (by kernel_rfl) HW1.out.drew (fun hHeld => ?_)
   have HW2 := Hd.mk hHeld
   obtain ⟨w2, hw2⟩ : ∃ U, w1.drew = U := ⟨_, rfl⟩
   rw [hw2] at HW2 hHeld ⊢
   clear hw2
   refine wpAnyH_take (i := 0) (oi := ?oi201) (v := ?v201) ?hi201 (by kernel_rfl) (by kernel_rfl) (by kernel_rfl) ?hQ201 (Or.inl ⟨?hw201, ?hy201⟩) (by assumption) ?rest201
   case hi201 => simp only [List.getElem?_toArray, List.getElem?_cons_succ, List.getElem?_cons_zero]; rfl
   case hQ201 => exact fun _ _ _ h => h
   case hw201 => rfl
   case hy201 => (intro W hW; have f1 := (HR1.out W hW).2.2; go_simp; all_goals rfl)
   simp only [Act.put, List.setIfInBounds_toArray, List.set_cons_zero, List.set_cons_succ]
   refine wpAnyH_take (i := 1) (oi := ?oi202) (v := ?v202) ?hi202 (by kernel_rfl) (by kernel_rfl) (by kernel_rfl) ?hQ202 (Or.inl ⟨?hw202, ?hy202⟩) (by assumption) ?rest202
   case hi202 => simp only [List.getElem?_toArray, List.getElem?_cons_succ, List.getElem?_cons_zero]; rfl
   case hQ202 => exact fun _ _ _ h => h
   case hw202 => rfl
   case hy202 => (intro W hW; have f1 := (HR1.out W hW).2.2; go_simp; all_goals rfl)
   simp only [Act.put, List.setIfInBounds_toArray, List.set_cons_zero, List.set_cons_succ]
   refine wpAnyH_take (i := 2) (oi := ?oi203) (v := ?v203) ?hi203 (by kernel_rfl) (by kernel_rfl) (by kernel_rfl) ?hQ203 (Or.inl ⟨?hw203, ?hy203⟩) (by assumption) ?rest203
   case hi203 => simp only [List.getElem?_toArray, List.getElem?_cons_succ, List.getElem?_cons_zero]; rfl
   case hQ203 => exact fun _ _ _ h => h
   case hw203 => rfl
   case hy203 => (intro W hW; have f1 := (HR1.out W hW).2.2; go_simp; all_goals rfl)
   simp only [Act.put, List.setIfInBounds_toArray, List.set_cons_zero, List.set_cons_succ]
   refine wpAnyH_take (i := 3) (oi := ?oi204) (v := ?v204) ?hi204 (by kernel_rfl) (by kernel_rfl) (by kernel_rfl) ?hQ204 (Or.inl ⟨?hw204, ?hy204⟩) (by assumption) ?rest204
   case hi204 => simp only [List.getElem?_toArray, List.getElem?_cons_succ, List.getElem?_cons_zero]; rfl
   case hQ204 => exact fun _ _ _ h => h
   case hw204 => rfl
   case hy204 => (intro W hW; have f1 := (HR1.out W hW).2.2; go_simp; all_goals rfl)
   simp only [Act.put, List.setIfInBounds_toArray, List.set_cons_zero, List.set_cons_succ]
   refine wpAnyH_take (i := 4) (oi := ?oi205) (v := ?v205) ?hi205 (by kernel_rfl) (by kernel_rfl) (by kernel_rfl) ?hQ205 (Or.inl ⟨?hw205, ?hy205⟩) (by assumption) ?rest205
   case hi205 => simp only [List.getElem?_toArray, List.getElem?_cons_succ, List.getElem?_cons_zero]; rfl
   case hQ205 => exact fun _ _ _ h => h
   case hw205 => rfl
   case hy205 => (intro W hW; have f1 := (HR1.out W hW).2.2; go_simp; all_goals rfl)
   simp only [Act.put, List.setIfInBounds_toArray, List.set_cons_zero, List.set_cons_succ]
   refine wpAnyH_take (i := 9) (oi := ?oi206) (v := ?v206) ?hi206 (by kernel_rfl) (by kernel_rfl) (by kernel_rfl) ?hQ206 (Or.inl ⟨?hw206, ?hy206⟩) (by assumption) ?rest206
   case hi206 => simp only [List.getElem?_toArray, List.getElem?_cons_succ, List.getElem?_cons_zero]; rfl
   case hQ206 => exact fun _ _ _ h => h
   case hw206 => rfl
   case hy206 => (intro W hW; have f1 := (HR1.out W hW).2.2; go_simp; all_goals rfl)
   simp only [Act.put, List.setIfInBounds_toArray, List.set_cons_zero, List.set_cons_succ]
   refine wpAnyH_take (i := 10) (oi := ?oi207) (v := ?v207) ?hi207 (by kernel_rfl) (by kernel_rfl) (by kernel_rfl) ?hQ207 (Or.inl ⟨?hw207, ?hy207⟩) (by assumption) ?rest207
   case hi207 => simp only [List.getElem?_toArray, List.getElem?_cons_succ, List.getElem?_cons_zero]; rfl
   case hQ207 => exact fun _ _ _ h => h
   case hw207 => rfl
   case hy207 => (intro W hW; have f1 := (HR1.out W hW).2.2; go_simp; all_goals rfl)
   simp only [Act.put, List.setIfInBounds_toArray, List.set_cons_zero, List.set_cons_succ]
   refine wpAnyH_take (i := 11) (oi := ?oi208) (v := ?v208) ?hi208 (by kernel_rfl) (by kernel_rfl) (by kernel_rfl) ?hQ208 (Or.inl ⟨?hw208, ?hy208⟩) (by assumption) ?rest208
   case hi208 => simp only [List.getElem?_toArray, List.getElem?_cons_succ, List.getElem?_cons_zero]; rfl
   case hQ208 => exact fun _ _ _ h => h
   case hw208 => rfl
   case hy208 => (intro W hW; have f1 := (HR1.out W hW).2.2; go_simp; all_goals rfl)
   simp only [Act.put, List.setIfInBounds_toArray, List.set_cons_zero, List.set_cons_succ]
   refine wpAnyH_take (i := 12) (oi := ?oi209) (v := ?v209) ?hi209 (by kernel_rfl) (by kernel_rfl) (by kernel_rfl) ?hQ209 (Or.inl ⟨?hw209, ?hy209⟩) (by assumption) ?rest209
   case hi209 => simp only [List.getElem?_toArray, List.getElem?_cons_succ, List.getElem?_cons_zero]; rfl
   case hQ209 => exact fun _ _ _ h => h
   case hw209 => rfl
   case hy209 => (intro W hW; have f1 := (HR1.out W hW).2.2; go_simp; all_goals rfl)
   simp only [Act.put, List.setIfInBounds_toArray, List.set_cons_zero, List.set_cons_succ]
   refine wpAnyH_take (i := 13) (oi := ?oi210) (v := ?v210) ?hi210 (by kernel_rfl) (by kernel_rfl) (by kernel_rfl) ?hQ210 (Or.inl ⟨?hw210, ?hy210⟩) (by assumption) ?rest210
   case hi210 => simp only [List.getElem?_toArray, List.getElem?_cons_succ, List.getElem?_cons_zero]; rfl
   case hQ210 => exact fun _ _ _ h => h
   case hw210 => rfl
   case hy210 => (intro W hW; have f1 := (HR1.out W hW).2.2; go_simp; all_goals rfl)
   simp only [Act.put, List.setIfInBounds_toArray, List.set_cons_zero, List.set_cons_succ]
   refine wpAnyH_take (i := 14) (oi := ?oi211) (v := ?v211) ?hi211 (by kernel_rfl) (by kernel_rfl) (by kernel_rfl) ?hQ211 (Or.inl ⟨?hw211, ?hy211⟩) (by assumption) ?rest211
   case hi211 => simp only [List.getElem?_toArray, List.getElem?_cons_succ, List.getElem?_cons_zero]; rfl
   case hQ211 => exact fun _ _ _ h => h
   case hw211 => rfl
   case hy211 => (intro W hW; have f1 := (HR1.out W hW).2.2; go_simp; all_goals rfl)
   simp only [Act.put, List.setIfInBounds_toArray, List.set_cons_zero, List.set_cons_succ]
   refine wpAnyH_take (i := 15) (oi := ?oi212) (v := ?v212) ?hi212 (by kernel_rfl) (by kernel_rfl) (by kernel_rfl) ?hQ212 (Or.inl ⟨?hw212, ?hy212⟩) (by assumption) ?rest212
   case hi212 => simp only [List.getElem?_toArray, List.getElem?_cons_succ, List.getElem?_cons_zero]; rfl
   case hQ212 => exact fun _ _ _ h => h
   case hw212 => rfl
   case hy212 => (intro W hW; have f1 := (HR1.out W hW).2.2; go_simp; all_goals rfl)
   simp only [Act.put, List.setIfInBounds_toArray, List.set_cons_zero, List.set_cons_succ]
   refine wpAnyH_ready (rs := [5]) (by kernel_rfl) (by simp) ?_
   refine AllReadyH.cons (i := 5) (o := ?o213) ?ho213 (fun Kq hK => ?step213) AllReadyH.nil
   case ho213 => simp only [List.getElem?_toArray, List.getElem?_cons_succ, List.getElem?_cons_zero]; rfl
   go_simp
   (go_at_call 82; refine (refSum_any w2 A3 3 d3 w2.heap.size (b.take 3) (HR1.out w2 HW2.out).1 (Nat.le_refl _) (fun x hx => HB.out.2.2.1 x (List.mem_of_mem_take hx)) (by omega)).mono ?_; rw [HQ.out.1]; rintro e w4 ⟨rfl, hb4⟩)
   have HW4 : Hd (Chg [] wr w4) := ⟨HW2.out.trans (Chg.of_below hb4)⟩
   clear hb4
   refine hK.out _ _ HW4.out (fun _ => ?_)
   clear hK Kq
   try simp only [Act.put, List.setIfInBounds_toArray, List.set_cons_zero, List.set_cons_succ]
   have eq1 : IntKind.u64.wrap (q1 : Int) = (q1 : Int) := by have := HQ.out.2.2.2; rw [IntKind.wrap_u64]; omega
   refine wpAnyH_take (i := 6) (oi := ?oi214) (v := ?v214) ?hi214 (by kernel_rfl) (by kernel_rfl) (by kernel_rfl) ?hQ214 (Or.inl ⟨?hw214, ?hy214⟩) (by assumption) ?rest214
   case hi214 => simp only [List.getElem?_toArray, List.getElem?_cons_succ, List.getElem?_cons_zero]; rfl
   case hQ214 => exact fun _ _ _ h => h
   case hw214 => rfl
   case hy214 => (intro W hW; have f1 := (HR1.out W hW).2.2; go_simp; all_goals rfl)
   simp only [Act.put, List.setIfInBounds_toArray, List.set_cons_zero, List.set_cons_succ]
   refine wpAnyH_ready (rs := [7]) (by kernel_rfl) (by simp) ?_
   refine AllReadyH.cons (i := 7) (o := ?o215) ?ho215 (fun Kq hK => ?step215) AllReadyH.nil
   case ho215 => simp only [List.getElem?_toArray, List.getElem?_cons_succ, List.getElem?_cons_zero]; rfl
   go_simp
   (go_at_call 81; refine (refFixed_any w4 none 0 0 w4.heap.size q1 4 [] Rd.nil (by have := HQ.out.2.2.2; omega) (by omega) (by omega) (Nat.le_refl _)).mono ?_; rintro e w5 ⟨v5, rfl, hO5⟩)
   have HW5 : Hd (Chg [] wr w5) := ⟨HW4.out.trans (Chg.of_below (hO5.below (by simp [Value.ownBlock]) (Nat.le_refl _)))⟩
   obtain ⟨A5, d5, hv5, _, _⟩ := own_form hO5.own
   subst hv5
   have f5 : (convert 26 9 (.slice A5 (0 + 4) d5)).run Try.prog w5 = .ok (.string (bstr (fx 4 q1))) w5 := conv_th (by have := Rd.of_own hO5.own; rwa [List.nil_append] at this)
   rw [Nat.zero_add] at f5
   obtain ⟨S1, hS1⟩ : ∃ s, bstr (fx 4 q1) = s := ⟨_, rfl⟩
   rw [hS1] at f5
   have HS5 := Hd.mk hS1
   clear hS1 hO5
   try simp only [Nat.zero_add]
   refine hK.out _ _ HW5.out (fun _ => ?_)
   clear hK Kq
   try simp only [Act.put, List.setIfInBounds_toArray, List.set_cons_zero, List.set_cons_succ]
   refine wpAnyH_ready (rs := [8]) (by kernel_rfl) (by simp) ?_
   refine AllReadyH.cons (i := 8) (o := ?o216) ?ho216 (fun Kq hK => ?step216) AllReadyH.nil
   case ho216 => simp only [List.getElem?_toArray, List.getElem?_cons_succ, List.getElem?_cons_zero]; rfl
   go_simp
   skip
   try refine hK.out _ _ HW5.out (fun _ => ?_)
   clear hK Kq f5
   try simp only [Act.put, List.setIfInBounds_toArray, List.set_cons_zero, List.set_cons_succ]
   refine wpAnyH_take (i := 16) (oi := ?oi217) (v := ?v217) ?hi217 (by kernel_rfl) (by kernel_rfl) (by kernel_rfl) ?hQ217 (Or.inl ⟨?hw217, ?hy217⟩) (by assumption) ?rest217
   case hi217 => simp only [List.getElem?_toArray, List.getElem?_cons_succ, List.getElem?_cons_zero]; rfl
   case hQ217 => exact fun _ _ _ h => h
   case hw217 => rfl
   case hy217 => (intro W hW; have f1 := (HR1.out W hW).2.2; go_simp; all_goals rfl)
   simp only [Act.put, List.setIfInBounds_toArray, List.set_cons_zero, List.set_cons_succ]
   refine wpAnyH_done (by kernel_rfl) ?_ _
   clear hHeld
   have hne : (S1.toList != S2.toList) = decide (q1 ≠ q2) := by
    rw [← HS5.out, ← HQ.out.2.2.1, ← HQ.out.2.1]
    exact word_ne HQ.out.2.2.2 (seg_len (by have := HB.out.2.1; have := HA.out; omega)) (seg_lt HB.out.2.2.1 3 4)
   have HL5 := Hd.mk (HW.out.new HW5.out)
   have HST : Hd (∀ {e : Int}, ckP S k b = .bad e → e ≠ 0 → (go rdRq mid0 st).ms = xs ∧ (go rdRq mid0 st).fl = e ∧ (go rdRq mid0 st).held = 0) := ⟨fun {e} he h0 => HT.out.bad h0 (by show ckP S k (st.drop a) = _; rw [HB.out.1]; exact he)⟩
   clear HR1 HS1 HI HC1 HC2 s03 s37 e1w e2w e3w e7w eb1 eb2 em2 es2 eq1
   by_cases e12 : q1 = q2
   case neg =>
    have hneb : (!S1.toList == S2.toList) = true := hne.trans (decide_eq_true e12)
    rw [hneb]
    clear hne
    as_aux_lemma =>
     have hb2 := HL5.out.b2
     have c30 : w5.cell? ⟨g3, 0, none⟩ = some (.slice Aq lw cq) := by rw [cell_of_row w5 g3 0 _ _ (0, 0) HL5.out.b3]; rfl
     have c31 : w5.cell? ⟨g3, 1, none⟩ = some (.slice none 0 0) := by rw [cell_of_row w5 g3 1 _ _ (0, 0) HL5.out.b3]; rfl
     have HFIN : Hd (∀ w', Chg [g2, g3] w5 w' → ThDone askK w st (.returned (.agg #[(.slice Aq lw cq), (.slice none 0 0 : Value), .int .i64 302, .int .i64 0])) w') := ⟨fun w' bq => HL5.out.ends (hd := 0) (w' := w') bq (HST.out (ck_torn (by have := HB.out.2.1; have := HA.out; omega) (by rw [HQ.out.1, HQ.out.2.1]; exact e12)) (by decide))⟩
     try clear HT
     try clear HW
     try clear HLN
     try clear HRD
     try clear HTS
     try clear HB
     try clear HA
     try clear HE
     try clear HQ
     try clear HS5
     try clear HL5
     try clear HST
     try clear HE12
     try clear HBB
     try clear HOW
     try clear HNO
     try clear HNK
     try clear HSU
     try clear HR6
     try clear HA2
     try clear HEW
     try clear HS6
     try clear HD7
     try clear HL6
     try clear HM7
     try clear HS'
     try clear HL7
     try clear HQ4
     try clear HS3
     try clear HL9
     try clear HCK
     try clear HC
     try clear HK1
     try clear HL10
     try clear HWC
     try clear HSZ
     try clear HCH0
     try clear HL11
     try clear HSZ2
     try clear HNE
     try clear HCH
     try clear HX
     try clear H12
     try clear HB12
     try clear HC0
     try clear HW1
     try clear HW2
     try clear HW4
     try clear HW5
     try clear HN
     try clear HNC
     try clear H0
     try clear HG1
     try clear HGG
     try clear HRC
     try clear hfew
     try clear han
     try clear hwha
     try clear hkk
     try clear hn
     try clear hl7b
     try clear e12
     try clear e34
     try clear hod
     try clear hneb
     try clear hN1
     try clear hlen
     try clear ian
     try clear iann
     try clear hNl
     try clear hb0l
     try clear hB11
     try clear HCS
     try clear hv0
     try clear hv1
     try clear HCU
     try clear HD3
     try clear hb0l
     try clear HB13
     try clear HC13
     try clear HB23
     try clear HW14
     try clear hwn
     go_wp2_with (refine at_store (x := .tmp 2) ?_; refine wpList_stored rfl 63 (.tmp 2) (.tmp 61) rfl g2 #[(.slice Aq lw cq), (.slice none 0 0 : Value), .int .i64 302, .int .i64 0] rfl rfl 63 _ hb2 infoRead4 rfl (by simp [Value.oneCell']) ?_; intro w9 hB9)
     (try simp only [Exit.inBlock, Exit.then])
     refine bodyPost_ret (results_cell1 rfl _ _ g2 63 #[(.slice Aq lw cq), (.slice none 0 0 : Value), .int .i64 302, .int .i64 0] (0, 0) _ rfl hB9.out.1 Try.underlying63 rfl infoRead4) rfl ?_
     exact HFIN.out w9 ((Chg.of_grown hB9.out.2.1).mono (by intro k hk _; simp at hk; simp [hk]))
   have hneb : (!S1.toList == S2.toList) = false := hne.trans (decide_eq_false (fun h => h e12))
   rw [hneb]
   clear hne
   have HE12 : Hd (Crc.more 0 (b.take 3) = le256 (seg b 3 4)) := ⟨by rw [HQ.out.1, HQ.out.2.1]; exact e12⟩
   clear e12
   have c0 : w5.cell? ⟨ga, oa + a, none⟩ = some (.int .u8 (b0 : Int)) := HC0.out w5 HW5.out
   obtain ⟨B2, hB2⟩ : ∃ B, decide (b0 = 2) = B := ⟨_, rfl⟩
   obtain ⟨BO, hBO⟩ : ∃ B, decide (ckOdd k b) = B := ⟨_, rfl⟩
   have HBB := Hd.mk (And.intro hB2 hBO)
   have HOW : Hd (ckOdd k b ↔ ((b0 ≠ 1 ∧ b0 ≠ 2) ∨ N0 = 0 ∨ 16384 < N0 ∨ (b0 = 1 ∧ (N0 ≠ 16384 ∨ k = 2047)))) := ⟨odd_way HB.out.2.2.2.2 HB.out.2.2.2.1⟩
   clear hB2 hBO
   have ian : (a : Int) < (n : Int) := by have := HA.out; omega
   have iann : a < n := by omega
   have hNl : N0 < 65536 := HA.out.2.2.2.2.2.1
   have hb0l : b0 < 256 := HA.out.2.2.2.2.2.2
   have hB2i : ((b0 : Int) == 2) = B2 := by rw [← HBB.out.1]; by_cases h : b0 = 2 <;> simp [h]; omega
   go_upto_region 14 with fail
   clear hneb hB2i
   go_cut [97] from 67 to 97 (fun p wx => p = .bool BO ∧ wx = w5)
   case first =>
    as_aux_lemma =>
     by_cases j1 : b0 = 1
     ·skip
      by_cases j2 : N0 = 0
      ·skip
       have h1 : (N0 : Int) < 1 := by omega
       have k2 : B2 = false := by rw [← HBB.out.1]; exact decide_eq_false (by omega)
       have kO : BO = true := by rw [← HBB.out.2]; exact decide_eq_true (by rw [HOW.out]; omega)
       subst k2 kO
       have c0' : w5.cell? ⟨ga, oa + a, none⟩ = some (.int .u8 1) := by rw [c0, j1]; rfl
       clear c0
       go_wp2_with fail
       go_meet
       case rel => exact ⟨rfl, rfl⟩
      by_cases j3 : 16384 < N0
      ·skip
       have h0 : ¬ (N0 : Int) < 1 := by omega
       have h1 : (16384 : Int) < (N0 : Int) := by omega
       have k2 : B2 = false := by rw [← HBB.out.1]; exact decide_eq_false (by omega)
       have kO : BO = true := by rw [← HBB.out.2]; exact decide_eq_true (by rw [HOW.out]; omega)
       subst k2 kO
       have c0' : w5.cell? ⟨ga, oa + a, none⟩ = some (.int .u8 1) := by rw [c0, j1]; rfl
       clear c0
       go_wp2_with fail
       go_meet
       case rel => exact ⟨rfl, rfl⟩
      by_cases j4 : N0 = 16384
      ·skip
       by_cases j5 : k = 2047
       ·skip

        have k2 : B2 = false := by rw [← HBB.out.1]; exact decide_eq_false (by omega)
        have kO : BO = true := by rw [← HBB.out.2]; exact decide_eq_true (by rw [HOW.out]; omega)
        subst k2 kO
        have c0' : w5.cell? ⟨ga, oa + a, none⟩ = some (.int .u8 1) := by rw [c0, j1]; rfl
        clear c0
        clear j1
        subst j4 j5
        go_wp2_with fail
        go_meet
        case rel => exact ⟨rfl, rfl⟩
       ·skip
        have h5 : (((k : Int) + 1) == 2048) = false := beq_eq_false_iff_ne.2 (by omega)
        have h6 : ¬ (k : Int) + 1 = 2048 := by omega
        have k2 : B2 = false := by rw [← HBB.out.1]; exact decide_eq_false (by omega)
        have kO : BO = false := by rw [← HBB.out.2]; exact decide_eq_false (by rw [HOW.out]; omega)
        subst k2 kO
        have c0' : w5.cell? ⟨ga, oa + a, none⟩ = some (.int .u8 1) := by rw [c0, j1]; rfl
        clear c0
        clear j1
        subst j4
        go_wp2_with fail
        go_meet
        case rel => exact ⟨rfl, rfl⟩
      ·skip
       have h0 : ¬ (N0 : Int) < 1 := by omega
       have h1 : ¬ (16384 : Int) < (N0 : Int) := by omega
       have h2 : ((N0 : Int) == 16384) = false := beq_eq_false_iff_ne.2 (by omega)
       have h3 : ¬ (N0 : Int) = 16384 := by omega
       have k2 : B2 = false := by rw [← HBB.out.1]; exact decide_eq_false (by omega)
       have kO : BO = true := by rw [← HBB.out.2]; exact decide_eq_true (by rw [HOW.out]; omega)
       subst k2 kO
       have c0' : w5.cell? ⟨ga, oa + a, none⟩ = some (.int .u8 1) := by rw [c0, j1]; rfl
       clear c0
       go_wp2_with fail
       go_meet
       case rel => exact ⟨rfl, rfl⟩
     ·skip
      by_cases j9 : b0 = 2
      ·skip
       by_cases j2 : N0 = 0
       ·skip
        have h1 : (N0 : Int) < 1 := by omega
        have k2 : B2 = true := by rw [← HBB.out.1]; exact decide_eq_true (by omega)
        have kO : BO = true := by rw [← HBB.out.2]; exact decide_eq_true (by rw [HOW.out]; omega)
        subst k2 kO
        have c0' : w5.cell? ⟨ga, oa + a, none⟩ = some (.int .u8 2) := by rw [c0, j9]; rfl
        clear c0
        go_wp2_with fail
        go_meet
        case rel => exact ⟨rfl, rfl⟩
       by_cases j3 : 16384 < N0
       ·skip
        have h0 : ¬ (N0 : Int) < 1 := by omega
        have h1 : (16384 : Int) < (N0 : Int) := by omega
        have k2 : B2 = true := by rw [← HBB.out.1]; exact decide_eq_true (by omega)
        have kO : BO = true := by rw [← HBB.out.2]; exact decide_eq_true (by rw [HOW.out]; omega)
        subst k2 kO
        have c0' : w5.cell? ⟨ga, oa + a, none⟩ = some (.int .u8 2) := by rw [c0, j9]; rfl
        clear c0
        go_wp2_with fail
        go_meet
        case rel => exact ⟨rfl, rfl⟩
       have h0 : ¬ (N0 : Int) < 1 := by omega
       have h1 : ¬ (16384 : Int) < (N0 : Int) := by omega
       have k2 : B2 = true := by rw [← HBB.out.1]; exact decide_eq_true (by omega)
       have kO : BO = false := by rw [← HBB.out.2]; exact decide_eq_false (by rw [HOW.out]; omega)
       subst k2 kO
       have c0' : w5.cell? ⟨ga, oa + a, none⟩ = some (.int .u8 2) := by rw [c0, j9]; rfl
       clear c0
       go_wp2_with fail
       go_meet
       case rel => exact ⟨rfl, rfl⟩
      ·skip
       have h1 : ((b0 : Int) == 1) = false := beq_eq_false_iff_ne.2 (by omega)
       have h2 : ((b0 : Int) == 2) = false := beq_eq_false_iff_ne.2 (by omega)
       have h3 : ¬ (b0 : Int) = 1 := by omega
       have h4 : ¬ (b0 : Int) = 2 := by omega
       have k2 : B2 = false := by rw [← HBB.out.1]; exact decide_eq_false (by omega)
       have kO : BO = true := by rw [← HBB.out.2]; exact decide_eq_true (by rw [HOW.out]; omega)
       subst k2 kO
       go_wp2_with fail
       go_meet
       case rel => exact ⟨rfl, rfl⟩
   case rest =>
    obtain ⟨h97, hwc⟩ := hcut
    subst h97
    rw [hwc]
    clear hwc c0
    rcases hBOc : BO with _ | _
    case true =>
     have hod : ckOdd k b := of_decide_eq_true (HBB.out.2.trans hBOc)
     subst hBOc
     as_aux_lemma =>
      have hb2 := HL5.out.b2
      have c30 : w5.cell? ⟨g3, 0, none⟩ = some (.slice Aq lw cq) := by rw [cell_of_row w5 g3 0 _ _ (0, 0) HL5.out.b3]; rfl
      have c31 : w5.cell? ⟨g3, 1, none⟩ = some (.slice none 0 0) := by rw [cell_of_row w5 g3 1 _ _ (0, 0) HL5.out.b3]; rfl
      have HFIN : Hd (∀ w', Chg [g2, g3] w5 w' → ThDone askK w st (.returned (.agg #[(.slice Aq lw cq), (.slice none 0 0 : Value), .int .i64 301, .int .i64 0])) w') := ⟨fun w' bq => HL5.out.ends (hd := 0) (w' := w') bq (HST.out (ck_odd (by have := HB.out.2.1; have := HA.out; omega) HE12.out hod) (by decide))⟩
      try clear HT
      try clear HW
      try clear HLN
      try clear HRD
      try clear HTS
      try clear HB
      try clear HA
      try clear HE
      try clear HQ
      try clear HS5
      try clear HL5
      try clear HST
      try clear HE12
      try clear HBB
      try clear HOW
      try clear HNO
      try clear HNK
      try clear HSU
      try clear HR6
      try clear HA2
      try clear HEW
      try clear HS6
      try clear HD7
      try clear HL6
      try clear HM7
      try clear HS'
      try clear HL7
      try clear HQ4
      try clear HS3
      try clear HL9
      try clear HCK
      try clear HC
      try clear HK1
      try clear HL10
      try clear HWC
      try clear HSZ
      try clear HCH0
      try clear HL11
      try clear HSZ2
      try clear HNE
      try clear HCH
      try clear HX
      try clear H12
      try clear HB12
      try clear HC0
      try clear HW1
      try clear HW2
      try clear HW4
      try clear HW5
      try clear HN
      try clear HNC
      try clear H0
      try clear HG1
      try clear HGG
      try clear HRC
      try clear hfew
      try clear han
      try clear hwha
      try clear hkk
      try clear hn
      try clear hl7b
      try clear e12
      try clear e34
      try clear hod
      try clear hneb
      try clear hN1
      try clear hlen
      try clear ian
      try clear iann
      try clear hNl
      try clear hb0l
      try clear hB11
      try clear HCS
      try clear hv0
      try clear hv1
      try clear HCU
      try clear HD3
      try clear hb0l
      try clear HB13
      try clear HC13
      try clear HB23
      try clear HW14
      try clear hwn
      go_wp2_with (refine at_store (x := .tmp 2) ?_; refine wpList_stored rfl 63 (.tmp 2) (.tmp 102) rfl g2 #[(.slice Aq lw cq), (.slice none 0 0 : Value), .int .i64 301, .int .i64 0] rfl rfl 63 _ hb2 infoRead4 rfl (by simp [Value.oneCell']) ?_; intro w9 hB9)
      (try simp only [Exit.inBlock, Exit.then])
      refine bodyPost_ret (results_cell1 rfl _ _ g2 63 #[(.slice Aq lw cq), (.slice none 0 0 : Value), .int .i64 301, .int .i64 0] (0, 0) _ rfl hB9.out.1 Try.underlying63 rfl infoRead4) rfl ?_
      exact HFIN.out w9 ((Chg.of_grown hB9.out.2.1).mono (by intro k hk _; simp at hk; simp [hk]))
    have HNO : Hd (¬ ckOdd k b) := ⟨of_decide_eq_false (HBB.out.2.trans hBOc)⟩
    have HNK : Hd (0 < N0 ∧ N0 ≤ 16384 ∧ (b0 = 1 ∨ b0 = 2) ∧ (B2 = false → b0 = 1 ∧ N0 = 16384 ∧ k ≠ 2047)) := ⟨by have h1 := HNO.out; rw [HOW.out] at h1; exact ⟨by omega, by omega, by omega, fun h => by have := of_decide_eq_false (HBB.out.1.trans h); omega⟩⟩
    subst hBOc
    have hN1 : N0 ≤ 16384 := HNK.out.2.1
    clear hNl hb0l ian iann
    have HSU : Hd (IntKind.i64.wrap ((n : Int) - (a : Int)) = (n : Int) - (a : Int) ∧ IntKind.i64.wrap ((N0 : Int) + 11) = (N0 : Int) + 11) := ⟨by rw [IntKind.wrap_i64]; omega, by rw [IntKind.wrap_i64]; omega⟩
    by_cases hlen : n - a < N0 + 11
    ·skip
     as_aux_lemma =>
      have hleni : (n : Int) - (a : Int) < (N0 : Int) + 11 := by omega
      have hwn : wh ≤ n := by omega
      have hsubw : IntKind.i64.wrap ((n : Int) - (wh : Int)) = ((n - wh : Nat) : Int) := by rw [IntKind.wrap_i64]; omega
      have hsubW : wrap64 ((n : Int) - (wh : Int)) = ((n - wh : Nat) : Int) := by unfold wrap64; omega
      have c33 : w5.cell? ⟨g3, 3, none⟩ = some (.int .i64 0) := by rw [cell_of_row w5 g3 3 _ _ (0, 0) HL5.out.b3]; rfl
      have z33 : w5.frozen? ⟨g3, 3, none⟩ = false := by simp [World.frozen?, HL5.out.b3]
      have HFIN : Hd (∀ w', Chg [g2, g3] w5 w' → ThDone askK w st (.returned (.agg #[(.slice Aq lw cq), (.slice none 0 0 : Value), .int .i64 0, .int .i64 ((n - wh : Nat) : Int)])) w') := ⟨fun w' bq => HL5.out.ends (w' := w') bq (by have h := HT.out.wait (by show ckP S k (st.drop a) = _; rw [HB.out.1]; exact ck_part' (by have := HB.out.2.1; have := HA.out; omega) HE12.out HNO.out (by rw [HB.out.2.2.2.1, HB.out.2.1]; exact hlen)); rw [HN.out] at h; exact h)⟩
      have HFB : Hd (w5.heap[g3]? = some (.cells #[(.slice Aq lw cq), (.slice none 0 0 : Value), .int .i64 0, .int .i64 0] 63) ∧ w5.heap[g2]? = some (.cells #[.slice none 0 0, .slice none 0 0, .int .i64 0, .int .i64 0] 63) ∧ g2 ≠ g3) := ⟨HL5.out.b3, HL5.out.b2, by have := HL5.out.lo; omega⟩
      obtain ⟨hsub, hsu2⟩ := HSU.out
      try clear HT
      try clear HW
      try clear HLN
      try clear HRD
      try clear HTS
      try clear HB
      try clear HA
      try clear HE
      try clear HQ
      try clear HS5
      try clear HL5
      try clear HST
      try clear HE12
      try clear HBB
      try clear HOW
      try clear HNO
      try clear HNK
      try clear HSU
      try clear HR6
      try clear HA2
      try clear HEW
      try clear HS6
      try clear HD7
      try clear HL6
      try clear HM7
      try clear HS'
      try clear HL7
      try clear HQ4
      try clear HS3
      try clear HL9
      try clear HCK
      try clear HC
      try clear HK1
      try clear HL10
      try clear HWC
      try clear HSZ
      try clear HCH0
      try clear HL11
      try clear HSZ2
      try clear HNE
      try clear HCH
      try clear HX
      try clear H12
      try clear HB12
      try clear HC0
      try clear HW1
      try clear HW2
      try clear HW4
      try clear HW5
      try clear HN
      try clear HNC
      try clear H0
      try clear HG1
      try clear HGG
      try clear HRC
      try clear hfew
      try clear han
      try clear hwha
      try clear hkk
      try clear hn
      try clear hl7b
      try clear e12
      try clear e34
      try clear hod
      try clear hneb
      try clear hN1
      try clear hlen
      try clear ian
      try clear iann
      try clear hNl
      try clear hb0l
      try clear hB11
      try clear HCS
      try clear hv0
      try clear hv1
      try clear HCU
      try clear HD3
      try clear hb0l
      try clear HB13
      try clear HC13
      try clear HB23
      try clear HW14
      try clear hwn
      go_upto_region 40 with fail
      obtain ⟨wf, hwf⟩ : ∃ U, w5.setCell ⟨g3, 3, none⟩ (.int .i64 ((n - wh : Nat) : Int)) = U := ⟨_, rfl⟩
      try simp only [hsubw, hsubW]
      rw [hwf]
      have HF3 : Hd (wf.heap[g3]? = some (.cells #[(.slice Aq lw cq), (.slice none 0 0 : Value), .int .i64 0, .int .i64 ((n - wh : Nat) : Int)] 63)) := ⟨by rw [← hwf, heap_set w5 g3 3 _ _ _ HFB.out.1]; rfl⟩
      have HF2 : Hd (wf.heap[g2]? = some (.cells #[.slice none 0 0, .slice none 0 0, .int .i64 0, .int .i64 0] 63)) := ⟨by rw [← hwf, Below.heap_setCell _ _ _ _ HFB.out.2.2]; exact HFB.out.2.1⟩
      have HFC : Hd (Chg [g2, g3] w5 wf) := ⟨by rw [← hwf]; exact (Chg.refl _ _).setCell (by simp) _⟩
      clear hwf c33 z33
      go_wp2_with (first | (refine at_load (x := .tmp 3) ?_; refine wpList_load_row rfl 63 (.tmp 3) rfl g3 rfl 63 #[(.slice Aq lw cq), (.slice none 0 0 : Value), .int .i64 0, .int .i64 ((n - wh : Nat) : Int)] (0, 0) _ HF3.out Try.underlying63 rfl infoRead4 ?_) | (refine at_store (x := .tmp 2) ?_; refine wpList_stored rfl 63 (.tmp 2) (.tmp 210) rfl g2 #[(.slice Aq lw cq), (.slice none 0 0 : Value), .int .i64 0, .int .i64 ((n - wh : Nat) : Int)] rfl rfl 63 _ HF2.out infoRead4 rfl (by simp [Value.oneCell']) ?_; intro w9 hB9))
      (try simp only [Exit.inBlock, Exit.then])
      refine bodyPost_ret (results_cell1 rfl _ _ g2 63 #[(.slice Aq lw cq), (.slice none 0 0 : Value), .int .i64 0, .int .i64 ((n - wh : Nat) : Int)] (0, 0) _ rfl hB9.out.1 Try.underlying63 rfl infoRead4) rfl ?_
      exact HFIN.out w9 (HFC.out.trans ((Chg.of_grown hB9.out.2.1).mono (by intro k hk _; simp at hk; simp [hk])))
    ·skip
     have hleni : ¬ (n : Int) - (a : Int) < (N0 : Int) + 11 := by omega
     have hle : a + N0 + 11 ≤ n := by omega
     clear hlen
     obtain ⟨a7, ha7⟩ : ∃ q, a + 7 = q := ⟨_, rfl⟩
     obtain ⟨a11, ha11⟩ : ∃ q, a + 11 = q := ⟨_, rfl⟩
     obtain ⟨aN, haN⟩ : ∃ q, a7 + N0 = q := ⟨_, rfl⟩
     obtain ⟨aM, haM⟩ : ∃ q, a11 + N0 = q := ⟨_, rfl⟩
     obtain ⟨aP, haP⟩ : ∃ q, a + N0 = q := ⟨_, rfl⟩
     obtain ⟨aE, haE⟩ : ∃ q, aP + 11 = q := ⟨_, rfl⟩
     obtain ⟨l7, hl7⟩ : ∃ q, lc + N0 = q := ⟨_, rfl⟩
     have hl7b : l7 ≤ 67108864 := by have := HLN.out; omega
     obtain ⟨A6, d6, s6, hd6, r6⟩ := cut_seg (A := some ⟨ga, oa, none⟩) st HNC.out (l := a7) (h := aN) (k := N0) haN (by omega)
     obtain ⟨A8, d8, s8, hd8, r8⟩ := cut_seg (A := some ⟨ga, oa, none⟩) st HNC.out (l := aN) (h := aM) (k := 4) (by omega) (by omega)
     have hs6 : seg st a7 N0 = seg b 7 N0 := by rw [← HB.out.1, seg_drop, ha7]
     have hs8 : seg st aN 4 = seg b (7 + N0) 4 := by rw [← HB.out.1, seg_drop, ← haN, ← ha7, Nat.add_assoc]
     have HR6 : Hd (∀ W, Chg [] w W → Rd W W.heap.size A6 N0 (cb (seg b 7 N0)) ∧ Rd W W.heap.size A8 4 (cb (seg b (7 + N0) 4)) ∧ (convert 26 9 (.slice A8 4 d8)).run Try.prog W = .ok (.string (bstr (seg b (7 + N0) 4))) W) := ⟨fun W bb => by
      have h1 := r6 W _ (HRD.out W bb)
      have h2 := r8 W _ (HRD.out W bb)
      rw [hs6] at h1
      rw [hs8] at h2
      exact ⟨h1, h2, conv_th h2⟩⟩
     have HA2 : Hd (a + 7 = a7 ∧ a + 11 = a11 ∧ a7 + N0 = aN ∧ a11 + N0 = aM ∧ a + N0 = aP ∧ aP + 11 = aE ∧ lc + N0 = l7 ∧ aE ≤ n ∧ N0 ≤ 16384) := ⟨ha7, ha11, haN, haM, haP, haE, hl7, by omega, hN1⟩
     have e7w : IntKind.i64.wrap ((a : Int) + 7) = (a7 : Int) := by rw [IntKind.wrap_i64]; omega
     have e11w : IntKind.i64.wrap ((a : Int) + 11) = (a11 : Int) := by rw [IntKind.wrap_i64]; omega
     have eNw : IntKind.i64.wrap ((a7 : Int) + (N0 : Int)) = (aN : Int) := by rw [IntKind.wrap_i64]; omega
     have eMw : IntKind.i64.wrap ((a11 : Int) + (N0 : Int)) = (aM : Int) := by rw [IntKind.wrap_i64]; omega
     have ePw : IntKind.i64.wrap ((a : Int) + (N0 : Int)) = (aP : Int) := by rw [IntKind.wrap_i64]; omega
     have eEw : IntKind.i64.wrap ((aP : Int) + 11) = (aE : Int) := by rw [IntKind.wrap_i64]; omega
     have HEW := Hd.mk (And.intro e7w (And.intro e11w (And.intro eNw (And.intro eMw (And.intro ePw eEw)))))
     have HS6 := Hd.mk (And.intro s6 s8)
     clear ha7 ha11 haN haM haP haE hl7 r6 r8 hs6 hs8 hd6 hd8 hle s8 e11w eMw ePw eEw HC0 hN1
     obtain ⟨hsub, hsu2⟩ := HSU.out
     go_upto_region 17 with fail
     clear hsub hsu2 hleni
     go_upto_region 18 with (at_builtin; refine wpList_app elB rfl (.tmp 110) (.tmp 118) rfl N (.slice Ac lc cc) lc (cb mc) rfl (by have := HL5.out.co; rwa [HLN.out.1] at this) w5.heap.size A6 N0 d6 (cb (seg b 7 N0)) rfl (HR6.out w5 HL5.out.ch).1 (cb_one _) (by have := HA2.out; unfold maxLen; omega) (by have := HA2.out; omega) HL5.out.nn ?_; intro v6 w6 hO; rw [HA2.out.2.2.2.2.2.2.1] at hO; obtain ⟨A7, d7, hv7, hd7, _⟩ := own_form hO.own; subst hv7; have HO := Hd.mk hO; have HD7 := Hd.mk hd7; clear hO hd7)
     obtain ⟨m7, hm7⟩ : ∃ q, mc ++ seg b 7 N0 = q := ⟨_, rfl⟩
     have hm7l : m7.length = l7 := by rw [← hm7, List.length_append, HLN.out.1, seg_len (by have := HB.out.2.1; have := HA2.out; omega)]; exact HA2.out.2.2.2.2.2.2.1
     have HL6 : Hd (ThL askK w N g1 g2 g3 RC w6 (.slice A7 l7 d7) (.slice Aq lw cq) m7 ws xs) := ⟨HL5.out.cont (Y := (Value.slice Ac lc cc).ownBlock.toList) ⟨HO.out.2.1.os, HO.out.2.1.tape, HO.out.2.1.output, HO.out.2.1.size, fun x hx hm => HO.out.2.1.block x hx fun e => hm (by rw [Option.mem_toList]; exact e.symm)⟩ (fun x hx => by rwa [Option.mem_toList] at hx) (by have := HO.out.1; rw [hm7l, ← hm7, cb_append]; exact this) HO.out.2.2 (fun x hx => by rw [← hm7] at hx; exact (List.mem_append.1 hx).elim (HL5.out.lb x) (seg_lt HB.out.2.2.1 7 N0 x))⟩
     have HM7 := Hd.mk (And.intro hm7 hm7l)
     clear hm7 hm7l HO
     go_wp2_with fail
     refine (refMore_any w6 A6 N0 d6 w6.heap.size (seg b 7 N0) (S : Int) (by omega) (by have := HTS.out; omega) (HR6.out w6 HL6.out.ch).1 (Nat.le_refl _) (seg_lt HB.out.2.2.1 7 N0) (by have := HA2.out; omega)).mono ?_
     rw [Int.toNat_natCast]
     obtain ⟨S', hS'⟩ : ∃ q, Crc.more S (seg b 7 N0) = q := ⟨_, rfl⟩
     rw [hS']
     rintro e w7 ⟨rfl, hb7⟩
     have HS' : Hd (Crc.more S (seg b 7 N0) = S' ∧ S' < 4294967296) := ⟨hS', by rw [← hS']; exact Crc.more_lt _ _⟩
     have HL7 := Hd.mk (HL6.out.new (Chg.of_below hb7))
     clear hb7 hS' s6 e7w eNw
     go_upto_region 19 with fail
     obtain ⟨q4, hq4⟩ : ∃ q, le256 (seg b (7 + N0) 4) = q := ⟨_, rfl⟩
     obtain ⟨S4, hS4⟩ : ∃ s, bstr (seg b (7 + N0) 4) = s := ⟨_, rfl⟩
     have HQ4 := Hd.mk (And.intro hq4 hS4)
     clear hq4 hS4
     obtain ⟨e7w, e11w, eNw, eMw, ePw, eEw⟩ := HEW.out
     have s8 := HS6.out.2
     have eq2 : IntKind.u64.wrap (S' : Int) = (S' : Int) := by have := HS'.out.2; rw [IntKind.wrap_u64]; omega
     refine wp_region_held_drew (S := fun W => Chg [] w7 W) (by kernel_rfl) (Chg.refl [] w7).drew (fun hHeld => ?_)
     have HW8 := Hd.mk hHeld
     obtain ⟨w8, hw8⟩ : ∃ U, w7.drew = U := ⟨_, rfl⟩
     rw [hw8] at HW8 hHeld ⊢
     clear hw8
     refine wpAnyH_take (i := 0) (oi := ?oi301) (v := ?v301) ?hi301 (by kernel_rfl) (by kernel_rfl) (by kernel_rfl) ?hQ301 (Or.inl ⟨?hw301, ?hy301⟩) (by assumption) ?rest301
     case hi301 => simp only [List.getElem?_toArray, List.getElem?_cons_succ, List.getElem?_cons_zero]; rfl
     case hQ301 => exact fun _ _ _ h => h
     case hw301 => rfl
     case hy301 => (intro W hW; have f1 := (HR6.out W (HL7.out.ch.trans hW)).2.2; rw [HQ4.out.2] at f1; go_simp; all_goals rfl)
     simp only [Act.put, List.setIfInBounds_toArray, List.set_cons_zero, List.set_cons_succ]
     refine wpAnyH_take (i := 1) (oi := ?oi302) (v := ?v302) ?hi302 (by kernel_rfl) (by kernel_rfl) (by kernel_rfl) ?hQ302 (Or.inl ⟨?hw302, ?hy302⟩) (by assumption) ?rest302
     case hi302 => simp only [List.getElem?_toArray, List.getElem?_cons_succ, List.getElem?_cons_zero]; rfl
     case hQ302 => exact fun _ _ _ h => h
     case hw302 => rfl
     case hy302 => (intro W hW; have f1 := (HR6.out W (HL7.out.ch.trans hW)).2.2; rw [HQ4.out.2] at f1; go_simp; all_goals rfl)
     simp only [Act.put, List.setIfInBounds_toArray, List.set_cons_zero, List.set_cons_succ]
     refine wpAnyH_take (i := 4) (oi := ?oi303) (v := ?v303) ?hi303 (by kernel_rfl) (by kernel_rfl) (by kernel_rfl) ?hQ303 (Or.inl ⟨?hw303, ?hy303⟩) (by assumption) ?rest303
     case hi303 => simp only [List.getElem?_toArray, List.getElem?_cons_succ, List.getElem?_cons_zero]; rfl
     case hQ303 => exact fun _ _ _ h => h
     case hw303 => rfl
     case hy303 => (intro W hW; have f1 := (HR6.out W (HL7.out.ch.trans hW)).2.2; rw [HQ4.out.2] at f1; go_simp; all_goals rfl)
     simp only [Act.put, List.setIfInBounds_toArray, List.set_cons_zero, List.set_cons_succ]
     refine wpAnyH_take (i := 5) (oi := ?oi304) (v := ?v304) ?hi304 (by kernel_rfl) (by kernel_rfl) (by kernel_rfl) ?hQ304 (Or.inl ⟨?hw304, ?hy304⟩) (by assumption) ?rest304
     case hi304 => simp only [List.getElem?_toArray, List.getElem?_cons_succ, List.getElem?_cons_zero]; rfl
     case hQ304 => exact fun _ _ _ h => h
     case hw304 => rfl
     case hy304 => (intro W hW; have f1 := (HR6.out W (HL7.out.ch.trans hW)).2.2; rw [HQ4.out.2] at f1; go_simp; all_goals rfl)
     simp only [Act.put, List.setIfInBounds_toArray, List.set_cons_zero, List.set_cons_succ]
     refine wpAnyH_take (i := 6) (oi := ?oi305) (v := ?v305) ?hi305 (by kernel_rfl) (by kernel_rfl) (by kernel_rfl) ?hQ305 (Or.inl ⟨?hw305, ?hy305⟩) (by assumption) ?rest305
     case hi305 => simp only [List.getElem?_toArray, List.getElem?_cons_succ, List.getElem?_cons_zero]; rfl
     case hQ305 => exact fun _ _ _ h => h
     case hw305 => rfl
     case hy305 => (intro W hW; have f1 := (HR6.out W (HL7.out.ch.trans hW)).2.2; rw [HQ4.out.2] at f1; go_simp; all_goals rfl)
     simp only [Act.put, List.setIfInBounds_toArray, List.set_cons_zero, List.set_cons_succ]
     refine wpAnyH_take (i := 7) (oi := ?oi306) (v := ?v306) ?hi306 (by kernel_rfl) (by kernel_rfl) (by kernel_rfl) ?hQ306 (Or.inl ⟨?hw306, ?hy306⟩) (by assumption) ?rest306
     case hi306 => simp only [List.getElem?_toArray, List.getElem?_cons_succ, List.getElem?_cons_zero]; rfl
     case hQ306 => exact fun _ _ _ h => h
     case hw306 => rfl
     case hy306 => (intro W hW; have f1 := (HR6.out W (HL7.out.ch.trans hW)).2.2; rw [HQ4.out.2] at f1; go_simp; all_goals rfl)
     simp only [Act.put, List.setIfInBounds_toArray, List.set_cons_zero, List.set_cons_succ]
     refine wpAnyH_take (i := 8) (oi := ?oi307) (v := ?v307) ?hi307 (by kernel_rfl) (by kernel_rfl) (by kernel_rfl) ?hQ307 (Or.inl ⟨?hw307, ?hy307⟩) (by assumption) ?rest307
     case hi307 => simp only [List.getElem?_toArray, List.getElem?_cons_succ, List.getElem?_cons_zero]; rfl
     case hQ307 => exact fun _ _ _ h => h
     case hw307 => rfl
     case hy307 => (intro W hW; have f1 := (HR6.out W (HL7.out.ch.trans hW)).2.2; rw [HQ4.out.2] at f1; go_simp; all_goals rfl)
     simp only [Act.put, List.setIfInBounds_toArray, List.set_cons_zero, List.set_cons_succ]
     refine wpAnyH_take (i := 9) (oi := ?oi308) (v := ?v308) ?hi308 (by kernel_rfl) (by kernel_rfl) (by kernel_rfl) ?hQ308 (Or.inl ⟨?hw308, ?hy308⟩) (by assumption) ?rest308
     case hi308 => simp only [List.getElem?_toArray, List.getElem?_cons_succ, List.getElem?_cons_zero]; rfl
     case hQ308 => exact fun _ _ _ h => h
     case hw308 => rfl
     case hy308 => (intro W hW; have f1 := (HR6.out W (HL7.out.ch.trans hW)).2.2; rw [HQ4.out.2] at f1; go_simp; all_goals rfl)
     simp only [Act.put, List.setIfInBounds_toArray, List.set_cons_zero, List.set_cons_succ]
     refine wpAnyH_take (i := 10) (oi := ?oi309) (v := ?v309) ?hi309 (by kernel_rfl) (by kernel_rfl) (by kernel_rfl) ?hQ309 (Or.inl ⟨?hw309, ?hy309⟩) (by assumption) ?rest309
     case hi309 => simp only [List.getElem?_toArray, List.getElem?_cons_succ, List.getElem?_cons_zero]; rfl
     case hQ309 => exact fun _ _ _ h => h
     case hw309 => rfl
     case hy309 => (intro W hW; have f1 := (HR6.out W (HL7.out.ch.trans hW)).2.2; rw [HQ4.out.2] at f1; go_simp; all_goals rfl)
     simp only [Act.put, List.setIfInBounds_toArray, List.set_cons_zero, List.set_cons_succ]
     refine wpAnyH_take (i := 11) (oi := ?oi310) (v := ?v310) ?hi310 (by kernel_rfl) (by kernel_rfl) (by kernel_rfl) ?hQ310 (Or.inl ⟨?hw310, ?hy310⟩) (by assumption) ?rest310
     case hi310 => simp only [List.getElem?_toArray, List.getElem?_cons_succ, List.getElem?_cons_zero]; rfl
     case hQ310 => exact fun _ _ _ h => h
     case hw310 => rfl
     case hy310 => (intro W hW; have f1 := (HR6.out W (HL7.out.ch.trans hW)).2.2; rw [HQ4.out.2] at f1; go_simp; all_goals rfl)
     simp only [Act.put, List.setIfInBounds_toArray, List.set_cons_zero, List.set_cons_succ]
     refine wpAnyH_take (i := 12) (oi := ?oi311) (v := ?v311) ?hi311 (by kernel_rfl) (by kernel_rfl) (by kernel_rfl) ?hQ311 (Or.inl ⟨?hw311, ?hy311⟩) (by assumption) ?rest311
     case hi311 => simp only [List.getElem?_toArray, List.getElem?_cons_succ, List.getElem?_cons_zero]; rfl
     case hQ311 => exact fun _ _ _ h => h
     case hw311 => rfl
     case hy311 => (intro W hW; have f1 := (HR6.out W (HL7.out.ch.trans hW)).2.2; rw [HQ4.out.2] at f1; go_simp; all_goals rfl)
     simp only [Act.put, List.setIfInBounds_toArray, List.set_cons_zero, List.set_cons_succ]
     refine wpAnyH_take (i := 13) (oi := ?oi312) (v := ?v312) ?hi312 (by kernel_rfl) (by kernel_rfl) (by kernel_rfl) ?hQ312 (Or.inl ⟨?hw312, ?hy312⟩) (by assumption) ?rest312
     case hi312 => simp only [List.getElem?_toArray, List.getElem?_cons_succ, List.getElem?_cons_zero]; rfl
     case hQ312 => exact fun _ _ _ h => h
     case hw312 => rfl
     case hy312 => (intro W hW; have f1 := (HR6.out W (HL7.out.ch.trans hW)).2.2; rw [HQ4.out.2] at f1; go_simp; all_goals rfl)
     simp only [Act.put, List.setIfInBounds_toArray, List.set_cons_zero, List.set_cons_succ]
     refine wpAnyH_take (i := 14) (oi := ?oi313) (v := ?v313) ?hi313 (by kernel_rfl) (by kernel_rfl) (by kernel_rfl) ?hQ313 (Or.inl ⟨?hw313, ?hy313⟩) (by assumption) ?rest313
     case hi313 => simp only [List.getElem?_toArray, List.getElem?_cons_succ, List.getElem?_cons_zero]; rfl
     case hQ313 => exact fun _ _ _ h => h
     case hw313 => rfl
     case hy313 => (intro W hW; have f1 := (HR6.out W (HL7.out.ch.trans hW)).2.2; rw [HQ4.out.2] at f1; go_simp; all_goals rfl)
     simp only [Act.put, List.setIfInBounds_toArray, List.set_cons_zero, List.set_cons_succ]
     refine wpAnyH_ready (rs := [2]) (by kernel_rfl) (by simp) ?_
     refine AllReadyH.cons (i := 2) (o := ?o314) ?ho314 (fun Kq hK => ?step314) AllReadyH.nil
     case ho314 => simp only [List.getElem?_toArray, List.getElem?_cons_succ, List.getElem?_cons_zero]; rfl
     go_simp
     (go_at_call 81; refine (refFixed_any w8 none 0 0 w8.heap.size S' 4 [] Rd.nil (by have := HS'.out.2; omega) (by omega) (by omega) (Nat.le_refl _)).mono ?_; rintro e w9 ⟨v5, rfl, hO5⟩)
     have HW9 : Hd (Chg [] w7 w9) := ⟨HW8.out.trans (Chg.of_below (hO5.below (by simp [Value.ownBlock]) (Nat.le_refl _)))⟩
     obtain ⟨A5, d5, hv5, _, _⟩ := own_form hO5.own
     subst hv5
     have f5 : (convert 26 9 (.slice A5 (0 + 4) d5)).run Try.prog w9 = .ok (.string (bstr (fx 4 S'))) w9 := conv_th (by have := Rd.of_own hO5.own; rwa [List.nil_append] at this)
     rw [Nat.zero_add] at f5
     obtain ⟨S3, hS3⟩ : ∃ s, bstr (fx 4 S') = s := ⟨_, rfl⟩
     rw [hS3] at f5
     have HS3 := Hd.mk hS3
     clear hS3 hO5
     try simp only [Nat.zero_add]
     refine hK.out _ _ HW9.out (fun _ => ?_)
     clear hK Kq
     try simp only [Act.put, List.setIfInBounds_toArray, List.set_cons_zero, List.set_cons_succ]
     refine wpAnyH_ready (rs := [3]) (by kernel_rfl) (by simp) ?_
     refine AllReadyH.cons (i := 3) (o := ?o315) ?ho315 (fun Kq hK => ?step315) AllReadyH.nil
     case ho315 => simp only [List.getElem?_toArray, List.getElem?_cons_succ, List.getElem?_cons_zero]; rfl
     go_simp
     skip
     try refine hK.out _ _ HW9.out (fun _ => ?_)
     clear hK Kq f5
     try simp only [Act.put, List.setIfInBounds_toArray, List.set_cons_zero, List.set_cons_succ]
     refine wpAnyH_take (i := 15) (oi := ?oi316) (v := ?v316) ?hi316 (by kernel_rfl) (by kernel_rfl) (by kernel_rfl) ?hQ316 (Or.inl ⟨?hw316, ?hy316⟩) (by assumption) ?rest316
     case hi316 => simp only [List.getElem?_toArray, List.getElem?_cons_succ, List.getElem?_cons_zero]; rfl
     case hQ316 => exact fun _ _ _ h => h
     case hw316 => rfl
     case hy316 => (intro W hW; have f1 := (HR6.out W (HL7.out.ch.trans hW)).2.2; rw [HQ4.out.2] at f1; go_simp; all_goals rfl)
     simp only [Act.put, List.setIfInBounds_toArray, List.set_cons_zero, List.set_cons_succ]
     refine wpAnyH_done (by kernel_rfl) ?_ _
     clear hHeld
     have hne : (S3.toList != S4.toList) = decide (S' ≠ q4) := by
      rw [← HS3.out, ← HQ4.out.2, ← HQ4.out.1]
      exact word_ne HS'.out.2 (seg_len (by have := HB.out.2.1; have := HA2.out; omega)) (seg_lt HB.out.2.2.1 (7 + N0) 4)
     have HL9 := Hd.mk (HL7.out.new HW9.out)
     clear e7w e11w eNw eMw eq2 s8 HW8 HW9 HL7
     by_cases e34 : S' = q4
     case neg =>
      have hneb : (!S3.toList == S4.toList) = true := hne.trans (decide_eq_true e34)
      rw [hneb]
      clear hne
      clear ePw eEw
      as_aux_lemma =>
       have hb2 := HL9.out.b2
       have c30 : w9.cell? ⟨g3, 0, none⟩ = some (.slice Aq lw cq) := by rw [cell_of_row w9 g3 0 _ _ (0, 0) HL9.out.b3]; rfl
       have c31 : w9.cell? ⟨g3, 1, none⟩ = some (.slice none 0 0) := by rw [cell_of_row w9 g3 1 _ _ (0, 0) HL9.out.b3]; rfl
       have HFIN : Hd (∀ w', Chg [g2, g3] w9 w' → ThDone askK w st (.returned (.agg #[(.slice Aq lw cq), (.slice none 0 0 : Value), .int .i64 302, .int .i64 0])) w') := ⟨fun w' bq => HL9.out.ends (hd := 0) (w' := w') bq (HST.out (ck_torn2 HE12.out HNO.out (by rw [HB.out.2.2.2.1, HB.out.2.1]; have := HA2.out; omega) (by rw [HB.out.2.2.2.1, HS'.out.1, HQ4.out.1]; exact e34)) (by decide))⟩
       try clear HT
       try clear HW
       try clear HLN
       try clear HRD
       try clear HTS
       try clear HB
       try clear HA
       try clear HE
       try clear HQ
       try clear HS5
       try clear HL5
       try clear HST
       try clear HE12
       try clear HBB
       try clear HOW
       try clear HNO
       try clear HNK
       try clear HSU
       try clear HR6
       try clear HA2
       try clear HEW
       try clear HS6
       try clear HD7
       try clear HL6
       try clear HM7
       try clear HS'
       try clear HL7
       try clear HQ4
       try clear HS3
       try clear HL9
       try clear HCK
       try clear HC
       try clear HK1
       try clear HL10
       try clear HWC
       try clear HSZ
       try clear HCH0
       try clear HL11
       try clear HSZ2
       try clear HNE
       try clear HCH
       try clear HX
       try clear H12
       try clear HB12
       try clear HC0
       try clear HW1
       try clear HW2
       try clear HW4
       try clear HW5
       try clear HN
       try clear HNC
       try clear H0
       try clear HG1
       try clear HGG
       try clear HRC
       try clear hfew
       try clear han
       try clear hwha
       try clear hkk
       try clear hn
       try clear hl7b
       try clear e12
       try clear e34
       try clear hod
       try clear hneb
       try clear hN1
       try clear hlen
       try clear ian
       try clear iann
       try clear hNl
       try clear hb0l
       try clear hB11
       try clear HCS
       try clear hv0
       try clear hv1
       try clear HCU
       try clear HD3
       try clear hb0l
       try clear HB13
       try clear HC13
       try clear HB23
       try clear HW14
       try clear hwn
       go_wp2_with (refine at_store (x := .tmp 2) ?_; refine wpList_stored rfl 63 (.tmp 2) (.tmp 150) rfl g2 #[(.slice Aq lw cq), (.slice none 0 0 : Value), .int .i64 302, .int .i64 0] rfl rfl 63 _ hb2 infoRead4 rfl (by simp [Value.oneCell']) ?_; intro w9 hB9)
       (try simp only [Exit.inBlock, Exit.then])
       refine bodyPost_ret (results_cell1 rfl _ _ g2 63 #[(.slice Aq lw cq), (.slice none 0 0 : Value), .int .i64 302, .int .i64 0] (0, 0) _ rfl hB9.out.1 Try.underlying63 rfl infoRead4) rfl ?_
       exact HFIN.out w9 ((Chg.of_grown hB9.out.2.1).mono (by intro k hk _; simp at hk; simp [hk]))
     have hneb : (!S3.toList == S4.toList) = false := hne.trans (decide_eq_false (fun h => h e34))
     rw [hneb]
     clear hne
     have HCK : Hd (ckP S k (st.drop a) = .ok B2 N0) := ⟨by
      have h := ck_ok (s := S) HE12.out HNO.out (by rw [HB.out.2.2.2.1, HB.out.2.1]; have := HA2.out; omega) (by rw [HB.out.2.2.2.1, HS'.out.1, HQ4.out.1]; exact e34)
      rw [HB.out.2.2.2.1, HB.out.2.2.2.2, HBB.out.1] at h
      rw [HB.out.1]; exact h⟩
     clear e34
     rcases hB2c : B2 with _ | _
     ·skip
      as_aux_lemma =>
       have HC : Hd (ckP S k (st.drop a) = .ok false N0) := ⟨hB2c ▸ HCK.out⟩
       have HK1 := Hd.mk (HNK.out.2.2.2 hB2c)
       subst hB2c
       go_wp2_with fail
       go_roundw
       case rel =>
        refine ⟨m7, S', k + 1, p + (N0 + 11), aE, wh, _, _, ws, xs, rfl, rfl, by go_num, rfl, rfl, ?_, HL9.out, by have := HK1.out; omega, by have := HM7.out; have := HA2.out; have := HLN.out; omega, HS'.out.2⟩
        have h := HT.out.more HC.out
        unfold Mid.next at h
        simp only [HB.out.1, HM7.out.1, HS'.out.1] at h
        have e : a + N0 + 11 = aE := by have := HA2.out; omega
        rwa [e] at h
       case measure => simp [intOf]; have := HA2.out; omega
     ·skip
      have HC : Hd (ckP S k (st.drop a) = .ok true N0) := ⟨hB2c ▸ HCK.out⟩
      subst hB2c
      have c10 : w9.cell? ⟨g1, 0, none⟩ = some (.bool false) := by rw [cell_of_row w9 g1 0 _ _ (0, 0) HL9.out.b1]; exact HRC.out.1
      go_wp2_with fail
      refine (rreq_any w9 A7 l7 d7 w9.heap.size m7 (by have h := HL9.out.co; rw [HM7.out.2] at h; exact Rd.of_own h) (Nat.le_refl _) (by omega) HL9.out.lb).mono ?_
      rintro e w10 ⟨W0, ok, rfl, hch, hlen, hone, hcase⟩
      have HL10 := Hd.mk (HL9.out.new hch)
      have HWC : Hd (W0.cells.length = 8 ∧ W0.cells.toArray.all (·.oneCell') = true ∧ ∀ u ∈ W0.cells, u.oneCell' = true) := ⟨hlen, hone, (Wm_cells ⟨hlen, hone⟩).2⟩
      clear ePw eEw
      have HSZ := Hd.mk hch.size
      have HCH0 := Hd.mk hch
      have HCS := Hd.mk hcase
      clear hch hlen hone hcase c10 hneb
      go_upto_region 29 with (refine at_store (x := .tmp 15) ?_; refine wpList_boxed rfl 28 (.tmp 15) (.tmp 174) rfl w10.heap.size rfl W0.cells.toArray rfl rfl (by rw [infoRq8]; simp [HWC.out.1]) (by simp [HWC.out.1]) HWC.out.2.1 ?_; intro w11 hB11)
      have HL11 := Hd.mk (HL10.out.new (Chg.of_below hB11.out.2.1))
      have HSZ2 : Hd (w9.heap.size ≤ w11.heap.size ∧ w10.heap.size ≤ w11.heap.size) := ⟨by have := hB11.out.2.2; have := HSZ.out; omega, by have := hB11.out.2.2; omega⟩
      obtain ⟨gb, hgb⟩ : ∃ q, w10.heap.size = q := ⟨_, rfl⟩
      rw [hgb] at hB11 ⊢
      have c3I : w11.cell? ⟨g3, 0, none⟩ = some (.slice Aq lw cq) := by rw [cell_of_row w11 g3 0 _ _ (0, 0) HL11.out.b3]; rfl
      have HNE : Hd ((Value.slice Aq lw cq).ownBlock ≠ some g3) := ⟨fun e => by have := (HL11.out.qu.lt e).1; have := HL11.out.lo; omega⟩
      have HCH : Hd (Chg [] w10 w11) := ⟨Chg.of_below (by rw [hgb]; exact hB11.out.2.1)⟩
      clear hgb
      rcases HCS.out with ⟨x0, hok, hrd, his, hWok⟩ | ⟨hok, hrd⟩
      ·skip
       as_aux_lemma =>
        subst hok
        have HX := Hd.mk (And.intro hrd (And.intro his hWok))
        clear hrd his hWok HCS
        go_wp2_with (refine at_load (x := .tmp 15) ?_; refine wpList_load_row rfl 28 (.tmp 15) rfl gb rfl 28 W0.cells.toArray (0, 0) _ hB11.out.1 Try.underlying28 rfl (by rw [infoRq8]; simp [HWC.out.1]) ?_; refine wpList_qpush elRq rfl rfl (.tmp 178) (.tmp 179) 180 rfl rfl rfl (.slice Aq lw cq) ws W0 rfl ⟨HWC.out.1, HWC.out.2.2⟩ rfl rfl HL11.out.qu (by rw [HLN.out.2.1]; omega) (by rw [HLN.out.2.1]; omega) HL11.out.nn ?_; intro v' w12 hq3 hg3' hn3; obtain ⟨A9, c9, hv9, _⟩ := hq3.form; rw [List.length_append, HLN.out.2.1] at hv9; change v' = .slice A9 (lw + 1) c9 at hv9; subst hv9; have H12 := Hd.mk (And.intro hq3 (And.intro hg3' hn3)); have hbl3 : w12.heap[g3]? = some (.cells (thR false (.slice Aq lw cq) 0 0).toArray 63) := (hg3'.block g3 HL11.out.lt3 (fun e => HNE.out e.symm)).trans HL11.out.b3; have HB12 := Hd.mk hbl3; have d3 : w12.cell? ⟨g3, 0, none⟩ = some (.slice Aq lw cq) := (by rw [cell_of_row _ g3 0 _ _ (0, 0) hbl3]; rfl); have z3 : w12.frozen? ⟨g3, 0, none⟩ = false := (by simp [World.frozen?, hbl3]); clear hq3 hg3' hn3 hbl3 c3I)
        go_roundw
        case rel =>
         have h1 := HL9.out.more (x0 := x0) (HCH0.out.trans HCH.out) H12.out.1 H12.out.2.1 H12.out.2.2 (Nat.le_succ _) (HX.out.2.2.chg HCH.out (fun _ _ _ _ => List.not_mem_nil)) (Nat.le_refl _) HX.out.2.1
         have h2 := HT.out.some HC.out (x := x0) (by unfold Mid.next; simp only [HB.out.1, HM7.out.1]; exact HX.out.1)
         have e : a + N0 + 11 = aE := by have := HA2.out; omega
         rw [e] at h2
         exact ⟨[], 0, 0, 0, aE, aE, _, _, ws ++ [W0], xs ++ [x0], rfl, rfl, rfl, rfl, rfl, h2, h1.drop, by decide, by decide, by decide⟩
        case measure => simp [intOf]; have := HA2.out; omega
      ·skip
       as_aux_lemma =>
        subst hok
        have HX := Hd.mk hrd
        clear hrd HCS
        go_upto_region 31 with (refine at_load (x := .tmp 15) ?_; refine wpList_load_row rfl 28 (.tmp 15) rfl gb rfl 28 W0.cells.toArray (0, 0) _ hB11.out.1 Try.underlying28 rfl (by rw [infoRq8]; simp [HWC.out.1]) ?_; refine wpList_qpush elRq rfl rfl (.tmp 178) (.tmp 179) 180 rfl rfl rfl (.slice Aq lw cq) ws W0 rfl ⟨HWC.out.1, HWC.out.2.2⟩ rfl rfl HL11.out.qu (by rw [HLN.out.2.1]; omega) (by rw [HLN.out.2.1]; omega) HL11.out.nn ?_; intro v' w12 hq3 hg3' hn3; obtain ⟨A9, c9, hv9, _⟩ := hq3.form; rw [List.length_append, HLN.out.2.1] at hv9; change v' = .slice A9 (lw + 1) c9 at hv9; subst hv9; have H12 := Hd.mk (And.intro hq3 (And.intro hg3' hn3)); have hbl3 : w12.heap[g3]? = some (.cells (thR false (.slice Aq lw cq) 0 0).toArray 63) := (hg3'.block g3 HL11.out.lt3 (fun e => HNE.out e.symm)).trans HL11.out.b3; have HB12 := Hd.mk hbl3; have d3 : w12.cell? ⟨g3, 0, none⟩ = some (.slice Aq lw cq) := (by rw [cell_of_row _ g3 0 _ _ (0, 0) hbl3]; rfl); have z3 : w12.frozen? ⟨g3, 0, none⟩ = false := (by simp [World.frozen?, hbl3]); clear hq3 hg3' hn3 hbl3 c3I)
        obtain ⟨w13, hw13⟩ : ∃ U, w12.setCell ⟨g3, 0, none⟩ (.slice A9 (lw + 1) c9) = U := ⟨_, rfl⟩
        rw [hw13]
        have HB13 : Hd (w13.heap[g3]? = some (.cells #[(.slice A9 (lw + 1) c9), (.slice none 0 0 : Value), .int .i64 0, .int .i64 0] 63)) := ⟨by rw [← hw13, heap_set w12 g3 0 _ _ _ HB12.out]; rfl⟩
        have HC13 : Hd (Chg [g3] w12 w13) := ⟨by rw [← hw13]; exact (Chg.refl _ _).setCell (by simp) _⟩
        have HB23 : Hd (w13.heap[g2]? = some (.cells #[.slice none 0 0, .slice none 0 0, .int .i64 0, .int .i64 0] 63)) := ⟨by
         have := HL11.out.lo
         rw [HC13.out.block g2 (by have := HL11.out.lt2; have := H12.out.2.1.size; omega) (by simp; omega), H12.out.2.1.block g2 HL11.out.lt2 (fun e => by have := (HL11.out.qu.lt e.symm).1; omega)]
         exact HL11.out.b2⟩
        have d30 : w13.cell? ⟨g3, 0, none⟩ = some (.slice A9 (lw + 1) c9) := by rw [cell_of_row _ g3 0 _ _ (0, 0) HB13.out]; rfl
        have d31 : w13.cell? ⟨g3, 1, none⟩ = some (.slice none 0 0) := by rw [cell_of_row _ g3 1 _ _ (0, 0) HB13.out]; rfl
        clear hw13 d3 z3
        have HD3 : Hd (∀ W, Chg [g2] w13 W → W.cell? ⟨g3, 0, none⟩ = some (.slice A9 (lw + 1) c9) ∧ W.cell? ⟨g3, 1, none⟩ = some (.slice none 0 0)) := ⟨fun W b => by
         have h3 : g3 < w13.heap.size := (Array.getElem?_eq_some_iff.1 HB13.out).1
         have hn : g3 ∉ [g2] := by have := HL11.out.lo; simp; omega
         exact ⟨(b.cell (p := ⟨g3, 0, none⟩) h3 hn).trans d30, (b.cell (p := ⟨g3, 1, none⟩) h3 hn).trans d31⟩⟩
        have hlm : IntKind.i64.wrap (((lw : Int) + 1) - 1) = (lw : Int) := by rw [IntKind.wrap_i64]; omega
        have hlm0 : ¬ (lw : Int) < 0 := by omega
        have HCU : Hd (∀ W, (Instr.slice 55 (.slice A9 (lw + 1) c9) none (some (.int .i64 (lw : Int))) none).run Try.prog W = .ok (.slice A9 lw c9) W) := ⟨fun W => run_cut_toN elRq A9 (lw + 1) c9 lw (by
         obtain ⟨_, _, h1, h2⟩ := H12.out.1.form
         injection h1 with e1 e2 e3
         rw [List.length_append, HLN.out.2.1] at h2; simp at h2; omega)⟩
        go_upto_region 34 with fail
        clear d30 d31
        refine wp_region_held_drew (S := fun W => Chg [g2] w13 W) (by kernel_rfl) (Chg.refl [g2] w13).drew (fun hHeld => ?_)
        have HB14 : Hd (w13.drew.heap[g2]? = some (.cells #[.slice none 0 0, .slice none 0 0, .int .i64 0, .int .i64 0] 63)) := ⟨HB23.out⟩
        obtain ⟨w14, hw14⟩ : ∃ U, w13.drew = U := ⟨_, rfl⟩
        rw [hw14] at HB14 hHeld ⊢
        have HW14 := Hd.mk hHeld
        clear hw14
        refine wpAnyH_take (i := 0) (oi := ?oi401) (v := ?v401) ?hi401 (by kernel_rfl) (by kernel_rfl) (by kernel_rfl) ?hQ401 (Or.inl ⟨?hw401, ?hy401⟩) (by assumption) ?rest401
        case hi401 => simp only [List.getElem?_toArray, List.getElem?_cons_succ, List.getElem?_cons_zero]; rfl
        case hQ401 => exact fun _ _ _ h => h
        case hw401 => rfl
        case hy401 => (intro W hW; go_simp; all_goals rfl)
        simp only [Act.put, List.setIfInBounds_toArray, List.set_cons_zero, List.set_cons_succ]
        refine wpAnyH_take (i := 1) (oi := ?oi402) (v := ?v402) ?hi402 (by kernel_rfl) (by kernel_rfl) (by kernel_rfl) ?hQ402 (Or.inl ⟨?hw402, ?hy402⟩) (by assumption) ?rest402
        case hi402 => simp only [List.getElem?_toArray, List.getElem?_cons_succ, List.getElem?_cons_zero]; rfl
        case hQ402 => exact fun _ _ _ h => h
        case hw402 => rfl
        case hy402 => (intro W hW; have f1 := (HD3.out W hW).1; go_simp; all_goals rfl)
        simp only [Act.put, List.setIfInBounds_toArray, List.set_cons_zero, List.set_cons_succ]
        refine wpAnyH_take (i := 2) (oi := ?oi403) (v := ?v403) ?hi403 (by kernel_rfl) (by kernel_rfl) (by kernel_rfl) ?hQ403 (Or.inl ⟨?hw403, ?hy403⟩) (by assumption) ?rest403
        case hi403 => simp only [List.getElem?_toArray, List.getElem?_cons_succ, List.getElem?_cons_zero]; rfl
        case hQ403 => exact fun _ _ _ h => h
        case hw403 => rfl
        case hy403 => (intro W hW; go_simp; all_goals rfl)
        simp only [Act.put, List.setIfInBounds_toArray, List.set_cons_zero, List.set_cons_succ]
        refine wpAnyH_take (i := 3) (oi := ?oi404) (v := ?v404) ?hi404 (by kernel_rfl) (by kernel_rfl) (by kernel_rfl) ?hQ404 (Or.inl ⟨?hw404, ?hy404⟩) (by assumption) ?rest404
        case hi404 => simp only [List.getElem?_toArray, List.getElem?_cons_succ, List.getElem?_cons_zero]; rfl
        case hQ404 => exact fun _ _ _ h => h
        case hw404 => rfl
        case hy404 => (intro W hW; go_simp; all_goals rfl)
        simp only [Act.put, List.setIfInBounds_toArray, List.set_cons_zero, List.set_cons_succ]
        refine wpAnyH_take (i := 4) (oi := ?oi405) (v := ?v405) ?hi405 (by kernel_rfl) (by kernel_rfl) (by kernel_rfl) ?hQ405 (Or.inl ⟨?hw405, ?hy405⟩) (by assumption) ?rest405
        case hi405 => simp only [List.getElem?_toArray, List.getElem?_cons_succ, List.getElem?_cons_zero]; rfl
        case hQ405 => exact fun _ _ _ h => h
        case hw405 => rfl
        case hy405 => (intro W hW; have f3 := HCU.out W; go_simp; all_goals rfl)
        simp only [Act.put, List.setIfInBounds_toArray, List.set_cons_zero, List.set_cons_succ]
        refine wpAnyH_take (i := 5) (oi := ?oi406) (v := ?v406) ?hi406 (by kernel_rfl) (by kernel_rfl) (by kernel_rfl) ?hQ406 (Or.inl ⟨?hw406, ?hy406⟩) (by assumption) ?rest406
        case hi406 => simp only [List.getElem?_toArray, List.getElem?_cons_succ, List.getElem?_cons_zero]; rfl
        case hQ406 => exact fun _ _ _ h => h
        case hw406 => rfl
        case hy406 => (intro W hW; go_simp; all_goals rfl)
        simp only [Act.put, List.setIfInBounds_toArray, List.set_cons_zero, List.set_cons_succ]
        refine wpAnyH_take (i := 6) (oi := ?oi407) (v := ?v407) ?hi407 (by kernel_rfl) (by kernel_rfl) (by kernel_rfl) ?hQ407 (Or.inl ⟨?hw407, ?hy407⟩) (by assumption) ?rest407
        case hi407 => simp only [List.getElem?_toArray, List.getElem?_cons_succ, List.getElem?_cons_zero]; rfl
        case hQ407 => exact fun _ _ _ h => h
        case hw407 => rfl
        case hy407 => (intro W hW; have f2 := (HD3.out W hW).2; go_simp; all_goals rfl)
        simp only [Act.put, List.setIfInBounds_toArray, List.set_cons_zero, List.set_cons_succ]
        refine wpAnyH_take (i := 7) (oi := ?oi408) (v := ?v408) ?hi408 (by kernel_rfl) (by kernel_rfl) (by kernel_rfl) ?hQ408 (Or.inl ⟨?hw408, ?hy408⟩) (by assumption) ?rest408
        case hi408 => simp only [List.getElem?_toArray, List.getElem?_cons_succ, List.getElem?_cons_zero]; rfl
        case hQ408 => exact fun _ _ _ h => h
        case hw408 => rfl
        case hy408 => (intro W hW; go_simp; all_goals rfl)
        simp only [Act.put, List.setIfInBounds_toArray, List.set_cons_zero, List.set_cons_succ]
        refine wpAnyH_take (i := 8) (oi := ?oi409) (v := ?v409) ?hi409 (by kernel_rfl) (by kernel_rfl) (by kernel_rfl) ?hQ409 (Or.inl ⟨?hw409, ?hy409⟩) (by assumption) ?rest409
        case hi409 => simp only [List.getElem?_toArray, List.getElem?_cons_succ, List.getElem?_cons_zero]; rfl
        case hQ409 => exact fun _ _ _ h => h
        case hw409 => rfl
        case hy409 => (intro W hW; go_simp; all_goals rfl)
        simp only [Act.put, List.setIfInBounds_toArray, List.set_cons_zero, List.set_cons_succ]
        refine wpAnyH_take (i := 9) (oi := ?oi410) (v := ?v410) ?hi410 (by kernel_rfl) (by kernel_rfl) (by kernel_rfl) ?hQ410 (Or.inl ⟨?hw410, ?hy410⟩) (by assumption) ?rest410
        case hi410 => simp only [List.getElem?_toArray, List.getElem?_cons_succ, List.getElem?_cons_zero]; rfl
        case hQ410 => exact fun _ _ _ h => h
        case hw410 => rfl
        case hy410 => (intro W hW; have f3 := HCU.out W; go_simp; all_goals rfl)
        simp only [Act.put, List.setIfInBounds_toArray, List.set_cons_zero, List.set_cons_succ]
        refine wpAnyH_take (i := 10) (oi := ?oi411) (v := ?v411) ?hi411 (by kernel_rfl) (by kernel_rfl) (by kernel_rfl) ?hQ411 (Or.inl ⟨?hw411, ?hy411⟩) (by assumption) ?rest411
        case hi411 => simp only [List.getElem?_toArray, List.getElem?_cons_succ, List.getElem?_cons_zero]; rfl
        case hQ411 => exact fun _ _ _ h => h
        case hw411 => rfl
        case hy411 => (intro W hW; go_simp; all_goals rfl)
        simp only [Act.put, List.setIfInBounds_toArray, List.set_cons_zero, List.set_cons_succ]
        refine wpAnyH_ready (rs := [11]) (by kernel_rfl) (by simp) ?_
        refine AllReadyH.cons (i := 11) (o := ?oS34) ?hoS34 (fun Kq hK => ?stepS34) AllReadyH.nil
        case hoS34 => simp only [List.getElem?_toArray, List.getElem?_cons_succ, List.getElem?_cons_zero]; rfl
        refine step_store rfl 63 (.tmp 2) (.tmp 203) rfl g2 #[(.slice A9 lw c9), (.slice none 0 0 : Value), .int .i64 300, .int .i64 0] rfl rfl 63 _ HB14.out infoRead4 rfl (by simp [Value.oneCell']) ?_
        intro w15 hs15 hg15
        have hF : Chg [g2] w13 w15 := HW14.out.trans (Chg.of_grown hg15)
        have HS15 := Hd.mk (And.intro hs15 hF)
        refine hK.out _ _ hF (fun _ => ?_)
        clear hK Kq hs15 hg15 hF
        try simp only [Act.put, List.setIfInBounds_toArray, List.set_cons_zero, List.set_cons_succ]
        refine wpAnyH_done (by kernel_rfl) ?_ _
        clear hlm hlm0
        have HFIN : Hd (∀ w', Chg [g2, g3] w12 w' → ThDone askK w st (.returned (.agg #[(.slice A9 lw c9), (.slice none 0 0 : Value), .int .i64 300, .int .i64 0])) w') := ⟨fun w' bq => HL11.out.ends1 (w' := w') (Chg.refl [] w11) H12.out.1 H12.out.2.1 bq HLN.out.2.1 (HT.out.none HC.out (by unfold Mid.next; simp only [HB.out.1, HM7.out.1]; exact HX.out))⟩
        have HCF : Hd (Chg [g2, g3] w12 w15) := ⟨(HC13.out.mono (by intro k hk _; simp at hk; simp [hk])).trans (HS15.out.2.mono (by intro k hk _; simp at hk; simp [hk]))⟩
        try clear HT
        try clear HW
        try clear HLN
        try clear HRD
        try clear HTS
        try clear HB
        try clear HA
        try clear HE
        try clear HQ
        try clear HS5
        try clear HL5
        try clear HST
        try clear HE12
        try clear HBB
        try clear HOW
        try clear HNO
        try clear HNK
        try clear HSU
        try clear HR6
        try clear HA2
        try clear HEW
        try clear HS6
        try clear HD7
        try clear HL6
        try clear HM7
        try clear HS'
        try clear HL7
        try clear HQ4
        try clear HS3
        try clear HL9
        try clear HCK
        try clear HC
        try clear HK1
        try clear HL10
        try clear HWC
        try clear HSZ
        try clear HCH0
        try clear HL11
        try clear HSZ2
        try clear HNE
        try clear HCH
        try clear HX
        try clear H12
        try clear HB12
        try clear HC0
        try clear HW1
        try clear HW2
        try clear HW4
        try clear HW5
        try clear HN
        try clear HNC
        try clear H0
        try clear HG1
        try clear HGG
        try clear HRC
        try clear hfew
        try clear han
        try clear hwha
        try clear hkk
        try clear hn
        try clear hl7b
        try clear e12
        try clear e34
        try clear hod
        try clear hneb
        try clear hN1
        try clear hlen
        try clear ian
        try clear iann
        try clear hNl
        try clear hb0l
        try clear hB11
        try clear HCS
        try clear hv0
        try clear hv1
        try clear HCU
        try clear HD3
        try clear hb0l
        try clear HB13
        try clear HC13
        try clear HB23
        try clear HW14
        try clear hwn
        clear hHeld
        simp only [Exit.then]
        apply_assumption
        apply wp_ret
        (try simp only [Exit.inBlock, Exit.then])
        refine bodyPost_ret (results_cell1 rfl _ _ g2 63 #[(.slice A9 lw c9), (.slice none 0 0 : Value), .int .i64 300, .int .i64 0] (0, 0) _ rfl HS15.out.1 Try.underlying63 rfl infoRead4) rfl ?_
        exact HFIN.out w15 HCF.out
  ·skip
   as_aux_lemma =>
    have h7i : ¬ (7 : Int) ≤ (n : Int) - (a : Int) := by omega
    have hsubw : IntKind.i64.wrap ((n : Int) - (wh : Int)) = ((n - wh : Nat) : Int) := by rw [IntKind.wrap_i64]; omega
    have hsubW : wrap64 ((n : Int) - (wh : Int)) = ((n - wh : Nat) : Int) := by unfold wrap64; omega
    have c33 : wr.cell? ⟨g3, 3, none⟩ = some (.int .i64 0) := by rw [cell_of_row wr g3 3 _ _ (0, 0) HW.out.b3]; rfl
    have z33 : wr.frozen? ⟨g3, 3, none⟩ = false := by simp [World.frozen?, HW.out.b3]
    have HFIN : Hd (∀ w', Chg [g2, g3] wr w' → ThDone askK w st (.returned (.agg #[(.slice Aq lw cq), (.slice none 0 0 : Value), .int .i64 0, .int .i64 ((n - wh : Nat) : Int)])) w') := ⟨fun w' bq => HW.out.ends (w' := w') bq (by have h := HT.out.wait (ck_short (by rw [List.length_drop, HN.out]; omega)); rw [HN.out] at h; exact h)⟩
    have HFB : Hd (wr.heap[g3]? = some (.cells #[(.slice Aq lw cq), (.slice none 0 0 : Value), .int .i64 0, .int .i64 0] 63) ∧ wr.heap[g2]? = some (.cells #[.slice none 0 0, .slice none 0 0, .int .i64 0, .int .i64 0] 63) ∧ g2 ≠ g3) := ⟨HW.out.b3, HW.out.b2, by have := HW.out.lo; omega⟩
    have hsub : IntKind.i64.wrap ((n : Int) - (a : Int)) = (n : Int) - (a : Int) := by clear hsubw hsubW; rw [IntKind.wrap_i64]; omega
    try clear HT
    try clear HW
    try clear HLN
    try clear HRD
    try clear HTS
    try clear HB
    try clear HA
    try clear HE
    try clear HQ
    try clear HS5
    try clear HL5
    try clear HST
    try clear HE12
    try clear HBB
    try clear HOW
    try clear HNO
    try clear HNK
    try clear HSU
    try clear HR6
    try clear HA2
    try clear HEW
    try clear HS6
    try clear HD7
    try clear HL6
    try clear HM7
    try clear HS'
    try clear HL7
    try clear HQ4
    try clear HS3
    try clear HL9
    try clear HCK
    try clear HC
    try clear HK1
    try clear HL10
    try clear HWC
    try clear HSZ
    try clear HCH0
    try clear HL11
    try clear HSZ2
    try clear HNE
    try clear HCH
    try clear HX
    try clear H12
    try clear HB12
    try clear HC0
    try clear HW1
    try clear HW2
    try clear HW4
    try clear HW5
    try clear HN
    try clear HNC
    try clear H0
    try clear HG1
    try clear HGG
    try clear HRC
    try clear hfew
    try clear han
    try clear hwha
    try clear hkk
    try clear hn
    try clear hl7b
    try clear e12
    try clear e34
    try clear hod
    try clear hneb
    try clear hN1
    try clear hlen
    try clear ian
    try clear iann
    try clear hNl
    try clear hb0l
    try clear hB11
    try clear HCS
    try clear hv0
    try clear hv1
    try clear HCU
    try clear HD3
    try clear hb0l
    try clear HB13
    try clear HC13
    try clear HB23
    try clear HW14
    try clear hwn
    go_upto_region 40 with fail
    obtain ⟨wf, hwf⟩ : ∃ U, wr.setCell ⟨g3, 3, none⟩ (.int .i64 ((n - wh : Nat) : Int)) = U := ⟨_, rfl⟩
    try simp only [hsubw, hsubW]
    rw [hwf]
    have HF3 : Hd (wf.heap[g3]? = some (.cells #[(.slice Aq lw cq), (.slice none 0 0 : Value), .int .i64 0, .int .i64 ((n - wh : Nat) : Int)] 63)) := ⟨by rw [← hwf, heap_set wr g3 3 _ _ _ HFB.out.1]; rfl⟩
    have HF2 : Hd (wf.heap[g2]? = some (.cells #[.slice none 0 0, .slice none 0 0, .int .i64 0, .int .i64 0] 63)) := ⟨by rw [← hwf, Below.heap_setCell _ _ _ _ HFB.out.2.2]; exact HFB.out.2.1⟩
    have HFC : Hd (Chg [g2, g3] wr wf) := ⟨by rw [← hwf]; exact (Chg.refl _ _).setCell (by simp) _⟩
    clear hwf c33 z33
    go_wp2_with (first | (refine at_load (x := .tmp 3) ?_; refine wpList_load_row rfl 63 (.tmp 3) rfl g3 rfl 63 #[(.slice Aq lw cq), (.slice none 0 0 : Value), .int .i64 0, .int .i64 ((n - wh : Nat) : Int)] (0, 0) _ HF3.out Try.underlying63 rfl infoRead4 ?_) | (refine at_store (x := .tmp 2) ?_; refine wpList_stored rfl 63 (.tmp 2) (.tmp 210) rfl g2 #[(.slice Aq lw cq), (.slice none 0 0 : Value), .int .i64 0, .int .i64 ((n - wh : Nat) : Int)] rfl rfl 63 _ HF2.out infoRead4 rfl (by simp [Value.oneCell']) ?_; intro w9 hB9))
    (try simp only [Exit.inBlock, Exit.then])
    refine bodyPost_ret (results_cell1 rfl _ _ g2 63 #[(.slice Aq lw cq), (.slice none 0 0 : Value), .int .i64 0, .int .i64 ((n - wh : Nat) : Int)] (0, 0) _ rfl hB9.out.1 Try.underlying63 rfl infoRead4) rfl ?_
    exact HFIN.out w9 (HFC.out.trans ((Chg.of_grown hB9.out.2.1).mono (by intro k hk _; simp at hk; simp [hk])))
end Go.Proofs.Ytbcmjjcbjojakaa
