/- Put together of: DpuW NonX. -/
import Derived.Test.YtbcmjjcbjojakaaPk13
import Derived.Deep.MidRow
section
namespace Go.Proofs.Ytbcmjjcbjojakaa
open Go.RowKit
set_option linter.unusedVariables false
set_option linter.unusedSimpArgs false
theorem range_of_box {w : World} {g t : Nat} {cs : List Value} (h : w.heap[g]? = some (.cells cs.toArray t (0, 0))) : w.rangeAt g 0 cs := fun j v hj => by
 rw [Nat.zero_add, cell_of_row w g j _ _ (0, 0) h]; simpa using hj
theorem one4 {a b c d : Value} (ha : a.oneCell' = true) (hb : b.oneCell' = true) (hc : c.oneCell' = true) (hd : d.oneCell' = true) : (#[a, b, c, d] : Array Value).all (·.oneCell') = true := by simp [ha, hb, hc, hd]
theorem one7 {a b c d e f g : Value} (ha : a.oneCell' = true) (hb : b.oneCell' = true) (hc : c.oneCell' = true) (hd : d.oneCell' = true) (he : e.oneCell' = true) (hf : f.oneCell' = true) (hg : g.oneCell' = true) : (#[a, b, c, d, e, f, g] : Array Value).all (·.oneCell') = true := by simp [ha, hb, hc, hd, he, hf, hg]
theorem there_of_box {w : World} {g t : Nat} {cs : Array Value} (h : w.heap[g]? = some (.cells cs t (0, 0))) (o k : Nat) (hl : o + k ≤ cs.size) : w.there g o k := fun j hj =>
 ⟨by rw [cell_of_row w g (o + j) _ _ (0, 0) h]; simp; omega, by simp [World.frozen?, h]⟩
set_option maxRecDepth 20000 in
set_option maxHeartbeats 16000000 in
theorem dpush_any {T : Type} (Z : Kd T) (HTL : ThruLaw Z) (w : World) (b0 : Nat) (vs r0 r1 : Value) (hd : Nat) (held : Int) (st : List Nat) (so : w.ownsRow b0 5 1 vs st.length (cb st)) (lb : ∀ x ∈ st, x < 256) (A : Option Addr) (n cp : Nat) (bs : List Nat) (hr : Rd w w.heap.size A n (cb bs)) (hb : ∀ x ∈ bs, x < 256) (hn : st.length + n ≤ 67108864) (h0 : r0.oneCell' = true) (h1 : r1.oneCell' = true) :
  Calls Try.prog 71 #[.agg #[.bool Z.ans, vs, .int .i64 (hd : Int), r0, r1, .int .i64 0, .int .i64 held], .slice A n cp] w (DpPost Z w hd (st ++ bs)) := by
 have hbl : bs.length = n := by have := hr.1; rwa [cb_length] at this
 obtain ⟨As, cs, hvs, hcs, _⟩ := own_form so
 subst hvs
 have H0 : Hd (Rd w w.heap.size As st.length (cb st) ∧ (∀ x ∈ st, x < 256) ∧ Rd w w.heap.size A n (cb bs) ∧ (∀ x ∈ bs, x < 256) ∧ bs.length = n) := ⟨Rd.of_own so, lb, hr, hb, hbl⟩
 have HTH := Hd.mk HTL
 obtain ⟨ns, hns⟩ : ∃ q, st.length = q := ⟨_, rfl⟩
 rw [hns] at H0 hn ⊢
 have HNS := Hd.mk hns
 obtain ⟨RC, hRC⟩ : ∃ R : Array Value, #[.bool Z.ans, .slice As ns cs, .int .i64 (hd : Int), r0, r1, .int .i64 0, .int .i64 held] = R := ⟨_, rfl⟩
 have HRC : Hd (RC[0]? = some (.bool Z.ans) ∧ RC[1]? = some (.slice As ns cs) ∧ RC[2]? = some (.int .i64 (hd : Int)) ∧ RC[5]? = some (.int .i64 0)) := ⟨by rw [← hRC]; exact ⟨rfl, rfl, rfl, rfl⟩⟩
 obtain ⟨g2, hg2⟩ : ∃ g, w.heap.size = g := ⟨_, rfl⟩
 obtain ⟨g4, hg4⟩ : ∃ g, g2 + 1 = g := ⟨_, rfl⟩
 obtain ⟨w1, hw1⟩ : ∃ U, (w.alloc (.cells RC 65)).alloc (.cells #[.bool false, .slice none 0 0, .int .i64 0, .slice none 0 0, .slice none 0 0, .int .i64 0, .int .i64 0] 65) = U := ⟨_, rfl⟩
 have HB : Hd (w1.heap[g2]? = some (.cells RC 65) ∧ w1.heap[g4]? = some (.cells #[.bool false, .slice none 0 0, .int .i64 0, .slice none 0 0, .slice none 0 0, .int .i64 0, .int .i64 0] 65) ∧ Below w.heap.size w w1 ∧ w1.heap.size = g4 + 1 ∧ g2 + 1 = g4 ∧ w.heap.size = g2) := ⟨by
  refine ⟨?_, ?_, ?_, ?_, hg4, hg2⟩
  ·rw [← hw1, ← hg2, heap_alloc_old _ _ (by simp)]; exact heap_alloc_new w _
  ·rw [← hw1, ← hg4, ← hg2]; have := heap_alloc_new (w.alloc (.cells RC 65)) (.cells #[.bool false, .slice none 0 0, .int .i64 0, .slice none 0 0, .slice none 0 0, .int .i64 0, .int .i64 0] 65); simpa using this
  ·rw [← hw1]; exact ((Below.refl _ w).alloc (Nat.le_refl _) _).alloc (by simp) _
  ·rw [← hw1, ← hg4, ← hg2]; simp⟩
 clear so lb hr hb hbl HTL hns hcs
 rw [hRC]
 clear hRC
 go_enter Try.func71, Try.ntmps71
 go_upto_region 1 with fail
 try rw [hw1]
 try rw [hg2]
 try rw [hg4]
 have q1 := HB.out.2.2.2.1
 clear hw1 hg2 hg4
 have c5 : w1.cell? ⟨g2, 5, none⟩ = some (.int .i64 0) := by rw [cell_of_row w1 g2 5 _ _ (0, 0) HB.out.1]; exact HRC.out.2.2.2
 have c1 : w1.cell? ⟨g2, 1, none⟩ = some (.slice As ns cs) := by rw [cell_of_row w1 g2 1 _ _ (0, 0) HB.out.1]; exact HRC.out.2.1
 go_upto_region 4 with fail
 go_upto_region 5 with (at_builtin; refine wpList_app elB rfl (.tmp 16) (.tmp 18) rfl w1.heap.size (.slice none 0 0) 0 [] rfl (World.ownsRow_nil _ _ _ _) w.heap.size As ns cs (cb st) rfl (H0.out.1.below HB.out.2.2.1) (cb_one _) (by unfold maxLen; omega) (by omega) (Nat.le_refl _) ?_; intro v1 w2 hO; rw [Nat.zero_add, List.nil_append] at hO; obtain ⟨A1, d1, hv1, _, _⟩ := own_form hO.own; subst hv1; have HO1 := Hd.mk hO; clear hO)
 have HB2 : Hd (Below w1.heap.size w1 w2) := ⟨HO1.out.below (by simp [Value.ownBlock]) (Nat.le_refl _)⟩
 go_upto_region 6 with (at_builtin; refine wpList_app elB rfl (.tmp 20) (.tmp 21) rfl w1.heap.size (.slice A1 ns d1) ns (cb st) rfl HO1.out.1 w.heap.size A n cp (cb bs) rfl (H0.out.2.2.1.below (HB.out.2.2.1.trans (HB2.out.mono (by have := HB.out.2.2.1.size; omega)))) (cb_one _) (by unfold maxLen; omega) (by omega) HB2.out.size ?_; intro v2 w3 hO; obtain ⟨l3, hl3⟩ : ∃ q, ns + n = q := ⟨_, rfl⟩; rw [hl3] at hO; obtain ⟨A2, d2, hv2, _, _⟩ := own_form hO.own; subst hv2; have HO2 := Hd.mk (And.intro hO hl3); clear hO hl3)
 have HB3 : Hd (Below w1.heap.size w1 w3) := ⟨HB2.out.trans (HO2.out.1.below (fun k hk => (HO1.out.1.lt k hk).1) HB2.out.size)⟩
 have HS3 : Hd (w3.ownsRow w1.heap.size 5 1 (.slice A2 l3 d2) l3 (cb (st ++ bs)) ∧ (st ++ bs).length = l3 ∧ (∀ x ∈ st ++ bs, x < 256)) := ⟨by rw [cb_append]; exact HO2.out.1.1, by rw [List.length_append, HNS.out, H0.out.2.2.2.2]; exact HO2.out.2, fun x hx => (List.mem_append.1 hx).elim (H0.out.2.1 x) (H0.out.2.2.2.1 x)⟩
 have c0 : w3.cell? ⟨g2, 0, none⟩ = some (.bool Z.ans) := by rw [cell_of_row w3 g2 0 RC _ (0, 0) ((HB3.out.block g2 (by have := HB.out.2.2.2.2.1; omega)).trans HB.out.1)]; exact HRC.out.1
 have c2 : w3.cell? ⟨g2, 2, none⟩ = some (.int .i64 (hd : Int)) := by rw [cell_of_row w3 g2 2 RC _ (0, 0) ((HB3.out.block g2 (by have := HB.out.2.2.2.2.1; omega)).trans HB.out.1)]; exact HRC.out.2.2.1
 have hl3b : l3 ≤ 67108864 := by have := HO2.out.2; omega
 clear c1 c5
 go_upto_region 7 with (refine at_store (x := .tmp 7) ?_; refine wpList_boxed rfl 65 (.tmp 7) (.tmp 28) rfl w3.heap.size rfl #[.bool Z.ans, .slice A2 l3 d2, .int .i64 (hd : Int), .slice none 0 0, .slice none 0 0, .int .i64 0, .int .i64 0] rfl rfl infoRdr7 rfl (by simp [Value.oneCell']) ?_; intro w4 hB4)
 obtain ⟨g7, hg7⟩ : ∃ q, w3.heap.size = q := ⟨_, rfl⟩
 rw [hg7] at hB4 ⊢
 have HG7 := Hd.mk hg7
 clear hg7 c0 c2
 go_wp2_with (refine at_load (x := .tmp 7) ?_; refine wpList_load_row rfl 65 (.tmp 7) rfl g7 rfl 65 #[.bool Z.ans, .slice A2 l3 d2, .int .i64 (hd : Int), .slice none 0 0, .slice none 0 0, .int .i64 0, .int .i64 0] (0, 0) _ hB4.out.1 Try.underlying65 rfl infoRdr7 ?_)
 have HS4 : Hd (w4.ownsRow w1.heap.size 5 1 (.slice A2 l3 d2) (st ++ bs).length (cb (st ++ bs))) := ⟨by rw [HS3.out.2.1]; exact own_below' HS3.out.1 (by rw [HG7.out]; exact hB4.out.2.1)⟩
 refine (HTH.out w4 w1.heap.size (.slice A2 l3 d2) (.slice none 0 0) (.slice none 0 0) hd 0 0 (st ++ bs) HS4.out HS3.out.2.2 (by rw [HS3.out.2.1]; omega) rfl rfl).mono ?_
 obtain ⟨fl, hfl⟩ : ∃ q, (go Z.rd mid0 (st ++ bs)).fl = q := ⟨_, rfl⟩
 obtain ⟨hl, hhl⟩ : ∃ q, (go Z.rd mid0 (st ++ bs)).held = q := ⟨_, rfl⟩
 rintro e w5 ⟨vq, ws, xs, rfl, hxs, hch, hq, hok, hal⟩
 rw [hfl, hhl]
 have HGO := Hd.mk (And.intro hfl hhl)
 clear hfl hhl
 have HT5 := Hd.mk (And.intro hxs (And.intro hch (And.intro hq (And.intro hok hal))))
 have hvq1 := que_one hq
 obtain ⟨x0, hx0⟩ : ∃ q : Value, (if Z.ans then .slice none 0 0 else vq) = q := ⟨_, rfl⟩
 obtain ⟨x1, hx1⟩ : ∃ q : Value, (if Z.ans then vq else .slice none 0 0) = q := ⟨_, rfl⟩
 have HX1 : Hd (x0.oneCell' = true ∧ x1.oneCell' = true) := ⟨by rw [← hx0]; split; rfl; exact hvq1, by rw [← hx1]; split; exact hvq1; rfl⟩
 have hthR : thR Z.ans vq fl (hl : Int) = [x0, x1, .int .i64 fl, .int .i64 (hl : Int)] := by unfold thR; rw [hx0, hx1]
 rw [hthR]
 have HTR := Hd.mk hthR
 have HB5 : Hd (w5.heap[g7]? = some (.cells #[.bool Z.ans, .slice A2 l3 d2, .int .i64 (hd : Int), .slice none 0 0, .slice none 0 0, .int .i64 0, .int .i64 0] 65)) := ⟨by rw [hch.block g7 (by have := hB4.out.2.2; omega) List.not_mem_nil]; exact hB4.out.1⟩
 clear hxs hch hq hok hal hvq1 hx0 hx1 hthR
 go_upto_region 8 with (refine at_store (x := .tmp 31) ?_; refine wpList_store_mid rfl 63 (.tmp 31) (.tmp 30) rfl g7 3 #[x0, x1, .int .i64 fl, .int .i64 (hl : Int)] rfl rfl (there_of_box HB5.out 3 4 (by simp)) infoRead4 (one4 HX1.out.1 HX1.out.2 rfl rfl) ?_)
 generalize hww : World.setCells _ _ _ _ = w6
 have HB6 : Hd (w6.heap[g7]? = some (.cells #[.bool Z.ans, .slice A2 l3 d2, .int .i64 (hd : Int), x0, x1, .int .i64 fl, .int .i64 (hl : Int)] 65) ∧ Chg [g7] w5 w6) := ⟨by
  rw [← hww]
  simp only [World.setCells]
  refine ⟨?_, ((((Chg.refl [g7] w5).setCell (by simp) _).setCell (by simp) _).setCell (by simp) _).setCell (by simp) _⟩
  have k1 := heap_set w5 g7 3 x0 _ _ HB5.out
  have k2 := heap_set _ g7 4 x1 _ _ k1
  have k3 := heap_set _ g7 5 (.int .i64 fl) _ _ k2
  have k4 := heap_set _ g7 6 (.int .i64 (hl : Int)) _ _ k3
  rw [k4]; rfl⟩
 clear hww
 have HLT : Hd (g4 < g7 ∧ g7 < w6.heap.size) := ⟨by have := HB3.out.size; have := HG7.out; omega, (Array.getElem?_eq_some_iff.1 HB6.out.1).1⟩
 have HB46 : Hd (w6.heap[g4]? = some (.cells #[.bool false, .slice none 0 0, .int .i64 0, .slice none 0 0, .slice none 0 0, .int .i64 0, .int .i64 0] 65)) := ⟨by
  have h1 := HLT.out
  have h2 := HT5.out.2.1.size
  have h3 := hB4.out.2.2
  rw [HB6.out.2.block g4 (by omega) (by simp; omega), HT5.out.2.1.block g4 (by omega) List.not_mem_nil, hB4.out.2.1.block g4 (by omega), HB3.out.block g4 (by omega)]
  exact HB.out.2.1⟩
 have HRG : Hd (∀ W, Chg [g4] w6 W → W.heap[g7]? = some (.cells #[.bool Z.ans, .slice A2 l3 d2, .int .i64 (hd : Int), x0, x1, .int .i64 fl, .int .i64 (hl : Int)] 65)) := ⟨fun W b => (b.block g7 HLT.out.2 (by have := HLT.out.1; simp; omega)).trans HB6.out.1⟩
 have HFL : Hd (∀ W, Chg [g4] w6 W → W.cell? ⟨g7, 5, none⟩ = some (.int .i64 fl)) := ⟨fun W b => by rw [cell_of_row W g7 5 _ _ (0, 0) (HRG.out W b)]; rfl⟩
 refine wp_region_held_drew (S := fun W => Chg [g4] w6 W) (by kernel_rfl) (Chg.refl [g4] w6).drew (fun hHeld => ?_)
 have HB47 : Hd (w6.drew.heap[g4]? = some (.cells #[.bool false, .slice none 0 0, .int .i64 0, .slice none 0 0, .slice none 0 0, .int .i64 0, .int .i64 0] 65)) := ⟨HB46.out⟩
 obtain ⟨w7, hw7⟩ : ∃ U, w6.drew = U := ⟨_, rfl⟩
 rw [hw7] at HB47 hHeld ⊢
 have HW7 := Hd.mk hHeld
 clear hw7
 refine wpAnyH_take (i := 0) (oi := ?oiRa) (v := .agg #[.bool Z.ans, .slice A2 l3 d2, .int .i64 (hd : Int), x0, x1, .int .i64 fl, .int .i64 (hl : Int)]) ?hiRa (by kernel_rfl) (by kernel_rfl) (by kernel_rfl) ?hQRa ?hyRa (by assumption) ?restRa
 case hiRa => simp only [List.getElem?_toArray, List.getElem?_cons_succ, List.getElem?_cons_zero]; rfl
 case hQRa => exact fun _ _ _ h => h
 case hyRa => exact yieldsIf_load_mid rfl 65 (.tmp 7) rfl g7 0 rfl [.bool Z.ans, .slice A2 l3 d2, .int .i64 (hd : Int), x0, x1, .int .i64 fl, .int .i64 (hl : Int)] _ (fun W hW => range_of_box (HRG.out W hW)) Try.underlying65 rfl infoRdr7
 try simp only [Act.put, List.setIfInBounds_toArray, List.set_cons_zero, List.set_cons_succ]
 refine wpAnyH_take (i := 1) (oi := ?oi101) (v := ?v101) ?hi101 (by kernel_rfl) (by kernel_rfl) (by kernel_rfl) ?hQ101 (Or.inl ⟨?hw101, ?hy101⟩) (by assumption) ?rest101
 case hi101 => simp only [List.getElem?_toArray, List.getElem?_cons_succ, List.getElem?_cons_zero]; rfl
 case hQ101 => exact fun _ _ _ h => h
 case hw101 => rfl
 case hy101 => (intro W hW; go_simp; all_goals rfl)
 simp only [Act.put, List.setIfInBounds_toArray, List.set_cons_zero, List.set_cons_succ]
 refine wpAnyH_take (i := 2) (oi := ?oi102) (v := ?v102) ?hi102 (by kernel_rfl) (by kernel_rfl) (by kernel_rfl) ?hQ102 (Or.inl ⟨?hw102, ?hy102⟩) (by assumption) ?rest102
 case hi102 => simp only [List.getElem?_toArray, List.getElem?_cons_succ, List.getElem?_cons_zero]; rfl
 case hQ102 => exact fun _ _ _ h => h
 case hw102 => rfl
 case hy102 => (intro W hW; go_simp; all_goals rfl)
 simp only [Act.put, List.setIfInBounds_toArray, List.set_cons_zero, List.set_cons_succ]
 refine wpAnyH_take (i := 3) (oi := ?oi103) (v := ?v103) ?hi103 (by kernel_rfl) (by kernel_rfl) (by kernel_rfl) ?hQ103 (Or.inl ⟨?hw103, ?hy103⟩) (by assumption) ?rest103
 case hi103 => simp only [List.getElem?_toArray, List.getElem?_cons_succ, List.getElem?_cons_zero]; rfl
 case hQ103 => exact fun _ _ _ h => h
 case hw103 => rfl
 case hy103 => (intro W hW; have f1 := HFL.out W hW; go_simp; all_goals rfl)
 simp only [Act.put, List.setIfInBounds_toArray, List.set_cons_zero, List.set_cons_succ]
 refine wpAnyH_ready (rs := [4]) (by kernel_rfl) (by simp) ?_
 refine AllReadyH.cons (i := 4) (o := ?oS34) ?hoS34 (fun Kq hK => ?stepS34) AllReadyH.nil
 case hoS34 => simp only [List.getElem?_toArray, List.getElem?_cons_succ, List.getElem?_cons_zero]; rfl
 refine step_store rfl 65 (.tmp 4) (.tmp 32) rfl g4 #[.bool Z.ans, .slice A2 l3 d2, .int .i64 (hd : Int), x0, x1, .int .i64 fl, .int .i64 (hl : Int)] rfl rfl 65 _ HB47.out infoRdr7 rfl (one7 rfl rfl rfl HX1.out.1 HX1.out.2 rfl rfl) ?_
 intro w8 hs8 hg8
 have hF : Chg [g4] w6 w8 := HW7.out.trans (Chg.of_grown hg8)
 have HS8 := Hd.mk (And.intro hs8 hF)
 refine hK.out _ _ hF (fun _ => ?_)
 clear hK Kq hs8 hg8 hF
 try simp only [Act.put, List.setIfInBounds_toArray, List.set_cons_zero, List.set_cons_succ]
 refine wpAnyH_take (i := 5) (oi := ?oi104) (v := ?v104) ?hi104 (by kernel_rfl) (by kernel_rfl) (by kernel_rfl) ?hQ104 (Or.inl ⟨?hw104, ?hy104⟩) (by assumption) ?rest104
 case hi104 => simp only [List.getElem?_toArray, List.getElem?_cons_succ, List.getElem?_cons_zero]; rfl
 case hQ104 => exact fun _ _ _ h => h
 case hw104 => rfl
 case hy104 => (intro W hW; go_simp; all_goals rfl)
 simp only [Act.put, List.setIfInBounds_toArray, List.set_cons_zero, List.set_cons_succ]
 refine wpAnyH_done (by kernel_rfl) ?_ _
 clear hHeld
 go_wp2_with fail
 (try simp only [Exit.inBlock, Exit.then])
 refine bodyPost_ret (results_cell_tmp rfl _ _ g4 65 #[.bool Z.ans, .slice A2 l3 d2, .int .i64 (hd : Int), x0, x1, .int .i64 fl, .int .i64 (hl : Int)] (0, 0) _ rfl HS8.out.1 Try.underlying65 rfl infoRdr7) rfl ?_
 have hb1 : Below g4 w1 w4 := (HB3.out.mono (by omega)).trans (hB4.out.2.1.mono (by have := HLT.out; omega))
 have hc4 : Chg [] w w4 := (Chg.of_below HB.out.2.2.1).newer (Chg.of_below (L := []) (HB3.out.trans (hB4.out.2.1.mono (by have := HG7.out; have := HB3.out.size; omega)))) (by simp)
 have hc6 : Chg [g7] w4 w6 := (HT5.out.2.1.mono (by simp)).trans HB6.out.2
 have hc8 : Chg [g4, g7] w4 w8 := (hc6.mono (by intro k hk _; simp at hk; simp [hk])).trans (HS8.out.2.mono (by intro k hk _; simp at hk; simp [hk]))
 have hcq : Chg [g4, g7] w5 w8 := (HB6.out.2.mono (by intro k hk _; simp at hk; simp [hk])).trans (HS8.out.2.mono (by intro k hk _; simp at hk; simp [hk]))
 have hbig : ∀ {k : Nat}, w4.heap.size ≤ k → k ∉ [g4, g7] := fun {k} hk hm => by have := hB4.out.2.2; have := HLT.out; simp at hm; omega
 have hg2 := HB.out.2.2.2.2.2
 have hg24 := HB.out.2.2.2.2.1
 refine ⟨.slice A2 l3 d2, vq, ws, xs, ?_, ⟨⟨?_, HS3.out.2.2, ?_, ?_, HT5.out.2.2.2.2⟩, HT5.out.1⟩, hc4.newer hc8 fun y hy => .inr (by have := HLT.out; simp at hy; omega)⟩
 ·rw [HGO.out.1, HGO.out.2]
  show _ = Ending.returned (.tuple #[.agg (Value.bool Z.ans :: .slice A2 l3 d2 :: .int .i64 (hd : Int) :: thR Z.ans vq fl (hl : Int)).toArray, .int .i64 fl])
  rw [HTR.out]; rfl
 ·refine own_lowB (hc8.own HS4.out fun k hk hm => ?_) (by omega)
  have h1 := (HS3.out.1.lt k hk)
  have := HLT.out; have := HG7.out
  simp at hm; omega
 ·exact (HT5.out.2.2.1.chg hcq fun k hk => hbig (HT5.out.2.2.1.lt hk).1).lower (by have := hc4.size; omega)
 ·intro W hW
  exact ((HT5.out.2.2.2.1 W hW).chg hcq fun r hr k hk => hbig ((HT5.out.2.2.2.1 W hW).lt hr hk).1).lower (by have := hc4.size; omega)
set_option maxRecDepth 20000 in
set_option maxHeartbeats 8000000 in
/-- A reader that tells a fault. -/
theorem dpush_fault (w : World) (an : Bool) (vs r0 r1 : Value) (hd fl held : Int) (hf : fl ≠ 0) (v0 : vs.oneCell' = true) (h0 : r0.oneCell' = true) (h1 : r1.oneCell' = true) (A : Option Addr) (n cp : Nat) :
  Calls Try.prog 71 #[.agg #[.bool an, vs, .int .i64 hd, r0, r1, .int .i64 fl, .int .i64 held], .slice A n cp] w fun e w' => e = .returned (.tuple #[.agg #[.bool an, vs, .int .i64 hd, r0, r1, .int .i64 fl, .int .i64 held], .int .i64 fl]) ∧ Chg [] w w' := by
 obtain ⟨RL, hRC⟩ : ∃ R : List Value, [.bool an, vs, .int .i64 hd, r0, r1, .int .i64 fl, .int .i64 held] = R := ⟨_, rfl⟩
 have HRC : Hd (RL.toArray[5]? = some (.int .i64 fl) ∧ RL.length = 7 ∧ RL.toArray.all (·.oneCell') = true) := ⟨by rw [← hRC]; exact ⟨rfl, rfl, one7 rfl v0 rfl h0 h1 rfl rfl⟩⟩
 obtain ⟨g2, hg2⟩ : ∃ g, w.heap.size = g := ⟨_, rfl⟩
 obtain ⟨g4, hg4⟩ : ∃ g, g2 + 1 = g := ⟨_, rfl⟩
 obtain ⟨w1, hw1⟩ : ∃ U, (w.alloc (.cells RL.toArray 65)).alloc (.cells #[.bool false, .slice none 0 0, .int .i64 0, .slice none 0 0, .slice none 0 0, .int .i64 0, .int .i64 0] 65) = U := ⟨_, rfl⟩
 have HB : Hd (w1.heap[g2]? = some (.cells RL.toArray 65) ∧ w1.heap[g4]? = some (.cells #[.bool false, .slice none 0 0, .int .i64 0, .slice none 0 0, .slice none 0 0, .int .i64 0, .int .i64 0] 65) ∧ Chg [] w w1 ∧ w1.heap.size = g4 + 1 ∧ g2 + 1 = g4 ∧ w.heap.size = g2) := ⟨by
  refine ⟨?_, ?_, ?_, ?_, hg4, hg2⟩
  ·rw [← hw1, ← hg2, heap_alloc_old _ _ (by simp)]; exact heap_alloc_new w _
  ·rw [← hw1, ← hg4, ← hg2]; have := heap_alloc_new (w.alloc (.cells RL.toArray 65)) (.cells #[.bool false, .slice none 0 0, .int .i64 0, .slice none 0 0, .slice none 0 0, .int .i64 0, .int .i64 0] 65); simpa using this
  ·rw [← hw1]; exact ((Chg.refl [] w).alloc _).alloc _
  ·rw [← hw1, ← hg4, ← hg2]; simp⟩
 have hfb : (fl == 0) = false := beq_eq_false_iff_ne.2 hf
 clear v0 h0 h1
 rw [hRC]
 clear hRC
 go_enter Try.func71, Try.ntmps71
 go_upto_region 1 with fail
 try rw [hw1]
 try rw [hg2]
 try rw [hg4]
 clear hw1 hg2 hg4
 have c5 : w1.cell? ⟨g2, 5, none⟩ = some (.int .i64 fl) := by rw [cell_of_row w1 g2 5 _ _ (0, 0) HB.out.1]; exact HRC.out.1
 go_upto_region 2 with fail
 clear c5
 have HRG : Hd (∀ W, Chg [g4] w1 W → W.heap[g2]? = some (.cells RL.toArray 65)) := ⟨fun W b => (b.block g2 (by have := HB.out; omega) (by have := HB.out.2.2.2.2.1; simp; omega)).trans HB.out.1⟩
 have HFL : Hd (∀ W, Chg [g4] w1 W → W.cell? ⟨g2, 5, none⟩ = some (.int .i64 fl)) := ⟨fun W b => by rw [cell_of_row W g2 5 _ _ (0, 0) (HRG.out W b)]; exact HRC.out.1⟩
 refine wp_region_held_drew (S := fun W => Chg [g4] w1 W) (by kernel_rfl) (Chg.refl [g4] w1).drew (fun hHeld => ?_)
 have HB47 : Hd (w1.drew.heap[g4]? = some (.cells #[.bool false, .slice none 0 0, .int .i64 0, .slice none 0 0, .slice none 0 0, .int .i64 0, .int .i64 0] 65)) := ⟨HB.out.2.1⟩
 obtain ⟨w7, hw7⟩ : ∃ U, w1.drew = U := ⟨_, rfl⟩
 rw [hw7] at HB47 hHeld ⊢
 have HW7 := Hd.mk hHeld
 clear hw7
 refine wpAnyH_take (i := 0) (oi := ?oiRb) (v := .agg RL.toArray) ?hiRb (by kernel_rfl) (by kernel_rfl) (by kernel_rfl) ?hQRb ?hyRb (by assumption) ?restRb
 case hiRb => simp only [List.getElem?_toArray, List.getElem?_cons_succ, List.getElem?_cons_zero]; rfl
 case hQRb => exact fun _ _ _ h => h
 case hyRb => exact yieldsIf_load_mid rfl 65 (.tmp 2) rfl g2 0 rfl RL _ (fun W hW => range_of_box (HRG.out W hW)) Try.underlying65 rfl (by rw [infoRdr7, HRC.out.2.1])
 try simp only [Act.put, List.setIfInBounds_toArray, List.set_cons_zero, List.set_cons_succ]
 refine wpAnyH_take (i := 1) (oi := ?oi201) (v := ?v201) ?hi201 (by kernel_rfl) (by kernel_rfl) (by kernel_rfl) ?hQ201 (Or.inl ⟨?hw201, ?hy201⟩) (by assumption) ?rest201
 case hi201 => simp only [List.getElem?_toArray, List.getElem?_cons_succ, List.getElem?_cons_zero]; rfl
 case hQ201 => exact fun _ _ _ h => h
 case hw201 => rfl
 case hy201 => (intro W hW; go_simp; all_goals rfl)
 simp only [Act.put, List.setIfInBounds_toArray, List.set_cons_zero, List.set_cons_succ]
 refine wpAnyH_take (i := 2) (oi := ?oi202) (v := ?v202) ?hi202 (by kernel_rfl) (by kernel_rfl) (by kernel_rfl) ?hQ202 (Or.inl ⟨?hw202, ?hy202⟩) (by assumption) ?rest202
 case hi202 => simp only [List.getElem?_toArray, List.getElem?_cons_succ, List.getElem?_cons_zero]; rfl
 case hQ202 => exact fun _ _ _ h => h
 case hw202 => rfl
 case hy202 => (intro W hW; go_simp; all_goals rfl)
 simp only [Act.put, List.setIfInBounds_toArray, List.set_cons_zero, List.set_cons_succ]
 refine wpAnyH_take (i := 3) (oi := ?oi203) (v := ?v203) ?hi203 (by kernel_rfl) (by kernel_rfl) (by kernel_rfl) ?hQ203 (Or.inl ⟨?hw203, ?hy203⟩) (by assumption) ?rest203
 case hi203 => simp only [List.getElem?_toArray, List.getElem?_cons_succ, List.getElem?_cons_zero]; rfl
 case hQ203 => exact fun _ _ _ h => h
 case hw203 => rfl
 case hy203 => (intro W hW; have f1 := HFL.out W hW; go_simp; all_goals rfl)
 simp only [Act.put, List.setIfInBounds_toArray, List.set_cons_zero, List.set_cons_succ]
 refine wpAnyH_ready (rs := [4]) (by kernel_rfl) (by simp) ?_
 refine AllReadyH.cons (i := 4) (o := ?oS34) ?hoS34 (fun Kq hK => ?stepS34) AllReadyH.nil
 case hoS34 => simp only [List.getElem?_toArray, List.getElem?_cons_succ, List.getElem?_cons_zero]; rfl
 refine step_store rfl 65 (.tmp 4) (.tmp 12) rfl g4 RL.toArray rfl rfl 65 _ HB47.out (by rw [infoRdr7]; simp [HRC.out.2.1]) (by simp [HRC.out.2.1]) HRC.out.2.2 ?_
 intro w8 hs8 hg8
 have hF : Chg [g4] w1 w8 := HW7.out.trans (Chg.of_grown hg8)
 have HS8 := Hd.mk (And.intro hs8 hF)
 refine hK.out _ _ hF (fun _ => ?_)
 clear hK Kq hs8 hg8 hF
 try simp only [Act.put, List.setIfInBounds_toArray, List.set_cons_zero, List.set_cons_succ]
 refine wpAnyH_take (i := 5) (oi := ?oi204) (v := ?v204) ?hi204 (by kernel_rfl) (by kernel_rfl) (by kernel_rfl) ?hQ204 (Or.inl ⟨?hw204, ?hy204⟩) (by assumption) ?rest204
 case hi204 => simp only [List.getElem?_toArray, List.getElem?_cons_succ, List.getElem?_cons_zero]; rfl
 case hQ204 => exact fun _ _ _ h => h
 case hw204 => rfl
 case hy204 => (intro W hW; go_simp; all_goals rfl)
 simp only [Act.put, List.setIfInBounds_toArray, List.set_cons_zero, List.set_cons_succ]
 refine wpAnyH_done (by kernel_rfl) ?_ _
 clear hHeld
 go_wp2_with fail
 (try simp only [Exit.inBlock, Exit.then])
 refine bodyPost_ret (results_cell_tmp rfl _ _ g4 65 RL.toArray (0, 0) _ rfl HS8.out.1 Try.underlying65 rfl (by rw [infoRdr7]; simp [HRC.out.2.1])) rfl ?_
 exact ⟨rfl, HB.out.2.2.1.newer HS8.out.2 fun y hy => .inr (by have := HB.out; simp at hy; omega)⟩
end Go.Proofs.Ytbcmjjcbjojakaa
end
section
namespace Go.Proofs.Ytbcmjjcbjojakaa
open Go.RowKit
set_option linter.unusedVariables false
set_option linter.unusedSimpArgs false
theorem rq_empty (w : World) (g : Nat) (Aq : Option Addr) (cq : Nat) (d8 : w.cell? ⟨g, 8, none⟩ = some (.slice Aq 0 cq)) (hlt : g < w.heap.size) :
  Calls Try.prog 36 #[.pointer (some ⟨g, 0, none⟩)] w fun e w' => e = .returned (.tuple #[.agg rq0, .bool false]) ∧ Below w.heap.size w w' := by
 obtain ⟨gx, hgx⟩ : ∃ gx, w.heap.size = gx := ⟨_, rfl⟩
 obtain ⟨w0, hw0⟩ : ∃ W, w.alloc (.cells #[.int .i64 0, .int .u64 0, .string emS, .string emS, .int .i64 0, .int .i64 0, .int .i64 0, .slice none 0 0] 28) = W := ⟨_, rfl⟩
 have hr0 : w0.heap[gx]? = some (.cells rq0 28) := by rw [← hw0, ← hgx]; exact heap_alloc_new w _
 have hb0 : Below w.heap.size w w0 := by rw [← hw0]; exact (Below.refl _ w).alloc (Nat.le_refl _) _
 have e8 : w0.cell? ⟨g, 8, none⟩ = some (.slice Aq 0 cq) := (hb0.cell (show g < w.heap.size from hlt)).trans d8
 have HB := Hd.mk (And.intro hb0 hgx)
 clear d8 hb0 hlt
 go_enter Try.func36, Try.ntmps36
 go_upto_region 1 with fail
 have hz : (⟨#[]⟩ : ByteArray) = emS := rfl
 try rw [hz]
 rw [hw0]
 try rw [hgx]
 clear hz hw0 hgx
 go_wp2_with (refine at_store (x := .tmp 2) ?_; refine wpList_stored rfl 28 (.tmp 2) (.tmp 15) rfl gx rq0 rfl rfl 28 rq0 hr0 infoRq8 rfl (by simp [rq0, Value.oneCell']) ?_; intro w6 hB6)
 (try simp only [Exit.inBlock, Exit.then])
 refine bodyPost_ret (results_cell_tmp rfl _ _ gx 28 rq0 (0, 0) _ rfl hB6.out.1 Try.underlying28 rfl infoRq8) rfl ?_
 exact ⟨rfl, HB.out.1.grown hB6.out.2.1 HB.out.1.size (fun k hk => by injection hk with hk; have := HB.out.2; omega)⟩
theorem an_empty (w : World) (g : Nat) (Aq : Option Addr) (cq : Nat) (d8 : w.cell? ⟨g, 9, none⟩ = some (.slice Aq 0 cq)) (hlt : g < w.heap.size) :
  Calls Try.prog 37 #[.pointer (some ⟨g, 0, none⟩)] w fun e w' => e = .returned (.tuple #[.agg an0, .bool false]) ∧ Below w.heap.size w w' := by
 obtain ⟨gx, hgx⟩ : ∃ gx, w.heap.size = gx := ⟨_, rfl⟩
 obtain ⟨w0, hw0⟩ : ∃ W, w.alloc (.cells #[.int .i64 0, .int .u64 0, .int .i64 0, .slice none 0 0, .slice none 0 0, .slice none 0 0, .string emS, .bool false, .int .i64 0, .int .i64 0, .int .i64 0, .int .i64 0, .int .i64 0, .int .i64 0, .int .i64 0] 43) = W := ⟨_, rfl⟩
 have hr0 : w0.heap[gx]? = some (.cells an0 43) := by rw [← hw0, ← hgx]; exact heap_alloc_new w _
 have hb0 : Below w.heap.size w w0 := by rw [← hw0]; exact (Below.refl _ w).alloc (Nat.le_refl _) _
 have e8 : w0.cell? ⟨g, 9, none⟩ = some (.slice Aq 0 cq) := (hb0.cell (show g < w.heap.size from hlt)).trans d8
 have HB := Hd.mk (And.intro hb0 hgx)
 clear d8 hb0 hlt
 go_enter Try.func37, Try.ntmps37
 go_upto_region 1 with fail
 have hz : (⟨#[]⟩ : ByteArray) = emS := rfl
 try rw [hz]
 rw [hw0]
 try rw [hgx]
 clear hz hw0 hgx
 go_wp2_with (refine at_store (x := .tmp 2) ?_; refine wpList_stored rfl 43 (.tmp 2) (.tmp 15) rfl gx an0 rfl rfl 43 an0 hr0 infoAn15 rfl (by simp [an0, Value.oneCell']) ?_; intro w6 hB6)
 (try simp only [Exit.inBlock, Exit.then])
 refine bodyPost_ret (results_cell_tmp rfl _ _ gx 43 an0 (0, 0) _ rfl hB6.out.1 Try.underlying43 rfl infoAn15) rfl ?_
 exact ⟨rfl, HB.out.1.grown hB6.out.2.1 HB.out.1.size (fun k hk => by injection hk with hk; have := HB.out.2; omega)⟩
end Go.Proofs.Ytbcmjjcbjojakaa
end
