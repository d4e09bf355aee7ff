/- Contracts of asked: Request, Answer, where one is there. (tools/askd2gen.py prints it.) -/
import Derived.Test.YtbcmjjcbjojakaaAskdR
import Derived.Test.YtbcmjjcbjojakaaPk16
namespace Go.Proofs.Ytbcmjjcbjojakaa
open Go.RowKit
set_option linter.unusedVariables false
set_option linter.unusedSimpArgs false
set_option maxRecDepth 20000 in
set_option maxHeartbeats 8000000 in
theorem asked_req_some (base : Nat) (w : World) (g : Nat) (vl vc vq : Value) (L : List Nat) (m : Mid) (C : Nat) (fl : Int) (ws : List Wm) (xs : List Rq) (vs vm : Value) (st : List Nat) (wm : List Wm) (xm : List Rq) (hd : Nat) (h : PrS askK base w g vl vc vq L m C fl ws xs vs vm st wm xm hd) (hst : st.length ≤ 67108864) (who : Int) (A : Option Addr) (n c : Nat) (hlt : hd < xm.length) :
  Calls Try.prog 28 #[.pointer (some ⟨g, 0, none⟩), .agg (thC askK.ans vs hd vm fl ((go askK.rd mid0 st).held : Int)), .agg #[.int .i64 who, .int .i64 1, .slice A n c]] w (AsDone askK base w g vl vc vq ws vs vm st wm 0) := by
 obtain ⟨W1, ws', x, xs', W2, hws, hxs, hi1, hW2, hi2, hxd, hxm⟩ := h.front hlt
 subst hws hxs
 have HFR := Hd.mk (And.intro hlt (And.intro hxd (And.intro hW2 (And.intro hi1 (And.intro hi2 hxm)))))
 have hw7 : wm.length ≤ 67108864 := by
  have h1 := go_len (rd := askK.rd) mid0 st
  have h2 := h.md.th.is.len
  rw [h.md.is] at h2
  omega
 have HW7 := Hd.mk hw7
 clear hlt hxd hW2 hi1 hi2 hxm hw7
 obtain ⟨hv, hhv⟩ : ∃ q, (go askK.rd mid0 st).held = q := ⟨_, rfl⟩
 have HP := Hd.mk h
 have HV := Hd.mk hhv
 have hvm1 : (if askK.ans then .slice none 0 0 else vm : Value).oneCell' = true ∧ (if askK.ans then vm else .slice none 0 0 : Value).oneCell' = true := by
  have := que_one h.md.th.qu
  constructor <;> split <;> first | rfl | exact this
 obtain ⟨As, cs, hvs, _, _⟩ := own_form h.md.th.so
 subst hvs
 obtain ⟨RL, hRC⟩ : ∃ R : List Value, [.bool askK.ans, .slice As st.length cs, .int .i64 (hd : Int), (if askK.ans then .slice none 0 0 else vm), (if askK.ans then vm else .slice none 0 0), .int .i64 fl, .int .i64 (hv : Int)] = R := ⟨_, rfl⟩
 have hth : thC askK.ans (.slice As st.length cs) hd vm fl (hv : Int) = RL.toArray := by rw [← hRC]; rfl
 have HRC : Hd (RL = [.bool askK.ans, .slice As st.length cs, .int .i64 (hd : Int), (if askK.ans then .slice none 0 0 else vm), (if askK.ans then vm else .slice none 0 0), .int .i64 fl, .int .i64 (hv : Int)] ∧ RL.length = 7 ∧ RL.toArray.all (·.oneCell') = true ∧ thC askK.ans (.slice As st.length cs) hd vm fl (hv : Int) = RL.toArray) := ⟨by rw [hth, ← hRC]; exact ⟨rfl, rfl, one7 rfl rfl rfl hvm1.1 hvm1.2 rfl rfl, rfl⟩⟩
 obtain ⟨g4, hg4⟩ : ∃ q, w.heap.size = q := ⟨_, rfl⟩
 obtain ⟨g5, hg5⟩ : ∃ q, g4 + 1 = q := ⟨_, rfl⟩
 obtain ⟨g6, hg6⟩ : ∃ q, g5 + 1 = q := ⟨_, rfl⟩
 obtain ⟨w1, hw1⟩ : ∃ U, ((w.alloc (.cells RL.toArray 65)).alloc (.cells #[.int .i64 who, .int .i64 1, .slice A n c] 68)).alloc (.cells #[.bool false, .slice none 0 0, .int .i64 0, .slice none 0 0, .slice none 0 0, .int .i64 0, .int .i64 0] 65) = U := ⟨_, rfl⟩
 have HB : Hd (w1.heap[g4]? = some (.cells RL.toArray 65) ∧ w1.heap[g5]? = some (.cells #[.int .i64 who, .int .i64 1, .slice A n c] 68) ∧ w1.heap[g6]? = some (.cells #[.bool false, .slice none 0 0, .int .i64 0, .slice none 0 0, .slice none 0 0, .int .i64 0, .int .i64 0] 65) ∧ Chg [] w w1 ∧ w1.heap.size = g6 + 1 ∧ g4 + 1 = g5 ∧ g5 + 1 = g6 ∧ w.heap.size = g4) := ⟨by
  refine ⟨?_, ?_, ?_, ?_, ?_, hg5, hg6, hg4⟩
  ·rw [← hw1, ← hg4, heap_alloc_old _ _ (by simp; omega), heap_alloc_old _ _ (by simp)]; exact heap_alloc_new w _
  ·rw [← hw1, ← hg5, ← hg4, heap_alloc_old _ _ (by simp)]; have := heap_alloc_new (w.alloc (.cells RL.toArray 65)) (.cells #[.int .i64 who, .int .i64 1, .slice A n c] 68); simpa using this
  ·rw [← hw1, ← hg6, ← hg5, ← hg4]; have := heap_alloc_new ((w.alloc (.cells RL.toArray 65)).alloc (.cells #[.int .i64 who, .int .i64 1, .slice A n c] 68)) (.cells #[.bool false, .slice none 0 0, .int .i64 0, .slice none 0 0, .slice none 0 0, .int .i64 0, .int .i64 0] 65); simpa using this
  ·rw [← hw1]; exact (((Chg.refl [] w).alloc _).alloc _).alloc _
  ·rw [← hw1, ← hg6, ← hg5, ← hg4]; simp⟩
 rw [hhv, hth]
 clear hRC h hhv hvm1 hth
 go_enter Try.func28, Try.ntmps28
 go_upto_region 1 with fail
 try rw [hw1]
 try rw [hg4]
 try rw [hg5]
 try rw [hg6]
 clear hw1 hg4 hg5 hg6
 have cD : w1.cell? ⟨g5, 1, none⟩ = some (.int .i64 1) := by rw [cell_of_row w1 g5 1 _ _ (0, 0) HB.out.2.1]; rfl
 obtain ⟨RL2, hRL2⟩ : ∃ R : List Value, [.bool false, .slice As st.length cs, .int .i64 ((hd + 1 : Nat) : Int), vm, .slice none 0 0, .int .i64 fl, .int .i64 (hv : Int)] = R := ⟨_, rfl⟩
 have HRC2 : Hd (RL2.length = 7 ∧ RL2.toArray.all (·.oneCell') = true ∧ thC askK.ans (.slice As st.length cs) (hd + 1) vm fl (hv : Int) = RL2.toArray) := ⟨by rw [← hRL2]; exact ⟨rfl, one7 rfl rfl rfl (que_one HP.out.md.th.qu) rfl rfl rfl, rfl⟩⟩
 go_upto_region 22 with fail
 clear cD
 have hb4 := HB.out.1
 go_wp2_with (refine at_load (x := .tmp 4) ?_; refine wpList_load_row rfl 65 (.tmp 4) rfl g4 rfl 65 RL.toArray (0, 0) _ hb4 Try.underlying65 rfl (by rw [infoRdr7]; simp [HRC.out.2.1]) ?_)
 have hcall : Calls Try.prog 72 #[.agg RL.toArray] w1 fun e w' => e = .returned (.tuple #[.agg RL2.toArray, .agg W2.cells.toArray, .bool true]) ∧ Chg [] w1 w' := by
  have hRL : RL = [.bool false, .slice As st.length cs, .int .i64 (hd : Int), vm, .slice none 0 0, .int .i64 fl, .int .i64 (hv : Int)] := HRC.out.1
  rw [hRL, ← hRL2]
  exact dreq_some w1 false As st.length cs (.slice none 0 0) hd fl (hv : Int) rfl base vm wm W2 (HP.out.new HB.out.2.2.2.1).md.th.qu HFR.out.2.2.1 HW7.out
 refine hcall.mono ?_
 rintro e w8 ⟨rfl, hc8⟩
 clear hcall hb4 hRL2
 have HC8 : Hd (Chg [] w1 w8) := ⟨hc8⟩
 have hcl2 := HP.out.md.th.qu.1 W2 (List.mem_of_getElem? HFR.out.2.2.1)
 have hcl1 := HP.out.rd.qu.1 W1 (List.mem_cons_self ..)
 have HWC : Hd ((W1.cells.length = 8 ∧ W1.cells.toArray.all (·.oneCell') = true) ∧ (W2.cells.length = 8 ∧ W2.cells.toArray.all (·.oneCell') = true)) := ⟨⟨hcl1.1, all_oneCell_toArray hcl1.2⟩, hcl2.1, all_oneCell_toArray hcl2.2⟩
 clear hc8 hcl1 hcl2
 go_upto_region 23 with (first | (refine at_store (x := .tmp 18) ?_; refine wpList_stored rfl 65 (.tmp 18) (.tmp 115) rfl w8.heap.size RL2.toArray rfl rfl 65 _ (alloc2_fst _ _ _) (by rw [infoRdr7]; simp [HRC2.out.1]) (by simp [HRC2.out.1]) HRC2.out.2.1 ?_; intro w9 hB9) | (refine at_store (x := .tmp 19) ?_; refine wpList_stored rfl 28 (.tmp 19) (.tmp 116) rfl (w8.heap.size + 1) W2.cells.toArray rfl rfl 28 _ ((hB9.out.2.1.block _ (by simp) (by simp)).trans (alloc2_snd _ _ _)) (by rw [infoRq8]; simp [HWC.out.2.1]) (by simp [HWC.out.2.1]) HWC.out.2.2 ?_; intro w10 hB10))
 obtain ⟨g8, hg8⟩ : ∃ q, w8.heap.size = q := ⟨_, rfl⟩
 obtain ⟨g9, hg9⟩ : ∃ q, g8 + 1 = q := ⟨_, rfl⟩
 rw [hg8] at hB9 hB10 ⊢
 try rw [hg9]
 have HB10 : Hd (w10.heap[g8]? = some (.cells RL2.toArray 65) ∧ w10.heap[g9]? = some (.cells W2.cells.toArray 28) ∧ Chg [] w8 w10 ∧ w10.heap.size = g9 + 1 ∧ g8 + 1 = g9 ∧ w8.heap.size = g8) := ⟨by
  have e9 := hB9.out.2.2
  have e10 := hB10.out.2.2
  simp at e9
  refine ⟨by rw [hB10.out.2.1.block g8 (by omega) (by simp)]; exact hB9.out.1, by rw [← hg9]; exact hB10.out.1, ?_, by omega, hg9, hg8⟩
  exact ((((Chg.refl [] w8).alloc _).alloc _).newer (Chg.of_grown hB9.out.2.1) fun y hy => .inr (by simp at hy; omega)).newer (Chg.of_grown hB10.out.2.1) fun y hy => .inr (by simp at hy; omega)⟩
 clear hB9 hB10 hg8 hg9
 go_wp2_with fail
 have hc10 : Chg [] w w10 := (HB.out.2.2.2.1.trans HC8.out).trans HB10.out.2.2.1
 refine (some_ask base w10 g vl vc vq L m.c m.s C m.k m.p fl W1 ws' x xs' (HP.out.new hc10).rd).mono ?_
 rintro e w11 ⟨rfl, vq', hr11, hc11, hbq⟩
 have HC11 : Hd (Chg [g] w w11 ∧ Chg [g] w10 w11 ∧ RdS askK base w11 g vl vc vq' L m.c m.s C m.k m.p fl ws' xs' ∧ vq'.ownBlock = vq.ownBlock) := ⟨(hc10.mono (by simp)).trans hc11, hc11, hr11, hbq⟩
 have HGL : Hd (g < w.heap.size) := ⟨HP.out.rd.lt⟩
 clear hr11 hc11 hbq hc10
 go_upto_region 24 with (refine at_store (x := .tmp 21) ?_; refine wpList_boxed rfl 28 (.tmp 21) (.tmp 121) rfl w11.heap.size rfl W1.cells.toArray rfl rfl (by rw [infoRq8]; simp [HWC.out.1.1]) (by simp [HWC.out.1.1]) HWC.out.1.2 ?_; intro w12 hB12)
 obtain ⟨gb, hgb⟩ : ∃ q, w11.heap.size = q := ⟨_, rfl⟩
 rw [hgb] at hB12 ⊢
 have HL : Hd (g < g6 ∧ g6 < g8 ∧ g8 < g9 ∧ g9 < gb ∧ gb < w12.heap.size ∧ Chg [g] w w12 ∧ w.heap.size ≤ g6) := ⟨by
  have h0 := HGL.out
  have h1 := HB.out.2.2.2.2
  have h2 := HC8.out.size
  have h3 := HB10.out.2.2.2
  have h4 := HC11.out.2.1.size
  have h5 := hB12.out.2.2
  exact ⟨by omega, by omega, by omega, by omega, by omega, HC11.out.1.newer (Chg.of_below (L := []) (by rw [hgb]; exact hB12.out.2.1)) (by simp), by omega⟩⟩
 have HR12 : Hd (∀ W, Chg [g6] w12 W → W.heap[g8]? = some (.cells RL2.toArray 65) ∧ W.heap[g9]? = some (.cells W2.cells.toArray 28) ∧ W.heap[gb]? = some (.cells W1.cells.toArray 28)) := ⟨fun W b => by
  have h1 := HL.out
  have hx : ∀ {q : Nat}, g6 < q → q ∉ [g6] := fun h hm => by simp at hm; omega
  have hy : ∀ {q : Nat}, g6 < q → q ∉ [g] := fun h hm => by simp at hm; omega
  have h3 := HB10.out.2.2.2
  refine ⟨?_, ?_, ?_⟩
  ·rw [b.block g8 (by omega) (hx (by omega)), hB12.out.2.1.block g8 (by omega), HC11.out.2.1.block g8 (by omega) (hy (by omega))]; exact HB10.out.1
  ·rw [b.block g9 (by omega) (hx (by omega)), hB12.out.2.1.block g9 (by omega), HC11.out.2.1.block g9 (by omega) (hy (by omega))]; exact HB10.out.2.1
  ·rw [b.block gb (by omega) (hx (by omega))]; exact hB12.out.1⟩
 have HB6 : Hd (w12.drew.heap[g6]? = some (.cells #[.bool false, .slice none 0 0, .int .i64 0, .slice none 0 0, .slice none 0 0, .int .i64 0, .int .i64 0] 65)) := ⟨by
  have h1 := HL.out
  have h3 := HB10.out.2.2.2
  have h5 := HB.out.2.2.2.2.1
  show w12.heap[g6]? = _
  rw [hB12.out.2.1.block g6 (by omega), HC11.out.2.1.block g6 (by omega) (by simp; omega), HB10.out.2.2.1.block g6 (by omega) List.not_mem_nil, HC8.out.block g6 (by omega) List.not_mem_nil]; exact HB.out.2.2.1⟩
 have HNW : Hd (∀ W, Chg [g6] w12 W → Chg [g] w W) := ⟨fun W b => HL.out.2.2.2.2.2.1.newer b fun y hy => .inr (by have := HL.out; simp at hy; omega)⟩
 have HSAME : Hd (∀ W, Chg [g6] w12 W → Calls Try.prog 51 #[.agg W1.cells.toArray, .agg W2.cells.toArray] W fun e w' => e = .returned (.bool true) ∧ Below W.heap.size W w') := ⟨fun W b => by
  have hc := HNW.out W b
  have hgx : g ∈ rdX g vl vc vq := mem_X.2 (.inr (.inl rfl))
  have o1 := (HP.out.rd.ok W1 (List.mem_cons_self ..)).chg hc fun r hr q hq hm => HP.out.rd.off W1 (List.mem_cons_self ..) r hr q hq (by rw [List.mem_singleton.1 hm]; exact hgx)
  have o2 := (HP.out.md.th.ok W2 (List.mem_of_getElem? HFR.out.2.2.1)).chg hc fun r hr q hq hm => HP.out.sep q (.inr (.inr ⟨W2, List.mem_of_getElem? HFR.out.2.2.1, r, hr, hq⟩)) (by rw [List.mem_singleton.1 hm]; exact hgx)
  obtain ⟨v1, e1⟩ := HFR.out.2.2.2.1
  obtain ⟨v2, e2⟩ := HFR.out.2.2.2.2.1
  have hB : RqB x := go_all (Z := askK) RqB (fun c y hb hr => (rdRq_form c y hb hr).2.2.2) HP.out.md.th.lb x HFR.out.2.2.2.2.2
  rw [e1] at o1 ⊢
  rw [e2] at o2 ⊢
  exact same_rq o1 o2 hB⟩
 have HPOP : Hd (∀ W, Chg [g6] w12 W → ∀ e, e = .returned (.tuple #[.agg (thC askK.ans (.slice As st.length cs) (hd + 1) vm fl ((go askK.rd mid0 st).held : Int)), .bool true]) → AsDone askK base w g vl vc vq (W1 :: ws') (.slice As st.length cs) vm st wm 0 e W) := ⟨fun W b e he => by
  have hl := HL.out
  have b2 : Chg [g6] w11 W := (Chg.of_below (by rw [hgb]; exact hB12.out.2.1)).trans b
  refine HP.out.pop HFR.out.1 HFR.out.2.1 (HC11.out.2.2.1.keep b2 (fun y hy hm => ?_) fun V hV r hr q hq hm => ?_) (HNW.out W b) HC11.out.2.2.2 0 he
  ·have h1 : y ∈ rdX g vl vc vq := by rw [mem_X] at hy ⊢; rw [← HC11.out.2.2.2]; exact hy
   have := (HP.out.rd.ltX h1).2
   simp at hm; omega
  ·have := ((HP.out.rd.ok V (List.mem_cons_of_mem _ hV)).lt hr hq).2
   simp at hm; omega⟩
 clear hgb
 refine wp_region_held_drew (S := fun W => Chg [g6] w12 W) (by kernel_rfl) (Chg.refl [g6] w12).drew (fun hHeld => ?_)
 obtain ⟨w13, hw13⟩ : ∃ U, w12.drew = U := ⟨_, rfl⟩
 rw [hw13] at HB6 hHeld ⊢
 have HW13 := Hd.mk hHeld
 clear hw13
 refine wpAnyH_take (i := 0) (oi := ?oiRa) (v := .agg RL2.toArray) ?hiRa (by kernel_rfl) (by kernel_rfl) (by kernel_rfl) ?hQRa ?hyRa (by assumption) ?restRa
 case hiRa => simp only [List.getElem?_toArray, List.getElem?_cons_succ, List.getElem?_cons_zero]; rfl
 case hQRa => exact fun _ _ _ h => h
 case hyRa => exact yieldsIf_load_mid rfl 65 (.tmp 18) rfl g8 0 rfl RL2 _ (fun W hW => range_of_box (HR12.out W hW).1) Try.underlying65 rfl (by rw [infoRdr7, HRC2.out.1])
 try simp only [Act.put, List.setIfInBounds_toArray, List.set_cons_zero, List.set_cons_succ]
 refine wpAnyH_take (i := 1) (oi := ?oi301) (v := ?v301) ?hi301 (by kernel_rfl) (by kernel_rfl) (by kernel_rfl) ?hQ301 (Or.inl ⟨?hw301, ?hy301⟩) (by assumption) ?rest301
 case hi301 => simp only [List.getElem?_toArray, List.getElem?_cons_succ, List.getElem?_cons_zero]; rfl
 case hQ301 => exact fun _ _ _ h => h
 case hw301 => rfl
 case hy301 => (intro W hW; go_simp; all_goals rfl)
 simp only [Act.put, List.setIfInBounds_toArray, List.set_cons_zero, List.set_cons_succ]
 refine wpAnyH_take (i := 2) (oi := ?oi302) (v := ?v302) ?hi302 (by kernel_rfl) (by kernel_rfl) (by kernel_rfl) ?hQ302 (Or.inl ⟨?hw302, ?hy302⟩) (by assumption) ?rest302
 case hi302 => simp only [List.getElem?_toArray, List.getElem?_cons_succ, List.getElem?_cons_zero]; rfl
 case hQ302 => exact fun _ _ _ h => h
 case hw302 => rfl
 case hy302 => (intro W hW; go_simp; all_goals rfl)
 simp only [Act.put, List.setIfInBounds_toArray, List.set_cons_zero, List.set_cons_succ]
 refine wpAnyH_take (i := 3) (oi := ?oi303) (v := ?v303) ?hi303 (by kernel_rfl) (by kernel_rfl) (by kernel_rfl) ?hQ303 (Or.inl ⟨?hw303, ?hy303⟩) (by assumption) ?rest303
 case hi303 => simp only [List.getElem?_toArray, List.getElem?_cons_succ, List.getElem?_cons_zero]; rfl
 case hQ303 => exact fun _ _ _ h => h
 case hw303 => rfl
 case hy303 => (intro W hW; go_simp; all_goals rfl)
 simp only [Act.put, List.setIfInBounds_toArray, List.set_cons_zero, List.set_cons_succ]
 refine wpAnyH_take (i := 4) (oi := ?oi304) (v := ?v304) ?hi304 (by kernel_rfl) (by kernel_rfl) (by kernel_rfl) ?hQ304 (Or.inl ⟨?hw304, ?hy304⟩) (by assumption) ?rest304
 case hi304 => simp only [List.getElem?_toArray, List.getElem?_cons_succ, List.getElem?_cons_zero]; rfl
 case hQ304 => exact fun _ _ _ h => h
 case hw304 => rfl
 case hy304 => (intro W hW; go_simp; all_goals rfl)
 simp only [Act.put, List.setIfInBounds_toArray, List.set_cons_zero, List.set_cons_succ]
 refine wpAnyH_take (i := 5) (oi := ?oiRb) (v := .agg W1.cells.toArray) ?hiRb (by kernel_rfl) (by kernel_rfl) (by kernel_rfl) ?hQRb ?hyRb (by assumption) ?restRb
 case hiRb => simp only [List.getElem?_toArray, List.getElem?_cons_succ, List.getElem?_cons_zero]; rfl
 case hQRb => exact fun _ _ _ h => h
 case hyRb => exact yieldsIf_load_mid rfl 28 (.tmp 21) rfl gb 0 rfl W1.cells _ (fun W hW => range_of_box (HR12.out W hW).2.2) Try.underlying28 rfl (by rw [infoRq8, HWC.out.1.1])
 try simp only [Act.put, List.setIfInBounds_toArray, List.set_cons_zero, List.set_cons_succ]
 refine wpAnyH_take (i := 6) (oi := ?oiRc) (v := .agg W2.cells.toArray) ?hiRc (by kernel_rfl) (by kernel_rfl) (by kernel_rfl) ?hQRc ?hyRc (by assumption) ?restRc
 case hiRc => simp only [List.getElem?_toArray, List.getElem?_cons_succ, List.getElem?_cons_zero]; rfl
 case hQRc => exact fun _ _ _ h => h
 case hyRc => exact yieldsIf_load_mid rfl 28 (.tmp 19) rfl g9 0 rfl W2.cells _ (fun W hW => range_of_box (HR12.out W hW).2.1) Try.underlying28 rfl (by rw [infoRq8, HWC.out.2.1])
 try simp only [Act.put, List.setIfInBounds_toArray, List.set_cons_zero, List.set_cons_succ]
 refine wpAnyH_ready (rs := [7]) (by kernel_rfl) (by simp) ?_
 refine AllReadyH.cons (i := 7) (o := ?o305) ?ho305 (fun Kq hK => ?step305) AllReadyH.nil
 case ho305 => simp only [List.getElem?_toArray, List.getElem?_cons_succ, List.getElem?_cons_zero]; rfl
 go_simp
 (go_at_call 51; refine (HSAME.out w13 HW13.out).mono ?_; rintro e w14 ⟨rfl, hb14⟩; have HW14 : Hd (Chg [g6] w12 w14) := ⟨HW13.out.trans (Chg.of_below hb14)⟩; have HB64 : Hd (w14.heap[g6]? = some (.cells #[.bool false, .slice none 0 0, .int .i64 0, .slice none 0 0, .slice none 0 0, .int .i64 0, .int .i64 0] 65)) := ⟨(hb14.block g6 (Array.getElem?_eq_some_iff.1 HB6.out).1).trans HB6.out⟩; clear hb14)
 refine hK.out _ _ HW14.out (fun _ => ?_)
 clear hK Kq
 try simp only [Act.put, List.setIfInBounds_toArray, List.set_cons_zero, List.set_cons_succ]
 refine wpAnyH_take (i := 8) (oi := ?oi306) (v := ?v306) ?hi306 (by kernel_rfl) (by kernel_rfl) (by kernel_rfl) ?hQ306 (Or.inl ⟨?hw306, ?hy306⟩) (by assumption) ?rest306
 case hi306 => simp only [List.getElem?_toArray, List.getElem?_cons_succ, List.getElem?_cons_zero]; rfl
 case hQ306 => exact fun _ _ _ h => h
 case hw306 => rfl
 case hy306 => (intro W hW; go_simp; all_goals rfl)
 simp only [Act.put, List.setIfInBounds_toArray, List.set_cons_zero, List.set_cons_succ]
 refine wpAnyH_ready (rs := [9]) (by kernel_rfl) (by simp) ?_
 refine AllReadyH.cons (i := 9) (o := ?oS1) ?hoS1 (fun Kq hK => ?stepS1) AllReadyH.nil
 case hoS1 => simp only [List.getElem?_toArray, List.getElem?_cons_succ, List.getElem?_cons_zero]; rfl
 refine step_store rfl 65 (.tmp 6) (.tmp 123) rfl g6 RL2.toArray rfl rfl 65 _ HB64.out (by rw [infoRdr7]; simp [HRC2.out.1]) (by simp [HRC2.out.1]) HRC2.out.2.1 ?_
 intro w15 hs15 hg15
 have hF : Chg [g6] w12 w15 := HW14.out.trans (Chg.of_grown hg15)
 have HS15 := Hd.mk (And.intro hs15 hF)
 refine hK.out _ _ hF (fun _ => ?_)
 clear hK Kq hs15 hg15 hF
 try simp only [Act.put, List.setIfInBounds_toArray, List.set_cons_zero, List.set_cons_succ]
 refine wpAnyH_take (i := 10) (oi := ?oi307) (v := ?v307) ?hi307 (by kernel_rfl) (by kernel_rfl) (by kernel_rfl) ?hQ307 (Or.inl ⟨?hw307, ?hy307⟩) (by assumption) ?rest307
 case hi307 => simp only [List.getElem?_toArray, List.getElem?_cons_succ, List.getElem?_cons_zero]; rfl
 case hQ307 => exact fun _ _ _ h => h
 case hw307 => rfl
 case hy307 => (intro W hW; go_simp; all_goals rfl)
 simp only [Act.put, List.setIfInBounds_toArray, List.set_cons_zero, List.set_cons_succ]
 refine wpAnyH_done (by kernel_rfl) ?_ _
 clear hHeld
 go_wp2_with fail
 (try simp only [Exit.inBlock, Exit.then])
 refine bodyPost_ret (results_cell_tmp rfl _ _ g6 65 RL2.toArray (0, 0) _ rfl HS15.out.1 Try.underlying65 rfl (by rw [infoRdr7]; simp [HRC2.out.1])) rfl ?_
 exact HPOP.out w15 HS15.out.2 _ (by rw [HV.out, HRC2.out.2.2]; rfl)
set_option maxRecDepth 20000 in
set_option maxHeartbeats 8000000 in
theorem asked_ans_some (base : Nat) (w : World) (g : Nat) (vl vc vq : Value) (L : List Nat) (m : Mid) (C : Nat) (fl : Int) (ws : List Wm) (xs : List An) (vs vm : Value) (st : List Nat) (wm : List Wm) (xm : List An) (hd : Nat) (h : PrS telK base w g vl vc vq L m C fl ws xs vs vm st wm xm hd) (hst : st.length ≤ 67108864) (who : Int) (A : Option Addr) (n c : Nat) (hlt : hd < xm.length) :
  Calls Try.prog 28 #[.pointer (some ⟨g, 0, none⟩), .agg (thC telK.ans vs hd vm fl ((go telK.rd mid0 st).held : Int)), .agg #[.int .i64 who, .int .i64 2, .slice A n c]] w (AsDone telK base w g vl vc vq ws vs vm st wm 0) := by
 obtain ⟨W1, ws', x, xs', W2, hws, hxs, hi1, hW2, hi2, hxd, hxm⟩ := h.front hlt
 subst hws hxs
 have HFR := Hd.mk (And.intro hlt (And.intro hxd (And.intro hW2 (And.intro hi1 (And.intro hi2 hxm)))))
 have hw7 : wm.length ≤ 67108864 := by
  have h1 := go_len (rd := telK.rd) mid0 st
  have h2 := h.md.th.is.len
  rw [h.md.is] at h2
  omega
 have HW7 := Hd.mk hw7
 clear hlt hxd hW2 hi1 hi2 hxm hw7
 obtain ⟨hv, hhv⟩ : ∃ q, (go telK.rd mid0 st).held = q := ⟨_, rfl⟩
 have HP := Hd.mk h
 have HV := Hd.mk hhv
 have hvm1 : (if telK.ans then .slice none 0 0 else vm : Value).oneCell' = true ∧ (if telK.ans then vm else .slice none 0 0 : Value).oneCell' = true := by
  have := que_one h.md.th.qu
  constructor <;> split <;> first | rfl | exact this
 obtain ⟨As, cs, hvs, _, _⟩ := own_form h.md.th.so
 subst hvs
 obtain ⟨RL, hRC⟩ : ∃ R : List Value, [.bool telK.ans, .slice As st.length cs, .int .i64 (hd : Int), (if telK.ans then .slice none 0 0 else vm), (if telK.ans then vm else .slice none 0 0), .int .i64 fl, .int .i64 (hv : Int)] = R := ⟨_, rfl⟩
 have hth : thC telK.ans (.slice As st.length cs) hd vm fl (hv : Int) = RL.toArray := by rw [← hRC]; rfl
 have HRC : Hd (RL = [.bool telK.ans, .slice As st.length cs, .int .i64 (hd : Int), (if telK.ans then .slice none 0 0 else vm), (if telK.ans then vm else .slice none 0 0), .int .i64 fl, .int .i64 (hv : Int)] ∧ RL.length = 7 ∧ RL.toArray.all (·.oneCell') = true ∧ thC telK.ans (.slice As st.length cs) hd vm fl (hv : Int) = RL.toArray) := ⟨by rw [hth, ← hRC]; exact ⟨rfl, rfl, one7 rfl rfl rfl hvm1.1 hvm1.2 rfl rfl, rfl⟩⟩
 obtain ⟨g4, hg4⟩ : ∃ q, w.heap.size = q := ⟨_, rfl⟩
 obtain ⟨g5, hg5⟩ : ∃ q, g4 + 1 = q := ⟨_, rfl⟩
 obtain ⟨g6, hg6⟩ : ∃ q, g5 + 1 = q := ⟨_, rfl⟩
 obtain ⟨w1, hw1⟩ : ∃ U, ((w.alloc (.cells RL.toArray 65)).alloc (.cells #[.int .i64 who, .int .i64 2, .slice A n c] 68)).alloc (.cells #[.bool false, .slice none 0 0, .int .i64 0, .slice none 0 0, .slice none 0 0, .int .i64 0, .int .i64 0] 65) = U := ⟨_, rfl⟩
 have HB : Hd (w1.heap[g4]? = some (.cells RL.toArray 65) ∧ w1.heap[g5]? = some (.cells #[.int .i64 who, .int .i64 2, .slice A n c] 68) ∧ w1.heap[g6]? = some (.cells #[.bool false, .slice none 0 0, .int .i64 0, .slice none 0 0, .slice none 0 0, .int .i64 0, .int .i64 0] 65) ∧ Chg [] w w1 ∧ w1.heap.size = g6 + 1 ∧ g4 + 1 = g5 ∧ g5 + 1 = g6 ∧ w.heap.size = g4) := ⟨by
  refine ⟨?_, ?_, ?_, ?_, ?_, hg5, hg6, hg4⟩
  ·rw [← hw1, ← hg4, heap_alloc_old _ _ (by simp; omega), heap_alloc_old _ _ (by simp)]; exact heap_alloc_new w _
  ·rw [← hw1, ← hg5, ← hg4, heap_alloc_old _ _ (by simp)]; have := heap_alloc_new (w.alloc (.cells RL.toArray 65)) (.cells #[.int .i64 who, .int .i64 2, .slice A n c] 68); simpa using this
  ·rw [← hw1, ← hg6, ← hg5, ← hg4]; have := heap_alloc_new ((w.alloc (.cells RL.toArray 65)).alloc (.cells #[.int .i64 who, .int .i64 2, .slice A n c] 68)) (.cells #[.bool false, .slice none 0 0, .int .i64 0, .slice none 0 0, .slice none 0 0, .int .i64 0, .int .i64 0] 65); simpa using this
  ·rw [← hw1]; exact (((Chg.refl [] w).alloc _).alloc _).alloc _
  ·rw [← hw1, ← hg6, ← hg5, ← hg4]; simp⟩
 rw [hhv, hth]
 clear hRC h hhv hvm1 hth
 go_enter Try.func28, Try.ntmps28
 go_upto_region 1 with fail
 try rw [hw1]
 try rw [hg4]
 try rw [hg5]
 try rw [hg6]
 clear hw1 hg4 hg5 hg6
 have cD : w1.cell? ⟨g5, 1, none⟩ = some (.int .i64 2) := by rw [cell_of_row w1 g5 1 _ _ (0, 0) HB.out.2.1]; rfl
 obtain ⟨RL2, hRL2⟩ : ∃ R : List Value, [.bool true, .slice As st.length cs, .int .i64 ((hd + 1 : Nat) : Int), .slice none 0 0, vm, .int .i64 fl, .int .i64 (hv : Int)] = R := ⟨_, rfl⟩
 have HRC2 : Hd (RL2.length = 7 ∧ RL2.toArray.all (·.oneCell') = true ∧ thC telK.ans (.slice As st.length cs) (hd + 1) vm fl (hv : Int) = RL2.toArray) := ⟨by rw [← hRL2]; exact ⟨rfl, one7 rfl rfl rfl rfl (que_one HP.out.md.th.qu) rfl rfl, rfl⟩⟩
 go_upto_region 26 with fail
 clear cD
 have hb4 := HB.out.1
 go_wp2_with (refine at_load (x := .tmp 4) ?_; refine wpList_load_row rfl 65 (.tmp 4) rfl g4 rfl 65 RL.toArray (0, 0) _ hb4 Try.underlying65 rfl (by rw [infoRdr7]; simp [HRC.out.2.1]) ?_)
 have hcall : Calls Try.prog 73 #[.agg RL.toArray] w1 fun e w' => e = .returned (.tuple #[.agg RL2.toArray, .agg W2.cells.toArray, .bool true]) ∧ Chg [] w1 w' := by
  have hRL : RL = [.bool true, .slice As st.length cs, .int .i64 (hd : Int), .slice none 0 0, vm, .int .i64 fl, .int .i64 (hv : Int)] := HRC.out.1
  rw [hRL, ← hRL2]
  exact dans_some w1 true As st.length cs (.slice none 0 0) hd fl (hv : Int) rfl base vm wm W2 (HP.out.new HB.out.2.2.2.1).md.th.qu HFR.out.2.2.1 HW7.out
 refine hcall.mono ?_
 rintro e w8 ⟨rfl, hc8⟩
 clear hcall hb4 hRL2
 have HC8 : Hd (Chg [] w1 w8) := ⟨hc8⟩
 have hcl2 := HP.out.md.th.qu.1 W2 (List.mem_of_getElem? HFR.out.2.2.1)
 have hcl1 := HP.out.rd.qu.1 W1 (List.mem_cons_self ..)
 have HWC : Hd ((W1.cells.length = 15 ∧ W1.cells.toArray.all (·.oneCell') = true) ∧ (W2.cells.length = 15 ∧ W2.cells.toArray.all (·.oneCell') = true)) := ⟨⟨hcl1.1, all_oneCell_toArray hcl1.2⟩, hcl2.1, all_oneCell_toArray hcl2.2⟩
 clear hc8 hcl1 hcl2
 go_upto_region 27 with (first | (refine at_store (x := .tmp 23) ?_; refine wpList_stored rfl 65 (.tmp 23) (.tmp 137) rfl w8.heap.size RL2.toArray rfl rfl 65 _ (alloc2_fst _ _ _) (by rw [infoRdr7]; simp [HRC2.out.1]) (by simp [HRC2.out.1]) HRC2.out.2.1 ?_; intro w9 hB9) | (refine at_store (x := .tmp 24) ?_; refine wpList_stored rfl 43 (.tmp 24) (.tmp 138) rfl (w8.heap.size + 1) W2.cells.toArray rfl rfl 43 _ ((hB9.out.2.1.block _ (by simp) (by simp)).trans (alloc2_snd _ _ _)) (by rw [infoAn15]; simp [HWC.out.2.1]) (by simp [HWC.out.2.1]) HWC.out.2.2 ?_; intro w10 hB10))
 obtain ⟨g8, hg8⟩ : ∃ q, w8.heap.size = q := ⟨_, rfl⟩
 obtain ⟨g9, hg9⟩ : ∃ q, g8 + 1 = q := ⟨_, rfl⟩
 rw [hg8] at hB9 hB10 ⊢
 try rw [hg9]
 have HB10 : Hd (w10.heap[g8]? = some (.cells RL2.toArray 65) ∧ w10.heap[g9]? = some (.cells W2.cells.toArray 43) ∧ Chg [] w8 w10 ∧ w10.heap.size = g9 + 1 ∧ g8 + 1 = g9 ∧ w8.heap.size = g8) := ⟨by
  have e9 := hB9.out.2.2
  have e10 := hB10.out.2.2
  simp at e9
  refine ⟨by rw [hB10.out.2.1.block g8 (by omega) (by simp)]; exact hB9.out.1, by rw [← hg9]; exact hB10.out.1, ?_, by omega, hg9, hg8⟩
  exact ((((Chg.refl [] w8).alloc _).alloc _).newer (Chg.of_grown hB9.out.2.1) fun y hy => .inr (by simp at hy; omega)).newer (Chg.of_grown hB10.out.2.1) fun y hy => .inr (by simp at hy; omega)⟩
 clear hB9 hB10 hg8 hg9
 go_wp2_with fail
 have hc10 : Chg [] w w10 := (HB.out.2.2.2.1.trans HC8.out).trans HB10.out.2.2.1
 refine (some_tel base w10 g vl vc vq L m.c m.s C m.k m.p fl W1 ws' x xs' (HP.out.new hc10).rd).mono ?_
 rintro e w11 ⟨rfl, vq', hr11, hc11, hbq⟩
 have HC11 : Hd (Chg [g] w w11 ∧ Chg [g] w10 w11 ∧ RdS telK base w11 g vl vc vq' L m.c m.s C m.k m.p fl ws' xs' ∧ vq'.ownBlock = vq.ownBlock) := ⟨(hc10.mono (by simp)).trans hc11, hc11, hr11, hbq⟩
 have HGL : Hd (g < w.heap.size) := ⟨HP.out.rd.lt⟩
 clear hr11 hc11 hbq hc10
 go_upto_region 28 with (refine at_store (x := .tmp 26) ?_; refine wpList_boxed rfl 43 (.tmp 26) (.tmp 143) rfl w11.heap.size rfl W1.cells.toArray rfl rfl (by rw [infoAn15]; simp [HWC.out.1.1]) (by simp [HWC.out.1.1]) HWC.out.1.2 ?_; intro w12 hB12)
 obtain ⟨gb, hgb⟩ : ∃ q, w11.heap.size = q := ⟨_, rfl⟩
 rw [hgb] at hB12 ⊢
 have HL : Hd (g < g6 ∧ g6 < g8 ∧ g8 < g9 ∧ g9 < gb ∧ gb < w12.heap.size ∧ Chg [g] w w12 ∧ w.heap.size ≤ g6) := ⟨by
  have h0 := HGL.out
  have h1 := HB.out.2.2.2.2
  have h2 := HC8.out.size
  have h3 := HB10.out.2.2.2
  have h4 := HC11.out.2.1.size
  have h5 := hB12.out.2.2
  exact ⟨by omega, by omega, by omega, by omega, by omega, HC11.out.1.newer (Chg.of_below (L := []) (by rw [hgb]; exact hB12.out.2.1)) (by simp), by omega⟩⟩
 have HR12 : Hd (∀ W, Chg [g6] w12 W → W.heap[g8]? = some (.cells RL2.toArray 65) ∧ W.heap[g9]? = some (.cells W2.cells.toArray 43) ∧ W.heap[gb]? = some (.cells W1.cells.toArray 43)) := ⟨fun W b => by
  have h1 := HL.out
  have hx : ∀ {q : Nat}, g6 < q → q ∉ [g6] := fun h hm => by simp at hm; omega
  have hy : ∀ {q : Nat}, g6 < q → q ∉ [g] := fun h hm => by simp at hm; omega
  have h3 := HB10.out.2.2.2
  refine ⟨?_, ?_, ?_⟩
  ·rw [b.block g8 (by omega) (hx (by omega)), hB12.out.2.1.block g8 (by omega), HC11.out.2.1.block g8 (by omega) (hy (by omega))]; exact HB10.out.1
  ·rw [b.block g9 (by omega) (hx (by omega)), hB12.out.2.1.block g9 (by omega), HC11.out.2.1.block g9 (by omega) (hy (by omega))]; exact HB10.out.2.1
  ·rw [b.block gb (by omega) (hx (by omega))]; exact hB12.out.1⟩
 have HB6 : Hd (w12.drew.heap[g6]? = some (.cells #[.bool false, .slice none 0 0, .int .i64 0, .slice none 0 0, .slice none 0 0, .int .i64 0, .int .i64 0] 65)) := ⟨by
  have h1 := HL.out
  have h3 := HB10.out.2.2.2
  have h5 := HB.out.2.2.2.2.1
  show w12.heap[g6]? = _
  rw [hB12.out.2.1.block g6 (by omega), HC11.out.2.1.block g6 (by omega) (by simp; omega), HB10.out.2.2.1.block g6 (by omega) List.not_mem_nil, HC8.out.block g6 (by omega) List.not_mem_nil]; exact HB.out.2.2.1⟩
 have HNW : Hd (∀ W, Chg [g6] w12 W → Chg [g] w W) := ⟨fun W b => HL.out.2.2.2.2.2.1.newer b fun y hy => .inr (by have := HL.out; simp at hy; omega)⟩
 have HSAME : Hd (∀ W, Chg [g6] w12 W → Calls Try.prog 61 #[.agg W1.cells.toArray, .agg W2.cells.toArray] W fun e w' => e = .returned (.bool true) ∧ Below W.heap.size W w') := ⟨fun W b => by
  have hc := HNW.out W b
  have hgx : g ∈ rdX g vl vc vq := mem_X.2 (.inr (.inl rfl))
  have o1 := (HP.out.rd.ok W1 (List.mem_cons_self ..)).chg hc fun r hr q hq hm => HP.out.rd.off W1 (List.mem_cons_self ..) r hr q hq (by rw [List.mem_singleton.1 hm]; exact hgx)
  have o2 := (HP.out.md.th.ok W2 (List.mem_of_getElem? HFR.out.2.2.1)).chg hc fun r hr q hq hm => HP.out.sep q (.inr (.inr ⟨W2, List.mem_of_getElem? HFR.out.2.2.1, r, hr, hq⟩)) (by rw [List.mem_singleton.1 hm]; exact hgx)
  obtain ⟨v1, v2, v3, e1⟩ := HFR.out.2.2.2.1
  obtain ⟨u1, u2, u3, e2⟩ := HFR.out.2.2.2.2.1
  have hB : AnB x ∧ anFit x := go_all (Z := telK) (fun x => AnB x ∧ anFit x) (fun c y hb hr => ⟨(rdAn_form c y hb hr).2.2.2, (rdAn_form c y hb hr).2.2.1⟩) HP.out.md.th.lb x HFR.out.2.2.2.2.2
  rw [e1] at o1 ⊢
  rw [e2] at o2 ⊢
  exact same_an o1 o2 hB.1 hB.2⟩
 have HPOP : Hd (∀ W, Chg [g6] w12 W → ∀ e, e = .returned (.tuple #[.agg (thC telK.ans (.slice As st.length cs) (hd + 1) vm fl ((go telK.rd mid0 st).held : Int)), .bool true]) → AsDone telK base w g vl vc vq (W1 :: ws') (.slice As st.length cs) vm st wm 0 e W) := ⟨fun W b e he => by
  have hl := HL.out
  have b2 : Chg [g6] w11 W := (Chg.of_below (by rw [hgb]; exact hB12.out.2.1)).trans b
  refine HP.out.pop HFR.out.1 HFR.out.2.1 (HC11.out.2.2.1.keep b2 (fun y hy hm => ?_) fun V hV r hr q hq hm => ?_) (HNW.out W b) HC11.out.2.2.2 0 he
  ·have h1 : y ∈ rdX g vl vc vq := by rw [mem_X] at hy ⊢; rw [← HC11.out.2.2.2]; exact hy
   have := (HP.out.rd.ltX h1).2
   simp at hm; omega
  ·have := ((HP.out.rd.ok V (List.mem_cons_of_mem _ hV)).lt hr hq).2
   simp at hm; omega⟩
 clear hgb
 refine wp_region_held_drew (S := fun W => Chg [g6] w12 W) (by kernel_rfl) (Chg.refl [g6] w12).drew (fun hHeld => ?_)
 obtain ⟨w13, hw13⟩ : ∃ U, w12.drew = U := ⟨_, rfl⟩
 rw [hw13] at HB6 hHeld ⊢
 have HW13 := Hd.mk hHeld
 clear hw13
 refine wpAnyH_take (i := 0) (oi := ?oiRa) (v := .agg RL2.toArray) ?hiRa (by kernel_rfl) (by kernel_rfl) (by kernel_rfl) ?hQRa ?hyRa (by assumption) ?restRa
 case hiRa => simp only [List.getElem?_toArray, List.getElem?_cons_succ, List.getElem?_cons_zero]; rfl
 case hQRa => exact fun _ _ _ h => h
 case hyRa => exact yieldsIf_load_mid rfl 65 (.tmp 23) rfl g8 0 rfl RL2 _ (fun W hW => range_of_box (HR12.out W hW).1) Try.underlying65 rfl (by rw [infoRdr7, HRC2.out.1])
 try simp only [Act.put, List.setIfInBounds_toArray, List.set_cons_zero, List.set_cons_succ]
 refine wpAnyH_take (i := 1) (oi := ?oi401) (v := ?v401) ?hi401 (by kernel_rfl) (by kernel_rfl) (by kernel_rfl) ?hQ401 (Or.inl ⟨?hw401, ?hy401⟩) (by assumption) ?rest401
 case hi401 => simp only [List.getElem?_toArray, List.getElem?_cons_succ, List.getElem?_cons_zero]; rfl
 case hQ401 => exact fun _ _ _ h => h
 case hw401 => rfl
 case hy401 => (intro W hW; go_simp; all_goals rfl)
 simp only [Act.put, List.setIfInBounds_toArray, List.set_cons_zero, List.set_cons_succ]
 refine wpAnyH_take (i := 2) (oi := ?oi402) (v := ?v402) ?hi402 (by kernel_rfl) (by kernel_rfl) (by kernel_rfl) ?hQ402 (Or.inl ⟨?hw402, ?hy402⟩) (by assumption) ?rest402
 case hi402 => simp only [List.getElem?_toArray, List.getElem?_cons_succ, List.getElem?_cons_zero]; rfl
 case hQ402 => exact fun _ _ _ h => h
 case hw402 => rfl
 case hy402 => (intro W hW; go_simp; all_goals rfl)
 simp only [Act.put, List.setIfInBounds_toArray, List.set_cons_zero, List.set_cons_succ]
 refine wpAnyH_take (i := 3) (oi := ?oi403) (v := ?v403) ?hi403 (by kernel_rfl) (by kernel_rfl) (by kernel_rfl) ?hQ403 (Or.inl ⟨?hw403, ?hy403⟩) (by assumption) ?rest403
 case hi403 => simp only [List.getElem?_toArray, List.getElem?_cons_succ, List.getElem?_cons_zero]; rfl
 case hQ403 => exact fun _ _ _ h => h
 case hw403 => rfl
 case hy403 => (intro W hW; go_simp; all_goals rfl)
 simp only [Act.put, List.setIfInBounds_toArray, List.set_cons_zero, List.set_cons_succ]
 refine wpAnyH_take (i := 4) (oi := ?oi404) (v := ?v404) ?hi404 (by kernel_rfl) (by kernel_rfl) (by kernel_rfl) ?hQ404 (Or.inl ⟨?hw404, ?hy404⟩) (by assumption) ?rest404
 case hi404 => simp only [List.getElem?_toArray, List.getElem?_cons_succ, List.getElem?_cons_zero]; rfl
 case hQ404 => exact fun _ _ _ h => h
 case hw404 => rfl
 case hy404 => (intro W hW; go_simp; all_goals rfl)
 simp only [Act.put, List.setIfInBounds_toArray, List.set_cons_zero, List.set_cons_succ]
 refine wpAnyH_take (i := 5) (oi := ?oiRb) (v := .agg W1.cells.toArray) ?hiRb (by kernel_rfl) (by kernel_rfl) (by kernel_rfl) ?hQRb ?hyRb (by assumption) ?restRb
 case hiRb => simp only [List.getElem?_toArray, List.getElem?_cons_succ, List.getElem?_cons_zero]; rfl
 case hQRb => exact fun _ _ _ h => h
 case hyRb => exact yieldsIf_load_mid rfl 43 (.tmp 26) rfl gb 0 rfl W1.cells _ (fun W hW => range_of_box (HR12.out W hW).2.2) Try.underlying43 rfl (by rw [infoAn15, HWC.out.1.1])
 try simp only [Act.put, List.setIfInBounds_toArray, List.set_cons_zero, List.set_cons_succ]
 refine wpAnyH_take (i := 6) (oi := ?oiRc) (v := .agg W2.cells.toArray) ?hiRc (by kernel_rfl) (by kernel_rfl) (by kernel_rfl) ?hQRc ?hyRc (by assumption) ?restRc
 case hiRc => simp only [List.getElem?_toArray, List.getElem?_cons_succ, List.getElem?_cons_zero]; rfl
 case hQRc => exact fun _ _ _ h => h
 case hyRc => exact yieldsIf_load_mid rfl 43 (.tmp 24) rfl g9 0 rfl W2.cells _ (fun W hW => range_of_box (HR12.out W hW).2.1) Try.underlying43 rfl (by rw [infoAn15, HWC.out.2.1])
 try simp only [Act.put, List.setIfInBounds_toArray, List.set_cons_zero, List.set_cons_succ]
 refine wpAnyH_ready (rs := [7]) (by kernel_rfl) (by simp) ?_
 refine AllReadyH.cons (i := 7) (o := ?o405) ?ho405 (fun Kq hK => ?step405) AllReadyH.nil
 case ho405 => simp only [List.getElem?_toArray, List.getElem?_cons_succ, List.getElem?_cons_zero]; rfl
 go_simp
 (go_at_call 61; refine (HSAME.out w13 HW13.out).mono ?_; rintro e w14 ⟨rfl, hb14⟩; have HW14 : Hd (Chg [g6] w12 w14) := ⟨HW13.out.trans (Chg.of_below hb14)⟩; have HB64 : Hd (w14.heap[g6]? = some (.cells #[.bool false, .slice none 0 0, .int .i64 0, .slice none 0 0, .slice none 0 0, .int .i64 0, .int .i64 0] 65)) := ⟨(hb14.block g6 (Array.getElem?_eq_some_iff.1 HB6.out).1).trans HB6.out⟩; clear hb14)
 refine hK.out _ _ HW14.out (fun _ => ?_)
 clear hK Kq
 try simp only [Act.put, List.setIfInBounds_toArray, List.set_cons_zero, List.set_cons_succ]
 refine wpAnyH_take (i := 8) (oi := ?oi406) (v := ?v406) ?hi406 (by kernel_rfl) (by kernel_rfl) (by kernel_rfl) ?hQ406 (Or.inl ⟨?hw406, ?hy406⟩) (by assumption) ?rest406
 case hi406 => simp only [List.getElem?_toArray, List.getElem?_cons_succ, List.getElem?_cons_zero]; rfl
 case hQ406 => exact fun _ _ _ h => h
 case hw406 => rfl
 case hy406 => (intro W hW; go_simp; all_goals rfl)
 simp only [Act.put, List.setIfInBounds_toArray, List.set_cons_zero, List.set_cons_succ]
 refine wpAnyH_ready (rs := [9]) (by kernel_rfl) (by simp) ?_
 refine AllReadyH.cons (i := 9) (o := ?oS1) ?hoS1 (fun Kq hK => ?stepS1) AllReadyH.nil
 case hoS1 => simp only [List.getElem?_toArray, List.getElem?_cons_succ, List.getElem?_cons_zero]; rfl
 refine step_store rfl 65 (.tmp 6) (.tmp 145) rfl g6 RL2.toArray rfl rfl 65 _ HB64.out (by rw [infoRdr7]; simp [HRC2.out.1]) (by simp [HRC2.out.1]) HRC2.out.2.1 ?_
 intro w15 hs15 hg15
 have hF : Chg [g6] w12 w15 := HW14.out.trans (Chg.of_grown hg15)
 have HS15 := Hd.mk (And.intro hs15 hF)
 refine hK.out _ _ hF (fun _ => ?_)
 clear hK Kq hs15 hg15 hF
 try simp only [Act.put, List.setIfInBounds_toArray, List.set_cons_zero, List.set_cons_succ]
 refine wpAnyH_take (i := 10) (oi := ?oi407) (v := ?v407) ?hi407 (by kernel_rfl) (by kernel_rfl) (by kernel_rfl) ?hQ407 (Or.inl ⟨?hw407, ?hy407⟩) (by assumption) ?rest407
 case hi407 => simp only [List.getElem?_toArray, List.getElem?_cons_succ, List.getElem?_cons_zero]; rfl
 case hQ407 => exact fun _ _ _ h => h
 case hw407 => rfl
 case hy407 => (intro W hW; go_simp; all_goals rfl)
 simp only [Act.put, List.setIfInBounds_toArray, List.set_cons_zero, List.set_cons_succ]
 refine wpAnyH_done (by kernel_rfl) ?_ _
 clear hHeld
 go_wp2_with fail
 (try simp only [Exit.inBlock, Exit.then])
 refine bodyPost_ret (results_cell_tmp rfl _ _ g6 65 RL2.toArray (0, 0) _ rfl HS15.out.1 Try.underlying65 rfl (by rw [infoRdr7]; simp [HRC2.out.1])) rfl ?_
 exact HPOP.out w15 HS15.out.2 _ (by rw [HV.out, HRC2.out.2.2]; rfl)
end Go.Proofs.Ytbcmjjcbjojakaa
