/- Contracts of asked: Held, Fault, and what is none of the calls. (tools/askdgen.py prints it.) -/
import Derived.Test.YtbcmjjcbjojakaaPk15
namespace Go.Proofs.Ytbcmjjcbjojakaa
open Go.RowKit
set_option linter.unusedVariables false
set_option linter.unusedSimpArgs false
set_option maxRecDepth 20000 in
set_option maxHeartbeats 8000000 in
theorem asked_else {T : Type} (Z : Kd T) (base : Nat) (w : World) (g : Nat) (vl vc vq : Value) (L : List Nat) (m : Mid) (C : Nat) (fl : Int) (ws : List Wm) (xs : List T) (vs vm : Value) (st : List Nat) (wm : List Wm) (xm : List T) (hd : Nat) (h : PrS Z base w g vl vc vq L m C fl ws xs vs vm st wm xm hd) (hst : st.length ≤ 67108864) (who : Int) (A : Option Addr) (n c : Nat) (d : Int) (hd0 : ¬ (0 ≤ d ∧ d ≤ 4)) :
  Calls Try.prog 28 #[.pointer (some ⟨g, 0, none⟩), .agg (thC Z.ans vs hd vm fl ((go Z.rd mid0 st).held : Int)), .agg #[.int .i64 who, .int .i64 d, .slice A n c]] w (AsDone Z base w g vl vc vq ws vs vm st wm 0) := by
 obtain ⟨hv, hhv⟩ : ∃ q, (go Z.rd mid0 st).held = q := ⟨_, rfl⟩
 have HP := Hd.mk h
 have HV := Hd.mk hhv
 have hvm1 : (if Z.ans then .slice none 0 0 else vm : Value).oneCell' = true ∧ (if Z.ans then vm else .slice none 0 0 : Value).oneCell' = true := by
  have := que_one h.md.th.qu
  constructor <;> split <;> first | rfl | exact this
 obtain ⟨As, cs, hvs, _, _⟩ := own_form h.md.th.so
 subst hvs
 obtain ⟨RL, hRC⟩ : ∃ R : List Value, [.bool Z.ans, .slice As st.length cs, .int .i64 (hd : Int), (if Z.ans then .slice none 0 0 else vm), (if Z.ans then vm else .slice none 0 0), .int .i64 fl, .int .i64 (hv : Int)] = R := ⟨_, rfl⟩
 have hth : thC Z.ans (.slice As st.length cs) hd vm fl (hv : Int) = RL.toArray := by rw [← hRC]; rfl
 have HRC : Hd (RL = [.bool Z.ans, .slice As st.length cs, .int .i64 (hd : Int), (if Z.ans then .slice none 0 0 else vm), (if Z.ans then vm else .slice none 0 0), .int .i64 fl, .int .i64 (hv : Int)] ∧ RL.length = 7 ∧ RL.toArray.all (·.oneCell') = true ∧ thC Z.ans (.slice As st.length cs) hd vm fl (hv : Int) = RL.toArray) := ⟨by rw [hth, ← hRC]; exact ⟨rfl, rfl, one7 rfl rfl rfl hvm1.1 hvm1.2 rfl rfl, rfl⟩⟩
 obtain ⟨g4, hg4⟩ : ∃ q, w.heap.size = q := ⟨_, rfl⟩
 obtain ⟨g5, hg5⟩ : ∃ q, g4 + 1 = q := ⟨_, rfl⟩
 obtain ⟨g6, hg6⟩ : ∃ q, g5 + 1 = q := ⟨_, rfl⟩
 obtain ⟨w1, hw1⟩ : ∃ U, ((w.alloc (.cells RL.toArray 65)).alloc (.cells #[.int .i64 who, .int .i64 d, .slice A n c] 68)).alloc (.cells #[.bool false, .slice none 0 0, .int .i64 0, .slice none 0 0, .slice none 0 0, .int .i64 0, .int .i64 0] 65) = U := ⟨_, rfl⟩
 have HB : Hd (w1.heap[g4]? = some (.cells RL.toArray 65) ∧ w1.heap[g5]? = some (.cells #[.int .i64 who, .int .i64 d, .slice A n c] 68) ∧ w1.heap[g6]? = some (.cells #[.bool false, .slice none 0 0, .int .i64 0, .slice none 0 0, .slice none 0 0, .int .i64 0, .int .i64 0] 65) ∧ Chg [] w w1 ∧ w1.heap.size = g6 + 1 ∧ g4 + 1 = g5 ∧ g5 + 1 = g6 ∧ w.heap.size = g4) := ⟨by
  refine ⟨?_, ?_, ?_, ?_, ?_, hg5, hg6, hg4⟩
  ·rw [← hw1, ← hg4, heap_alloc_old _ _ (by simp; omega), heap_alloc_old _ _ (by simp)]; exact heap_alloc_new w _
  ·rw [← hw1, ← hg5, ← hg4, heap_alloc_old _ _ (by simp)]; have := heap_alloc_new (w.alloc (.cells RL.toArray 65)) (.cells #[.int .i64 who, .int .i64 d, .slice A n c] 68); simpa using this
  ·rw [← hw1, ← hg6, ← hg5, ← hg4]; have := heap_alloc_new ((w.alloc (.cells RL.toArray 65)).alloc (.cells #[.int .i64 who, .int .i64 d, .slice A n c] 68)) (.cells #[.bool false, .slice none 0 0, .int .i64 0, .slice none 0 0, .slice none 0 0, .int .i64 0, .int .i64 0] 65); simpa using this
  ·rw [← hw1]; exact (((Chg.refl [] w).alloc _).alloc _).alloc _
  ·rw [← hw1, ← hg6, ← hg5, ← hg4]; simp⟩
 rw [hhv, hth]
 clear hRC h hhv hvm1 hth
 go_enter Try.func28, Try.ntmps28
 go_upto_region 1 with fail
 try rw [hw1]
 try rw [hg4]
 try rw [hg5]
 try rw [hg6]
 clear hw1 hg4 hg5 hg6
 have cD : w1.cell? ⟨g5, 1, none⟩ = some (.int .i64 d) := by rw [cell_of_row w1 g5 1 _ _ (0, 0) HB.out.2.1]; rfl
 have e0 : (d == 0) = false := beq_eq_false_iff_ne.2 (by omega)
 have e1 : (d == 1) = false := beq_eq_false_iff_ne.2 (by omega)
 have e2 : (d == 2) = false := beq_eq_false_iff_ne.2 (by omega)
 have e3 : (d == 3) = false := beq_eq_false_iff_ne.2 (by omega)
 have e4 : (d == 4) = false := beq_eq_false_iff_ne.2 (by omega)
 clear hd0
 go_upto_region 33 with fail
 clear cD e0 e1 e2 e3 e4
 have hb4 := HB.out.1
 have hb6 := HB.out.2.2.1
 go_wp2_with (first | (refine at_load (x := .tmp 4) ?_; refine wpList_load_row rfl 65 (.tmp 4) rfl g4 rfl 65 RL.toArray (0, 0) _ hb4 Try.underlying65 rfl (by rw [infoRdr7]; simp [HRC.out.2.1]) ?_) | (refine at_store (x := .tmp 6) ?_; refine wpList_stored rfl 65 (.tmp 6) (.tmp 172) rfl g6 RL.toArray rfl rfl 65 _ hb6 (by rw [infoRdr7]; simp [HRC.out.2.1]) (by simp [HRC.out.2.1]) HRC.out.2.2.1 ?_; intro w2 hB2))
 (try simp only [Exit.inBlock, Exit.then])
 refine bodyPost_ret (results_cell_tmp rfl _ _ g6 65 RL.toArray (0, 0) _ rfl hB2.out.1 Try.underlying65 rfl (by rw [infoRdr7]; simp [HRC.out.2.1])) rfl ?_
 exact HP.out.same (HB.out.2.2.2.1.newer (Chg.of_grown hB2.out.2.1) fun y hy => .inr (by have := HB.out; simp at hy; omega)) 0 (by rw [HV.out, HRC.out.2.2.2]; rfl)
set_option maxRecDepth 20000 in
set_option maxHeartbeats 8000000 in
theorem asked_held {T : Type} (Z : Kd T) (base : Nat) (w : World) (g : Nat) (vl vc vq : Value) (L : List Nat) (m : Mid) (C : Nat) (fl : Int) (ws : List Wm) (xs : List T) (vs vm : Value) (st : List Nat) (wm : List Wm) (xm : List T) (hd : Nat) (h : PrS Z base w g vl vc vq L m C fl ws xs vs vm st wm xm hd) (hst : st.length ≤ 67108864) (who : Int) (A : Option Addr) (n c : Nat) :
  Calls Try.prog 28 #[.pointer (some ⟨g, 0, none⟩), .agg (thC Z.ans vs hd vm fl ((go Z.rd mid0 st).held : Int)), .agg #[.int .i64 who, .int .i64 3, .slice A n c]] w (AsDone Z base w g vl vc vq ws vs vm st wm 0) := by
 obtain ⟨hv, hhv⟩ : ∃ q, (go Z.rd mid0 st).held = q := ⟨_, rfl⟩
 have HP := Hd.mk h
 have HV := Hd.mk hhv
 have hvm1 : (if Z.ans then .slice none 0 0 else vm : Value).oneCell' = true ∧ (if Z.ans then vm else .slice none 0 0 : Value).oneCell' = true := by
  have := que_one h.md.th.qu
  constructor <;> split <;> first | rfl | exact this
 obtain ⟨As, cs, hvs, _, _⟩ := own_form h.md.th.so
 subst hvs
 obtain ⟨RL, hRC⟩ : ∃ R : List Value, [.bool Z.ans, .slice As st.length cs, .int .i64 (hd : Int), (if Z.ans then .slice none 0 0 else vm), (if Z.ans then vm else .slice none 0 0), .int .i64 fl, .int .i64 (hv : Int)] = R := ⟨_, rfl⟩
 have hth : thC Z.ans (.slice As st.length cs) hd vm fl (hv : Int) = RL.toArray := by rw [← hRC]; rfl
 have HRC : Hd (RL = [.bool Z.ans, .slice As st.length cs, .int .i64 (hd : Int), (if Z.ans then .slice none 0 0 else vm), (if Z.ans then vm else .slice none 0 0), .int .i64 fl, .int .i64 (hv : Int)] ∧ RL.length = 7 ∧ RL.toArray.all (·.oneCell') = true ∧ thC Z.ans (.slice As st.length cs) hd vm fl (hv : Int) = RL.toArray) := ⟨by rw [hth, ← hRC]; exact ⟨rfl, rfl, one7 rfl rfl rfl hvm1.1 hvm1.2 rfl rfl, rfl⟩⟩
 obtain ⟨g4, hg4⟩ : ∃ q, w.heap.size = q := ⟨_, rfl⟩
 obtain ⟨g5, hg5⟩ : ∃ q, g4 + 1 = q := ⟨_, rfl⟩
 obtain ⟨g6, hg6⟩ : ∃ q, g5 + 1 = q := ⟨_, rfl⟩
 obtain ⟨w1, hw1⟩ : ∃ U, ((w.alloc (.cells RL.toArray 65)).alloc (.cells #[.int .i64 who, .int .i64 3, .slice A n c] 68)).alloc (.cells #[.bool false, .slice none 0 0, .int .i64 0, .slice none 0 0, .slice none 0 0, .int .i64 0, .int .i64 0] 65) = U := ⟨_, rfl⟩
 have HB : Hd (w1.heap[g4]? = some (.cells RL.toArray 65) ∧ w1.heap[g5]? = some (.cells #[.int .i64 who, .int .i64 3, .slice A n c] 68) ∧ w1.heap[g6]? = some (.cells #[.bool false, .slice none 0 0, .int .i64 0, .slice none 0 0, .slice none 0 0, .int .i64 0, .int .i64 0] 65) ∧ Chg [] w w1 ∧ w1.heap.size = g6 + 1 ∧ g4 + 1 = g5 ∧ g5 + 1 = g6 ∧ w.heap.size = g4) := ⟨by
  refine ⟨?_, ?_, ?_, ?_, ?_, hg5, hg6, hg4⟩
  ·rw [← hw1, ← hg4, heap_alloc_old _ _ (by simp; omega), heap_alloc_old _ _ (by simp)]; exact heap_alloc_new w _
  ·rw [← hw1, ← hg5, ← hg4, heap_alloc_old _ _ (by simp)]; have := heap_alloc_new (w.alloc (.cells RL.toArray 65)) (.cells #[.int .i64 who, .int .i64 3, .slice A n c] 68); simpa using this
  ·rw [← hw1, ← hg6, ← hg5, ← hg4]; have := heap_alloc_new ((w.alloc (.cells RL.toArray 65)).alloc (.cells #[.int .i64 who, .int .i64 3, .slice A n c] 68)) (.cells #[.bool false, .slice none 0 0, .int .i64 0, .slice none 0 0, .slice none 0 0, .int .i64 0, .int .i64 0] 65); simpa using this
  ·rw [← hw1]; exact (((Chg.refl [] w).alloc _).alloc _).alloc _
  ·rw [← hw1, ← hg6, ← hg5, ← hg4]; simp⟩
 rw [hhv, hth]
 clear hRC h hhv hvm1 hth
 go_enter Try.func28, Try.ntmps28
 go_upto_region 1 with fail
 try rw [hw1]
 try rw [hg4]
 try rw [hg5]
 try rw [hg6]
 clear hw1 hg4 hg5 hg6
 have cD : w1.cell? ⟨g5, 1, none⟩ = some (.int .i64 3) := by rw [cell_of_row w1 g5 1 _ _ (0, 0) HB.out.2.1]; rfl
 go_upto_region 30 with fail
 clear cD
 have HRG : Hd (∀ W, Chg [g6] w1 W → W.heap[g4]? = some (.cells RL.toArray 65)) := ⟨fun W b => (b.block g4 (by have := HB.out; omega) (by have := HB.out; simp; omega)).trans HB.out.1⟩
 have HC : Hd (∀ W, Chg [g6] w1 W → W.cell? ⟨g4, 5, none⟩ = some (.int .i64 fl) ∧ W.cell? ⟨g4, 6, none⟩ = some (.int .i64 (hv : Int))) := ⟨fun W b => by
  have h := HRG.out W b
  exact ⟨by rw [cell_of_row W g4 5 _ _ (0, 0) h, HRC.out.1]; rfl, by rw [cell_of_row W g4 6 _ _ (0, 0) h, HRC.out.1]; rfl⟩⟩
 have HNW : Hd (∀ W, Chg [g6] w1 W → Chg [] w W) := ⟨fun W b => HB.out.2.2.2.1.newer b fun y hy => .inr (by have := HB.out; simp at hy; omega)⟩
 refine wp_region_held_drew (S := fun W => Chg [g6] w1 W) (by kernel_rfl) (Chg.refl [g6] w1).drew (fun hHeld => ?_)
 have HB47 : Hd (w1.drew.heap[g6]? = some (.cells #[.bool false, .slice none 0 0, .int .i64 0, .slice none 0 0, .slice none 0 0, .int .i64 0, .int .i64 0] 65)) := ⟨HB.out.2.2.1⟩
 obtain ⟨w7, hw7⟩ : ∃ U, w1.drew = U := ⟨_, rfl⟩
 rw [hw7] at HB47 hHeld ⊢
 have HW7 := Hd.mk hHeld
 clear hw7
 refine wpAnyH_take (i := 0) (oi := ?oiRa) (v := .agg RL.toArray) ?hiRa (by kernel_rfl) (by kernel_rfl) (by kernel_rfl) ?hQRa ?hyRa (by assumption) ?restRa
 case hiRa => simp only [List.getElem?_toArray, List.getElem?_cons_succ, List.getElem?_cons_zero]; rfl
 case hQRa => exact fun _ _ _ h => h
 case hyRa => exact yieldsIf_load_mid rfl 65 (.tmp 4) rfl g4 0 rfl RL _ (fun W hW => range_of_box (HRG.out W hW)) Try.underlying65 rfl (by rw [infoRdr7, HRC.out.2.1])
 try simp only [Act.put, List.setIfInBounds_toArray, List.set_cons_zero, List.set_cons_succ]
 refine wpAnyH_take (i := 1) (oi := ?oi101) (v := ?v101) ?hi101 (by kernel_rfl) (by kernel_rfl) (by kernel_rfl) ?hQ101 (Or.inl ⟨?hw101, ?hy101⟩) (by assumption) ?rest101
 case hi101 => simp only [List.getElem?_toArray, List.getElem?_cons_succ, List.getElem?_cons_zero]; rfl
 case hQ101 => exact fun _ _ _ h => h
 case hw101 => rfl
 case hy101 => (intro W hW; go_simp; all_goals rfl)
 simp only [Act.put, List.setIfInBounds_toArray, List.set_cons_zero, List.set_cons_succ]
 refine wpAnyH_take (i := 3) (oi := ?oi102) (v := ?v102) ?hi102 (by kernel_rfl) (by kernel_rfl) (by kernel_rfl) ?hQ102 (Or.inl ⟨?hw102, ?hy102⟩) (by assumption) ?rest102
 case hi102 => simp only [List.getElem?_toArray, List.getElem?_cons_succ, List.getElem?_cons_zero]; rfl
 case hQ102 => exact fun _ _ _ h => h
 case hw102 => rfl
 case hy102 => (intro W hW; go_simp; all_goals rfl)
 simp only [Act.put, List.setIfInBounds_toArray, List.set_cons_zero, List.set_cons_succ]
 refine wpAnyH_take (i := 4) (oi := ?oi103) (v := ?v103) ?hi103 (by kernel_rfl) (by kernel_rfl) (by kernel_rfl) ?hQ103 (Or.inl ⟨?hw103, ?hy103⟩) (by assumption) ?rest103
 case hi103 => simp only [List.getElem?_toArray, List.getElem?_cons_succ, List.getElem?_cons_zero]; rfl
 case hQ103 => exact fun _ _ _ h => h
 case hw103 => rfl
 case hy103 => (intro W hW; go_simp; all_goals rfl)
 simp only [Act.put, List.setIfInBounds_toArray, List.set_cons_zero, List.set_cons_succ]
 refine wpAnyH_take (i := 5) (oi := ?oi104) (v := ?v104) ?hi104 (by kernel_rfl) (by kernel_rfl) (by kernel_rfl) ?hQ104 (Or.inl ⟨?hw104, ?hy104⟩) (by assumption) ?rest104
 case hi104 => simp only [List.getElem?_toArray, List.getElem?_cons_succ, List.getElem?_cons_zero]; rfl
 case hQ104 => exact fun _ _ _ h => h
 case hw104 => rfl
 case hy104 => (intro W hW; have f1 := (HC.out W hW).1; have f2 := (HC.out W hW).2; go_simp; all_goals rfl)
 simp only [Act.put, List.setIfInBounds_toArray, List.set_cons_zero, List.set_cons_succ]
 refine wpAnyH_ready (rs := [2]) (by kernel_rfl) (by simp) ?_
 refine AllReadyH.cons (i := 2) (o := ?o105) ?ho105 (fun Kq hK => ?step105) AllReadyH.nil
 case ho105 => simp only [List.getElem?_toArray, List.getElem?_cons_succ, List.getElem?_cons_zero]; rfl
 go_simp
 (go_at_call 40; refine (held_any Z base w7 g vl vc vq L m.c m.s C m.k m.p fl ws xs (HP.out.new (HNW.out w7 HW7.out)).rd (HP.out.short hst).1 (HP.out.short hst).2).mono ?_; rw [HP.out.held, HV.out]; rintro e w8 ⟨rfl, hb8⟩; have HW8 : Hd (Chg [g6] w1 w8) := ⟨HW7.out.trans (Chg.of_below hb8)⟩; have HB48 : Hd (w8.heap[g6]? = some (.cells #[.bool false, .slice none 0 0, .int .i64 0, .slice none 0 0, .slice none 0 0, .int .i64 0, .int .i64 0] 65)) := ⟨(hb8.block g6 (Array.getElem?_eq_some_iff.1 HB47.out).1).trans HB47.out⟩; clear hb8)
 refine hK.out _ _ HW8.out (fun _ => ?_)
 clear hK Kq
 try simp only [Act.put, List.setIfInBounds_toArray, List.set_cons_zero, List.set_cons_succ]
 refine wpAnyH_take (i := 6) (oi := ?oi106) (v := ?v106) ?hi106 (by kernel_rfl) (by kernel_rfl) (by kernel_rfl) ?hQ106 (Or.inl ⟨?hw106, ?hy106⟩) (by assumption) ?rest106
 case hi106 => simp only [List.getElem?_toArray, List.getElem?_cons_succ, List.getElem?_cons_zero]; rfl
 case hQ106 => exact fun _ _ _ h => h
 case hw106 => rfl
 case hy106 => (intro W hW; go_simp; all_goals rfl)
 simp only [Act.put, List.setIfInBounds_toArray, List.set_cons_zero, List.set_cons_succ]
 refine wpAnyH_ready (rs := [7]) (by kernel_rfl) (by simp) ?_
 refine AllReadyH.cons (i := 7) (o := ?oS1) ?hoS1 (fun Kq hK => ?stepS1) AllReadyH.nil
 case hoS1 => simp only [List.getElem?_toArray, List.getElem?_cons_succ, List.getElem?_cons_zero]; rfl
 refine step_store rfl 65 (.tmp 6) (.tmp 156) rfl g6 RL.toArray rfl rfl 65 _ HB48.out (by rw [infoRdr7]; simp [HRC.out.2.1]) (by simp [HRC.out.2.1]) HRC.out.2.2.1 ?_
 intro w9 hs9 hg9
 have hF : Chg [g6] w1 w9 := HW8.out.trans (Chg.of_grown hg9)
 have HS9 := Hd.mk (And.intro hs9 hF)
 refine hK.out _ _ hF (fun _ => ?_)
 clear hK Kq hs9 hg9 hF
 try simp only [Act.put, List.setIfInBounds_toArray, List.set_cons_zero, List.set_cons_succ]
 refine wpAnyH_take (i := 8) (oi := ?oi107) (v := ?v107) ?hi107 (by kernel_rfl) (by kernel_rfl) (by kernel_rfl) ?hQ107 (Or.inl ⟨?hw107, ?hy107⟩) (by assumption) ?rest107
 case hi107 => simp only [List.getElem?_toArray, List.getElem?_cons_succ, List.getElem?_cons_zero]; rfl
 case hQ107 => exact fun _ _ _ h => h
 case hw107 => rfl
 case hy107 => (intro W hW; go_simp; all_goals rfl)
 simp only [Act.put, List.setIfInBounds_toArray, List.set_cons_zero, List.set_cons_succ]
 refine wpAnyH_done (by kernel_rfl) ?_ _
 clear hHeld
 go_wp2_with fail
 (try simp only [Exit.inBlock, Exit.then])
 refine bodyPost_ret (results_cell_tmp rfl _ _ g6 65 RL.toArray (0, 0) _ rfl HS9.out.1 Try.underlying65 rfl (by rw [infoRdr7]; simp [HRC.out.2.1])) rfl ?_
 exact HP.out.same (HNW.out w9 HS9.out.2) 0 (by rw [HV.out, HRC.out.2.2.2]; rfl)
set_option maxRecDepth 20000 in
set_option maxHeartbeats 8000000 in
theorem asked_fault {T : Type} (Z : Kd T) (base : Nat) (w : World) (g : Nat) (vl vc vq : Value) (L : List Nat) (m : Mid) (C : Nat) (fl : Int) (ws : List Wm) (xs : List T) (vs vm : Value) (st : List Nat) (wm : List Wm) (xm : List T) (hd : Nat) (h : PrS Z base w g vl vc vq L m C fl ws xs vs vm st wm xm hd) (hst : st.length ≤ 67108864) (who : Int) (A : Option Addr) (n c : Nat) :
  Calls Try.prog 28 #[.pointer (some ⟨g, 0, none⟩), .agg (thC Z.ans vs hd vm fl ((go Z.rd mid0 st).held : Int)), .agg #[.int .i64 who, .int .i64 4, .slice A n c]] w (AsDone Z base w g vl vc vq ws vs vm st wm 0) := by
 obtain ⟨hv, hhv⟩ : ∃ q, (go Z.rd mid0 st).held = q := ⟨_, rfl⟩
 have HP := Hd.mk h
 have HV := Hd.mk hhv
 have hvm1 : (if Z.ans then .slice none 0 0 else vm : Value).oneCell' = true ∧ (if Z.ans then vm else .slice none 0 0 : Value).oneCell' = true := by
  have := que_one h.md.th.qu
  constructor <;> split <;> first | rfl | exact this
 obtain ⟨As, cs, hvs, _, _⟩ := own_form h.md.th.so
 subst hvs
 obtain ⟨RL, hRC⟩ : ∃ R : List Value, [.bool Z.ans, .slice As st.length cs, .int .i64 (hd : Int), (if Z.ans then .slice none 0 0 else vm), (if Z.ans then vm else .slice none 0 0), .int .i64 fl, .int .i64 (hv : Int)] = R := ⟨_, rfl⟩
 have hth : thC Z.ans (.slice As st.length cs) hd vm fl (hv : Int) = RL.toArray := by rw [← hRC]; rfl
 have HRC : Hd (RL = [.bool Z.ans, .slice As st.length cs, .int .i64 (hd : Int), (if Z.ans then .slice none 0 0 else vm), (if Z.ans then vm else .slice none 0 0), .int .i64 fl, .int .i64 (hv : Int)] ∧ RL.length = 7 ∧ RL.toArray.all (·.oneCell') = true ∧ thC Z.ans (.slice As st.length cs) hd vm fl (hv : Int) = RL.toArray) := ⟨by rw [hth, ← hRC]; exact ⟨rfl, rfl, one7 rfl rfl rfl hvm1.1 hvm1.2 rfl rfl, rfl⟩⟩
 obtain ⟨g4, hg4⟩ : ∃ q, w.heap.size = q := ⟨_, rfl⟩
 obtain ⟨g5, hg5⟩ : ∃ q, g4 + 1 = q := ⟨_, rfl⟩
 obtain ⟨g6, hg6⟩ : ∃ q, g5 + 1 = q := ⟨_, rfl⟩
 obtain ⟨w1, hw1⟩ : ∃ U, ((w.alloc (.cells RL.toArray 65)).alloc (.cells #[.int .i64 who, .int .i64 4, .slice A n c] 68)).alloc (.cells #[.bool false, .slice none 0 0, .int .i64 0, .slice none 0 0, .slice none 0 0, .int .i64 0, .int .i64 0] 65) = U := ⟨_, rfl⟩
 have HB : Hd (w1.heap[g4]? = some (.cells RL.toArray 65) ∧ w1.heap[g5]? = some (.cells #[.int .i64 who, .int .i64 4, .slice A n c] 68) ∧ w1.heap[g6]? = some (.cells #[.bool false, .slice none 0 0, .int .i64 0, .slice none 0 0, .slice none 0 0, .int .i64 0, .int .i64 0] 65) ∧ Chg [] w w1 ∧ w1.heap.size = g6 + 1 ∧ g4 + 1 = g5 ∧ g5 + 1 = g6 ∧ w.heap.size = g4) := ⟨by
  refine ⟨?_, ?_, ?_, ?_, ?_, hg5, hg6, hg4⟩
  ·rw [← hw1, ← hg4, heap_alloc_old _ _ (by simp; omega), heap_alloc_old _ _ (by simp)]; exact heap_alloc_new w _
  ·rw [← hw1, ← hg5, ← hg4, heap_alloc_old _ _ (by simp)]; have := heap_alloc_new (w.alloc (.cells RL.toArray 65)) (.cells #[.int .i64 who, .int .i64 4, .slice A n c] 68); simpa using this
  ·rw [← hw1, ← hg6, ← hg5, ← hg4]; have := heap_alloc_new ((w.alloc (.cells RL.toArray 65)).alloc (.cells #[.int .i64 who, .int .i64 4, .slice A n c] 68)) (.cells #[.bool false, .slice none 0 0, .int .i64 0, .slice none 0 0, .slice none 0 0, .int .i64 0, .int .i64 0] 65); simpa using this
  ·rw [← hw1]; exact (((Chg.refl [] w).alloc _).alloc _).alloc _
  ·rw [← hw1, ← hg6, ← hg5, ← hg4]; simp⟩
 rw [hhv, hth]
 clear hRC h hhv hvm1 hth
 go_enter Try.func28, Try.ntmps28
 go_upto_region 1 with fail
 try rw [hw1]
 try rw [hg4]
 try rw [hg5]
 try rw [hg6]
 clear hw1 hg4 hg5 hg6
 have cD : w1.cell? ⟨g5, 1, none⟩ = some (.int .i64 4) := by rw [cell_of_row w1 g5 1 _ _ (0, 0) HB.out.2.1]; rfl
 go_upto_region 32 with fail
 clear cD
 have HRG : Hd (∀ W, Chg [g6] w1 W → W.heap[g4]? = some (.cells RL.toArray 65)) := ⟨fun W b => (b.block g4 (by have := HB.out; omega) (by have := HB.out; simp; omega)).trans HB.out.1⟩
 have HC : Hd (∀ W, Chg [g6] w1 W → W.cell? ⟨g4, 5, none⟩ = some (.int .i64 fl) ∧ W.cell? ⟨g4, 6, none⟩ = some (.int .i64 (hv : Int))) := ⟨fun W b => by
  have h := HRG.out W b
  exact ⟨by rw [cell_of_row W g4 5 _ _ (0, 0) h, HRC.out.1]; rfl, by rw [cell_of_row W g4 6 _ _ (0, 0) h, HRC.out.1]; rfl⟩⟩
 have HNW : Hd (∀ W, Chg [g6] w1 W → Chg [] w W) := ⟨fun W b => HB.out.2.2.2.1.newer b fun y hy => .inr (by have := HB.out; simp at hy; omega)⟩
 refine wp_region_held_drew (S := fun W => Chg [g6] w1 W) (by kernel_rfl) (Chg.refl [g6] w1).drew (fun hHeld => ?_)
 have HB47 : Hd (w1.drew.heap[g6]? = some (.cells #[.bool false, .slice none 0 0, .int .i64 0, .slice none 0 0, .slice none 0 0, .int .i64 0, .int .i64 0] 65)) := ⟨HB.out.2.2.1⟩
 obtain ⟨w7, hw7⟩ : ∃ U, w1.drew = U := ⟨_, rfl⟩
 rw [hw7] at HB47 hHeld ⊢
 have HW7 := Hd.mk hHeld
 clear hw7
 refine wpAnyH_take (i := 0) (oi := ?oiRa) (v := .agg RL.toArray) ?hiRa (by kernel_rfl) (by kernel_rfl) (by kernel_rfl) ?hQRa ?hyRa (by assumption) ?restRa
 case hiRa => simp only [List.getElem?_toArray, List.getElem?_cons_succ, List.getElem?_cons_zero]; rfl
 case hQRa => exact fun _ _ _ h => h
 case hyRa => exact yieldsIf_load_mid rfl 65 (.tmp 4) rfl g4 0 rfl RL _ (fun W hW => range_of_box (HRG.out W hW)) Try.underlying65 rfl (by rw [infoRdr7, HRC.out.2.1])
 try simp only [Act.put, List.setIfInBounds_toArray, List.set_cons_zero, List.set_cons_succ]
 refine wpAnyH_take (i := 1) (oi := ?oi201) (v := ?v201) ?hi201 (by kernel_rfl) (by kernel_rfl) (by kernel_rfl) ?hQ201 (Or.inl ⟨?hw201, ?hy201⟩) (by assumption) ?rest201
 case hi201 => simp only [List.getElem?_toArray, List.getElem?_cons_succ, List.getElem?_cons_zero]; rfl
 case hQ201 => exact fun _ _ _ h => h
 case hw201 => rfl
 case hy201 => (intro W hW; go_simp; all_goals rfl)
 simp only [Act.put, List.setIfInBounds_toArray, List.set_cons_zero, List.set_cons_succ]
 refine wpAnyH_take (i := 3) (oi := ?oi202) (v := ?v202) ?hi202 (by kernel_rfl) (by kernel_rfl) (by kernel_rfl) ?hQ202 (Or.inl ⟨?hw202, ?hy202⟩) (by assumption) ?rest202
 case hi202 => simp only [List.getElem?_toArray, List.getElem?_cons_succ, List.getElem?_cons_zero]; rfl
 case hQ202 => exact fun _ _ _ h => h
 case hw202 => rfl
 case hy202 => (intro W hW; go_simp; all_goals rfl)
 simp only [Act.put, List.setIfInBounds_toArray, List.set_cons_zero, List.set_cons_succ]
 refine wpAnyH_take (i := 4) (oi := ?oi203) (v := ?v203) ?hi203 (by kernel_rfl) (by kernel_rfl) (by kernel_rfl) ?hQ203 (Or.inl ⟨?hw203, ?hy203⟩) (by assumption) ?rest203
 case hi203 => simp only [List.getElem?_toArray, List.getElem?_cons_succ, List.getElem?_cons_zero]; rfl
 case hQ203 => exact fun _ _ _ h => h
 case hw203 => rfl
 case hy203 => (intro W hW; go_simp; all_goals rfl)
 simp only [Act.put, List.setIfInBounds_toArray, List.set_cons_zero, List.set_cons_succ]
 refine wpAnyH_take (i := 5) (oi := ?oi204) (v := ?v204) ?hi204 (by kernel_rfl) (by kernel_rfl) (by kernel_rfl) ?hQ204 (Or.inl ⟨?hw204, ?hy204⟩) (by assumption) ?rest204
 case hi204 => simp only [List.getElem?_toArray, List.getElem?_cons_succ, List.getElem?_cons_zero]; rfl
 case hQ204 => exact fun _ _ _ h => h
 case hw204 => rfl
 case hy204 => (intro W hW; have f1 := (HC.out W hW).1; have f2 := (HC.out W hW).2; go_simp; all_goals rfl)
 simp only [Act.put, List.setIfInBounds_toArray, List.set_cons_zero, List.set_cons_succ]
 refine wpAnyH_ready (rs := [2]) (by kernel_rfl) (by simp) ?_
 refine AllReadyH.cons (i := 2) (o := ?o205) ?ho205 (fun Kq hK => ?step205) AllReadyH.nil
 case ho205 => simp only [List.getElem?_toArray, List.getElem?_cons_succ, List.getElem?_cons_zero]; rfl
 go_simp
 (go_at_call 70; refine (rfault_any Z base w7 g vl vc vq L m.c m.s C m.k m.p fl ws xs (HP.out.new (HNW.out w7 HW7.out)).rd).mono ?_; rintro e w8 ⟨rfl, hb8⟩; have HW8 : Hd (Chg [g6] w1 w8) := ⟨by rw [← hb8]; exact HW7.out⟩; have HB48 : Hd (w8.heap[g6]? = some (.cells #[.bool false, .slice none 0 0, .int .i64 0, .slice none 0 0, .slice none 0 0, .int .i64 0, .int .i64 0] 65)) := ⟨by rw [← hb8]; exact HB47.out⟩; clear hb8)
 refine hK.out _ _ HW8.out (fun _ => ?_)
 clear hK Kq
 try simp only [Act.put, List.setIfInBounds_toArray, List.set_cons_zero, List.set_cons_succ]
 refine wpAnyH_take (i := 6) (oi := ?oi206) (v := ?v206) ?hi206 (by kernel_rfl) (by kernel_rfl) (by kernel_rfl) ?hQ206 (Or.inl ⟨?hw206, ?hy206⟩) (by assumption) ?rest206
 case hi206 => simp only [List.getElem?_toArray, List.getElem?_cons_succ, List.getElem?_cons_zero]; rfl
 case hQ206 => exact fun _ _ _ h => h
 case hw206 => rfl
 case hy206 => (intro W hW; go_simp; all_goals rfl)
 simp only [Act.put, List.setIfInBounds_toArray, List.set_cons_zero, List.set_cons_succ]
 refine wpAnyH_ready (rs := [7]) (by kernel_rfl) (by simp) ?_
 refine AllReadyH.cons (i := 7) (o := ?oS1) ?hoS1 (fun Kq hK => ?stepS1) AllReadyH.nil
 case hoS1 => simp only [List.getElem?_toArray, List.getElem?_cons_succ, List.getElem?_cons_zero]; rfl
 refine step_store rfl 65 (.tmp 6) (.tmp 165) rfl g6 RL.toArray rfl rfl 65 _ HB48.out (by rw [infoRdr7]; simp [HRC.out.2.1]) (by simp [HRC.out.2.1]) HRC.out.2.2.1 ?_
 intro w9 hs9 hg9
 have hF : Chg [g6] w1 w9 := HW8.out.trans (Chg.of_grown hg9)
 have HS9 := Hd.mk (And.intro hs9 hF)
 refine hK.out _ _ hF (fun _ => ?_)
 clear hK Kq hs9 hg9 hF
 try simp only [Act.put, List.setIfInBounds_toArray, List.set_cons_zero, List.set_cons_succ]
 refine wpAnyH_take (i := 8) (oi := ?oi207) (v := ?v207) ?hi207 (by kernel_rfl) (by kernel_rfl) (by kernel_rfl) ?hQ207 (Or.inl ⟨?hw207, ?hy207⟩) (by assumption) ?rest207
 case hi207 => simp only [List.getElem?_toArray, List.getElem?_cons_succ, List.getElem?_cons_zero]; rfl
 case hQ207 => exact fun _ _ _ h => h
 case hw207 => rfl
 case hy207 => (intro W hW; go_simp; all_goals rfl)
 simp only [Act.put, List.setIfInBounds_toArray, List.set_cons_zero, List.set_cons_succ]
 refine wpAnyH_done (by kernel_rfl) ?_ _
 clear hHeld
 go_wp2_with fail
 (try simp only [Exit.inBlock, Exit.then])
 refine bodyPost_ret (results_cell_tmp rfl _ _ g6 65 RL.toArray (0, 0) _ rfl HS9.out.1 Try.underlying65 rfl (by rw [infoRdr7]; simp [HRC.out.2.1])) rfl ?_
 exact HP.out.same (HNW.out w9 HS9.out.2) 0 (by rw [HV.out, HRC.out.2.2.2]; rfl)
end Go.Proofs.Ytbcmjjcbjojakaa
