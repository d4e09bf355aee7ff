/- Contracts of asked: Request, Answer. (tools/askd2gen.py prints it.) -/
import Derived.Test.YtbcmjjcbjojakaaPk15
import Derived.Test.YtbcmjjcbjojakaaPk6
import Derived.Test.YtbcmjjcbjojakaaSameAn
namespace Go.Proofs.Ytbcmjjcbjojakaa
open Go.RowKit
set_option linter.unusedVariables false
set_option linter.unusedSimpArgs false
theorem alloc2_fst (w : World) (a b : Obj) : ((w.alloc a).alloc b).heap[w.heap.size]? = some a := by rw [heap_alloc_old _ _ (by simp)]; exact heap_alloc_new w a
theorem alloc2_snd (w : World) (a b : Obj) : ((w.alloc a).alloc b).heap[w.heap.size + 1]? = some b := by have := heap_alloc_new (w.alloc a) b; simpa using this
theorem sameB_self (R : Rq) : sameB R R = true := by rw [sameB_eq R R True ⟨fun _ => trivial, fun _ => rfl⟩]; exact decide_eq_true trivial
theorem sameAB_self (a : An) : sameAB a a = true := by unfold sameAB; simp
set_option maxRecDepth 20000 in
set_option maxHeartbeats 8000000 in
theorem asked_req_none {T : Type} (Z : Kd T) (base : Nat) (w : World) (g : Nat) (vl vc vq : Value) (L : List Nat) (m : Mid) (C : Nat) (fl : Int) (ws : List Wm) (xs : List T) (vs vm : Value) (st : List Nat) (wm : List Wm) (xm : List T) (hd : Nat) (h : PrS Z base w g vl vc vq L m C fl ws xs vs vm st wm xm hd) (hst : st.length ≤ 67108864) (who : Int) (A : Option Addr) (n c : Nat) (Aq : Option Addr) (cq : Nat) (d8 : w.cell? ⟨g, 8, none⟩ = some (.slice Aq 0 cq)) (A3 : Option Addr) (n3 c3 : Nat) (h3 : (if Z.ans then .slice none 0 0 else vm : Value) = .slice A3 n3 c3) (hn3 : n3 ≤ hd) :
  Calls Try.prog 28 #[.pointer (some ⟨g, 0, none⟩), .agg (thC Z.ans vs hd vm fl ((go Z.rd mid0 st).held : Int)), .agg #[.int .i64 who, .int .i64 1, .slice A n c]] w (AsDone Z base w g vl vc vq ws vs vm st wm 0) := by
 have HD8 := Hd.mk (And.intro d8 (And.intro h3 hn3))
 clear d8 h3 hn3
 have hone := que_one h.md.th.qu
 obtain ⟨hv, hhv⟩ : ∃ q, (go Z.rd mid0 st).held = q := ⟨_, rfl⟩
 have HP := Hd.mk h
 have HV := Hd.mk hhv
 have hvm1 : (if Z.ans then .slice none 0 0 else vm : Value).oneCell' = true ∧ (if Z.ans then vm else .slice none 0 0 : Value).oneCell' = true := by
  have := que_one h.md.th.qu
  constructor <;> split <;> first | rfl | exact this
 obtain ⟨As, cs, hvs, _, _⟩ := own_form h.md.th.so
 subst hvs
 obtain ⟨RL, hRC⟩ : ∃ R : List Value, [.bool Z.ans, .slice As st.length cs, .int .i64 (hd : Int), (if Z.ans then .slice none 0 0 else vm), (if Z.ans then vm else .slice none 0 0), .int .i64 fl, .int .i64 (hv : Int)] = R := ⟨_, rfl⟩
 have hth : thC Z.ans (.slice As st.length cs) hd vm fl (hv : Int) = RL.toArray := by rw [← hRC]; rfl
 have HRC : Hd (RL = [.bool Z.ans, .slice As st.length cs, .int .i64 (hd : Int), (if Z.ans then .slice none 0 0 else vm), (if Z.ans then vm else .slice none 0 0), .int .i64 fl, .int .i64 (hv : Int)] ∧ RL.length = 7 ∧ RL.toArray.all (·.oneCell') = true ∧ thC Z.ans (.slice As st.length cs) hd vm fl (hv : Int) = RL.toArray) := ⟨by rw [hth, ← hRC]; exact ⟨rfl, rfl, one7 rfl rfl rfl hvm1.1 hvm1.2 rfl rfl, rfl⟩⟩
 obtain ⟨g4, hg4⟩ : ∃ q, w.heap.size = q := ⟨_, rfl⟩
 obtain ⟨g5, hg5⟩ : ∃ q, g4 + 1 = q := ⟨_, rfl⟩
 obtain ⟨g6, hg6⟩ : ∃ q, g5 + 1 = q := ⟨_, rfl⟩
 obtain ⟨w1, hw1⟩ : ∃ U, ((w.alloc (.cells RL.toArray 65)).alloc (.cells #[.int .i64 who, .int .i64 1, .slice A n c] 68)).alloc (.cells #[.bool false, .slice none 0 0, .int .i64 0, .slice none 0 0, .slice none 0 0, .int .i64 0, .int .i64 0] 65) = U := ⟨_, rfl⟩
 have HB : Hd (w1.heap[g4]? = some (.cells RL.toArray 65) ∧ w1.heap[g5]? = some (.cells #[.int .i64 who, .int .i64 1, .slice A n c] 68) ∧ w1.heap[g6]? = some (.cells #[.bool false, .slice none 0 0, .int .i64 0, .slice none 0 0, .slice none 0 0, .int .i64 0, .int .i64 0] 65) ∧ Chg [] w w1 ∧ w1.heap.size = g6 + 1 ∧ g4 + 1 = g5 ∧ g5 + 1 = g6 ∧ w.heap.size = g4) := ⟨by
  refine ⟨?_, ?_, ?_, ?_, ?_, hg5, hg6, hg4⟩
  ·rw [← hw1, ← hg4, heap_alloc_old _ _ (by simp; omega), heap_alloc_old _ _ (by simp)]; exact heap_alloc_new w _
  ·rw [← hw1, ← hg5, ← hg4, heap_alloc_old _ _ (by simp)]; have := heap_alloc_new (w.alloc (.cells RL.toArray 65)) (.cells #[.int .i64 who, .int .i64 1, .slice A n c] 68); simpa using this
  ·rw [← hw1, ← hg6, ← hg5, ← hg4]; have := heap_alloc_new ((w.alloc (.cells RL.toArray 65)).alloc (.cells #[.int .i64 who, .int .i64 1, .slice A n c] 68)) (.cells #[.bool false, .slice none 0 0, .int .i64 0, .slice none 0 0, .slice none 0 0, .int .i64 0, .int .i64 0] 65); simpa using this
  ·rw [← hw1]; exact (((Chg.refl [] w).alloc _).alloc _).alloc _
  ·rw [← hw1, ← hg6, ← hg5, ← hg4]; simp⟩
 rw [hhv, hth]
 clear hRC h hhv hvm1 hth
 go_enter Try.func28, Try.ntmps28
 go_upto_region 1 with fail
 try rw [hw1]
 try rw [hg4]
 try rw [hg5]
 try rw [hg6]
 clear hw1 hg4 hg5 hg6
 have cD : w1.cell? ⟨g5, 1, none⟩ = some (.int .i64 1) := by rw [cell_of_row w1 g5 1 _ _ (0, 0) HB.out.2.1]; rfl
 have HON := Hd.mk hone
 clear hone
 go_upto_region 22 with fail
 clear cD
 have hb4 := HB.out.1
 go_wp2_with (refine at_load (x := .tmp 4) ?_; refine wpList_load_row rfl 65 (.tmp 4) rfl g4 rfl 65 RL.toArray (0, 0) _ hb4 Try.underlying65 rfl (by rw [infoRdr7]; simp [HRC.out.2.1]) ?_)
 have hcall : Calls Try.prog 72 #[.agg RL.toArray] w1 fun e w' => e = .returned (.tuple #[.agg RL.toArray, .agg #[.int .i64 0, .int .u64 0, .string emS, .string emS, .int .i64 0, .int .i64 0, .int .i64 0, .slice none 0 0], .bool false]) ∧ Chg [] w1 w' := by
  rw [HRC.out.1, HD8.out.2.1]
  exact dreq_none w1 Z.ans (.slice As st.length cs) (if Z.ans then vm else .slice none 0 0) hd fl (hv : Int) rfl (by split <;> first | rfl | exact HON.out) A3 n3 c3 HD8.out.2.2
 refine hcall.mono ?_
 rintro e w8 ⟨rfl, hc8⟩
 clear hcall hb4
 have HC8 : Hd (Chg [] w1 w8) := ⟨hc8⟩
 clear hc8
 go_upto_region 23 with (first | (refine at_store (x := .tmp 18) ?_; refine wpList_stored rfl 65 (.tmp 18) (.tmp 115) rfl w8.heap.size RL.toArray rfl rfl 65 _ (alloc2_fst _ _ _) (by rw [infoRdr7]; simp [HRC.out.2.1]) (by simp [HRC.out.2.1]) HRC.out.2.2.1 ?_; intro w9 hB9) | (refine at_store (x := .tmp 19) ?_; refine wpList_stored rfl 28 (.tmp 19) (.tmp 116) rfl (w8.heap.size + 1) #[.int .i64 0, .int .u64 0, .string emS, .string emS, .int .i64 0, .int .i64 0, .int .i64 0, .slice none 0 0] rfl rfl 28 _ ((hB9.out.2.1.block _ (by simp) (by simp)).trans (alloc2_snd _ _ _)) infoRq8 rfl (by simp [Value.oneCell']) ?_; intro w10 hB10))
 obtain ⟨g8, hg8⟩ : ∃ q, w8.heap.size = q := ⟨_, rfl⟩
 obtain ⟨g9, hg9⟩ : ∃ q, g8 + 1 = q := ⟨_, rfl⟩
 rw [hg8] at hB9 hB10 ⊢
 try rw [hg9]
 have HB10 : Hd (w10.heap[g8]? = some (.cells RL.toArray 65) ∧ w10.heap[g9]? = some (.cells #[.int .i64 0, .int .u64 0, .string emS, .string emS, .int .i64 0, .int .i64 0, .int .i64 0, .slice none 0 0] 28) ∧ Chg [] w8 w10 ∧ w10.heap.size = g9 + 1 ∧ g8 + 1 = g9 ∧ w8.heap.size = g8) := ⟨by
  have e9 := hB9.out.2.2
  have e10 := hB10.out.2.2
  simp at e9
  refine ⟨by rw [hB10.out.2.1.block g8 (by omega) (by simp)]; exact hB9.out.1, by rw [← hg9]; exact hB10.out.1, ?_, by omega, hg9, hg8⟩
  exact ((((Chg.refl [] w8).alloc _).alloc _).newer (Chg.of_grown hB9.out.2.1) fun y hy => .inr (by simp at hy; omega)).newer (Chg.of_grown hB10.out.2.1) fun y hy => .inr (by simp at hy; omega)⟩
 clear hB9 hB10 hg8 hg9
 go_wp2_with fail
 have hc10 : Chg [] w w10 := (HB.out.2.2.2.1.trans HC8.out).trans HB10.out.2.2.1
 refine (rq_empty w10 g Aq cq ((hc10.cell (p := ⟨g, 8, none⟩) HP.out.rd.lt List.not_mem_nil).trans HD8.out.1) (Nat.lt_of_lt_of_le HP.out.rd.lt hc10.size)).mono ?_
 rintro e w11 ⟨rfl, hb11⟩
 have HC11 : Hd (Chg [] w w11 ∧ Below w10.heap.size w10 w11) := ⟨hc10.trans (Chg.of_below hb11), hb11⟩
 clear hb11 hc10
 go_upto_region 24 with (refine at_store (x := .tmp 21) ?_; refine wpList_boxed rfl 28 (.tmp 21) (.tmp 121) rfl w11.heap.size rfl rq0 rfl rfl infoRq8 rfl (by simp [rq0, Value.oneCell']) ?_; intro w12 hB12)
 obtain ⟨gb, hgb⟩ : ∃ q, w11.heap.size = q := ⟨_, rfl⟩
 rw [hgb] at hB12 ⊢
 have HL : Hd (g6 < g8 ∧ g8 < g9 ∧ g9 < gb ∧ gb < w12.heap.size ∧ Chg [] w w12) := ⟨by
  have h1 := HB.out.2.2.2.2.1
  have h2 := HC8.out.size
  have h3 := HB10.out.2.2.2
  have h4 := HC11.out.2.size
  have h5 := hB12.out.2.2
  exact ⟨by omega, by omega, by omega, by omega, HC11.out.1.trans (Chg.of_below (hB12.out.2.1.mono (by omega)))⟩⟩
 have HR12 : Hd (∀ W, Chg [g6] w12 W → W.heap[g8]? = some (.cells RL.toArray 65) ∧ W.heap[g9]? = some (.cells #[.int .i64 0, .int .u64 0, .string emS, .string emS, .int .i64 0, .int .i64 0, .int .i64 0, .slice none 0 0] 28) ∧ W.heap[gb]? = some (.cells #[.int .i64 0, .int .u64 0, .string emS, .string emS, .int .i64 0, .int .i64 0, .int .i64 0, .slice none 0 0] 28)) := ⟨fun W b => by
  have h1 := HL.out
  have hx : ∀ {q : Nat}, g6 < q → q ∉ [g6] := fun h hm => by simp at hm; omega
  have h3 := HB10.out.2.2.2
  refine ⟨?_, ?_, ?_⟩
  ·rw [b.block g8 (by omega) (hx (by omega)), hB12.out.2.1.block g8 (by omega), HC11.out.2.block g8 (by omega)]; exact HB10.out.1
  ·rw [b.block g9 (by omega) (hx (by omega)), hB12.out.2.1.block g9 (by omega), HC11.out.2.block g9 (by omega)]; exact HB10.out.2.1
  ·rw [b.block gb (by omega) (hx (by omega))]; exact hB12.out.1⟩
 have HB6 : Hd (w12.drew.heap[g6]? = some (.cells #[.bool false, .slice none 0 0, .int .i64 0, .slice none 0 0, .slice none 0 0, .int .i64 0, .int .i64 0] 65)) := ⟨by
  have h1 := HL.out
  have h3 := HB10.out.2.2.2
  have h5 := HB.out.2.2.2.2.1
  show w12.heap[g6]? = _
  rw [hB12.out.2.1.block g6 (by omega), HC11.out.2.block g6 (by omega), HB10.out.2.2.1.block g6 (by omega) List.not_mem_nil, HC8.out.block g6 (by omega) List.not_mem_nil]; exact HB.out.2.2.1⟩
 have HNW : Hd (∀ W, Chg [g6] w12 W → Chg [] w W) := ⟨fun W b => HL.out.2.2.2.2.newer b fun y hy => .inr (by have := HB.out.2.2.2.2; simp at hy; omega)⟩
 clear hgb
 refine wp_region_held_drew (S := fun W => Chg [g6] w12 W) (by kernel_rfl) (Chg.refl [g6] w12).drew (fun hHeld => ?_)
 obtain ⟨w13, hw13⟩ : ∃ U, w12.drew = U := ⟨_, rfl⟩
 rw [hw13] at HB6 hHeld ⊢
 have HW13 := Hd.mk hHeld
 clear hw13
 refine wpAnyH_take (i := 0) (oi := ?oiRa) (v := .agg RL.toArray) ?hiRa (by kernel_rfl) (by kernel_rfl) (by kernel_rfl) ?hQRa ?hyRa (by assumption) ?restRa
 case hiRa => simp only [List.getElem?_toArray, List.getElem?_cons_succ, List.getElem?_cons_zero]; rfl
 case hQRa => exact fun _ _ _ h => h
 case hyRa => exact yieldsIf_load_mid rfl 65 (.tmp 18) rfl g8 0 rfl RL _ (fun W hW => range_of_box (HR12.out W hW).1) Try.underlying65 rfl (by rw [infoRdr7, HRC.out.2.1])
 try simp only [Act.put, List.setIfInBounds_toArray, List.set_cons_zero, List.set_cons_succ]
 refine wpAnyH_take (i := 1) (oi := ?oi101) (v := ?v101) ?hi101 (by kernel_rfl) (by kernel_rfl) (by kernel_rfl) ?hQ101 (Or.inl ⟨?hw101, ?hy101⟩) (by assumption) ?rest101
 case hi101 => simp only [List.getElem?_toArray, List.getElem?_cons_succ, List.getElem?_cons_zero]; rfl
 case hQ101 => exact fun _ _ _ h => h
 case hw101 => rfl
 case hy101 => (intro W hW; go_simp; all_goals rfl)
 simp only [Act.put, List.setIfInBounds_toArray, List.set_cons_zero, List.set_cons_succ]
 refine wpAnyH_take (i := 2) (oi := ?oi102) (v := ?v102) ?hi102 (by kernel_rfl) (by kernel_rfl) (by kernel_rfl) ?hQ102 (Or.inl ⟨?hw102, ?hy102⟩) (by assumption) ?rest102
 case hi102 => simp only [List.getElem?_toArray, List.getElem?_cons_succ, List.getElem?_cons_zero]; rfl
 case hQ102 => exact fun _ _ _ h => h
 case hw102 => rfl
 case hy102 => (intro W hW; go_simp; all_goals rfl)
 simp only [Act.put, List.setIfInBounds_toArray, List.set_cons_zero, List.set_cons_succ]
 refine wpAnyH_take (i := 3) (oi := ?oi103) (v := ?v103) ?hi103 (by kernel_rfl) (by kernel_rfl) (by kernel_rfl) ?hQ103 (Or.inl ⟨?hw103, ?hy103⟩) (by assumption) ?rest103
 case hi103 => simp only [List.getElem?_toArray, List.getElem?_cons_succ, List.getElem?_cons_zero]; rfl
 case hQ103 => exact fun _ _ _ h => h
 case hw103 => rfl
 case hy103 => (intro W hW; go_simp; all_goals rfl)
 simp only [Act.put, List.setIfInBounds_toArray, List.set_cons_zero, List.set_cons_succ]
 refine wpAnyH_take (i := 4) (oi := ?oi104) (v := ?v104) ?hi104 (by kernel_rfl) (by kernel_rfl) (by kernel_rfl) ?hQ104 (Or.inl ⟨?hw104, ?hy104⟩) (by assumption) ?rest104
 case hi104 => simp only [List.getElem?_toArray, List.getElem?_cons_succ, List.getElem?_cons_zero]; rfl
 case hQ104 => exact fun _ _ _ h => h
 case hw104 => rfl
 case hy104 => (intro W hW; go_simp; all_goals rfl)
 simp only [Act.put, List.setIfInBounds_toArray, List.set_cons_zero, List.set_cons_succ]
 refine wpAnyH_take (i := 5) (oi := ?oiRb) (v := .agg #[.int .i64 0, .int .u64 0, .string emS, .string emS, .int .i64 0, .int .i64 0, .int .i64 0, .slice none 0 0]) ?hiRb (by kernel_rfl) (by kernel_rfl) (by kernel_rfl) ?hQRb ?hyRb (by assumption) ?restRb
 case hiRb => simp only [List.getElem?_toArray, List.getElem?_cons_succ, List.getElem?_cons_zero]; rfl
 case hQRb => exact fun _ _ _ h => h
 case hyRb => exact yieldsIf_load_mid rfl 28 (.tmp 21) rfl gb 0 rfl [.int .i64 0, .int .u64 0, .string emS, .string emS, .int .i64 0, .int .i64 0, .int .i64 0, .slice none 0 0] _ (fun W hW => range_of_box (HR12.out W hW).2.2) Try.underlying28 rfl infoRq8
 try simp only [Act.put, List.setIfInBounds_toArray, List.set_cons_zero, List.set_cons_succ]
 refine wpAnyH_take (i := 6) (oi := ?oiRc) (v := .agg #[.int .i64 0, .int .u64 0, .string emS, .string emS, .int .i64 0, .int .i64 0, .int .i64 0, .slice none 0 0]) ?hiRc (by kernel_rfl) (by kernel_rfl) (by kernel_rfl) ?hQRc ?hyRc (by assumption) ?restRc
 case hiRc => simp only [List.getElem?_toArray, List.getElem?_cons_succ, List.getElem?_cons_zero]; rfl
 case hQRc => exact fun _ _ _ h => h
 case hyRc => exact yieldsIf_load_mid rfl 28 (.tmp 19) rfl g9 0 rfl [.int .i64 0, .int .u64 0, .string emS, .string emS, .int .i64 0, .int .i64 0, .int .i64 0, .slice none 0 0] _ (fun W hW => range_of_box (HR12.out W hW).2.1) Try.underlying28 rfl infoRq8
 try simp only [Act.put, List.setIfInBounds_toArray, List.set_cons_zero, List.set_cons_succ]
 refine wpAnyH_ready (rs := [7]) (by kernel_rfl) (by simp) ?_
 refine AllReadyH.cons (i := 7) (o := ?o105) ?ho105 (fun Kq hK => ?step105) AllReadyH.nil
 case ho105 => simp only [List.getElem?_toArray, List.getElem?_cons_succ, List.getElem?_cons_zero]; rfl
 go_simp
 (go_at_call 51; refine (sameRq_any w13 w13.heap.size ⟨0, 0, emS, emS, 0, 0, 0, []⟩ ⟨0, 0, emS, emS, 0, 0, 0, []⟩ 0 0 0 0 emS emS emS emS 0 0 0 0 0 0 [] [] rfl rfl none none 0 0 0 0 Rd.nil Rd.nil (Nat.le_refl _) (fun _ h => absurd h List.not_mem_nil) (fun _ h => absurd h List.not_mem_nil)).mono ?_; rw [sameB_self]; rintro e w14 ⟨rfl, hb14⟩; have HW14 : Hd (Chg [g6] w12 w14) := ⟨HW13.out.trans (Chg.of_below hb14)⟩; have HB64 : Hd (w14.heap[g6]? = some (.cells #[.bool false, .slice none 0 0, .int .i64 0, .slice none 0 0, .slice none 0 0, .int .i64 0, .int .i64 0] 65)) := ⟨(hb14.block g6 (Array.getElem?_eq_some_iff.1 HB6.out).1).trans HB6.out⟩; clear hb14)
 refine hK.out _ _ HW14.out (fun _ => ?_)
 clear hK Kq
 try simp only [Act.put, List.setIfInBounds_toArray, List.set_cons_zero, List.set_cons_succ]
 refine wpAnyH_take (i := 8) (oi := ?oi106) (v := ?v106) ?hi106 (by kernel_rfl) (by kernel_rfl) (by kernel_rfl) ?hQ106 (Or.inl ⟨?hw106, ?hy106⟩) (by assumption) ?rest106
 case hi106 => simp only [List.getElem?_toArray, List.getElem?_cons_succ, List.getElem?_cons_zero]; rfl
 case hQ106 => exact fun _ _ _ h => h
 case hw106 => rfl
 case hy106 => (intro W hW; go_simp; all_goals rfl)
 simp only [Act.put, List.setIfInBounds_toArray, List.set_cons_zero, List.set_cons_succ]
 refine wpAnyH_ready (rs := [9]) (by kernel_rfl) (by simp) ?_
 refine AllReadyH.cons (i := 9) (o := ?oS1) ?hoS1 (fun Kq hK => ?stepS1) AllReadyH.nil
 case hoS1 => simp only [List.getElem?_toArray, List.getElem?_cons_succ, List.getElem?_cons_zero]; rfl
 refine step_store rfl 65 (.tmp 6) (.tmp 123) rfl g6 RL.toArray rfl rfl 65 _ HB64.out (by rw [infoRdr7]; simp [HRC.out.2.1]) (by simp [HRC.out.2.1]) HRC.out.2.2.1 ?_
 intro w15 hs15 hg15
 have hF : Chg [g6] w12 w15 := HW14.out.trans (Chg.of_grown hg15)
 have HS15 := Hd.mk (And.intro hs15 hF)
 refine hK.out _ _ hF (fun _ => ?_)
 clear hK Kq hs15 hg15 hF
 try simp only [Act.put, List.setIfInBounds_toArray, List.set_cons_zero, List.set_cons_succ]
 refine wpAnyH_take (i := 10) (oi := ?oi107) (v := ?v107) ?hi107 (by kernel_rfl) (by kernel_rfl) (by kernel_rfl) ?hQ107 (Or.inl ⟨?hw107, ?hy107⟩) (by assumption) ?rest107
 case hi107 => simp only [List.getElem?_toArray, List.getElem?_cons_succ, List.getElem?_cons_zero]; rfl
 case hQ107 => exact fun _ _ _ h => h
 case hw107 => rfl
 case hy107 => (intro W hW; go_simp; all_goals rfl)
 simp only [Act.put, List.setIfInBounds_toArray, List.set_cons_zero, List.set_cons_succ]
 refine wpAnyH_done (by kernel_rfl) ?_ _
 clear hHeld
 go_wp2_with fail
 (try simp only [Exit.inBlock, Exit.then])
 refine bodyPost_ret (results_cell_tmp rfl _ _ g6 65 RL.toArray (0, 0) _ rfl HS15.out.1 Try.underlying65 rfl (by rw [infoRdr7]; simp [HRC.out.2.1])) rfl ?_
 exact HP.out.same (HNW.out w15 HS15.out.2) 0 (by rw [HV.out, HRC.out.2.2.2]; rfl)
set_option maxRecDepth 20000 in
set_option maxHeartbeats 8000000 in
theorem asked_ans_none {T : Type} (Z : Kd T) (base : Nat) (w : World) (g : Nat) (vl vc vq : Value) (L : List Nat) (m : Mid) (C : Nat) (fl : Int) (ws : List Wm) (xs : List T) (vs vm : Value) (st : List Nat) (wm : List Wm) (xm : List T) (hd : Nat) (h : PrS Z base w g vl vc vq L m C fl ws xs vs vm st wm xm hd) (hst : st.length ≤ 67108864) (who : Int) (A : Option Addr) (n c : Nat) (Aq : Option Addr) (cq : Nat) (d8 : w.cell? ⟨g, 9, none⟩ = some (.slice Aq 0 cq)) (A3 : Option Addr) (n3 c3 : Nat) (h3 : (if Z.ans then vm else .slice none 0 0 : Value) = .slice A3 n3 c3) (hn3 : n3 ≤ hd) :
  Calls Try.prog 28 #[.pointer (some ⟨g, 0, none⟩), .agg (thC Z.ans vs hd vm fl ((go Z.rd mid0 st).held : Int)), .agg #[.int .i64 who, .int .i64 2, .slice A n c]] w (AsDone Z base w g vl vc vq ws vs vm st wm 0) := by
 have HD8 := Hd.mk (And.intro d8 (And.intro h3 hn3))
 clear d8 h3 hn3
 have hone := que_one h.md.th.qu
 obtain ⟨hv, hhv⟩ : ∃ q, (go Z.rd mid0 st).held = q := ⟨_, rfl⟩
 have HP := Hd.mk h
 have HV := Hd.mk hhv
 have hvm1 : (if Z.ans then .slice none 0 0 else vm : Value).oneCell' = true ∧ (if Z.ans then vm else .slice none 0 0 : Value).oneCell' = true := by
  have := que_one h.md.th.qu
  constructor <;> split <;> first | rfl | exact this
 obtain ⟨As, cs, hvs, _, _⟩ := own_form h.md.th.so
 subst hvs
 obtain ⟨RL, hRC⟩ : ∃ R : List Value, [.bool Z.ans, .slice As st.length cs, .int .i64 (hd : Int), (if Z.ans then .slice none 0 0 else vm), (if Z.ans then vm else .slice none 0 0), .int .i64 fl, .int .i64 (hv : Int)] = R := ⟨_, rfl⟩
 have hth : thC Z.ans (.slice As st.length cs) hd vm fl (hv : Int) = RL.toArray := by rw [← hRC]; rfl
 have HRC : Hd (RL = [.bool Z.ans, .slice As st.length cs, .int .i64 (hd : Int), (if Z.ans then .slice none 0 0 else vm), (if Z.ans then vm else .slice none 0 0), .int .i64 fl, .int .i64 (hv : Int)] ∧ RL.length = 7 ∧ RL.toArray.all (·.oneCell') = true ∧ thC Z.ans (.slice As st.length cs) hd vm fl (hv : Int) = RL.toArray) := ⟨by rw [hth, ← hRC]; exact ⟨rfl, rfl, one7 rfl rfl rfl hvm1.1 hvm1.2 rfl rfl, rfl⟩⟩
 obtain ⟨g4, hg4⟩ : ∃ q, w.heap.size = q := ⟨_, rfl⟩
 obtain ⟨g5, hg5⟩ : ∃ q, g4 + 1 = q := ⟨_, rfl⟩
 obtain ⟨g6, hg6⟩ : ∃ q, g5 + 1 = q := ⟨_, rfl⟩
 obtain ⟨w1, hw1⟩ : ∃ U, ((w.alloc (.cells RL.toArray 65)).alloc (.cells #[.int .i64 who, .int .i64 2, .slice A n c] 68)).alloc (.cells #[.bool false, .slice none 0 0, .int .i64 0, .slice none 0 0, .slice none 0 0, .int .i64 0, .int .i64 0] 65) = U := ⟨_, rfl⟩
 have HB : Hd (w1.heap[g4]? = some (.cells RL.toArray 65) ∧ w1.heap[g5]? = some (.cells #[.int .i64 who, .int .i64 2, .slice A n c] 68) ∧ w1.heap[g6]? = some (.cells #[.bool false, .slice none 0 0, .int .i64 0, .slice none 0 0, .slice none 0 0, .int .i64 0, .int .i64 0] 65) ∧ Chg [] w w1 ∧ w1.heap.size = g6 + 1 ∧ g4 + 1 = g5 ∧ g5 + 1 = g6 ∧ w.heap.size = g4) := ⟨by
  refine ⟨?_, ?_, ?_, ?_, ?_, hg5, hg6, hg4⟩
  ·rw [← hw1, ← hg4, heap_alloc_old _ _ (by simp; omega), heap_alloc_old _ _ (by simp)]; exact heap_alloc_new w _
  ·rw [← hw1, ← hg5, ← hg4, heap_alloc_old _ _ (by simp)]; have := heap_alloc_new (w.alloc (.cells RL.toArray 65)) (.cells #[.int .i64 who, .int .i64 2, .slice A n c] 68); simpa using this
  ·rw [← hw1, ← hg6, ← hg5, ← hg4]; have := heap_alloc_new ((w.alloc (.cells RL.toArray 65)).alloc (.cells #[.int .i64 who, .int .i64 2, .slice A n c] 68)) (.cells #[.bool false, .slice none 0 0, .int .i64 0, .slice none 0 0, .slice none 0 0, .int .i64 0, .int .i64 0] 65); simpa using this
  ·rw [← hw1]; exact (((Chg.refl [] w).alloc _).alloc _).alloc _
  ·rw [← hw1, ← hg6, ← hg5, ← hg4]; simp⟩
 rw [hhv, hth]
 clear hRC h hhv hvm1 hth
 go_enter Try.func28, Try.ntmps28
 go_upto_region 1 with fail
 try rw [hw1]
 try rw [hg4]
 try rw [hg5]
 try rw [hg6]
 clear hw1 hg4 hg5 hg6
 have cD : w1.cell? ⟨g5, 1, none⟩ = some (.int .i64 2) := by rw [cell_of_row w1 g5 1 _ _ (0, 0) HB.out.2.1]; rfl
 have HON := Hd.mk hone
 clear hone
 go_upto_region 26 with fail
 clear cD
 have hb4 := HB.out.1
 go_wp2_with (refine at_load (x := .tmp 4) ?_; refine wpList_load_row rfl 65 (.tmp 4) rfl g4 rfl 65 RL.toArray (0, 0) _ hb4 Try.underlying65 rfl (by rw [infoRdr7]; simp [HRC.out.2.1]) ?_)
 have hcall : Calls Try.prog 73 #[.agg RL.toArray] w1 fun e w' => e = .returned (.tuple #[.agg RL.toArray, .agg #[.int .i64 0, .int .u64 0, .int .i64 0, .slice none 0 0, .slice none 0 0, .slice none 0 0, .string emS, .bool false, .int .i64 0, .int .i64 0, .int .i64 0, .int .i64 0, .int .i64 0, .int .i64 0, .int .i64 0], .bool false]) ∧ Chg [] w1 w' := by
  rw [HRC.out.1, HD8.out.2.1]
  exact dans_none w1 Z.ans (.slice As st.length cs) (if Z.ans then .slice none 0 0 else vm) hd fl (hv : Int) rfl (by split <;> first | rfl | exact HON.out) A3 n3 c3 HD8.out.2.2
 refine hcall.mono ?_
 rintro e w8 ⟨rfl, hc8⟩
 clear hcall hb4
 have HC8 : Hd (Chg [] w1 w8) := ⟨hc8⟩
 clear hc8
 go_upto_region 27 with (first | (refine at_store (x := .tmp 23) ?_; refine wpList_stored rfl 65 (.tmp 23) (.tmp 137) rfl w8.heap.size RL.toArray rfl rfl 65 _ (alloc2_fst _ _ _) (by rw [infoRdr7]; simp [HRC.out.2.1]) (by simp [HRC.out.2.1]) HRC.out.2.2.1 ?_; intro w9 hB9) | (refine at_store (x := .tmp 24) ?_; refine wpList_stored rfl 43 (.tmp 24) (.tmp 138) rfl (w8.heap.size + 1) #[.int .i64 0, .int .u64 0, .int .i64 0, .slice none 0 0, .slice none 0 0, .slice none 0 0, .string emS, .bool false, .int .i64 0, .int .i64 0, .int .i64 0, .int .i64 0, .int .i64 0, .int .i64 0, .int .i64 0] rfl rfl 43 _ ((hB9.out.2.1.block _ (by simp) (by simp)).trans (alloc2_snd _ _ _)) infoAn15 rfl (by simp [Value.oneCell']) ?_; intro w10 hB10))
 obtain ⟨g8, hg8⟩ : ∃ q, w8.heap.size = q := ⟨_, rfl⟩
 obtain ⟨g9, hg9⟩ : ∃ q, g8 + 1 = q := ⟨_, rfl⟩
 rw [hg8] at hB9 hB10 ⊢
 try rw [hg9]
 have HB10 : Hd (w10.heap[g8]? = some (.cells RL.toArray 65) ∧ w10.heap[g9]? = some (.cells #[.int .i64 0, .int .u64 0, .int .i64 0, .slice none 0 0, .slice none 0 0, .slice none 0 0, .string emS, .bool false, .int .i64 0, .int .i64 0, .int .i64 0, .int .i64 0, .int .i64 0, .int .i64 0, .int .i64 0] 43) ∧ Chg [] w8 w10 ∧ w10.heap.size = g9 + 1 ∧ g8 + 1 = g9 ∧ w8.heap.size = g8) := ⟨by
  have e9 := hB9.out.2.2
  have e10 := hB10.out.2.2
  simp at e9
  refine ⟨by rw [hB10.out.2.1.block g8 (by omega) (by simp)]; exact hB9.out.1, by rw [← hg9]; exact hB10.out.1, ?_, by omega, hg9, hg8⟩
  exact ((((Chg.refl [] w8).alloc _).alloc _).newer (Chg.of_grown hB9.out.2.1) fun y hy => .inr (by simp at hy; omega)).newer (Chg.of_grown hB10.out.2.1) fun y hy => .inr (by simp at hy; omega)⟩
 clear hB9 hB10 hg8 hg9
 go_wp2_with fail
 have hc10 : Chg [] w w10 := (HB.out.2.2.2.1.trans HC8.out).trans HB10.out.2.2.1
 refine (an_empty w10 g Aq cq ((hc10.cell (p := ⟨g, 9, none⟩) HP.out.rd.lt List.not_mem_nil).trans HD8.out.1) (Nat.lt_of_lt_of_le HP.out.rd.lt hc10.size)).mono ?_
 rintro e w11 ⟨rfl, hb11⟩
 have HC11 : Hd (Chg [] w w11 ∧ Below w10.heap.size w10 w11) := ⟨hc10.trans (Chg.of_below hb11), hb11⟩
 clear hb11 hc10
 go_upto_region 28 with (refine at_store (x := .tmp 26) ?_; refine wpList_boxed rfl 43 (.tmp 26) (.tmp 143) rfl w11.heap.size rfl an0 rfl rfl infoAn15 rfl (by simp [an0, Value.oneCell']) ?_; intro w12 hB12)
 obtain ⟨gb, hgb⟩ : ∃ q, w11.heap.size = q := ⟨_, rfl⟩
 rw [hgb] at hB12 ⊢
 have HL : Hd (g6 < g8 ∧ g8 < g9 ∧ g9 < gb ∧ gb < w12.heap.size ∧ Chg [] w w12) := ⟨by
  have h1 := HB.out.2.2.2.2.1
  have h2 := HC8.out.size
  have h3 := HB10.out.2.2.2
  have h4 := HC11.out.2.size
  have h5 := hB12.out.2.2
  exact ⟨by omega, by omega, by omega, by omega, HC11.out.1.trans (Chg.of_below (hB12.out.2.1.mono (by omega)))⟩⟩
 have HR12 : Hd (∀ W, Chg [g6] w12 W → W.heap[g8]? = some (.cells RL.toArray 65) ∧ W.heap[g9]? = some (.cells #[.int .i64 0, .int .u64 0, .int .i64 0, .slice none 0 0, .slice none 0 0, .slice none 0 0, .string emS, .bool false, .int .i64 0, .int .i64 0, .int .i64 0, .int .i64 0, .int .i64 0, .int .i64 0, .int .i64 0] 43) ∧ W.heap[gb]? = some (.cells #[.int .i64 0, .int .u64 0, .int .i64 0, .slice none 0 0, .slice none 0 0, .slice none 0 0, .string emS, .bool false, .int .i64 0, .int .i64 0, .int .i64 0, .int .i64 0, .int .i64 0, .int .i64 0, .int .i64 0] 43)) := ⟨fun W b => by
  have h1 := HL.out
  have hx : ∀ {q : Nat}, g6 < q → q ∉ [g6] := fun h hm => by simp at hm; omega
  have h3 := HB10.out.2.2.2
  refine ⟨?_, ?_, ?_⟩
  ·rw [b.block g8 (by omega) (hx (by omega)), hB12.out.2.1.block g8 (by omega), HC11.out.2.block g8 (by omega)]; exact HB10.out.1
  ·rw [b.block g9 (by omega) (hx (by omega)), hB12.out.2.1.block g9 (by omega), HC11.out.2.block g9 (by omega)]; exact HB10.out.2.1
  ·rw [b.block gb (by omega) (hx (by omega))]; exact hB12.out.1⟩
 have HB6 : Hd (w12.drew.heap[g6]? = some (.cells #[.bool false, .slice none 0 0, .int .i64 0, .slice none 0 0, .slice none 0 0, .int .i64 0, .int .i64 0] 65)) := ⟨by
  have h1 := HL.out
  have h3 := HB10.out.2.2.2
  have h5 := HB.out.2.2.2.2.1
  show w12.heap[g6]? = _
  rw [hB12.out.2.1.block g6 (by omega), HC11.out.2.block g6 (by omega), HB10.out.2.2.1.block g6 (by omega) List.not_mem_nil, HC8.out.block g6 (by omega) List.not_mem_nil]; exact HB.out.2.2.1⟩
 have HNW : Hd (∀ W, Chg [g6] w12 W → Chg [] w W) := ⟨fun W b => HL.out.2.2.2.2.newer b fun y hy => .inr (by have := HB.out.2.2.2.2; simp at hy; omega)⟩
 clear hgb
 refine wp_region_held_drew (S := fun W => Chg [g6] w12 W) (by kernel_rfl) (Chg.refl [g6] w12).drew (fun hHeld => ?_)
 obtain ⟨w13, hw13⟩ : ∃ U, w12.drew = U := ⟨_, rfl⟩
 rw [hw13] at HB6 hHeld ⊢
 have HW13 := Hd.mk hHeld
 clear hw13
 refine wpAnyH_take (i := 0) (oi := ?oiRa) (v := .agg RL.toArray) ?hiRa (by kernel_rfl) (by kernel_rfl) (by kernel_rfl) ?hQRa ?hyRa (by assumption) ?restRa
 case hiRa => simp only [List.getElem?_toArray, List.getElem?_cons_succ, List.getElem?_cons_zero]; rfl
 case hQRa => exact fun _ _ _ h => h
 case hyRa => exact yieldsIf_load_mid rfl 65 (.tmp 23) rfl g8 0 rfl RL _ (fun W hW => range_of_box (HR12.out W hW).1) Try.underlying65 rfl (by rw [infoRdr7, HRC.out.2.1])
 try simp only [Act.put, List.setIfInBounds_toArray, List.set_cons_zero, List.set_cons_succ]
 refine wpAnyH_take (i := 1) (oi := ?oi201) (v := ?v201) ?hi201 (by kernel_rfl) (by kernel_rfl) (by kernel_rfl) ?hQ201 (Or.inl ⟨?hw201, ?hy201⟩) (by assumption) ?rest201
 case hi201 => simp only [List.getElem?_toArray, List.getElem?_cons_succ, List.getElem?_cons_zero]; rfl
 case hQ201 => exact fun _ _ _ h => h
 case hw201 => rfl
 case hy201 => (intro W hW; go_simp; all_goals rfl)
 simp only [Act.put, List.setIfInBounds_toArray, List.set_cons_zero, List.set_cons_succ]
 refine wpAnyH_take (i := 2) (oi := ?oi202) (v := ?v202) ?hi202 (by kernel_rfl) (by kernel_rfl) (by kernel_rfl) ?hQ202 (Or.inl ⟨?hw202, ?hy202⟩) (by assumption) ?rest202
 case hi202 => simp only [List.getElem?_toArray, List.getElem?_cons_succ, List.getElem?_cons_zero]; rfl
 case hQ202 => exact fun _ _ _ h => h
 case hw202 => rfl
 case hy202 => (intro W hW; go_simp; all_goals rfl)
 simp only [Act.put, List.setIfInBounds_toArray, List.set_cons_zero, List.set_cons_succ]
 refine wpAnyH_take (i := 3) (oi := ?oi203) (v := ?v203) ?hi203 (by kernel_rfl) (by kernel_rfl) (by kernel_rfl) ?hQ203 (Or.inl ⟨?hw203, ?hy203⟩) (by assumption) ?rest203
 case hi203 => simp only [List.getElem?_toArray, List.getElem?_cons_succ, List.getElem?_cons_zero]; rfl
 case hQ203 => exact fun _ _ _ h => h
 case hw203 => rfl
 case hy203 => (intro W hW; go_simp; all_goals rfl)
 simp only [Act.put, List.setIfInBounds_toArray, List.set_cons_zero, List.set_cons_succ]
 refine wpAnyH_take (i := 4) (oi := ?oi204) (v := ?v204) ?hi204 (by kernel_rfl) (by kernel_rfl) (by kernel_rfl) ?hQ204 (Or.inl ⟨?hw204, ?hy204⟩) (by assumption) ?rest204
 case hi204 => simp only [List.getElem?_toArray, List.getElem?_cons_succ, List.getElem?_cons_zero]; rfl
 case hQ204 => exact fun _ _ _ h => h
 case hw204 => rfl
 case hy204 => (intro W hW; go_simp; all_goals rfl)
 simp only [Act.put, List.setIfInBounds_toArray, List.set_cons_zero, List.set_cons_succ]
 refine wpAnyH_take (i := 5) (oi := ?oiRb) (v := .agg #[.int .i64 0, .int .u64 0, .int .i64 0, .slice none 0 0, .slice none 0 0, .slice none 0 0, .string emS, .bool false, .int .i64 0, .int .i64 0, .int .i64 0, .int .i64 0, .int .i64 0, .int .i64 0, .int .i64 0]) ?hiRb (by kernel_rfl) (by kernel_rfl) (by kernel_rfl) ?hQRb ?hyRb (by assumption) ?restRb
 case hiRb => simp only [List.getElem?_toArray, List.getElem?_cons_succ, List.getElem?_cons_zero]; rfl
 case hQRb => exact fun _ _ _ h => h
 case hyRb => exact yieldsIf_load_mid rfl 43 (.tmp 26) rfl gb 0 rfl [.int .i64 0, .int .u64 0, .int .i64 0, .slice none 0 0, .slice none 0 0, .slice none 0 0, .string emS, .bool false, .int .i64 0, .int .i64 0, .int .i64 0, .int .i64 0, .int .i64 0, .int .i64 0, .int .i64 0] _ (fun W hW => range_of_box (HR12.out W hW).2.2) Try.underlying43 rfl infoAn15
 try simp only [Act.put, List.setIfInBounds_toArray, List.set_cons_zero, List.set_cons_succ]
 refine wpAnyH_take (i := 6) (oi := ?oiRc) (v := .agg #[.int .i64 0, .int .u64 0, .int .i64 0, .slice none 0 0, .slice none 0 0, .slice none 0 0, .string emS, .bool false, .int .i64 0, .int .i64 0, .int .i64 0, .int .i64 0, .int .i64 0, .int .i64 0, .int .i64 0]) ?hiRc (by kernel_rfl) (by kernel_rfl) (by kernel_rfl) ?hQRc ?hyRc (by assumption) ?restRc
 case hiRc => simp only [List.getElem?_toArray, List.getElem?_cons_succ, List.getElem?_cons_zero]; rfl
 case hQRc => exact fun _ _ _ h => h
 case hyRc => exact yieldsIf_load_mid rfl 43 (.tmp 24) rfl g9 0 rfl [.int .i64 0, .int .u64 0, .int .i64 0, .slice none 0 0, .slice none 0 0, .slice none 0 0, .string emS, .bool false, .int .i64 0, .int .i64 0, .int .i64 0, .int .i64 0, .int .i64 0, .int .i64 0, .int .i64 0] _ (fun W hW => range_of_box (HR12.out W hW).2.1) Try.underlying43 rfl infoAn15
 try simp only [Act.put, List.setIfInBounds_toArray, List.set_cons_zero, List.set_cons_succ]
 refine wpAnyH_ready (rs := [7]) (by kernel_rfl) (by simp) ?_
 refine AllReadyH.cons (i := 7) (o := ?o205) ?ho205 (fun Kq hK => ?step205) AllReadyH.nil
 case ho205 => simp only [List.getElem?_toArray, List.getElem?_cons_succ, List.getElem?_cons_zero]; rfl
 go_simp
 (go_at_call 61; refine (sameAn_any0 w13 w13.heap.size ⟨0, 0, 0, [], [], [], emS, false, 0, 0, 0, 0, 0, 0, 0⟩ ⟨0, 0, 0, [], [], [], emS, false, 0, 0, 0, 0, 0, 0, 0⟩ 0 0 0 [] [] [] [] [] [] emS emS false false 0 0 0 0 0 0 0 0 0 0 0 0 0 0 rfl rfl none none none none none none 0 0 0 0 0 0 0 0 0 0 0 0 Rd.nil Rd.nil Rd.nil Rd.nil Rd.nil Rd.nil (Nat.le_refl _) (fun _ h => absurd h List.not_mem_nil) (fun _ h => absurd h List.not_mem_nil) (by omega) (by omega)).mono ?_; rw [sameAB_self]; rintro e w14 ⟨rfl, hb14⟩; have HW14 : Hd (Chg [g6] w12 w14) := ⟨HW13.out.trans (Chg.of_below hb14)⟩; have HB64 : Hd (w14.heap[g6]? = some (.cells #[.bool false, .slice none 0 0, .int .i64 0, .slice none 0 0, .slice none 0 0, .int .i64 0, .int .i64 0] 65)) := ⟨(hb14.block g6 (Array.getElem?_eq_some_iff.1 HB6.out).1).trans HB6.out⟩; clear hb14)
 refine hK.out _ _ HW14.out (fun _ => ?_)
 clear hK Kq
 try simp only [Act.put, List.setIfInBounds_toArray, List.set_cons_zero, List.set_cons_succ]
 refine wpAnyH_take (i := 8) (oi := ?oi206) (v := ?v206) ?hi206 (by kernel_rfl) (by kernel_rfl) (by kernel_rfl) ?hQ206 (Or.inl ⟨?hw206, ?hy206⟩) (by assumption) ?rest206
 case hi206 => simp only [List.getElem?_toArray, List.getElem?_cons_succ, List.getElem?_cons_zero]; rfl
 case hQ206 => exact fun _ _ _ h => h
 case hw206 => rfl
 case hy206 => (intro W hW; go_simp; all_goals rfl)
 simp only [Act.put, List.setIfInBounds_toArray, List.set_cons_zero, List.set_cons_succ]
 refine wpAnyH_ready (rs := [9]) (by kernel_rfl) (by simp) ?_
 refine AllReadyH.cons (i := 9) (o := ?oS1) ?hoS1 (fun Kq hK => ?stepS1) AllReadyH.nil
 case hoS1 => simp only [List.getElem?_toArray, List.getElem?_cons_succ, List.getElem?_cons_zero]; rfl
 refine step_store rfl 65 (.tmp 6) (.tmp 145) rfl g6 RL.toArray rfl rfl 65 _ HB64.out (by rw [infoRdr7]; simp [HRC.out.2.1]) (by simp [HRC.out.2.1]) HRC.out.2.2.1 ?_
 intro w15 hs15 hg15
 have hF : Chg [g6] w12 w15 := HW14.out.trans (Chg.of_grown hg15)
 have HS15 := Hd.mk (And.intro hs15 hF)
 refine hK.out _ _ hF (fun _ => ?_)
 clear hK Kq hs15 hg15 hF
 try simp only [Act.put, List.setIfInBounds_toArray, List.set_cons_zero, List.set_cons_succ]
 refine wpAnyH_take (i := 10) (oi := ?oi207) (v := ?v207) ?hi207 (by kernel_rfl) (by kernel_rfl) (by kernel_rfl) ?hQ207 (Or.inl ⟨?hw207, ?hy207⟩) (by assumption) ?rest207
 case hi207 => simp only [List.getElem?_toArray, List.getElem?_cons_succ, List.getElem?_cons_zero]; rfl
 case hQ207 => exact fun _ _ _ h => h
 case hw207 => rfl
 case hy207 => (intro W hW; go_simp; all_goals rfl)
 simp only [Act.put, List.setIfInBounds_toArray, List.set_cons_zero, List.set_cons_succ]
 refine wpAnyH_done (by kernel_rfl) ?_ _
 clear hHeld
 go_wp2_with fail
 (try simp only [Exit.inBlock, Exit.then])
 refine bodyPost_ret (results_cell_tmp rfl _ _ g6 65 RL.toArray (0, 0) _ rfl HS15.out.1 Try.underlying65 rfl (by rw [infoRdr7]; simp [HRC.out.2.1])) rfl ?_
 exact HP.out.same (HNW.out w15 HS15.out.2) 0 (by rw [HV.out, HRC.out.2.2.2]; rfl)
end Go.Proofs.Ytbcmjjcbjojakaa
