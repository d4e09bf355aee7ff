/- Contracts of the document's Request and Answer. (tools/dregen.py prints it.) -/
import Derived.Test.YtbcmjjcbjojakaaPk14
namespace Go.Proofs.Ytbcmjjcbjojakaa
open Go.RowKit
set_option linter.unusedVariables false
set_option linter.unusedSimpArgs false
set_option maxRecDepth 20000 in
set_option maxHeartbeats 8000000 in
theorem dreq_none (w : World) (an : Bool) (vs : Value) (r1 : Value) (hd : Nat) (fl held : Int) (v0 : vs.oneCell' = true) (h1 : r1.oneCell' = true) (A : Option Addr) (n c : Nat) (hnh : n ≤ hd) :
  Calls Try.prog 72 #[.agg #[.bool an, vs, .int .i64 (hd : Int), (.slice A n c), r1, .int .i64 fl, .int .i64 held]] w fun e w' => e = .returned (.tuple #[.agg #[.bool an, vs, .int .i64 (hd : Int), (.slice A n c), r1, .int .i64 fl, .int .i64 held], .agg #[.int .i64 0, .int .u64 0, .string emS, .string emS, .int .i64 0, .int .i64 0, .int .i64 0, .slice none 0 0], .bool false]) ∧ Chg [] w w' := by
 obtain ⟨RL, hRC⟩ : ∃ R : List Value, [.bool an, vs, .int .i64 (hd : Int), .slice A n c, r1, .int .i64 fl, .int .i64 held] = R := ⟨_, rfl⟩
 have HRC : Hd (RL = [.bool an, vs, .int .i64 (hd : Int), .slice A n c, r1, .int .i64 fl, .int .i64 held] ∧ RL.length = 7 ∧ RL.toArray.all (·.oneCell') = true) := ⟨by rw [← hRC]; exact ⟨rfl, rfl, one7 rfl v0 rfl rfl h1 rfl rfl⟩⟩
 obtain ⟨g1, hg1⟩ : ∃ g, w.heap.size = g := ⟨_, rfl⟩
 obtain ⟨g2, hg2⟩ : ∃ g, g1 + 1 = g := ⟨_, rfl⟩
 obtain ⟨g3, hg3⟩ : ∃ g, g2 + 1 = g := ⟨_, rfl⟩
 obtain ⟨w1, hw1⟩ : ∃ U, ((w.alloc (.cells RL.toArray 65)).alloc (.cells #[.bool false, .slice none 0 0, .int .i64 0, .slice none 0 0, .slice none 0 0, .int .i64 0, .int .i64 0] 65)).alloc (.cells #[.int .i64 0, .int .u64 0, .string emS, .string emS, .int .i64 0, .int .i64 0, .int .i64 0, .slice none 0 0] 28) = U := ⟨_, rfl⟩
 have HB : Hd (w1.heap[g1]? = some (.cells RL.toArray 65) ∧ w1.heap[g2]? = some (.cells #[.bool false, .slice none 0 0, .int .i64 0, .slice none 0 0, .slice none 0 0, .int .i64 0, .int .i64 0] 65) ∧ w1.heap[g3]? = some (.cells #[.int .i64 0, .int .u64 0, .string emS, .string emS, .int .i64 0, .int .i64 0, .int .i64 0, .slice none 0 0] 28) ∧ Chg [] w w1 ∧ w1.heap.size = g3 + 1 ∧ g1 + 1 = g2 ∧ g2 + 1 = g3 ∧ w.heap.size = g1) := ⟨by
  refine ⟨?_, ?_, ?_, ?_, ?_, hg2, hg3, hg1⟩
  ·rw [← hw1, ← hg1, heap_alloc_old _ _ (by simp; omega), heap_alloc_old _ _ (by simp)]; exact heap_alloc_new w _
  ·rw [← hw1, ← hg2, ← hg1, heap_alloc_old _ _ (by simp)]; have := heap_alloc_new (w.alloc (.cells RL.toArray 65)) (.cells #[.bool false, .slice none 0 0, .int .i64 0, .slice none 0 0, .slice none 0 0, .int .i64 0, .int .i64 0] 65); simpa using this
  ·rw [← hw1, ← hg3, ← hg2, ← hg1]; have := heap_alloc_new ((w.alloc (.cells RL.toArray 65)).alloc (.cells #[.bool false, .slice none 0 0, .int .i64 0, .slice none 0 0, .slice none 0 0, .int .i64 0, .int .i64 0] 65)) (.cells #[.int .i64 0, .int .u64 0, .string emS, .string emS, .int .i64 0, .int .i64 0, .int .i64 0, .slice none 0 0] 28); simpa using this
  ·rw [← hw1]; exact (((Chg.refl [] w).alloc _).alloc _).alloc _
  ·rw [← hw1, ← hg3, ← hg2, ← hg1]; simp⟩
 rw [hRC]
 clear hRC
 go_enter Try.func72, Try.ntmps72
 go_upto_region 1 with fail
 have hz : (⟨#[]⟩ : ByteArray) = emS := rfl
 try rw [hz]
 try rw [hw1]
 try rw [hg1]
 try rw [hg2]
 try rw [hg3]
 clear hw1 hg1 hg2 hg3 hz
 have HWC : Hd (True) := ⟨trivial⟩
 have cl : w1.cell? ⟨g1, 3, none⟩ = some (.slice A n c) := by rw [cell_of_row w1 g1 3 _ _ (0, 0) HB.out.1, HRC.out.1]; rfl
 have ch : w1.cell? ⟨g1, 2, none⟩ = some (.int .i64 (hd : Int)) := by rw [cell_of_row w1 g1 2 _ _ (0, 0) HB.out.1, HRC.out.1]; rfl
 have hi : (n : Int) ≤ (hd : Int) := by omega
 go_upto_region 3 with fail
 clear cl ch hi
 have hb1 := HB.out.1
 have hb2 := HB.out.2.1
 go_wp2_with (first | (refine at_load (x := .tmp 1) ?_; refine wpList_load_row rfl 65 (.tmp 1) rfl g1 rfl 65 RL.toArray (0, 0) _ hb1 Try.underlying65 rfl (by rw [infoRdr7]; simp [HRC.out.2.1]) ?_) | (refine at_store (x := .tmp 2) ?_; refine wpList_stored rfl 65 (.tmp 2) (.tmp 14) rfl g2 RL.toArray rfl rfl 65 _ hb2 (by rw [infoRdr7]; simp [HRC.out.2.1]) (by simp [HRC.out.2.1]) HRC.out.2.2 ?_; intro w2 hB2) | (refine at_store (x := .tmp 3) ?_; refine wpList_stored rfl 28 (.tmp 3) (.tmp 15) rfl g3 #[.int .i64 0, .int .u64 0, .string emS, .string emS, .int .i64 0, .int .i64 0, .int .i64 0, .slice none 0 0] rfl rfl 28 _ ((hB2.out.2.1.block g3 (by have := HB.out; omega) (by have := HB.out; simp; omega)).trans HB.out.2.2.1) infoRq8 rfl (by simp [Value.oneCell']) ?_; intro w3 hB3))
 (try simp only [Exit.inBlock, Exit.then])
 refine bodyPost_ret (results_cell2_tmp rfl _ _ g2 g3 65 28 RL.toArray #[.int .i64 0, .int .u64 0, .string emS, .string emS, .int .i64 0, .int .i64 0, .int .i64 0, .slice none 0 0] (0, 0) (0, 0) _ _ rfl ((hB3.out.2.1.block g2 (by have := HB.out; have := hB2.out.2.2; omega) (by have := HB.out; simp; omega)).trans hB2.out.1) rfl hB3.out.1 Try.underlying65 rfl (by rw [infoRdr7]; simp [HRC.out.2.1]) Try.underlying28 rfl infoRq8) rfl ?_
 refine ⟨by rw [HRC.out.1]; rfl, ?_⟩
 exact ((HB.out.2.2.2.1.newer (Chg.of_grown hB2.out.2.1) fun y hy => .inr (by have := HB.out; simp at hy; omega)).newer (Chg.of_grown hB3.out.2.1) fun y hy => .inr (by have := HB.out; simp at hy; omega))
set_option maxRecDepth 20000 in
set_option maxHeartbeats 8000000 in
theorem dreq_some (w : World) (an : Bool) (As : Option Addr) (ns cs : Nat) (r1 : Value) (hd : Nat) (fl held : Int) (h1 : r1.oneCell' = true) (base : Nat) (vq : Value) (ws : List Wm) (W : Wm) (hq : Que w base 28 8 vq ws) (hW : ws[hd]? = some W) (hwl : ws.length ≤ 67108864) :
  Calls Try.prog 72 #[.agg #[.bool an, .slice As ns cs, .int .i64 (hd : Int), vq, r1, .int .i64 fl, .int .i64 held]] w fun e w' => e = .returned (.tuple #[.agg #[.bool an, .slice As ns cs, .int .i64 ((hd + 1 : Nat) : Int), vq, r1, .int .i64 fl, .int .i64 held], .agg W.cells.toArray, .bool true]) ∧ Chg [] w w' := by
 have hcl := hq.1 W (List.mem_of_getElem? hW)
 have hlt := (List.getElem?_eq_some_iff.1 hW).1
 obtain ⟨RL, hRC⟩ : ∃ R : List Value, [.bool an, .slice As ns cs, .int .i64 (hd : Int), vq, r1, .int .i64 fl, .int .i64 held] = R := ⟨_, rfl⟩
 have HRC : Hd (RL = [.bool an, .slice As ns cs, .int .i64 (hd : Int), vq, r1, .int .i64 fl, .int .i64 held] ∧ RL.length = 7 ∧ RL.toArray.all (·.oneCell') = true) := ⟨by rw [← hRC]; exact ⟨rfl, rfl, one7 rfl rfl rfl (que_one hq) h1 rfl rfl⟩⟩
 obtain ⟨g1, hg1⟩ : ∃ g, w.heap.size = g := ⟨_, rfl⟩
 obtain ⟨g2, hg2⟩ : ∃ g, g1 + 1 = g := ⟨_, rfl⟩
 obtain ⟨g3, hg3⟩ : ∃ g, g2 + 1 = g := ⟨_, rfl⟩
 obtain ⟨w1, hw1⟩ : ∃ U, ((w.alloc (.cells RL.toArray 65)).alloc (.cells #[.bool false, .slice none 0 0, .int .i64 0, .slice none 0 0, .slice none 0 0, .int .i64 0, .int .i64 0] 65)).alloc (.cells #[.int .i64 0, .int .u64 0, .string emS, .string emS, .int .i64 0, .int .i64 0, .int .i64 0, .slice none 0 0] 28) = U := ⟨_, rfl⟩
 have HB : Hd (w1.heap[g1]? = some (.cells RL.toArray 65) ∧ w1.heap[g2]? = some (.cells #[.bool false, .slice none 0 0, .int .i64 0, .slice none 0 0, .slice none 0 0, .int .i64 0, .int .i64 0] 65) ∧ w1.heap[g3]? = some (.cells #[.int .i64 0, .int .u64 0, .string emS, .string emS, .int .i64 0, .int .i64 0, .int .i64 0, .slice none 0 0] 28) ∧ Chg [] w w1 ∧ w1.heap.size = g3 + 1 ∧ g1 + 1 = g2 ∧ g2 + 1 = g3 ∧ w.heap.size = g1) := ⟨by
  refine ⟨?_, ?_, ?_, ?_, ?_, hg2, hg3, hg1⟩
  ·rw [← hw1, ← hg1, heap_alloc_old _ _ (by simp; omega), heap_alloc_old _ _ (by simp)]; exact heap_alloc_new w _
  ·rw [← hw1, ← hg2, ← hg1, heap_alloc_old _ _ (by simp)]; have := heap_alloc_new (w.alloc (.cells RL.toArray 65)) (.cells #[.bool false, .slice none 0 0, .int .i64 0, .slice none 0 0, .slice none 0 0, .int .i64 0, .int .i64 0] 65); simpa using this
  ·rw [← hw1, ← hg3, ← hg2, ← hg1]; have := heap_alloc_new ((w.alloc (.cells RL.toArray 65)).alloc (.cells #[.bool false, .slice none 0 0, .int .i64 0, .slice none 0 0, .slice none 0 0, .int .i64 0, .int .i64 0] 65)) (.cells #[.int .i64 0, .int .u64 0, .string emS, .string emS, .int .i64 0, .int .i64 0, .int .i64 0, .slice none 0 0] 28); simpa using this
  ·rw [← hw1]; exact (((Chg.refl [] w).alloc _).alloc _).alloc _
  ·rw [← hw1, ← hg3, ← hg2, ← hg1]; simp⟩
 rw [hRC]
 clear hRC
 go_enter Try.func72, Try.ntmps72
 go_upto_region 1 with fail
 have hz : (⟨#[]⟩ : ByteArray) = emS := rfl
 try rw [hz]
 try rw [hw1]
 try rw [hg1]
 try rw [hg2]
 try rw [hg3]
 clear hw1 hg1 hg2 hg3 hz
 have HWC : Hd (W.cells.length = 8 ∧ W.cells.toArray.all (·.oneCell') = true) := ⟨hcl.1, all_oneCell_toArray hcl.2⟩
 obtain ⟨gq, oq, cq, hvq, _, hgq, hrg⟩ := que_nth hq hW
 obtain ⟨n, hn⟩ : ∃ q, ws.length = q := ⟨_, rfl⟩
 rw [hn] at hvq hlt hwl
 subst hvq
 have HRQ : Hd (∀ W', Chg [g2, g3] w1 W' → W'.rangeAt gq (oq + hd * 8) W.cells) := ⟨fun W' b j v hj => by
  have h1 := hrg j v hj
  rw [b.cell (p := ⟨gq, oq + hd * 8 + j, none⟩) (by have := HB.out; show gq < _; omega) (by have := HB.out; show gq ∉ _; simp; omega), HB.out.2.2.2.1.cell (p := ⟨gq, oq + hd * 8 + j, none⟩) hgq List.not_mem_nil]
  exact h1⟩
 clear hrg hgq hcl hq hn
 have cl : w1.cell? ⟨g1, 3, none⟩ = some (.slice (some ⟨gq, oq, none⟩) n cq) := by rw [cell_of_row w1 g1 3 _ _ (0, 0) HB.out.1, HRC.out.1]; rfl
 have ch : w1.cell? ⟨g1, 2, none⟩ = some (.int .i64 (hd : Int)) := by rw [cell_of_row w1 g1 2 _ _ (0, 0) HB.out.1, HRC.out.1]; rfl
 have hi : ¬ (n : Int) ≤ (hd : Int) := by omega
 go_upto_region 4 with fail
 clear cl ch hi
 have hi2 : (hd : Int) < (n : Int) := by omega
 have hwr : IntKind.i64.wrap ((hd : Int) + 1) = ((hd + 1 : Nat) : Int) := by rw [IntKind.wrap_i64]; omega
 have HRG : Hd (∀ W', Chg [g2, g3] w1 W' → W'.heap[g1]? = some (.cells RL.toArray 65)) := ⟨fun W' b => (b.block g1 (by have := HB.out; omega) (by have := HB.out; simp; omega)).trans HB.out.1⟩
 have HC : Hd (∀ W', Chg [g2, g3] w1 W' → W'.cell? ⟨g1, 0, none⟩ = some (.bool an) ∧ W'.cell? ⟨g1, 1, none⟩ = some (.slice As ns cs) ∧ W'.cell? ⟨g1, 2, none⟩ = some (.int .i64 (hd : Int))) := ⟨fun W' b => by
  have h := HRG.out W' b
  exact ⟨by rw [cell_of_row W' g1 0 _ _ (0, 0) h, HRC.out.1]; rfl, by rw [cell_of_row W' g1 1 _ _ (0, 0) h, HRC.out.1]; rfl, by rw [cell_of_row W' g1 2 _ _ (0, 0) h, HRC.out.1]; rfl⟩⟩
 have HR4 : Hd (∀ W', Chg [g2, g3] w1 W' → W'.rangeAt g1 3 [.slice (some ⟨gq, oq, none⟩) n cq, r1, .int .i64 fl, .int .i64 held]) := ⟨fun W' b j v hj => by
  have h := HRG.out W' b
  rw [cell_of_row W' g1 (3 + j) _ _ (0, 0) h, HRC.out.1]
  simp only [List.getElem?_toArray]
  rw [Nat.add_comm]; exact hj⟩
 refine wp_region_held_drew (S := fun W' => Chg [g2, g3] w1 W') (by kernel_rfl) (Chg.refl [g2, g3] w1).drew (fun hHeld => ?_)
 have HB47 : Hd (w1.drew.heap[g2]? = some (.cells #[.bool false, .slice none 0 0, .int .i64 0, .slice none 0 0, .slice none 0 0, .int .i64 0, .int .i64 0] 65) ∧ w1.drew.heap[g3]? = some (.cells #[.int .i64 0, .int .u64 0, .string emS, .string emS, .int .i64 0, .int .i64 0, .int .i64 0, .slice none 0 0] 28)) := ⟨HB.out.2.1, HB.out.2.2.1⟩
 obtain ⟨w7, hw7⟩ : ∃ U, w1.drew = U := ⟨_, rfl⟩
 rw [hw7] at HB47 hHeld ⊢
 have HW7 := Hd.mk hHeld
 clear hw7
 refine wpAnyH_take (i := 0) (oi := ?oi101) (v := ?v101) ?hi101 (by kernel_rfl) (by kernel_rfl) (by kernel_rfl) ?hQ101 (Or.inl ⟨?hw101, ?hy101⟩) (by assumption) ?rest101
 case hi101 => simp only [List.getElem?_toArray, List.getElem?_cons_succ, List.getElem?_cons_zero]; rfl
 case hQ101 => exact fun _ _ _ h => h
 case hw101 => rfl
 case hy101 => (intro W' hW'; have f1 := (HC.out W' hW').1; have f2 := (HC.out W' hW').2.1; have f3 := (HC.out W' hW').2.2; go_simp; all_goals rfl)
 simp only [Act.put, List.setIfInBounds_toArray, List.set_cons_zero, List.set_cons_succ]
 refine wpAnyH_take (i := 1) (oi := ?oi102) (v := ?v102) ?hi102 (by kernel_rfl) (by kernel_rfl) (by kernel_rfl) ?hQ102 (Or.inl ⟨?hw102, ?hy102⟩) (by assumption) ?rest102
 case hi102 => simp only [List.getElem?_toArray, List.getElem?_cons_succ, List.getElem?_cons_zero]; rfl
 case hQ102 => exact fun _ _ _ h => h
 case hw102 => rfl
 case hy102 => (intro W' hW'; have f1 := (HC.out W' hW').1; have f2 := (HC.out W' hW').2.1; have f3 := (HC.out W' hW').2.2; go_simp; all_goals rfl)
 simp only [Act.put, List.setIfInBounds_toArray, List.set_cons_zero, List.set_cons_succ]
 refine wpAnyH_take (i := 2) (oi := ?oi103) (v := ?v103) ?hi103 (by kernel_rfl) (by kernel_rfl) (by kernel_rfl) ?hQ103 (Or.inl ⟨?hw103, ?hy103⟩) (by assumption) ?rest103
 case hi103 => simp only [List.getElem?_toArray, List.getElem?_cons_succ, List.getElem?_cons_zero]; rfl
 case hQ103 => exact fun _ _ _ h => h
 case hw103 => rfl
 case hy103 => (intro W' hW'; have f1 := (HC.out W' hW').1; have f2 := (HC.out W' hW').2.1; have f3 := (HC.out W' hW').2.2; go_simp; all_goals rfl)
 simp only [Act.put, List.setIfInBounds_toArray, List.set_cons_zero, List.set_cons_succ]
 refine wpAnyH_take (i := 3) (oi := ?oi104) (v := ?v104) ?hi104 (by kernel_rfl) (by kernel_rfl) (by kernel_rfl) ?hQ104 (Or.inl ⟨?hw104, ?hy104⟩) (by assumption) ?rest104
 case hi104 => simp only [List.getElem?_toArray, List.getElem?_cons_succ, List.getElem?_cons_zero]; rfl
 case hQ104 => exact fun _ _ _ h => h
 case hw104 => rfl
 case hy104 => (intro W' hW'; have f1 := (HC.out W' hW').1; have f2 := (HC.out W' hW').2.1; have f3 := (HC.out W' hW').2.2; go_simp; all_goals rfl)
 simp only [Act.put, List.setIfInBounds_toArray, List.set_cons_zero, List.set_cons_succ]
 refine wpAnyH_take (i := 4) (oi := ?oi105) (v := ?v105) ?hi105 (by kernel_rfl) (by kernel_rfl) (by kernel_rfl) ?hQ105 (Or.inl ⟨?hw105, ?hy105⟩) (by assumption) ?rest105
 case hi105 => simp only [List.getElem?_toArray, List.getElem?_cons_succ, List.getElem?_cons_zero]; rfl
 case hQ105 => exact fun _ _ _ h => h
 case hw105 => rfl
 case hy105 => (intro W' hW'; have f1 := (HC.out W' hW').1; have f2 := (HC.out W' hW').2.1; have f3 := (HC.out W' hW').2.2; go_simp; all_goals rfl)
 simp only [Act.put, List.setIfInBounds_toArray, List.set_cons_zero, List.set_cons_succ]
 refine wpAnyH_take (i := 5) (oi := ?oi106) (v := ?v106) ?hi106 (by kernel_rfl) (by kernel_rfl) (by kernel_rfl) ?hQ106 (Or.inl ⟨?hw106, ?hy106⟩) (by assumption) ?rest106
 case hi106 => simp only [List.getElem?_toArray, List.getElem?_cons_succ, List.getElem?_cons_zero]; rfl
 case hQ106 => exact fun _ _ _ h => h
 case hw106 => rfl
 case hy106 => (intro W' hW'; have f1 := (HC.out W' hW').1; have f2 := (HC.out W' hW').2.1; have f3 := (HC.out W' hW').2.2; go_simp; all_goals rfl)
 simp only [Act.put, List.setIfInBounds_toArray, List.set_cons_zero, List.set_cons_succ]
 refine wpAnyH_take (i := 6) (oi := ?oi107) (v := ?v107) ?hi107 (by kernel_rfl) (by kernel_rfl) (by kernel_rfl) ?hQ107 (Or.inl ⟨?hw107, ?hy107⟩) (by assumption) ?rest107
 case hi107 => simp only [List.getElem?_toArray, List.getElem?_cons_succ, List.getElem?_cons_zero]; rfl
 case hQ107 => exact fun _ _ _ h => h
 case hw107 => rfl
 case hy107 => (intro W' hW'; have f1 := (HC.out W' hW').1; have f2 := (HC.out W' hW').2.1; have f3 := (HC.out W' hW').2.2; go_simp; all_goals rfl)
 simp only [Act.put, List.setIfInBounds_toArray, List.set_cons_zero, List.set_cons_succ]
 refine wpAnyH_take (i := 7) (oi := ?oi108) (v := ?v108) ?hi108 (by kernel_rfl) (by kernel_rfl) (by kernel_rfl) ?hQ108 (Or.inl ⟨?hw108, ?hy108⟩) (by assumption) ?rest108
 case hi108 => simp only [List.getElem?_toArray, List.getElem?_cons_succ, List.getElem?_cons_zero]; rfl
 case hQ108 => exact fun _ _ _ h => h
 case hw108 => rfl
 case hy108 => (intro W' hW'; have f1 := (HC.out W' hW').1; have f2 := (HC.out W' hW').2.1; have f3 := (HC.out W' hW').2.2; go_simp; all_goals rfl)
 simp only [Act.put, List.setIfInBounds_toArray, List.set_cons_zero, List.set_cons_succ]
 refine wpAnyH_take (i := 8) (oi := ?oiRa) (v := .agg #[(.slice (some ⟨gq, oq, none⟩) n cq), r1, .int .i64 fl, .int .i64 held]) ?hiRa (by kernel_rfl) (by kernel_rfl) (by kernel_rfl) ?hQRa ?hyRa (by assumption) ?restRa
 case hiRa => simp only [List.getElem?_toArray, List.getElem?_cons_succ, List.getElem?_cons_zero]; rfl
 case hQRa => exact fun _ _ _ h => h
 case hyRa => exact yieldsIf_load_mid rfl 63 (.tmp 23) rfl g1 3 rfl [(.slice (some ⟨gq, oq, none⟩) n cq), r1, .int .i64 fl, .int .i64 held] _ (fun W' hW' => HR4.out W' hW') Try.underlying63 rfl infoRead4
 try simp only [Act.put, List.setIfInBounds_toArray, List.set_cons_zero, List.set_cons_succ]
 refine wpAnyH_take (i := 9) (oi := ?oi109) (v := ?v109) ?hi109 (by kernel_rfl) (by kernel_rfl) (by kernel_rfl) ?hQ109 (Or.inl ⟨?hw109, ?hy109⟩) (by assumption) ?rest109
 case hi109 => simp only [List.getElem?_toArray, List.getElem?_cons_succ, List.getElem?_cons_zero]; rfl
 case hQ109 => exact fun _ _ _ h => h
 case hw109 => rfl
 case hy109 => (intro W' hW'; have f1 := (HC.out W' hW').1; have f2 := (HC.out W' hW').2.1; have f3 := (HC.out W' hW').2.2; go_simp; all_goals rfl)
 simp only [Act.put, List.setIfInBounds_toArray, List.set_cons_zero, List.set_cons_succ]
 refine wpAnyH_take (i := 10) (oi := ?oi110) (v := ?v110) ?hi110 (by kernel_rfl) (by kernel_rfl) (by kernel_rfl) ?hQ110 (Or.inl ⟨?hw110, ?hy110⟩) (by assumption) ?rest110
 case hi110 => simp only [List.getElem?_toArray, List.getElem?_cons_succ, List.getElem?_cons_zero]; rfl
 case hQ110 => exact fun _ _ _ h => h
 case hw110 => rfl
 case hy110 => (intro W' hW'; have f1 := (HC.out W' hW').1; have f2 := (HC.out W' hW').2.1; have f3 := (HC.out W' hW').2.2; go_simp; all_goals rfl)
 simp only [Act.put, List.setIfInBounds_toArray, List.set_cons_zero, List.set_cons_succ]
 refine wpAnyH_take (i := 11) (oi := ?oi111) (v := ?v111) ?hi111 (by kernel_rfl) (by kernel_rfl) (by kernel_rfl) ?hQ111 (Or.inl ⟨?hw111, ?hy111⟩) (by assumption) ?rest111
 case hi111 => simp only [List.getElem?_toArray, List.getElem?_cons_succ, List.getElem?_cons_zero]; rfl
 case hQ111 => exact fun _ _ _ h => h
 case hw111 => rfl
 case hy111 => (intro W' hW'; have f1 := (HC.out W' hW').1; have f2 := (HC.out W' hW').2.1; have f3 := (HC.out W' hW').2.2; go_simp; all_goals rfl)
 simp only [Act.put, List.setIfInBounds_toArray, List.set_cons_zero, List.set_cons_succ]
 refine wpAnyH_take (i := 12) (oi := ?oi112) (v := ?v112) ?hi112 (by kernel_rfl) (by kernel_rfl) (by kernel_rfl) ?hQ112 (Or.inl ⟨?hw112, ?hy112⟩) (by assumption) ?rest112
 case hi112 => simp only [List.getElem?_toArray, List.getElem?_cons_succ, List.getElem?_cons_zero]; rfl
 case hQ112 => exact fun _ _ _ h => h
 case hw112 => rfl
 case hy112 => (intro W' hW'; have f1 := (HC.out W' hW').1; have f2 := (HC.out W' hW').2.1; have f3 := (HC.out W' hW').2.2; go_simp; all_goals rfl)
 simp only [Act.put, List.setIfInBounds_toArray, List.set_cons_zero, List.set_cons_succ]
 refine wpAnyH_take (i := 13) (oi := ?oi113) (v := ?v113) ?hi113 (by kernel_rfl) (by kernel_rfl) (by kernel_rfl) ?hQ113 (Or.inl ⟨?hw113, ?hy113⟩) (by assumption) ?rest113
 case hi113 => simp only [List.getElem?_toArray, List.getElem?_cons_succ, List.getElem?_cons_zero]; rfl
 case hQ113 => exact fun _ _ _ h => h
 case hw113 => rfl
 case hy113 => (intro W' hW'; have f1 := (HC.out W' hW').1; have f2 := (HC.out W' hW').2.1; have f3 := (HC.out W' hW').2.2; go_simp; all_goals rfl)
 simp only [Act.put, List.setIfInBounds_toArray, List.set_cons_zero, List.set_cons_succ]
 refine wpAnyH_take (i := 14) (oi := ?oiRb) (v := .agg W.cells.toArray) ?hiRb (by kernel_rfl) (by kernel_rfl) (by kernel_rfl) ?hQRb ?hyRb (by assumption) ?restRb
 case hiRb => simp only [List.getElem?_toArray, List.getElem?_cons_succ, List.getElem?_cons_zero]; rfl
 case hQRb => exact fun _ _ _ h => h
 case hyRb => exact yieldsIf_load_mid rfl 28 (.tmp 29) rfl gq (oq + hd * 8) rfl W.cells _ (fun W' hW' => HRQ.out W' hW') Try.underlying28 rfl (by rw [infoRq8, HWC.out.1])
 try simp only [Act.put, List.setIfInBounds_toArray, List.set_cons_zero, List.set_cons_succ]
 refine wpAnyH_ready (rs := [15]) (by kernel_rfl) (by simp) ?_
 refine AllReadyH.cons (i := 15) (o := ?oS1) ?hoS1 (fun Kq hK => ?stepS1) AllReadyH.nil
 case hoS1 => simp only [List.getElem?_toArray, List.getElem?_cons_succ, List.getElem?_cons_zero]; rfl
 refine step_store rfl 65 (.tmp 2) (.tmp 25) rfl g2 #[.bool an, .slice As ns cs, .int .i64 ((hd + 1 : Nat) : Int), (.slice (some ⟨gq, oq, none⟩) n cq), r1, .int .i64 fl, .int .i64 held] rfl rfl 65 _ HB47.out.1 infoRdr7 rfl (one7 rfl rfl rfl rfl h1 rfl rfl) ?_
 intro w8 hs8 hg8
 have hF : Chg [g2, g3] w1 w8 := HW7.out.trans ((Chg.of_grown hg8).mono (by intro k hk _; simp at hk; simp [hk]))
 have HS8 : Hd (w8.heap[g2]? = some (.cells #[.bool an, .slice As ns cs, .int .i64 ((hd + 1 : Nat) : Int), (.slice (some ⟨gq, oq, none⟩) n cq), r1, .int .i64 fl, .int .i64 held] 65) ∧ w8.heap[g3]? = some (.cells #[.int .i64 0, .int .u64 0, .string emS, .string emS, .int .i64 0, .int .i64 0, .int .i64 0, .slice none 0 0] 28) ∧ Chg [g2, g3] w1 w8) := ⟨hs8, by rw [hg8.block g3 (Array.getElem?_eq_some_iff.1 HB47.out.2).1 (by have := HB.out; simp; omega)]; exact HB47.out.2, hF⟩
 refine hK.out _ _ hF (fun _ => ?_)
 clear hK Kq hs8 hg8 hF
 try simp only [Act.put, List.setIfInBounds_toArray, List.set_cons_zero, List.set_cons_succ]
 refine wpAnyH_ready (rs := [16]) (by kernel_rfl) (by simp) ?_
 refine AllReadyH.cons (i := 16) (o := ?oS2) ?hoS2 (fun Kq hK => ?stepS2) AllReadyH.nil
 case hoS2 => simp only [List.getElem?_toArray, List.getElem?_cons_succ, List.getElem?_cons_zero]; rfl
 refine step_store rfl 28 (.tmp 3) (.tmp 30) rfl g3 W.cells.toArray rfl rfl 28 _ HS8.out.2.1 (by rw [infoRq8]; simp [HWC.out.1]) (by simp [HWC.out.1]) HWC.out.2 ?_
 intro w9 hs9 hg9
 have hF : Chg [g2, g3] w1 w9 := HS8.out.2.2.trans ((Chg.of_grown hg9).mono (by intro k hk _; simp at hk; simp [hk]))
 have HS9 : Hd (w9.heap[g2]? = some (.cells #[.bool an, .slice As ns cs, .int .i64 ((hd + 1 : Nat) : Int), (.slice (some ⟨gq, oq, none⟩) n cq), r1, .int .i64 fl, .int .i64 held] 65) ∧ w9.heap[g3]? = some (.cells W.cells.toArray 28) ∧ Chg [g2, g3] w1 w9) := ⟨by rw [hg9.block g2 (Array.getElem?_eq_some_iff.1 HS8.out.1).1 (by have := HB.out; simp; omega)]; exact HS8.out.1, hs9, hF⟩
 refine hK.out _ _ hF (fun _ => ?_)
 clear hK Kq hs9 hg9 hF
 try simp only [Act.put, List.setIfInBounds_toArray, List.set_cons_zero, List.set_cons_succ]
 refine wpAnyH_take (i := 17) (oi := ?oi114) (v := ?v114) ?hi114 (by kernel_rfl) (by kernel_rfl) (by kernel_rfl) ?hQ114 (Or.inl ⟨?hw114, ?hy114⟩) (by assumption) ?rest114
 case hi114 => simp only [List.getElem?_toArray, List.getElem?_cons_succ, List.getElem?_cons_zero]; rfl
 case hQ114 => exact fun _ _ _ h => h
 case hw114 => rfl
 case hy114 => (intro W' hW'; go_simp; all_goals rfl)
 simp only [Act.put, List.setIfInBounds_toArray, List.set_cons_zero, List.set_cons_succ]
 refine wpAnyH_done (by kernel_rfl) ?_ _
 clear hHeld hwr
 go_wp2_with fail
 (try simp only [Exit.inBlock, Exit.then])
 refine bodyPost_ret (results_cell2_tmp rfl _ _ g2 g3 65 28 #[.bool an, .slice As ns cs, .int .i64 ((hd + 1 : Nat) : Int), (.slice (some ⟨gq, oq, none⟩) n cq), r1, .int .i64 fl, .int .i64 held] W.cells.toArray (0, 0) (0, 0) _ _ rfl HS9.out.1 rfl HS9.out.2.1 Try.underlying65 rfl infoRdr7 Try.underlying28 rfl (by rw [infoRq8]; simp [HWC.out.1])) rfl ?_
 exact ⟨rfl, HB.out.2.2.2.1.newer HS9.out.2.2 fun y hy => .inr (by have := HB.out; simp at hy; omega)⟩
set_option maxRecDepth 20000 in
set_option maxHeartbeats 8000000 in
theorem dans_none (w : World) (an : Bool) (vs : Value) (r0 : Value) (hd : Nat) (fl held : Int) (v0 : vs.oneCell' = true) (h0 : r0.oneCell' = true) (A : Option Addr) (n c : Nat) (hnh : n ≤ hd) :
  Calls Try.prog 73 #[.agg #[.bool an, vs, .int .i64 (hd : Int), r0, (.slice A n c), .int .i64 fl, .int .i64 held]] w fun e w' => e = .returned (.tuple #[.agg #[.bool an, vs, .int .i64 (hd : Int), r0, (.slice A n c), .int .i64 fl, .int .i64 held], .agg #[.int .i64 0, .int .u64 0, .int .i64 0, .slice none 0 0, .slice none 0 0, .slice none 0 0, .string emS, .bool false, .int .i64 0, .int .i64 0, .int .i64 0, .int .i64 0, .int .i64 0, .int .i64 0, .int .i64 0], .bool false]) ∧ Chg [] w w' := by
 obtain ⟨RL, hRC⟩ : ∃ R : List Value, [.bool an, vs, .int .i64 (hd : Int), r0, .slice A n c, .int .i64 fl, .int .i64 held] = R := ⟨_, rfl⟩
 have HRC : Hd (RL = [.bool an, vs, .int .i64 (hd : Int), r0, .slice A n c, .int .i64 fl, .int .i64 held] ∧ RL.length = 7 ∧ RL.toArray.all (·.oneCell') = true) := ⟨by rw [← hRC]; exact ⟨rfl, rfl, one7 rfl v0 rfl h0 rfl rfl rfl⟩⟩
 obtain ⟨g1, hg1⟩ : ∃ g, w.heap.size = g := ⟨_, rfl⟩
 obtain ⟨g2, hg2⟩ : ∃ g, g1 + 1 = g := ⟨_, rfl⟩
 obtain ⟨g3, hg3⟩ : ∃ g, g2 + 1 = g := ⟨_, rfl⟩
 obtain ⟨w1, hw1⟩ : ∃ U, ((w.alloc (.cells RL.toArray 65)).alloc (.cells #[.bool false, .slice none 0 0, .int .i64 0, .slice none 0 0, .slice none 0 0, .int .i64 0, .int .i64 0] 65)).alloc (.cells #[.int .i64 0, .int .u64 0, .int .i64 0, .slice none 0 0, .slice none 0 0, .slice none 0 0, .string emS, .bool false, .int .i64 0, .int .i64 0, .int .i64 0, .int .i64 0, .int .i64 0, .int .i64 0, .int .i64 0] 43) = U := ⟨_, rfl⟩
 have HB : Hd (w1.heap[g1]? = some (.cells RL.toArray 65) ∧ w1.heap[g2]? = some (.cells #[.bool false, .slice none 0 0, .int .i64 0, .slice none 0 0, .slice none 0 0, .int .i64 0, .int .i64 0] 65) ∧ w1.heap[g3]? = some (.cells #[.int .i64 0, .int .u64 0, .int .i64 0, .slice none 0 0, .slice none 0 0, .slice none 0 0, .string emS, .bool false, .int .i64 0, .int .i64 0, .int .i64 0, .int .i64 0, .int .i64 0, .int .i64 0, .int .i64 0] 43) ∧ Chg [] w w1 ∧ w1.heap.size = g3 + 1 ∧ g1 + 1 = g2 ∧ g2 + 1 = g3 ∧ w.heap.size = g1) := ⟨by
  refine ⟨?_, ?_, ?_, ?_, ?_, hg2, hg3, hg1⟩
  ·rw [← hw1, ← hg1, heap_alloc_old _ _ (by simp; omega), heap_alloc_old _ _ (by simp)]; exact heap_alloc_new w _
  ·rw [← hw1, ← hg2, ← hg1, heap_alloc_old _ _ (by simp)]; have := heap_alloc_new (w.alloc (.cells RL.toArray 65)) (.cells #[.bool false, .slice none 0 0, .int .i64 0, .slice none 0 0, .slice none 0 0, .int .i64 0, .int .i64 0] 65); simpa using this
  ·rw [← hw1, ← hg3, ← hg2, ← hg1]; have := heap_alloc_new ((w.alloc (.cells RL.toArray 65)).alloc (.cells #[.bool false, .slice none 0 0, .int .i64 0, .slice none 0 0, .slice none 0 0, .int .i64 0, .int .i64 0] 65)) (.cells #[.int .i64 0, .int .u64 0, .int .i64 0, .slice none 0 0, .slice none 0 0, .slice none 0 0, .string emS, .bool false, .int .i64 0, .int .i64 0, .int .i64 0, .int .i64 0, .int .i64 0, .int .i64 0, .int .i64 0] 43); simpa using this
  ·rw [← hw1]; exact (((Chg.refl [] w).alloc _).alloc _).alloc _
  ·rw [← hw1, ← hg3, ← hg2, ← hg1]; simp⟩
 rw [hRC]
 clear hRC
 go_enter Try.func73, Try.ntmps73
 go_upto_region 1 with fail
 have hz : (⟨#[]⟩ : ByteArray) = emS := rfl
 try rw [hz]
 try rw [hw1]
 try rw [hg1]
 try rw [hg2]
 try rw [hg3]
 clear hw1 hg1 hg2 hg3 hz
 have HWC : Hd (True) := ⟨trivial⟩
 have cl : w1.cell? ⟨g1, 4, none⟩ = some (.slice A n c) := by rw [cell_of_row w1 g1 4 _ _ (0, 0) HB.out.1, HRC.out.1]; rfl
 have ch : w1.cell? ⟨g1, 2, none⟩ = some (.int .i64 (hd : Int)) := by rw [cell_of_row w1 g1 2 _ _ (0, 0) HB.out.1, HRC.out.1]; rfl
 have hi : (n : Int) ≤ (hd : Int) := by omega
 go_upto_region 3 with fail
 clear cl ch hi
 have hb1 := HB.out.1
 have hb2 := HB.out.2.1
 go_wp2_with (first | (refine at_load (x := .tmp 1) ?_; refine wpList_load_row rfl 65 (.tmp 1) rfl g1 rfl 65 RL.toArray (0, 0) _ hb1 Try.underlying65 rfl (by rw [infoRdr7]; simp [HRC.out.2.1]) ?_) | (refine at_store (x := .tmp 2) ?_; refine wpList_stored rfl 65 (.tmp 2) (.tmp 14) rfl g2 RL.toArray rfl rfl 65 _ hb2 (by rw [infoRdr7]; simp [HRC.out.2.1]) (by simp [HRC.out.2.1]) HRC.out.2.2 ?_; intro w2 hB2) | (refine at_store (x := .tmp 3) ?_; refine wpList_stored rfl 43 (.tmp 3) (.tmp 15) rfl g3 #[.int .i64 0, .int .u64 0, .int .i64 0, .slice none 0 0, .slice none 0 0, .slice none 0 0, .string emS, .bool false, .int .i64 0, .int .i64 0, .int .i64 0, .int .i64 0, .int .i64 0, .int .i64 0, .int .i64 0] rfl rfl 43 _ ((hB2.out.2.1.block g3 (by have := HB.out; omega) (by have := HB.out; simp; omega)).trans HB.out.2.2.1) infoAn15 rfl (by simp [Value.oneCell']) ?_; intro w3 hB3))
 (try simp only [Exit.inBlock, Exit.then])
 refine bodyPost_ret (results_cell2_tmp rfl _ _ g2 g3 65 43 RL.toArray #[.int .i64 0, .int .u64 0, .int .i64 0, .slice none 0 0, .slice none 0 0, .slice none 0 0, .string emS, .bool false, .int .i64 0, .int .i64 0, .int .i64 0, .int .i64 0, .int .i64 0, .int .i64 0, .int .i64 0] (0, 0) (0, 0) _ _ rfl ((hB3.out.2.1.block g2 (by have := HB.out; have := hB2.out.2.2; omega) (by have := HB.out; simp; omega)).trans hB2.out.1) rfl hB3.out.1 Try.underlying65 rfl (by rw [infoRdr7]; simp [HRC.out.2.1]) Try.underlying43 rfl infoAn15) rfl ?_
 refine ⟨by rw [HRC.out.1]; rfl, ?_⟩
 exact ((HB.out.2.2.2.1.newer (Chg.of_grown hB2.out.2.1) fun y hy => .inr (by have := HB.out; simp at hy; omega)).newer (Chg.of_grown hB3.out.2.1) fun y hy => .inr (by have := HB.out; simp at hy; omega))
set_option maxRecDepth 20000 in
set_option maxHeartbeats 8000000 in
theorem dans_some (w : World) (an : Bool) (As : Option Addr) (ns cs : Nat) (r0 : Value) (hd : Nat) (fl held : Int) (h0 : r0.oneCell' = true) (base : Nat) (vq : Value) (ws : List Wm) (W : Wm) (hq : Que w base 43 15 vq ws) (hW : ws[hd]? = some W) (hwl : ws.length ≤ 67108864) :
  Calls Try.prog 73 #[.agg #[.bool an, .slice As ns cs, .int .i64 (hd : Int), r0, vq, .int .i64 fl, .int .i64 held]] w fun e w' => e = .returned (.tuple #[.agg #[.bool an, .slice As ns cs, .int .i64 ((hd + 1 : Nat) : Int), r0, vq, .int .i64 fl, .int .i64 held], .agg W.cells.toArray, .bool true]) ∧ Chg [] w w' := by
 have hcl := hq.1 W (List.mem_of_getElem? hW)
 have hlt := (List.getElem?_eq_some_iff.1 hW).1
 obtain ⟨RL, hRC⟩ : ∃ R : List Value, [.bool an, .slice As ns cs, .int .i64 (hd : Int), r0, vq, .int .i64 fl, .int .i64 held] = R := ⟨_, rfl⟩
 have HRC : Hd (RL = [.bool an, .slice As ns cs, .int .i64 (hd : Int), r0, vq, .int .i64 fl, .int .i64 held] ∧ RL.length = 7 ∧ RL.toArray.all (·.oneCell') = true) := ⟨by rw [← hRC]; exact ⟨rfl, rfl, one7 rfl rfl rfl h0 (que_one hq) rfl rfl⟩⟩
 obtain ⟨g1, hg1⟩ : ∃ g, w.heap.size = g := ⟨_, rfl⟩
 obtain ⟨g2, hg2⟩ : ∃ g, g1 + 1 = g := ⟨_, rfl⟩
 obtain ⟨g3, hg3⟩ : ∃ g, g2 + 1 = g := ⟨_, rfl⟩
 obtain ⟨w1, hw1⟩ : ∃ U, ((w.alloc (.cells RL.toArray 65)).alloc (.cells #[.bool false, .slice none 0 0, .int .i64 0, .slice none 0 0, .slice none 0 0, .int .i64 0, .int .i64 0] 65)).alloc (.cells #[.int .i64 0, .int .u64 0, .int .i64 0, .slice none 0 0, .slice none 0 0, .slice none 0 0, .string emS, .bool false, .int .i64 0, .int .i64 0, .int .i64 0, .int .i64 0, .int .i64 0, .int .i64 0, .int .i64 0] 43) = U := ⟨_, rfl⟩
 have HB : Hd (w1.heap[g1]? = some (.cells RL.toArray 65) ∧ w1.heap[g2]? = some (.cells #[.bool false, .slice none 0 0, .int .i64 0, .slice none 0 0, .slice none 0 0, .int .i64 0, .int .i64 0] 65) ∧ w1.heap[g3]? = some (.cells #[.int .i64 0, .int .u64 0, .int .i64 0, .slice none 0 0, .slice none 0 0, .slice none 0 0, .string emS, .bool false, .int .i64 0, .int .i64 0, .int .i64 0, .int .i64 0, .int .i64 0, .int .i64 0, .int .i64 0] 43) ∧ Chg [] w w1 ∧ w1.heap.size = g3 + 1 ∧ g1 + 1 = g2 ∧ g2 + 1 = g3 ∧ w.heap.size = g1) := ⟨by
  refine ⟨?_, ?_, ?_, ?_, ?_, hg2, hg3, hg1⟩
  ·rw [← hw1, ← hg1, heap_alloc_old _ _ (by simp; omega), heap_alloc_old _ _ (by simp)]; exact heap_alloc_new w _
  ·rw [← hw1, ← hg2, ← hg1, heap_alloc_old _ _ (by simp)]; have := heap_alloc_new (w.alloc (.cells RL.toArray 65)) (.cells #[.bool false, .slice none 0 0, .int .i64 0, .slice none 0 0, .slice none 0 0, .int .i64 0, .int .i64 0] 65); simpa using this
  ·rw [← hw1, ← hg3, ← hg2, ← hg1]; have := heap_alloc_new ((w.alloc (.cells RL.toArray 65)).alloc (.cells #[.bool false, .slice none 0 0, .int .i64 0, .slice none 0 0, .slice none 0 0, .int .i64 0, .int .i64 0] 65)) (.cells #[.int .i64 0, .int .u64 0, .int .i64 0, .slice none 0 0, .slice none 0 0, .slice none 0 0, .string emS, .bool false, .int .i64 0, .int .i64 0, .int .i64 0, .int .i64 0, .int .i64 0, .int .i64 0, .int .i64 0] 43); simpa using this
  ·rw [← hw1]; exact (((Chg.refl [] w).alloc _).alloc _).alloc _
  ·rw [← hw1, ← hg3, ← hg2, ← hg1]; simp⟩
 rw [hRC]
 clear hRC
 go_enter Try.func73, Try.ntmps73
 go_upto_region 1 with fail
 have hz : (⟨#[]⟩ : ByteArray) = emS := rfl
 try rw [hz]
 try rw [hw1]
 try rw [hg1]
 try rw [hg2]
 try rw [hg3]
 clear hw1 hg1 hg2 hg3 hz
 have HWC : Hd (W.cells.length = 15 ∧ W.cells.toArray.all (·.oneCell') = true) := ⟨hcl.1, all_oneCell_toArray hcl.2⟩
 obtain ⟨gq, oq, cq, hvq, _, hgq, hrg⟩ := que_nth hq hW
 obtain ⟨n, hn⟩ : ∃ q, ws.length = q := ⟨_, rfl⟩
 rw [hn] at hvq hlt hwl
 subst hvq
 have HRQ : Hd (∀ W', Chg [g2, g3] w1 W' → W'.rangeAt gq (oq + hd * 15) W.cells) := ⟨fun W' b j v hj => by
  have h1 := hrg j v hj
  rw [b.cell (p := ⟨gq, oq + hd * 15 + j, none⟩) (by have := HB.out; show gq < _; omega) (by have := HB.out; show gq ∉ _; simp; omega), HB.out.2.2.2.1.cell (p := ⟨gq, oq + hd * 15 + j, none⟩) hgq List.not_mem_nil]
  exact h1⟩
 clear hrg hgq hcl hq hn
 have cl : w1.cell? ⟨g1, 4, none⟩ = some (.slice (some ⟨gq, oq, none⟩) n cq) := by rw [cell_of_row w1 g1 4 _ _ (0, 0) HB.out.1, HRC.out.1]; rfl
 have ch : w1.cell? ⟨g1, 2, none⟩ = some (.int .i64 (hd : Int)) := by rw [cell_of_row w1 g1 2 _ _ (0, 0) HB.out.1, HRC.out.1]; rfl
 have hi : ¬ (n : Int) ≤ (hd : Int) := by omega
 go_upto_region 4 with fail
 clear cl ch hi
 have hi2 : (hd : Int) < (n : Int) := by omega
 have hwr : IntKind.i64.wrap ((hd : Int) + 1) = ((hd + 1 : Nat) : Int) := by rw [IntKind.wrap_i64]; omega
 have HRG : Hd (∀ W', Chg [g2, g3] w1 W' → W'.heap[g1]? = some (.cells RL.toArray 65)) := ⟨fun W' b => (b.block g1 (by have := HB.out; omega) (by have := HB.out; simp; omega)).trans HB.out.1⟩
 have HC : Hd (∀ W', Chg [g2, g3] w1 W' → W'.cell? ⟨g1, 0, none⟩ = some (.bool an) ∧ W'.cell? ⟨g1, 1, none⟩ = some (.slice As ns cs) ∧ W'.cell? ⟨g1, 2, none⟩ = some (.int .i64 (hd : Int))) := ⟨fun W' b => by
  have h := HRG.out W' b
  exact ⟨by rw [cell_of_row W' g1 0 _ _ (0, 0) h, HRC.out.1]; rfl, by rw [cell_of_row W' g1 1 _ _ (0, 0) h, HRC.out.1]; rfl, by rw [cell_of_row W' g1 2 _ _ (0, 0) h, HRC.out.1]; rfl⟩⟩
 have HR4 : Hd (∀ W', Chg [g2, g3] w1 W' → W'.rangeAt g1 3 [r0, .slice (some ⟨gq, oq, none⟩) n cq, .int .i64 fl, .int .i64 held]) := ⟨fun W' b j v hj => by
  have h := HRG.out W' b
  rw [cell_of_row W' g1 (3 + j) _ _ (0, 0) h, HRC.out.1]
  simp only [List.getElem?_toArray]
  rw [Nat.add_comm]; exact hj⟩
 refine wp_region_held_drew (S := fun W' => Chg [g2, g3] w1 W') (by kernel_rfl) (Chg.refl [g2, g3] w1).drew (fun hHeld => ?_)
 have HB47 : Hd (w1.drew.heap[g2]? = some (.cells #[.bool false, .slice none 0 0, .int .i64 0, .slice none 0 0, .slice none 0 0, .int .i64 0, .int .i64 0] 65) ∧ w1.drew.heap[g3]? = some (.cells #[.int .i64 0, .int .u64 0, .int .i64 0, .slice none 0 0, .slice none 0 0, .slice none 0 0, .string emS, .bool false, .int .i64 0, .int .i64 0, .int .i64 0, .int .i64 0, .int .i64 0, .int .i64 0, .int .i64 0] 43)) := ⟨HB.out.2.1, HB.out.2.2.1⟩
 obtain ⟨w7, hw7⟩ : ∃ U, w1.drew = U := ⟨_, rfl⟩
 rw [hw7] at HB47 hHeld ⊢
 have HW7 := Hd.mk hHeld
 clear hw7
 refine wpAnyH_take (i := 0) (oi := ?oi201) (v := ?v201) ?hi201 (by kernel_rfl) (by kernel_rfl) (by kernel_rfl) ?hQ201 (Or.inl ⟨?hw201, ?hy201⟩) (by assumption) ?rest201
 case hi201 => simp only [List.getElem?_toArray, List.getElem?_cons_succ, List.getElem?_cons_zero]; rfl
 case hQ201 => exact fun _ _ _ h => h
 case hw201 => rfl
 case hy201 => (intro W' hW'; have f1 := (HC.out W' hW').1; have f2 := (HC.out W' hW').2.1; have f3 := (HC.out W' hW').2.2; go_simp; all_goals rfl)
 simp only [Act.put, List.setIfInBounds_toArray, List.set_cons_zero, List.set_cons_succ]
 refine wpAnyH_take (i := 1) (oi := ?oi202) (v := ?v202) ?hi202 (by kernel_rfl) (by kernel_rfl) (by kernel_rfl) ?hQ202 (Or.inl ⟨?hw202, ?hy202⟩) (by assumption) ?rest202
 case hi202 => simp only [List.getElem?_toArray, List.getElem?_cons_succ, List.getElem?_cons_zero]; rfl
 case hQ202 => exact fun _ _ _ h => h
 case hw202 => rfl
 case hy202 => (intro W' hW'; have f1 := (HC.out W' hW').1; have f2 := (HC.out W' hW').2.1; have f3 := (HC.out W' hW').2.2; go_simp; all_goals rfl)
 simp only [Act.put, List.setIfInBounds_toArray, List.set_cons_zero, List.set_cons_succ]
 refine wpAnyH_take (i := 2) (oi := ?oi203) (v := ?v203) ?hi203 (by kernel_rfl) (by kernel_rfl) (by kernel_rfl) ?hQ203 (Or.inl ⟨?hw203, ?hy203⟩) (by assumption) ?rest203
 case hi203 => simp only [List.getElem?_toArray, List.getElem?_cons_succ, List.getElem?_cons_zero]; rfl
 case hQ203 => exact fun _ _ _ h => h
 case hw203 => rfl
 case hy203 => (intro W' hW'; have f1 := (HC.out W' hW').1; have f2 := (HC.out W' hW').2.1; have f3 := (HC.out W' hW').2.2; go_simp; all_goals rfl)
 simp only [Act.put, List.setIfInBounds_toArray, List.set_cons_zero, List.set_cons_succ]
 refine wpAnyH_take (i := 3) (oi := ?oi204) (v := ?v204) ?hi204 (by kernel_rfl) (by kernel_rfl) (by kernel_rfl) ?hQ204 (Or.inl ⟨?hw204, ?hy204⟩) (by assumption) ?rest204
 case hi204 => simp only [List.getElem?_toArray, List.getElem?_cons_succ, List.getElem?_cons_zero]; rfl
 case hQ204 => exact fun _ _ _ h => h
 case hw204 => rfl
 case hy204 => (intro W' hW'; have f1 := (HC.out W' hW').1; have f2 := (HC.out W' hW').2.1; have f3 := (HC.out W' hW').2.2; go_simp; all_goals rfl)
 simp only [Act.put, List.setIfInBounds_toArray, List.set_cons_zero, List.set_cons_succ]
 refine wpAnyH_take (i := 4) (oi := ?oi205) (v := ?v205) ?hi205 (by kernel_rfl) (by kernel_rfl) (by kernel_rfl) ?hQ205 (Or.inl ⟨?hw205, ?hy205⟩) (by assumption) ?rest205
 case hi205 => simp only [List.getElem?_toArray, List.getElem?_cons_succ, List.getElem?_cons_zero]; rfl
 case hQ205 => exact fun _ _ _ h => h
 case hw205 => rfl
 case hy205 => (intro W' hW'; have f1 := (HC.out W' hW').1; have f2 := (HC.out W' hW').2.1; have f3 := (HC.out W' hW').2.2; go_simp; all_goals rfl)
 simp only [Act.put, List.setIfInBounds_toArray, List.set_cons_zero, List.set_cons_succ]
 refine wpAnyH_take (i := 5) (oi := ?oi206) (v := ?v206) ?hi206 (by kernel_rfl) (by kernel_rfl) (by kernel_rfl) ?hQ206 (Or.inl ⟨?hw206, ?hy206⟩) (by assumption) ?rest206
 case hi206 => simp only [List.getElem?_toArray, List.getElem?_cons_succ, List.getElem?_cons_zero]; rfl
 case hQ206 => exact fun _ _ _ h => h
 case hw206 => rfl
 case hy206 => (intro W' hW'; have f1 := (HC.out W' hW').1; have f2 := (HC.out W' hW').2.1; have f3 := (HC.out W' hW').2.2; go_simp; all_goals rfl)
 simp only [Act.put, List.setIfInBounds_toArray, List.set_cons_zero, List.set_cons_succ]
 refine wpAnyH_take (i := 6) (oi := ?oi207) (v := ?v207) ?hi207 (by kernel_rfl) (by kernel_rfl) (by kernel_rfl) ?hQ207 (Or.inl ⟨?hw207, ?hy207⟩) (by assumption) ?rest207
 case hi207 => simp only [List.getElem?_toArray, List.getElem?_cons_succ, List.getElem?_cons_zero]; rfl
 case hQ207 => exact fun _ _ _ h => h
 case hw207 => rfl
 case hy207 => (intro W' hW'; have f1 := (HC.out W' hW').1; have f2 := (HC.out W' hW').2.1; have f3 := (HC.out W' hW').2.2; go_simp; all_goals rfl)
 simp only [Act.put, List.setIfInBounds_toArray, List.set_cons_zero, List.set_cons_succ]
 refine wpAnyH_take (i := 7) (oi := ?oi208) (v := ?v208) ?hi208 (by kernel_rfl) (by kernel_rfl) (by kernel_rfl) ?hQ208 (Or.inl ⟨?hw208, ?hy208⟩) (by assumption) ?rest208
 case hi208 => simp only [List.getElem?_toArray, List.getElem?_cons_succ, List.getElem?_cons_zero]; rfl
 case hQ208 => exact fun _ _ _ h => h
 case hw208 => rfl
 case hy208 => (intro W' hW'; have f1 := (HC.out W' hW').1; have f2 := (HC.out W' hW').2.1; have f3 := (HC.out W' hW').2.2; go_simp; all_goals rfl)
 simp only [Act.put, List.setIfInBounds_toArray, List.set_cons_zero, List.set_cons_succ]
 refine wpAnyH_take (i := 8) (oi := ?oiRa) (v := .agg #[r0, (.slice (some ⟨gq, oq, none⟩) n cq), .int .i64 fl, .int .i64 held]) ?hiRa (by kernel_rfl) (by kernel_rfl) (by kernel_rfl) ?hQRa ?hyRa (by assumption) ?restRa
 case hiRa => simp only [List.getElem?_toArray, List.getElem?_cons_succ, List.getElem?_cons_zero]; rfl
 case hQRa => exact fun _ _ _ h => h
 case hyRa => exact yieldsIf_load_mid rfl 63 (.tmp 23) rfl g1 3 rfl [r0, (.slice (some ⟨gq, oq, none⟩) n cq), .int .i64 fl, .int .i64 held] _ (fun W' hW' => HR4.out W' hW') Try.underlying63 rfl infoRead4
 try simp only [Act.put, List.setIfInBounds_toArray, List.set_cons_zero, List.set_cons_succ]
 refine wpAnyH_take (i := 9) (oi := ?oi209) (v := ?v209) ?hi209 (by kernel_rfl) (by kernel_rfl) (by kernel_rfl) ?hQ209 (Or.inl ⟨?hw209, ?hy209⟩) (by assumption) ?rest209
 case hi209 => simp only [List.getElem?_toArray, List.getElem?_cons_succ, List.getElem?_cons_zero]; rfl
 case hQ209 => exact fun _ _ _ h => h
 case hw209 => rfl
 case hy209 => (intro W' hW'; have f1 := (HC.out W' hW').1; have f2 := (HC.out W' hW').2.1; have f3 := (HC.out W' hW').2.2; go_simp; all_goals rfl)
 simp only [Act.put, List.setIfInBounds_toArray, List.set_cons_zero, List.set_cons_succ]
 refine wpAnyH_take (i := 10) (oi := ?oi210) (v := ?v210) ?hi210 (by kernel_rfl) (by kernel_rfl) (by kernel_rfl) ?hQ210 (Or.inl ⟨?hw210, ?hy210⟩) (by assumption) ?rest210
 case hi210 => simp only [List.getElem?_toArray, List.getElem?_cons_succ, List.getElem?_cons_zero]; rfl
 case hQ210 => exact fun _ _ _ h => h
 case hw210 => rfl
 case hy210 => (intro W' hW'; have f1 := (HC.out W' hW').1; have f2 := (HC.out W' hW').2.1; have f3 := (HC.out W' hW').2.2; go_simp; all_goals rfl)
 simp only [Act.put, List.setIfInBounds_toArray, List.set_cons_zero, List.set_cons_succ]
 refine wpAnyH_take (i := 11) (oi := ?oi211) (v := ?v211) ?hi211 (by kernel_rfl) (by kernel_rfl) (by kernel_rfl) ?hQ211 (Or.inl ⟨?hw211, ?hy211⟩) (by assumption) ?rest211
 case hi211 => simp only [List.getElem?_toArray, List.getElem?_cons_succ, List.getElem?_cons_zero]; rfl
 case hQ211 => exact fun _ _ _ h => h
 case hw211 => rfl
 case hy211 => (intro W' hW'; have f1 := (HC.out W' hW').1; have f2 := (HC.out W' hW').2.1; have f3 := (HC.out W' hW').2.2; go_simp; all_goals rfl)
 simp only [Act.put, List.setIfInBounds_toArray, List.set_cons_zero, List.set_cons_succ]
 refine wpAnyH_take (i := 12) (oi := ?oi212) (v := ?v212) ?hi212 (by kernel_rfl) (by kernel_rfl) (by kernel_rfl) ?hQ212 (Or.inl ⟨?hw212, ?hy212⟩) (by assumption) ?rest212
 case hi212 => simp only [List.getElem?_toArray, List.getElem?_cons_succ, List.getElem?_cons_zero]; rfl
 case hQ212 => exact fun _ _ _ h => h
 case hw212 => rfl
 case hy212 => (intro W' hW'; have f1 := (HC.out W' hW').1; have f2 := (HC.out W' hW').2.1; have f3 := (HC.out W' hW').2.2; go_simp; all_goals rfl)
 simp only [Act.put, List.setIfInBounds_toArray, List.set_cons_zero, List.set_cons_succ]
 refine wpAnyH_take (i := 13) (oi := ?oi213) (v := ?v213) ?hi213 (by kernel_rfl) (by kernel_rfl) (by kernel_rfl) ?hQ213 (Or.inl ⟨?hw213, ?hy213⟩) (by assumption) ?rest213
 case hi213 => simp only [List.getElem?_toArray, List.getElem?_cons_succ, List.getElem?_cons_zero]; rfl
 case hQ213 => exact fun _ _ _ h => h
 case hw213 => rfl
 case hy213 => (intro W' hW'; have f1 := (HC.out W' hW').1; have f2 := (HC.out W' hW').2.1; have f3 := (HC.out W' hW').2.2; go_simp; all_goals rfl)
 simp only [Act.put, List.setIfInBounds_toArray, List.set_cons_zero, List.set_cons_succ]
 refine wpAnyH_take (i := 14) (oi := ?oiRb) (v := .agg W.cells.toArray) ?hiRb (by kernel_rfl) (by kernel_rfl) (by kernel_rfl) ?hQRb ?hyRb (by assumption) ?restRb
 case hiRb => simp only [List.getElem?_toArray, List.getElem?_cons_succ, List.getElem?_cons_zero]; rfl
 case hQRb => exact fun _ _ _ h => h
 case hyRb => exact yieldsIf_load_mid rfl 43 (.tmp 29) rfl gq (oq + hd * 15) rfl W.cells _ (fun W' hW' => HRQ.out W' hW') Try.underlying43 rfl (by rw [infoAn15, HWC.out.1])
 try simp only [Act.put, List.setIfInBounds_toArray, List.set_cons_zero, List.set_cons_succ]
 refine wpAnyH_ready (rs := [15]) (by kernel_rfl) (by simp) ?_
 refine AllReadyH.cons (i := 15) (o := ?oS1) ?hoS1 (fun Kq hK => ?stepS1) AllReadyH.nil
 case hoS1 => simp only [List.getElem?_toArray, List.getElem?_cons_succ, List.getElem?_cons_zero]; rfl
 refine step_store rfl 65 (.tmp 2) (.tmp 25) rfl g2 #[.bool an, .slice As ns cs, .int .i64 ((hd + 1 : Nat) : Int), r0, (.slice (some ⟨gq, oq, none⟩) n cq), .int .i64 fl, .int .i64 held] rfl rfl 65 _ HB47.out.1 infoRdr7 rfl (one7 rfl rfl rfl h0 rfl rfl rfl) ?_
 intro w8 hs8 hg8
 have hF : Chg [g2, g3] w1 w8 := HW7.out.trans ((Chg.of_grown hg8).mono (by intro k hk _; simp at hk; simp [hk]))
 have HS8 : Hd (w8.heap[g2]? = some (.cells #[.bool an, .slice As ns cs, .int .i64 ((hd + 1 : Nat) : Int), r0, (.slice (some ⟨gq, oq, none⟩) n cq), .int .i64 fl, .int .i64 held] 65) ∧ w8.heap[g3]? = some (.cells #[.int .i64 0, .int .u64 0, .int .i64 0, .slice none 0 0, .slice none 0 0, .slice none 0 0, .string emS, .bool false, .int .i64 0, .int .i64 0, .int .i64 0, .int .i64 0, .int .i64 0, .int .i64 0, .int .i64 0] 43) ∧ Chg [g2, g3] w1 w8) := ⟨hs8, by rw [hg8.block g3 (Array.getElem?_eq_some_iff.1 HB47.out.2).1 (by have := HB.out; simp; omega)]; exact HB47.out.2, hF⟩
 refine hK.out _ _ hF (fun _ => ?_)
 clear hK Kq hs8 hg8 hF
 try simp only [Act.put, List.setIfInBounds_toArray, List.set_cons_zero, List.set_cons_succ]
 refine wpAnyH_ready (rs := [16]) (by kernel_rfl) (by simp) ?_
 refine AllReadyH.cons (i := 16) (o := ?oS2) ?hoS2 (fun Kq hK => ?stepS2) AllReadyH.nil
 case hoS2 => simp only [List.getElem?_toArray, List.getElem?_cons_succ, List.getElem?_cons_zero]; rfl
 refine step_store rfl 43 (.tmp 3) (.tmp 30) rfl g3 W.cells.toArray rfl rfl 43 _ HS8.out.2.1 (by rw [infoAn15]; simp [HWC.out.1]) (by simp [HWC.out.1]) HWC.out.2 ?_
 intro w9 hs9 hg9
 have hF : Chg [g2, g3] w1 w9 := HS8.out.2.2.trans ((Chg.of_grown hg9).mono (by intro k hk _; simp at hk; simp [hk]))
 have HS9 : Hd (w9.heap[g2]? = some (.cells #[.bool an, .slice As ns cs, .int .i64 ((hd + 1 : Nat) : Int), r0, (.slice (some ⟨gq, oq, none⟩) n cq), .int .i64 fl, .int .i64 held] 65) ∧ w9.heap[g3]? = some (.cells W.cells.toArray 43) ∧ Chg [g2, g3] w1 w9) := ⟨by rw [hg9.block g2 (Array.getElem?_eq_some_iff.1 HS8.out.1).1 (by have := HB.out; simp; omega)]; exact HS8.out.1, hs9, hF⟩
 refine hK.out _ _ hF (fun _ => ?_)
 clear hK Kq hs9 hg9 hF
 try simp only [Act.put, List.setIfInBounds_toArray, List.set_cons_zero, List.set_cons_succ]
 refine wpAnyH_take (i := 17) (oi := ?oi214) (v := ?v214) ?hi214 (by kernel_rfl) (by kernel_rfl) (by kernel_rfl) ?hQ214 (Or.inl ⟨?hw214, ?hy214⟩) (by assumption) ?rest214
 case hi214 => simp only [List.getElem?_toArray, List.getElem?_cons_succ, List.getElem?_cons_zero]; rfl
 case hQ214 => exact fun _ _ _ h => h
 case hw214 => rfl
 case hy214 => (intro W' hW'; go_simp; all_goals rfl)
 simp only [Act.put, List.setIfInBounds_toArray, List.set_cons_zero, List.set_cons_succ]
 refine wpAnyH_done (by kernel_rfl) ?_ _
 clear hHeld hwr
 go_wp2_with fail
 (try simp only [Exit.inBlock, Exit.then])
 refine bodyPost_ret (results_cell2_tmp rfl _ _ g2 g3 65 43 #[.bool an, .slice As ns cs, .int .i64 ((hd + 1 : Nat) : Int), r0, (.slice (some ⟨gq, oq, none⟩) n cq), .int .i64 fl, .int .i64 held] W.cells.toArray (0, 0) (0, 0) _ _ rfl HS9.out.1 rfl HS9.out.2.1 Try.underlying65 rfl infoRdr7 Try.underlying43 rfl (by rw [infoAn15]; simp [HWC.out.1])) rfl ?_
 exact ⟨rfl, HB.out.2.2.2.1.newer HS9.out.2.2 fun y hy => .inr (by have := HB.out; simp at hy; omega)⟩
end Go.Proofs.Ytbcmjjcbjojakaa
