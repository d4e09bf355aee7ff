/- Contracts of nothing: Request, Answer. (tools/nothgen.py prints it.) -/
import Derived.Test.YtbcmjjcbjojakaaPk16
namespace Go.Proofs.Ytbcmjjcbjojakaa
open Go.RowKit
set_option linter.unusedVariables false
set_option linter.unusedSimpArgs false
set_option maxRecDepth 20000 in
set_option maxHeartbeats 4000000 in
theorem nothing_req (w : World) (who : Int) (A : Option Addr) (n c : Nat) :
  Calls Try.prog 27 #[.pointer none, .agg #[.int .i64 who, .int .i64 1, .slice A n c]] w fun e w' => e = .returned (.bool true) ∧ Below w.heap.size w w' := by
 obtain ⟨g3, hg3⟩ : ∃ q, w.heap.size = q := ⟨_, rfl⟩
 obtain ⟨w1, hw1⟩ : ∃ U, w.alloc (.cells #[.int .i64 who, .int .i64 1, .slice A n c] 68) = U := ⟨_, rfl⟩
 have HB : Hd (w1.heap[g3]? = some (.cells #[.int .i64 who, .int .i64 1, .slice A n c] 68) ∧ Below w.heap.size w w1 ∧ w.heap.size = g3) := ⟨by rw [← hw1, ← hg3]; exact heap_alloc_new w _, by rw [← hw1]; exact (Below.refl _ w).alloc (Nat.le_refl _) _, hg3⟩
 go_enter Try.func27, Try.ntmps27
 go_upto_region 1 with fail
 try rw [hw1]
 try rw [hg3]
 clear hw1 hg3
 have c1 : w1.cell? ⟨g3, 1, none⟩ = some (.int .i64 1) := by rw [cell_of_row w1 g3 1 _ _ (0, 0) HB.out.1]; rfl
 have c2 : w1.cell? ⟨g3, 2, none⟩ = some (.slice A n c) := by rw [cell_of_row w1 g3 2 _ _ (0, 0) HB.out.1]; rfl
 go_wp2_with fail
 refine (nil_ask w1).mono ?_
 rintro e w2 ⟨rfl, hb⟩
 have HC := Hd.mk hb
 clear hb
 go_upto_region 6 with (refine at_store (x := .tmp 5) ?_; refine wpList_boxed rfl 28 (.tmp 5) (.tmp 24) rfl w2.heap.size rfl rq0 rfl rfl infoRq8 rfl (by simp [rq0, Value.oneCell']) ?_; intro w3 hB3)
 obtain ⟨gb, hgb⟩ : ∃ q, w2.heap.size = q := ⟨_, rfl⟩
 rw [hgb] at hB3 ⊢
 have d0 : w3.cell? ⟨gb, 0, none⟩ = some (.int .i64 0) := by rw [cell_of_row w3 gb 0 _ _ (0, 0) hB3.out.1]; rfl
 have d1 : w3.cell? ⟨gb, 1, none⟩ = some (.int .u64 0) := by rw [cell_of_row w3 gb 1 _ _ (0, 0) hB3.out.1]; rfl
 have d2 : w3.cell? ⟨gb, 2, none⟩ = some (.string emS) := by rw [cell_of_row w3 gb 2 _ _ (0, 0) hB3.out.1]; rfl
 have d3 : w3.cell? ⟨gb, 3, none⟩ = some (.string emS) := by rw [cell_of_row w3 gb 3 _ _ (0, 0) hB3.out.1]; rfl
 have d4 : w3.cell? ⟨gb, 4, none⟩ = some (.int .i64 0) := by rw [cell_of_row w3 gb 4 _ _ (0, 0) hB3.out.1]; rfl
 have d5 : w3.cell? ⟨gb, 5, none⟩ = some (.int .i64 0) := by rw [cell_of_row w3 gb 5 _ _ (0, 0) hB3.out.1]; rfl
 have d6 : w3.cell? ⟨gb, 6, none⟩ = some (.int .i64 0) := by rw [cell_of_row w3 gb 6 _ _ (0, 0) hB3.out.1]; rfl
 have d7 : w3.cell? ⟨gb, 7, none⟩ = some (.slice none 0 0) := by rw [cell_of_row w3 gb 7 _ _ (0, 0) hB3.out.1]; rfl
 have HGB := Hd.mk hgb
 clear hgb
 go_wp2_with fail
 refine (sameRq_any w3 w3.heap.size ⟨0, 0, emS, emS, 0, 0, 0, []⟩ ⟨0, 0, emS, emS, 0, 0, 0, []⟩ 0 0 0 0 emS emS emS emS 0 0 0 0 0 0 [] [] rfl rfl none none 0 0 0 0 Rd.nil Rd.nil (Nat.le_refl _) (fun _ h => absurd h List.not_mem_nil) (fun _ h => absurd h List.not_mem_nil)).mono ?_
 rw [sameB_selfR]
 rintro e w4 ⟨rfl, hb4⟩
 have H4 := Hd.mk hb4
 clear hb4 d0 d1 d2 d3 d4 d5 d6 d7
 go_wp2_with fail
 go_ret
 exact ⟨rfl, ((HB.out.2.1.trans (HC.out.mono HB.out.2.1.size)).trans (hB3.out.2.1.mono (by have := HGB.out; have := HC.out.size; have := HB.out.2.1.size; omega))).trans (H4.out.mono (by have := HGB.out; have := HC.out.size; have := HB.out.2.1.size; have := hB3.out.2.2; omega))⟩
set_option maxRecDepth 20000 in
set_option maxHeartbeats 4000000 in
theorem nothing_ans (w : World) (who : Int) (A : Option Addr) (n c : Nat) :
  Calls Try.prog 27 #[.pointer none, .agg #[.int .i64 who, .int .i64 2, .slice A n c]] w fun e w' => e = .returned (.bool true) ∧ Below w.heap.size w w' := by
 obtain ⟨g3, hg3⟩ : ∃ q, w.heap.size = q := ⟨_, rfl⟩
 obtain ⟨w1, hw1⟩ : ∃ U, w.alloc (.cells #[.int .i64 who, .int .i64 2, .slice A n c] 68) = U := ⟨_, rfl⟩
 have HB : Hd (w1.heap[g3]? = some (.cells #[.int .i64 who, .int .i64 2, .slice A n c] 68) ∧ Below w.heap.size w w1 ∧ w.heap.size = g3) := ⟨by rw [← hw1, ← hg3]; exact heap_alloc_new w _, by rw [← hw1]; exact (Below.refl _ w).alloc (Nat.le_refl _) _, hg3⟩
 go_enter Try.func27, Try.ntmps27
 go_upto_region 1 with fail
 try rw [hw1]
 try rw [hg3]
 clear hw1 hg3
 have c1 : w1.cell? ⟨g3, 1, none⟩ = some (.int .i64 2) := by rw [cell_of_row w1 g3 1 _ _ (0, 0) HB.out.1]; rfl
 have c2 : w1.cell? ⟨g3, 2, none⟩ = some (.slice A n c) := by rw [cell_of_row w1 g3 2 _ _ (0, 0) HB.out.1]; rfl
 go_wp2_with fail
 refine (nil_tel w1).mono ?_
 rintro e w2 ⟨rfl, hb⟩
 have HC := Hd.mk hb
 clear hb
 go_upto_region 9 with (refine at_store (x := .tmp 7) ?_; refine wpList_boxed rfl 43 (.tmp 7) (.tmp 38) rfl w2.heap.size rfl an0 rfl rfl infoAn15 rfl (by simp [an0, Value.oneCell']) ?_; intro w3 hB3)
 obtain ⟨gb, hgb⟩ : ∃ q, w2.heap.size = q := ⟨_, rfl⟩
 rw [hgb] at hB3 ⊢
 have d0 : w3.cell? ⟨gb, 0, none⟩ = some (.int .i64 0) := by rw [cell_of_row w3 gb 0 _ _ (0, 0) hB3.out.1]; rfl
 have d1 : w3.cell? ⟨gb, 1, none⟩ = some (.int .u64 0) := by rw [cell_of_row w3 gb 1 _ _ (0, 0) hB3.out.1]; rfl
 have d2 : w3.cell? ⟨gb, 2, none⟩ = some (.int .i64 0) := by rw [cell_of_row w3 gb 2 _ _ (0, 0) hB3.out.1]; rfl
 have d3 : w3.cell? ⟨gb, 3, none⟩ = some (.slice none 0 0) := by rw [cell_of_row w3 gb 3 _ _ (0, 0) hB3.out.1]; rfl
 have d4 : w3.cell? ⟨gb, 4, none⟩ = some (.slice none 0 0) := by rw [cell_of_row w3 gb 4 _ _ (0, 0) hB3.out.1]; rfl
 have d5 : w3.cell? ⟨gb, 5, none⟩ = some (.slice none 0 0) := by rw [cell_of_row w3 gb 5 _ _ (0, 0) hB3.out.1]; rfl
 have d6 : w3.cell? ⟨gb, 6, none⟩ = some (.string emS) := by rw [cell_of_row w3 gb 6 _ _ (0, 0) hB3.out.1]; rfl
 have d7 : w3.cell? ⟨gb, 7, none⟩ = some (.bool false) := by rw [cell_of_row w3 gb 7 _ _ (0, 0) hB3.out.1]; rfl
 have d8 : w3.cell? ⟨gb, 8, none⟩ = some (.int .i64 0) := by rw [cell_of_row w3 gb 8 _ _ (0, 0) hB3.out.1]; rfl
 have d9 : w3.cell? ⟨gb, 9, none⟩ = some (.int .i64 0) := by rw [cell_of_row w3 gb 9 _ _ (0, 0) hB3.out.1]; rfl
 have d10 : w3.cell? ⟨gb, 10, none⟩ = some (.int .i64 0) := by rw [cell_of_row w3 gb 10 _ _ (0, 0) hB3.out.1]; rfl
 have d11 : w3.cell? ⟨gb, 11, none⟩ = some (.int .i64 0) := by rw [cell_of_row w3 gb 11 _ _ (0, 0) hB3.out.1]; rfl
 have d12 : w3.cell? ⟨gb, 12, none⟩ = some (.int .i64 0) := by rw [cell_of_row w3 gb 12 _ _ (0, 0) hB3.out.1]; rfl
 have d13 : w3.cell? ⟨gb, 13, none⟩ = some (.int .i64 0) := by rw [cell_of_row w3 gb 13 _ _ (0, 0) hB3.out.1]; rfl
 have d14 : w3.cell? ⟨gb, 14, none⟩ = some (.int .i64 0) := by rw [cell_of_row w3 gb 14 _ _ (0, 0) hB3.out.1]; rfl
 have HGB := Hd.mk hgb
 clear hgb
 go_wp2_with fail
 refine (sameAn_any0 w3 w3.heap.size ⟨0, 0, 0, [], [], [], emS, false, 0, 0, 0, 0, 0, 0, 0⟩ ⟨0, 0, 0, [], [], [], emS, false, 0, 0, 0, 0, 0, 0, 0⟩ 0 0 0 [] [] [] [] [] [] emS emS false false 0 0 0 0 0 0 0 0 0 0 0 0 0 0 rfl rfl none none none none none none 0 0 0 0 0 0 0 0 0 0 0 0 Rd.nil Rd.nil Rd.nil Rd.nil Rd.nil Rd.nil (Nat.le_refl _) (fun _ h => absurd h List.not_mem_nil) (fun _ h => absurd h List.not_mem_nil) (by omega) (by omega)).mono ?_
 rw [sameAB_selfR]
 rintro e w4 ⟨rfl, hb4⟩
 have H4 := Hd.mk hb4
 clear hb4 d0 d1 d2 d3 d4 d5 d6 d7 d8 d9 d10 d11 d12 d13 d14
 go_wp2_with fail
 go_ret
 exact ⟨rfl, ((HB.out.2.1.trans (HC.out.mono HB.out.2.1.size)).trans (hB3.out.2.1.mono (by have := HGB.out; have := HC.out.size; have := HB.out.2.1.size; omega))).trans (H4.out.mono (by have := HGB.out; have := HC.out.size; have := HB.out.2.1.size; have := hB3.out.2.2; omega))⟩
end Go.Proofs.Ytbcmjjcbjojakaa
