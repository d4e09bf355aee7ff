/- Contracts of the laws' ask of no reader: what each call of a reader tells. (Printed by tools/askgen.py.) -/
import Derived.Test.YtjkenhkoakaaoaaAskC
namespace Go.Proofs.Ytjkenhkoakaaoaa
open Go.RowKit
set_option linter.unusedVariables false
set_option maxRecDepth 20000
structure NilW (w W : World) : Prop where
  ch : Chg [] w W
  b : W.heap[w.heap.size + 1]? = some (.cells #[.int .u64 0, .slice none 0 0, .slice none 0 0] 72 (0, 0))
namespace NilW
variable {w W w1 : World}
theorem next (H : NilW w W) (h : Chg [] W w1) : NilW w w1 := ⟨H.ch.trans h, (h.block _ (lt_of_block H.b) (by simp)).trans H.b⟩
theorem cells (H : NilW w W) : W.cell? ⟨w.heap.size + 1, 0, none⟩ = some (.int .u64 0) ∧ W.cell? ⟨w.heap.size + 1, 1, none⟩ = some (.slice none 0 0) ∧ W.cell? ⟨w.heap.size + 1, 2, none⟩ = some (.slice none 0 0) ∧ ∀ o, W.frozen? ⟨w.heap.size + 1, o, none⟩ = false :=
  ⟨by simp [World.cell?, H.b], by simp [World.cell?, H.b], by simp [World.cell?, H.b], fun o => by simp [World.frozen?, H.b]⟩
theorem fin (H : NilW w W) (x y z : Value) : ∃ WF, ((W.setCell ⟨w.heap.size + 1, 0, none⟩ x).setCell ⟨w.heap.size + 1, 1, none⟩ y).setCell ⟨w.heap.size + 1, 2, none⟩ z = WF ∧
    WF.cell? ⟨w.heap.size + 1, 0, none⟩ = some x ∧ WF.cell? ⟨w.heap.size + 1, 1, none⟩ = some y ∧ WF.cell? ⟨w.heap.size + 1, 2, none⟩ = some z ∧ Hd (Chg [] w WF) := by
  obtain ⟨h0, h1, h2, _⟩ := H.cells
  refine ⟨_, rfl, ?_, ?_, ?_, ⟨?_⟩⟩
  · rw [World.cell?_setCell_other _ _ _ _ (by simp), World.cell?_setCell_other _ _ _ _ (by simp)]; exact World.cell?_setCell_same _ _ _ h0
  · rw [World.cell?_setCell_other _ _ _ _ (by simp)]; exact World.cell?_setCell_same _ _ _ ((World.cell?_setCell_other _ _ _ _ (by simp)).trans h1)
  · exact World.cell?_setCell_same _ _ _ (((World.cell?_setCell_other _ _ _ _ (by simp)).trans (World.cell?_setCell_other _ _ _ _ (by simp))).trans h2)
  · exact ((H.ch.setNew (p := ⟨w.heap.size + 1, 0, none⟩) (Nat.le_succ _) x).setNew (p := ⟨w.heap.size + 1, 1, none⟩) (Nat.le_succ _) y).setNew (p := ⟨w.heap.size + 1, 2, none⟩) (Nat.le_succ _) z
end NilW
def TellsN (w : World) (u : Int) (e : Ending) (w' : World) : Prop := e = .returned (.agg #[.int .u64 u, .slice none 0 0, .slice none 0 0]) ∧ Chg [] w w'
theorem nil_world (w : World) (who kind N E : Int) :
    ∃ W1, (w.alloc (.cells #[.int .i64 who, .int .i64 kind, .int .i64 N, .int .i64 E] 70)).alloc (.cells #[.int .u64 0, .slice none 0 0, .slice none 0 0] 72) = W1 ∧ NilW w W1 := by
  refine ⟨_, rfl, ⟨((Chg.refl [] w).alloc _).alloc _, ?_⟩⟩
  have := heap_alloc_new (w.alloc (.cells #[.int .i64 who, .int .i64 kind, .int .i64 N, .int .i64 E] 70)) (.cells #[.int .u64 0, .slice none 0 0, .slice none 0 0] 72)
  simpa using this
set_option maxHeartbeats 1000000 in
theorem asknil_0 (w : World) (who kind N E : Int) (hk : I64 kind) (hj : kind % 13 = 0) :
    Calls Try.prog 40 #[.pointer none, .agg #[.int .i64 who, .int .i64 kind, .int .i64 N, .int .i64 E]] w (TellsN w 0) := by
  go_enter Try.func40, Try.ntmps40
  go_wp2_with fail
  refine (pick_any _ kind 13 hk (by omega) (by omega)).mono ?_
  rw [hj]
  rintro e z ⟨rfl, rfl⟩
  clear hj hk
  go_wp2_with fail
  obtain ⟨W1, hW, H0⟩ := nil_world w who kind N E
  rw [hW]
  clear hW
  refine (take_uint8_nil W1).mono ?_
  rintro e w1 ⟨rfl, hch⟩
  have H1 := H0.next hch
  obtain ⟨c0, c1, c2, z⟩ := H1.cells
  clear hch
  go_wp2_with fail
  obtain ⟨WF, hWF, f0, f1, f2, HF⟩ := H1.fin (.int .u64 0) (.slice none 0 0) (.slice none 0 0)
  rw [hWF]
  clear hWF c0 c1 c2 z
  refine bodyPost_ret (v := .agg #[.int .u64 0, .slice none 0 0, .slice none 0 0]) (by simp [results, Try.results40, go_sem, f0, f1, f2]) rfl ?_
  exact ⟨rfl, HF.out⟩
set_option maxHeartbeats 1000000 in
theorem asknil_1 (w : World) (who kind N E : Int) (hk : I64 kind) (hj : kind % 13 = 1) :
    Calls Try.prog 40 #[.pointer none, .agg #[.int .i64 who, .int .i64 kind, .int .i64 N, .int .i64 E]] w (TellsN w 0) := by
  go_enter Try.func40, Try.ntmps40
  go_wp2_with fail
  refine (pick_any _ kind 13 hk (by omega) (by omega)).mono ?_
  rw [hj]
  rintro e z ⟨rfl, rfl⟩
  clear hj hk
  go_wp2_with fail
  obtain ⟨W1, hW, H0⟩ := nil_world w who kind N E
  rw [hW]
  clear hW
  refine (take_uint16_nil W1).mono ?_
  rintro e w1 ⟨rfl, hch⟩
  have H1 := H0.next hch
  obtain ⟨c0, c1, c2, z⟩ := H1.cells
  clear hch
  go_wp2_with fail
  obtain ⟨WF, hWF, f0, f1, f2, HF⟩ := H1.fin (.int .u64 0) (.slice none 0 0) (.slice none 0 0)
  rw [hWF]
  clear hWF c0 c1 c2 z
  refine bodyPost_ret (v := .agg #[.int .u64 0, .slice none 0 0, .slice none 0 0]) (by simp [results, Try.results40, go_sem, f0, f1, f2]) rfl ?_
  exact ⟨rfl, HF.out⟩
set_option maxHeartbeats 1000000 in
theorem asknil_2 (w : World) (who kind N E : Int) (hk : I64 kind) (hj : kind % 13 = 2) :
    Calls Try.prog 40 #[.pointer none, .agg #[.int .i64 who, .int .i64 kind, .int .i64 N, .int .i64 E]] w (TellsN w 0) := by
  go_enter Try.func40, Try.ntmps40
  go_wp2_with fail
  refine (pick_any _ kind 13 hk (by omega) (by omega)).mono ?_
  rw [hj]
  rintro e z ⟨rfl, rfl⟩
  clear hj hk
  go_wp2_with fail
  obtain ⟨W1, hW, H0⟩ := nil_world w who kind N E
  rw [hW]
  clear hW
  refine (take_uint32_nil W1).mono ?_
  rintro e w1 ⟨rfl, hch⟩
  have H1 := H0.next hch
  obtain ⟨c0, c1, c2, z⟩ := H1.cells
  clear hch
  go_wp2_with fail
  obtain ⟨WF, hWF, f0, f1, f2, HF⟩ := H1.fin (.int .u64 0) (.slice none 0 0) (.slice none 0 0)
  rw [hWF]
  clear hWF c0 c1 c2 z
  refine bodyPost_ret (v := .agg #[.int .u64 0, .slice none 0 0, .slice none 0 0]) (by simp [results, Try.results40, go_sem, f0, f1, f2]) rfl ?_
  exact ⟨rfl, HF.out⟩
set_option maxHeartbeats 1000000 in
theorem asknil_3 (w : World) (who kind N E : Int) (hk : I64 kind) (hj : kind % 13 = 3) :
    Calls Try.prog 40 #[.pointer none, .agg #[.int .i64 who, .int .i64 kind, .int .i64 N, .int .i64 E]] w (TellsN w 0) := by
  go_enter Try.func40, Try.ntmps40
  go_wp2_with fail
  refine (pick_any _ kind 13 hk (by omega) (by omega)).mono ?_
  rw [hj]
  rintro e z ⟨rfl, rfl⟩
  clear hj hk
  go_wp2_with fail
  obtain ⟨W1, hW, H0⟩ := nil_world w who kind N E
  rw [hW]
  clear hW
  refine (take_uint64_nil W1).mono ?_
  rintro e w1 ⟨rfl, hch⟩
  have H1 := H0.next hch
  obtain ⟨c0, c1, c2, z⟩ := H1.cells
  clear hch
  go_wp2_with fail
  obtain ⟨WF, hWF, f0, f1, f2, HF⟩ := H1.fin (.int .u64 0) (.slice none 0 0) (.slice none 0 0)
  rw [hWF]
  clear hWF c0 c1 c2 z
  refine bodyPost_ret (v := .agg #[.int .u64 0, .slice none 0 0, .slice none 0 0]) (by simp [results, Try.results40, go_sem, f0, f1, f2]) rfl ?_
  exact ⟨rfl, HF.out⟩
set_option maxHeartbeats 1000000 in
theorem asknil_4 (w : World) (who kind N E : Int) (hk : I64 kind) (hj : kind % 13 = 4) :
    Calls Try.prog 40 #[.pointer none, .agg #[.int .i64 who, .int .i64 kind, .int .i64 N, .int .i64 E]] w (TellsN w 0) := by
  go_enter Try.func40, Try.ntmps40
  go_wp2_with fail
  refine (pick_any _ kind 13 hk (by omega) (by omega)).mono ?_
  rw [hj]
  rintro e z ⟨rfl, rfl⟩
  clear hj hk
  go_wp2_with fail
  obtain ⟨W1, hW, H0⟩ := nil_world w who kind N E
  rw [hW]
  clear hW
  refine (take_tall_nil W1).mono ?_
  rintro e w1 ⟨rfl, hch⟩
  have H1 := H0.next hch
  obtain ⟨c0, c1, c2, z⟩ := H1.cells
  clear hch
  go_wp2_with fail
  obtain ⟨WF, hWF, f0, f1, f2, HF⟩ := H1.fin (.int .u64 0) (.slice none 0 0) (.slice none 0 0)
  rw [hWF]
  clear hWF c0 c1 c2 z
  refine bodyPost_ret (v := .agg #[.int .u64 0, .slice none 0 0, .slice none 0 0]) (by simp [results, Try.results40, go_sem, f0, f1, f2]) rfl ?_
  exact ⟨rfl, HF.out⟩
set_option maxHeartbeats 1000000 in
theorem asknil_5 (w : World) (who kind N E : Int) (hk : I64 kind) (hj : kind % 13 = 5) :
    Calls Try.prog 40 #[.pointer none, .agg #[.int .i64 who, .int .i64 kind, .int .i64 N, .int .i64 E]] w (TellsN w 0) := by
  go_enter Try.func40, Try.ntmps40
  go_wp2_with fail
  refine (pick_any _ kind 13 hk (by omega) (by omega)).mono ?_
  rw [hj]
  rintro e z ⟨rfl, rfl⟩
  clear hj hk
  go_wp2_with fail
  obtain ⟨W1, hW, H0⟩ := nil_world w who kind N E
  rw [hW]
  clear hW
  refine (uvarint_nil W1).mono ?_
  rintro e w1 ⟨rfl, hch⟩
  have H1 := H0.next hch
  obtain ⟨c0, c1, c2, z⟩ := H1.cells
  clear hch
  go_wp2_with fail
  obtain ⟨WF, hWF, f0, f1, f2, HF⟩ := H1.fin (.int .u64 0) (.slice none 0 0) (.slice none 0 0)
  rw [hWF]
  clear hWF c0 c1 c2 z
  refine bodyPost_ret (v := .agg #[.int .u64 0, .slice none 0 0, .slice none 0 0]) (by simp [results, Try.results40, go_sem, f0, f1, f2]) rfl ?_
  exact ⟨rfl, HF.out⟩
set_option maxHeartbeats 1000000 in
theorem asknil_6 (w : World) (who kind N E : Int) (hk : I64 kind) (hj : kind % 13 = 6) :
    Calls Try.prog 40 #[.pointer none, .agg #[.int .i64 who, .int .i64 kind, .int .i64 N, .int .i64 E]] w (TellsN w 0) := by
  go_enter Try.func40, Try.ntmps40
  go_wp2_with fail
  refine (pick_any _ kind 13 hk (by omega) (by omega)).mono ?_
  rw [hj]
  rintro e z ⟨rfl, rfl⟩
  clear hj hk
  go_wp2_with fail
  obtain ⟨W1, hW, H0⟩ := nil_world w who kind N E
  rw [hW]
  clear hW
  refine (varint_nil W1).mono ?_
  rintro e w1 ⟨rfl, hch⟩
  have H1 := H0.next hch
  obtain ⟨c0, c1, c2, z⟩ := H1.cells
  clear hch
  go_wp2_with fail
  obtain ⟨WF, hWF, f0, f1, f2, HF⟩ := H1.fin (.int .u64 0) (.slice none 0 0) (.slice none 0 0)
  rw [hWF]
  clear hWF c0 c1 c2 z
  refine bodyPost_ret (v := .agg #[.int .u64 0, .slice none 0 0, .slice none 0 0]) (by simp [results, Try.results40, go_sem, f0, f1, f2]) rfl ?_
  exact ⟨rfl, HF.out⟩
set_option maxHeartbeats 1000000 in
theorem asknil_7 (w : World) (who kind N E : Int) (hk : I64 kind) (hj : kind % 13 = 7) :
    Calls Try.prog 40 #[.pointer none, .agg #[.int .i64 who, .int .i64 kind, .int .i64 N, .int .i64 E]] w (TellsN w 0) := by
  go_enter Try.func40, Try.ntmps40
  go_wp2_with fail
  refine (pick_any _ kind 13 hk (by omega) (by omega)).mono ?_
  rw [hj]
  rintro e z ⟨rfl, rfl⟩
  clear hj hk
  go_wp2_with fail
  obtain ⟨W1, hW, H0⟩ := nil_world w who kind N E
  rw [hW]
  clear hW
  refine (bytes_nil W1 N).mono ?_
  rintro e w1 ⟨rfl, hch⟩
  have H1 := H0.next hch
  obtain ⟨c0, c1, c2, z⟩ := H1.cells
  clear hch
  go_wp2_with fail
  obtain ⟨WF, hWF, f0, f1, f2, HF⟩ := H1.fin (.int .u64 0) (.slice none 0 0) (.slice none 0 0)
  rw [hWF]
  clear hWF c0 c1 c2 z
  refine bodyPost_ret (v := .agg #[.int .u64 0, .slice none 0 0, .slice none 0 0]) (by simp [results, Try.results40, go_sem, f0, f1, f2]) rfl ?_
  exact ⟨rfl, HF.out⟩
set_option maxHeartbeats 1000000 in
theorem asknil_8 (w : World) (who kind N E : Int) (hk : I64 kind) (hj : kind % 13 = 8) :
    Calls Try.prog 40 #[.pointer none, .agg #[.int .i64 who, .int .i64 kind, .int .i64 N, .int .i64 E]] w (TellsN w 0) := by
  go_enter Try.func40, Try.ntmps40
  go_wp2_with fail
  refine (pick_any _ kind 13 hk (by omega) (by omega)).mono ?_
  rw [hj]
  rintro e z ⟨rfl, rfl⟩
  clear hj hk
  go_wp2_with fail
  obtain ⟨W1, hW, H0⟩ := nil_world w who kind N E
  rw [hW]
  clear hW
  refine (blk_nil W1 N).mono ?_
  rintro e w1 ⟨rfl, hch⟩
  have H1 := H0.next hch
  obtain ⟨c0, c1, c2, z⟩ := H1.cells
  clear hch
  go_wp2_with fail
  obtain ⟨WF, hWF, f0, f1, f2, HF⟩ := H1.fin (.int .u64 0) (.slice none 0 0) (.slice none 0 0)
  rw [hWF]
  clear hWF c0 c1 c2 z
  refine bodyPost_ret (v := .agg #[.int .u64 0, .slice none 0 0, .slice none 0 0]) (by simp [results, Try.results40, go_sem, f0, f1, f2]) rfl ?_
  exact ⟨rfl, HF.out⟩
set_option maxHeartbeats 1000000 in
theorem asknil_9 (w : World) (who kind N E : Int) (hk : I64 kind) (hj : kind % 13 = 9) :
    Calls Try.prog 40 #[.pointer none, .agg #[.int .i64 who, .int .i64 kind, .int .i64 N, .int .i64 E]] w (TellsN w 0) := by
  go_enter Try.func40, Try.ntmps40
  go_wp2_with fail
  refine (pick_any _ kind 13 hk (by omega) (by omega)).mono ?_
  rw [hj]
  rintro e z ⟨rfl, rfl⟩
  clear hj hk
  go_wp2_with fail
  obtain ⟨W1, hW, H0⟩ := nil_world w who kind N E
  rw [hW]
  clear hW
  refine (texts_nil W1 N E).mono ?_
  rintro e w1 ⟨rfl, hch⟩
  have H1 := H0.next hch
  obtain ⟨c0, c1, c2, z⟩ := H1.cells
  clear hch
  go_wp2_with fail
  obtain ⟨WF, hWF, f0, f1, f2, HF⟩ := H1.fin (.int .u64 0) (.slice none 0 0) (.slice none 0 0)
  rw [hWF]
  clear hWF c0 c1 c2 z
  refine bodyPost_ret (v := .agg #[.int .u64 0, .slice none 0 0, .slice none 0 0]) (by simp [results, Try.results40, go_sem, f0, f1, f2]) rfl ?_
  exact ⟨rfl, HF.out⟩
set_option maxHeartbeats 1000000 in
theorem asknil_10 (w : World) (who kind N E : Int) (hk : I64 kind) (hj : kind % 13 = 10) :
    Calls Try.prog 40 #[.pointer none, .agg #[.int .i64 who, .int .i64 kind, .int .i64 N, .int .i64 E]] w (TellsN w 0) := by
  go_enter Try.func40, Try.ntmps40
  go_wp2_with fail
  refine (pick_any _ kind 13 hk (by omega) (by omega)).mono ?_
  rw [hj]
  rintro e z ⟨rfl, rfl⟩
  clear hj hk
  go_wp2_with fail
  obtain ⟨W1, hW, H0⟩ := nil_world w who kind N E
  rw [hW]
  clear hW
  refine (left_nil W1).mono ?_
  rintro e w1 ⟨rfl, rfl⟩
  have H1 := H0
  obtain ⟨c0, c1, c2, z⟩ := H1.cells
  
  go_wp2_with fail
  obtain ⟨WF, hWF, f0, f1, f2, HF⟩ := H1.fin (.int .u64 0) (.slice none 0 0) (.slice none 0 0)
  rw [hWF]
  clear hWF c0 c1 c2 z
  refine bodyPost_ret (v := .agg #[.int .u64 0, .slice none 0 0, .slice none 0 0]) (by simp [results, Try.results40, go_sem, f0, f1, f2]) rfl ?_
  exact ⟨rfl, HF.out⟩
set_option maxHeartbeats 1000000 in
theorem asknil_11 (w : World) (who kind N E : Int) (hk : I64 kind) (hj : kind % 13 = 11) :
    Calls Try.prog 40 #[.pointer none, .agg #[.int .i64 who, .int .i64 kind, .int .i64 N, .int .i64 E]] w (TellsN w 1) := by
  go_enter Try.func40, Try.ntmps40
  go_wp2_with fail
  refine (pick_any _ kind 13 hk (by omega) (by omega)).mono ?_
  rw [hj]
  rintro e z ⟨rfl, rfl⟩
  clear hj hk
  go_wp2_with fail
  obtain ⟨W1, hW, H0⟩ := nil_world w who kind N E
  rw [hW]
  clear hW
  refine (fault_nil W1).mono ?_
  rintro e w1 ⟨rfl, rfl⟩
  have H1 := H0
  obtain ⟨c0, c1, c2, z⟩ := H1.cells
  
  go_wp2_with fail
  obtain ⟨WF, hWF, f0, f1, f2, HF⟩ := H1.fin (.int .u64 1) (.slice none 0 0) (.slice none 0 0)
  rw [hWF]
  clear hWF c0 c1 c2 z
  refine bodyPost_ret (v := .agg #[.int .u64 1, .slice none 0 0, .slice none 0 0]) (by simp [results, Try.results40, go_sem, f0, f1, f2]) rfl ?_
  exact ⟨rfl, HF.out⟩
set_option maxHeartbeats 1000000 in
theorem asknil_12 (w : World) (who kind N E : Int) (hk : I64 kind) (hj : kind % 13 = 12) :
    Calls Try.prog 40 #[.pointer none, .agg #[.int .i64 who, .int .i64 kind, .int .i64 N, .int .i64 E]] w (TellsN w 1) := by
  go_enter Try.func40, Try.ntmps40
  go_wp2_with fail
  refine (pick_any _ kind 13 hk (by omega) (by omega)).mono ?_
  rw [hj]
  rintro e z ⟨rfl, rfl⟩
  clear hj hk
  go_wp2_with fail
  obtain ⟨W1, hW, H0⟩ := nil_world w who kind N E
  rw [hW]
  clear hW
  refine (end_nil W1).mono ?_
  rintro e w1 ⟨rfl, rfl⟩
  have H1 := H0
  obtain ⟨c0, c1, c2, z⟩ := H1.cells
  
  go_wp2_with fail
  obtain ⟨WF, hWF, f0, f1, f2, HF⟩ := H1.fin (.int .u64 1) (.slice none 0 0) (.slice none 0 0)
  rw [hWF]
  clear hWF c0 c1 c2 z
  refine bodyPost_ret (v := .agg #[.int .u64 1, .slice none 0 0, .slice none 0 0]) (by simp [results, Try.results40, go_sem, f0, f1, f2]) rfl ?_
  exact ⟨rfl, HF.out⟩
theorem asknil_any (w : World) (who kind N E : Int) (k : Nat) (hk : I64 kind) (hj : kind % 13 = (k : Int)) (h13 : k < 13) :
    Calls Try.prog 40 #[.pointer none, .agg #[.int .i64 who, .int .i64 kind, .int .i64 N, .int .i64 E]] w (TellsN w (noneF k).U) :=
  match k, h13 with
  | 0, _ => asknil_0 w who kind N E hk hj
  | 1, _ => asknil_1 w who kind N E hk hj
  | 2, _ => asknil_2 w who kind N E hk hj
  | 3, _ => asknil_3 w who kind N E hk hj
  | 4, _ => asknil_4 w who kind N E hk hj
  | 5, _ => asknil_5 w who kind N E hk hj
  | 6, _ => asknil_6 w who kind N E hk hj
  | 7, _ => asknil_7 w who kind N E hk hj
  | 8, _ => asknil_8 w who kind N E hk hj
  | 9, _ => asknil_9 w who kind N E hk hj
  | 10, _ => asknil_10 w who kind N E hk hj
  | 11, _ => asknil_11 w who kind N E hk hj
  | 12, _ => asknil_12 w who kind N E hk hj
end Go.Proofs.Ytjkenhkoakaaoaa
