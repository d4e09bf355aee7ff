/- What a board answers that is not there, and one that has no place. -/
import Derived.Test.YtknpcbekaodlkaaBoardO
import Derived.Test.YtknpcbekaodlkaaBoardS
namespace Go.Proofs.Ytknpcbekaodlkaa
open Go.RowKit Go.Sort Go.Lib Go.Shelf
set_option linter.unusedVariables false
set_option maxHeartbeats 400000 in
theorem fault_nil (w : World) : Calls Try.prog 45 #[.pointer none, .int .i64 0] w fun e w' => e = .returned (.int .i64 1) ∧ w = w' := by
  go_enter Try.func45, Try.ntmps45
  go_wp2
  go_ret
  exact ⟨rfl, rfl⟩
set_option maxHeartbeats 400000 in
theorem fault_zero (w : World) (g : Nat) (c1 : w.cell? ⟨g, 1, none⟩ = some (.slice none 0 0)) : Calls Try.prog 45 #[.pointer (some ⟨g, 0, none⟩), .int .i64 0] w fun e w' => e = .returned (.int .i64 2) ∧ w = w' := by
  go_enter Try.func45, Try.ntmps45
  go_wp2
  go_ret
  exact ⟨rfl, rfl⟩
set_option maxHeartbeats 400000 in
theorem score_nil (w : World) : Calls Try.prog 32 #[.pointer none, .int .i64 0] w fun e w' => e = .returned (.tuple #[.float .f64 0, .int .i64 1]) ∧ w = w' := by
  have HF := Hd.mk (fault_nil w)
  go_enter Try.func32, Try.ntmps32
  go_wp2_with fail
  refine HF.out.mono ?_
  rintro e w1 ⟨rfl, rfl⟩
  go_wp2
  go_ret2
  exact ⟨rfl, rfl⟩
set_option maxHeartbeats 400000 in
theorem score_zero (w : World) (g : Nat) (c1 : w.cell? ⟨g, 1, none⟩ = some (.slice none 0 0)) : Calls Try.prog 32 #[.pointer (some ⟨g, 0, none⟩), .int .i64 0] w fun e w' => e = .returned (.tuple #[.float .f64 0, .int .i64 2]) ∧ w = w' := by
  have HF := Hd.mk (fault_zero w g c1)
  clear c1
  go_enter Try.func32, Try.ntmps32
  go_wp2_with fail
  refine HF.out.mono ?_
  rintro e w1 ⟨rfl, rfl⟩
  go_wp2
  go_ret2
  exact ⟨rfl, rfl⟩
set_option maxHeartbeats 400000 in
theorem tell_nil (w : World) : Calls Try.prog 25 #[.pointer none, .int .i64 0, .bool true] w fun e w' => e = .returned (.int .i64 1) ∧ w = w' := by
  have HF := Hd.mk (fault_nil w)
  go_enter Try.func25, Try.ntmps25
  go_wp2_with fail
  refine HF.out.mono ?_
  rintro e w1 ⟨rfl, rfl⟩
  go_wp2
  go_ret
  exact ⟨rfl, rfl⟩
set_option maxHeartbeats 400000 in
theorem tell_zero (w : World) (g : Nat) (c1 : w.cell? ⟨g, 1, none⟩ = some (.slice none 0 0)) : Calls Try.prog 25 #[.pointer (some ⟨g, 0, none⟩), .int .i64 0, .bool true] w fun e w' => e = .returned (.int .i64 2) ∧ w = w' := by
  have HF := Hd.mk (fault_zero w g c1)
  clear c1
  go_enter Try.func25, Try.ntmps25
  go_wp2_with fail
  refine HF.out.mono ?_
  rintro e w1 ⟨rfl, rfl⟩
  go_wp2
  go_ret
  exact ⟨rfl, rfl⟩
set_option maxHeartbeats 400000 in
theorem order_nil (w : World) : Calls Try.prog 28 #[.pointer none] w fun e w' => e = .returned (.slice none 0 0) ∧ Below w.heap.size w w' := by
  go_enter Try.func28, Try.ntmps28
  go_wp2_with fail
  go_ret
  exact ⟨rfl, by first | exact Below.refl _ _ | exact (Below.refl _ _).alloc (Nat.le_refl _) _⟩
set_option maxHeartbeats 400000 in
theorem save_nil (w : World) : Calls Try.prog 26 #[.pointer none] w fun e w' => e = .returned (.slice none 0 0) ∧ w' = w := by
  go_enter Try.func26, Try.ntmps26
  go_wp2_with fail
  go_ret
  exact ⟨rfl, rfl⟩
set_option maxHeartbeats 1000000 in
theorem order_zero (w : World) (g : Nat) (hg : g < w.heap.size) (c1 : w.cell? ⟨g, 1, none⟩ = some (.slice none 0 0)) :
    Calls Try.prog 28 #[.pointer (some ⟨g, 0, none⟩)] w fun e w' => ∃ A, e = .returned (.slice A 0 0) ∧ Below w.heap.size w w' := by
  have hmk : ∀ W, (Instr.makeSlice 49 (.int .i64 0) (.int .i64 0)).run Try.prog W = .ok (.slice (some ⟨W.heap.size, 0, none⟩) 0 0) (W.alloc (.cells (madeCells #[.int .i64 0] 0) 3)) :=
    fun W => run_make_row' (P := Try.prog) 49 3 (.int .i64 0) 8 Try.underlying49 infoI rfl .i64 .i64 0 (by omega) (by omega) W
  have HS : Hd (∀ p c fv W, Calls Try.prog 50 #[.slice p 0 c, fv] W fun e w' => e = .returned (.tuple #[]) ∧ w' = W) := ⟨fun p c fv W => AnyF.slices_SortFunc_none (P := Try.prog) (ρ := Try.sortL_ren) { Try.sortL with } p c fv W⟩
  go_enter Try.func28, Try.ntmps28
  go_wp2_with fail
  have HB : Hd (Below w.heap.size w ((w.alloc (.cells #[.pointer (some ⟨g, 0, none⟩)] 39)).alloc (.cells (madeCells #[.int .i64 0] 0) 3))) := ⟨((Below.refl _ _).alloc (Nat.le_refl _) _).alloc (by simp) _⟩
  obtain ⟨W1, hW1⟩ : ∃ W1, (w.alloc (.cells #[.pointer (some ⟨g, 0, none⟩)] 39)).alloc (.cells (madeCells #[.int .i64 0] 0) 3) = W1 := ⟨_, rfl⟩
  rw [hW1] at HB ⊢
  clear hW1 hmk
  go_loopw [15, 4] (fun i u wr => i = .int .i64 0 ∧ wr = W1) (fun _ _ _ => 0)
  case atStart => exact ⟨rfl, rfl⟩
  case round =>
    obtain ⟨rfl, rfl⟩ := hrel
    go_wp2_with fail
    refine (HS.out _ _ _ _).mono ?_
    rintro e w2 ⟨rfl, rfl⟩
    go_wp2_with fail
    go_ret
    exact ⟨_, rfl, HB.out⟩
set_option maxRecDepth 20000 in
set_option maxHeartbeats 2000000 in
theorem save_zero (w : World) (g : Nat) (hg : g < w.heap.size) (c0 : w.cell? ⟨g, 0, none⟩ = some (.float .f32 0)) (c1 : w.cell? ⟨g, 1, none⟩ = some (.slice none 0 0)) :
    Calls Try.prog 26 #[.pointer (some ⟨g, 0, none⟩)] w fun e w' => ∃ v', e = .returned v' ∧ Onto w w' w.heap.size 5 (.slice none 0 0) v' 5 (cb [0, 0, 0, 0, 0]) := by
  have HW : Hd ((w.alloc (.cells #[.int .u8 0] 5)).ownsRow w.heap.size 5 1 (.slice (some ⟨w.heap.size, 0, none⟩) 1 1) 1 (cb [0])) := ⟨(onto_lit (w := w) (e := 5) (cb [0]) (by show 1 ≤ maxLen; unfold maxLen; decide)).own⟩
  have HW2 : Hd ((w.alloc (.cells #[.int .u8 0] 5)).drew.ownsRow w.heap.size 5 1 (.slice (some ⟨w.heap.size, 0, none⟩) 1 1) 1 (cb [0]) ∧ w.heap.size ≤ (w.alloc (.cells #[.int .u8 0] 5)).drew.heap.size) := ⟨HW.out, by show w.heap.size ≤ (w.alloc _).heap.size; simp⟩
  go_enter Try.func26, Try.ntmps26
  go_wp2_with fail
  go_region_with (go_at_call 46; refine (put_any _ w.heap.size 1 (.slice (some ⟨w.heap.size, 0, none⟩) 1 1) [0] 0 (by decide) HW2.out.1 (by decide) HW2.out.2).mono ?_; rintro e w1 ⟨v1, rfl, hO⟩)
  all_goals (
    have H1 : Hd (Onto w w1 w.heap.size 5 (.slice none 0 0) v1 5 (cb [0, 0, 0, 0, 0])) := ⟨by
      have g := (onto_lit (w := w) (e := 5) (cb [0]) (by show 1 ≤ maxLen; unfold maxLen; decide)).trans (onto_undrew hO)
      exact g⟩
    clear hO
    have hb := H1.out.below (B := w.heap.size) (fun k hk => by cases hk) (Nat.le_refl _)
    have d1 : w1.cell? ⟨g, 1, none⟩ = some (.slice none 0 0) := (hb.cell hg).trans c1
    have hgw := Nat.lt_of_lt_of_le hg hb.size
    clear c0 c1 hb
    go_wp2_with fail
    go_loopw [3, 5, 25] (fun s _ i wr => s = v1 ∧ i = .int .i64 0 ∧ wr = w1) (fun _ _ _ _ => 0)
    case atStart => exact ⟨rfl, rfl, rfl⟩
    case round =>
      obtain ⟨rfl, rfl, rfl⟩ := hrel
      go_wp2_with fail
      go_ret
      exact ⟨_, rfl, H1.out⟩)
end Go.Proofs.Ytknpcbekaodlkaa
