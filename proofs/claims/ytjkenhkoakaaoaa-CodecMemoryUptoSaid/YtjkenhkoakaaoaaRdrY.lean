/- Contracts of codec's Reader: Texts; the readings of a reader that is not there. (Printed by tools/rdrgen.py.) -/
import Derived.Test.YtjkenhkoakaaoaaRdrX
import Derived.Test.YtjkenhkoakaaoaaRdrT
namespace Go.Proofs.Ytjkenhkoakaaoaa
open Go.RowKit
set_option linter.unusedVariables false
set_option maxRecDepth 20000
set_option maxHeartbeats 1000000 in
theorem texts_any (w : World) (gr n c at_ : Nat) (fl : Int) (A : Option Addr) (bs : List Nat) (x : Int) (y : Int) (hx : -9223372036854775808 ≤ x ∧ x ≤ 9223372036854775807) (hy : -9223372036854775808 ≤ y ∧ y ≤ 9223372036854775807) (R : Rr w gr A n c at_ fl bs) :
    Calls Try.prog 51 #[.pointer (some ⟨gr, 0, none⟩), .int .i64 x, .int .i64 y] w (Ans w gr n c A bs (KTxt w.heap.size) (redo (textsF bs at_ x y) [] at_ fl)) := by
  have hmf : ∀ (fn : Fn) (first cap : Array Value) (w : World), (Instr.makeFunc fn first cap).run Try.prog w = .ok (.func fn first cap) w := fun _ _ _ _ => rfl
  have HR := Hd.mk R
  clear R
  go_enter Try.func51, Try.ntmps51
  go_wp2_with fail
  have hch : Chg [] w ((((w.alloc (.cells #[.pointer (some ⟨gr, 0, none⟩)] 64)).alloc (.cells #[.int .i64 x] 3)).alloc (.cells #[.int .i64 y] 3)).alloc (.cells #[.slice none 0 0] 49)) := (((((Chg.refl _ _).alloc _).alloc _).alloc _).alloc _)
  obtain ⟨W1, hW⟩ : ∃ W1, ((((w.alloc (.cells #[.pointer (some ⟨gr, 0, none⟩)] 64)).alloc (.cells #[.int .i64 x] 3)).alloc (.cells #[.int .i64 y] 3)).alloc (.cells #[.slice none 0 0] 49)) = W1 := ⟨_, rfl⟩
  have k1 : W1.cell? ⟨(w.heap.size + 3), 0, none⟩ = some (.slice none 0 0) := by rw [← hW]; exact cell_new _ _ (by simp)
  have k2 : W1.cell? ⟨w.heap.size, 0, none⟩ = some (.pointer (some ⟨gr, 0, none⟩)) := by rw [← hW, World.cell?_alloc_lt _ _ _ (by simp; try omega), World.cell?_alloc_lt _ _ _ (by simp; try omega), World.cell?_alloc_lt _ _ _ (by simp; try omega)]; exact cell_new _ _ (by simp)
  have k3 : W1.heap.size = w.heap.size + 4 := by rw [← hW]; simp
  have k4 : W1.frozen? ⟨(w.heap.size + 3), 0, none⟩ = false := by rw [← hW]; exact frozen_new _ _ (by simp)
  have i0 : W1.cell? ⟨w.heap.size + 1, 0, none⟩ = some (.int .i64 x) := by rw [← hW, World.cell?_alloc_lt _ _ _ (by simp; try omega), World.cell?_alloc_lt _ _ _ (by simp; try omega)]; exact cell_new _ _ (by simp)
  have i1 : W1.cell? ⟨w.heap.size + 2, 0, none⟩ = some (.int .i64 y) := by rw [← hW, World.cell?_alloc_lt _ _ _ (by simp; try omega)]; exact cell_new _ _ (by simp)
  rw [hW] at hch ⊢
  have HC : Hd (Caps W1 gr w.heap.size (w.heap.size + 3)) := ⟨⟨k2, ⟨_, k1⟩, k4, by have := HR.out.lt; omega⟩⟩
  have H1 : Hd (Chg [] w W1 ∧ Rr W1 gr A n c at_ fl bs ∧ W1.heap.size = w.heap.size + 4) := ⟨hch, HR.out.keep' hch (by simp), k3⟩
  clear hch hW
  refine (reading_all W1 gr (w.heap.size + 3) n c at_ fl A bs H1.out.2.1 (.slice none 0 0) k1 k4 (by have := HR.out.lt; omega) (by omega) 99 (fun _ _ => rfl) _ (KTxt (w.heap.size + 3 + 1)) (textsF bs at_ x y) [] (fun _ => KTxt.nil _ _) ?_).mono ?_
  · intro h0 w2 h2
    have hR := H1.out.2.1.keep' h2 (by simp)
    rw [h0] at hR
    exact textsC_any w2 gr w.heap.size (w.heap.size + 3) (w.heap.size + 1) (w.heap.size + 2) n c at_ A bs x y hx hy hR (HC.out.keep (h2.mono (by simp))) ((h2.cell (p := ⟨w.heap.size + 1, 0, none⟩) (by show w.heap.size + 1 < _; omega) (by simp)).trans i0) (by have := HR.out.lt; have := h2.size; omega) ((h2.cell (p := ⟨w.heap.size + 2, 0, none⟩) (by show w.heap.size + 2 < _; omega) (by simp)).trans i1) (by have := HR.out.lt; have := h2.size; omega)
  rintro e w2 ⟨rfl, ha⟩
  have HA := Hd.mk ha
  obtain ⟨v, c1, hk⟩ := ha.cell
  have c2 := ha.froz
  unfold KTxt at hk
  obtain ⟨A2, c3, rfl, _, _⟩ := own_form hk
  have HK := Hd.mk hk
  obtain ⟨L, hL⟩ : ∃ L, (redo (textsF bs at_ x y) [] at_ fl).1.length = L := ⟨_, rfl⟩
  have HL := Hd.mk hL
  rw [hL] at c1
  clear ha k1 k2 k3 k4 i0 i1
  clear hL hk
  go_wp2_with fail
  have c4 := World.cell?_setCell_same (v := .slice A2 L c3) w2 ⟨w.heap.size + 3, 0, none⟩ c1
  refine bodyPost_ret (v := .slice A2 L c3) (by simp [results, Try.results51, go_sem, c4]) rfl ?_
  refine ⟨_, rfl, ?_, ?_, ?_⟩
  · exact Chg.pop (L := [gr]) (((H1.out.1.mono (by simp)).trans HA.out.ch).setCell (by simp) _) (by omega)
  · have := HK.out; rw [HL.out] at this; unfold KTxt; rw [HL.out]; exact own_base (ownsRow_setCell_below this (a := ⟨w.heap.size + 3, 0, none⟩) (Nat.lt_succ_self _) _) (by omega)
  · exact HA.out.rr.keep' ((Chg.refl [w.heap.size + 3] w2).setCell (by simp) _) (by have := HR.out.lt; simp; omega)
theorem uvarint_nil (w : World) : Calls Try.prog 49 #[.pointer none] w fun e w' => e = .returned (.int .u64 0) ∧ Chg [] w w' := by
  have hmf : ∀ (fn : Fn) (first cap : Array Value) (w : World), (Instr.makeFunc fn first cap).run Try.prog w = .ok (.func fn first cap) w := fun _ _ _ _ => rfl
  go_enter Try.func49, Try.ntmps49
  go_wp2_with fail
  have hch : Chg [] w ((w.alloc (.cells #[.pointer none] 64)).alloc (.cells #[.int .u64 0] 23)) := (((Chg.refl _ _).alloc _).alloc _)
  obtain ⟨W1, hW⟩ : ∃ W1, ((w.alloc (.cells #[.pointer none] 64)).alloc (.cells #[.int .u64 0] 23)) = W1 := ⟨_, rfl⟩
  have k1 : W1.cell? ⟨(w.heap.size + 1), 0, none⟩ = some (.int .u64 0) := by rw [← hW]; exact cell_new _ _ (by simp)
  have k3 : W1.heap.size = w.heap.size + 2 := by rw [← hW]; simp
  have k4 : W1.frozen? ⟨(w.heap.size + 1), 0, none⟩ = false := by rw [← hW]; exact frozen_new _ _ (by simp)
  rw [hW] at hch ⊢
  have HC := Hd.mk hch
  clear hch hW
  refine (reading_nil W1 _).mono ?_
  rintro e w2 ⟨rfl, h2⟩
  have c1 := (h2.cell (p := ⟨(w.heap.size + 1), 0, none⟩) (by show (w.heap.size + 1) < _; omega) (by simp)).trans k1
  have c2 := (h2.frozen (p := ⟨(w.heap.size + 1), 0, none⟩) (by show (w.heap.size + 1) < _; omega) (by simp)).trans k4
  have H2 := Hd.mk (HC.out.trans h2)
  clear h2 k1 k3 k4
  go_wp2_with fail
  have c3 := World.cell?_setCell_same (v := .int .u64 0) w2 ⟨(w.heap.size + 1), 0, none⟩ c1
  refine bodyPost_ret (v := .int .u64 0) (by simp [results, Try.results49, go_sem, c3]) rfl ?_
  exact ⟨rfl, H2.out.setNew (p := ⟨(w.heap.size + 1), 0, none⟩) (by show w.heap.size ≤ (w.heap.size + 1); omega) _⟩
theorem varint_nil (w : World) : Calls Try.prog 90 #[.pointer none] w fun e w' => e = .returned (.int .i64 0) ∧ Chg [] w w' := by
  have hmf : ∀ (fn : Fn) (first cap : Array Value) (w : World), (Instr.makeFunc fn first cap).run Try.prog w = .ok (.func fn first cap) w := fun _ _ _ _ => rfl
  go_enter Try.func90, Try.ntmps90
  go_wp2_with fail
  have hch : Chg [] w ((w.alloc (.cells #[.pointer none] 64)).alloc (.cells #[.int .i64 0] 2)) := (((Chg.refl _ _).alloc _).alloc _)
  obtain ⟨W1, hW⟩ : ∃ W1, ((w.alloc (.cells #[.pointer none] 64)).alloc (.cells #[.int .i64 0] 2)) = W1 := ⟨_, rfl⟩
  have k1 : W1.cell? ⟨(w.heap.size + 1), 0, none⟩ = some (.int .i64 0) := by rw [← hW]; exact cell_new _ _ (by simp)
  have k3 : W1.heap.size = w.heap.size + 2 := by rw [← hW]; simp
  have k4 : W1.frozen? ⟨(w.heap.size + 1), 0, none⟩ = false := by rw [← hW]; exact frozen_new _ _ (by simp)
  rw [hW] at hch ⊢
  have HC := Hd.mk hch
  clear hch hW
  refine (reading_nil W1 _).mono ?_
  rintro e w2 ⟨rfl, h2⟩
  have c1 := (h2.cell (p := ⟨(w.heap.size + 1), 0, none⟩) (by show (w.heap.size + 1) < _; omega) (by simp)).trans k1
  have c2 := (h2.frozen (p := ⟨(w.heap.size + 1), 0, none⟩) (by show (w.heap.size + 1) < _; omega) (by simp)).trans k4
  have H2 := Hd.mk (HC.out.trans h2)
  clear h2 k1 k3 k4
  go_wp2_with fail
  have c3 := World.cell?_setCell_same (v := .int .i64 0) w2 ⟨(w.heap.size + 1), 0, none⟩ c1
  refine bodyPost_ret (v := .int .i64 0) (by simp [results, Try.results90, go_sem, c3]) rfl ?_
  exact ⟨rfl, H2.out.setNew (p := ⟨(w.heap.size + 1), 0, none⟩) (by show w.heap.size ≤ (w.heap.size + 1); omega) _⟩
theorem bytes_nil (w : World) (x : Int) : Calls Try.prog 50 #[.pointer none, .int .i64 x] w fun e w' => e = .returned (.slice none 0 0) ∧ Chg [] w w' := by
  have hmf : ∀ (fn : Fn) (first cap : Array Value) (w : World), (Instr.makeFunc fn first cap).run Try.prog w = .ok (.func fn first cap) w := fun _ _ _ _ => rfl
  go_enter Try.func50, Try.ntmps50
  go_wp2_with fail
  have hch : Chg [] w (((w.alloc (.cells #[.pointer none] 64)).alloc (.cells #[.int .i64 x] 3)).alloc (.cells #[.slice none 0 0] 45)) := ((((Chg.refl _ _).alloc _).alloc _).alloc _)
  obtain ⟨W1, hW⟩ : ∃ W1, (((w.alloc (.cells #[.pointer none] 64)).alloc (.cells #[.int .i64 x] 3)).alloc (.cells #[.slice none 0 0] 45)) = W1 := ⟨_, rfl⟩
  have k1 : W1.cell? ⟨(w.heap.size + 2), 0, none⟩ = some (.slice none 0 0) := by rw [← hW]; exact cell_new _ _ (by simp)
  have k3 : W1.heap.size = w.heap.size + 3 := by rw [← hW]; simp
  have k4 : W1.frozen? ⟨(w.heap.size + 2), 0, none⟩ = false := by rw [← hW]; exact frozen_new _ _ (by simp)
  rw [hW] at hch ⊢
  have HC := Hd.mk hch
  clear hch hW
  refine (reading_nil W1 _).mono ?_
  rintro e w2 ⟨rfl, h2⟩
  have c1 := (h2.cell (p := ⟨(w.heap.size + 2), 0, none⟩) (by show (w.heap.size + 2) < _; omega) (by simp)).trans k1
  have c2 := (h2.frozen (p := ⟨(w.heap.size + 2), 0, none⟩) (by show (w.heap.size + 2) < _; omega) (by simp)).trans k4
  have H2 := Hd.mk (HC.out.trans h2)
  clear h2 k1 k3 k4
  go_wp2_with fail
  have c3 := World.cell?_setCell_same (v := .slice none 0 0) w2 ⟨(w.heap.size + 2), 0, none⟩ c1
  refine bodyPost_ret (v := .slice none 0 0) (by simp [results, Try.results50, go_sem, c3]) rfl ?_
  exact ⟨rfl, H2.out.setNew (p := ⟨(w.heap.size + 2), 0, none⟩) (by show w.heap.size ≤ (w.heap.size + 2); omega) _⟩
theorem blk_nil (w : World) (x : Int) : Calls Try.prog 48 #[.pointer none, .int .i64 x] w fun e w' => e = .returned (.slice none 0 0) ∧ Chg [] w w' := by
  have hmf : ∀ (fn : Fn) (first cap : Array Value) (w : World), (Instr.makeFunc fn first cap).run Try.prog w = .ok (.func fn first cap) w := fun _ _ _ _ => rfl
  go_enter Try.func48, Try.ntmps48
  go_wp2_with fail
  have hch : Chg [] w (((w.alloc (.cells #[.pointer none] 64)).alloc (.cells #[.int .i64 x] 3)).alloc (.cells #[.slice none 0 0] 45)) := ((((Chg.refl _ _).alloc _).alloc _).alloc _)
  obtain ⟨W1, hW⟩ : ∃ W1, (((w.alloc (.cells #[.pointer none] 64)).alloc (.cells #[.int .i64 x] 3)).alloc (.cells #[.slice none 0 0] 45)) = W1 := ⟨_, rfl⟩
  have k1 : W1.cell? ⟨(w.heap.size + 2), 0, none⟩ = some (.slice none 0 0) := by rw [← hW]; exact cell_new _ _ (by simp)
  have k3 : W1.heap.size = w.heap.size + 3 := by rw [← hW]; simp
  have k4 : W1.frozen? ⟨(w.heap.size + 2), 0, none⟩ = false := by rw [← hW]; exact frozen_new _ _ (by simp)
  rw [hW] at hch ⊢
  have HC := Hd.mk hch
  clear hch hW
  refine (reading_nil W1 _).mono ?_
  rintro e w2 ⟨rfl, h2⟩
  have c1 := (h2.cell (p := ⟨(w.heap.size + 2), 0, none⟩) (by show (w.heap.size + 2) < _; omega) (by simp)).trans k1
  have c2 := (h2.frozen (p := ⟨(w.heap.size + 2), 0, none⟩) (by show (w.heap.size + 2) < _; omega) (by simp)).trans k4
  have H2 := Hd.mk (HC.out.trans h2)
  clear h2 k1 k3 k4
  go_wp2_with fail
  have c3 := World.cell?_setCell_same (v := .slice none 0 0) w2 ⟨(w.heap.size + 2), 0, none⟩ c1
  refine bodyPost_ret (v := .slice none 0 0) (by simp [results, Try.results48, go_sem, c3]) rfl ?_
  exact ⟨rfl, H2.out.setNew (p := ⟨(w.heap.size + 2), 0, none⟩) (by show w.heap.size ≤ (w.heap.size + 2); omega) _⟩
theorem texts_nil (w : World) (x : Int) (y : Int) : Calls Try.prog 51 #[.pointer none, .int .i64 x, .int .i64 y] w fun e w' => e = .returned (.slice none 0 0) ∧ Chg [] w w' := by
  have hmf : ∀ (fn : Fn) (first cap : Array Value) (w : World), (Instr.makeFunc fn first cap).run Try.prog w = .ok (.func fn first cap) w := fun _ _ _ _ => rfl
  go_enter Try.func51, Try.ntmps51
  go_wp2_with fail
  have hch : Chg [] w ((((w.alloc (.cells #[.pointer none] 64)).alloc (.cells #[.int .i64 x] 3)).alloc (.cells #[.int .i64 y] 3)).alloc (.cells #[.slice none 0 0] 49)) := (((((Chg.refl _ _).alloc _).alloc _).alloc _).alloc _)
  obtain ⟨W1, hW⟩ : ∃ W1, ((((w.alloc (.cells #[.pointer none] 64)).alloc (.cells #[.int .i64 x] 3)).alloc (.cells #[.int .i64 y] 3)).alloc (.cells #[.slice none 0 0] 49)) = W1 := ⟨_, rfl⟩
  have k1 : W1.cell? ⟨(w.heap.size + 3), 0, none⟩ = some (.slice none 0 0) := by rw [← hW]; exact cell_new _ _ (by simp)
  have k3 : W1.heap.size = w.heap.size + 4 := by rw [← hW]; simp
  have k4 : W1.frozen? ⟨(w.heap.size + 3), 0, none⟩ = false := by rw [← hW]; exact frozen_new _ _ (by simp)
  rw [hW] at hch ⊢
  have HC := Hd.mk hch
  clear hch hW
  refine (reading_nil W1 _).mono ?_
  rintro e w2 ⟨rfl, h2⟩
  have c1 := (h2.cell (p := ⟨(w.heap.size + 3), 0, none⟩) (by show (w.heap.size + 3) < _; omega) (by simp)).trans k1
  have c2 := (h2.frozen (p := ⟨(w.heap.size + 3), 0, none⟩) (by show (w.heap.size + 3) < _; omega) (by simp)).trans k4
  have H2 := Hd.mk (HC.out.trans h2)
  clear h2 k1 k3 k4
  go_wp2_with fail
  have c3 := World.cell?_setCell_same (v := .slice none 0 0) w2 ⟨(w.heap.size + 3), 0, none⟩ c1
  refine bodyPost_ret (v := .slice none 0 0) (by simp [results, Try.results51, go_sem, c3]) rfl ?_
  exact ⟨rfl, H2.out.setNew (p := ⟨(w.heap.size + 3), 0, none⟩) (by show w.heap.size ≤ (w.heap.size + 3); omega) _⟩
theorem take_uint8_nil (w : World) : Calls Try.prog 85 #[.pointer none] w fun e w' => e = .returned (.int .u8 0) ∧ Chg [] w w' := by
  have hmf : ∀ (fn : Fn) (first cap : Array Value) (w : World), (Instr.makeFunc fn first cap).run Try.prog w = .ok (.func fn first cap) w := fun _ _ _ _ => rfl
  go_enter Try.func85, Try.ntmps85
  go_wp2_with fail
  have hch : Chg [] w ((w.alloc (.cells #[.pointer none] 64)).alloc (.cells #[.int .u8 0] 5)) := (((Chg.refl _ _).alloc _).alloc _)
  obtain ⟨W1, hW⟩ : ∃ W1, ((w.alloc (.cells #[.pointer none] 64)).alloc (.cells #[.int .u8 0] 5)) = W1 := ⟨_, rfl⟩
  have k1 : W1.cell? ⟨(w.heap.size + 1), 0, none⟩ = some (.int .u8 0) := by rw [← hW]; exact cell_new _ _ (by simp)
  have k3 : W1.heap.size = w.heap.size + 2 := by rw [← hW]; simp
  have k4 : W1.frozen? ⟨(w.heap.size + 1), 0, none⟩ = false := by rw [← hW]; exact frozen_new _ _ (by simp)
  rw [hW] at hch ⊢
  have HC := Hd.mk hch
  clear hch hW
  refine (reading_nil W1 _).mono ?_
  rintro e w2 ⟨rfl, h2⟩
  have c1 := (h2.cell (p := ⟨(w.heap.size + 1), 0, none⟩) (by show (w.heap.size + 1) < _; omega) (by simp)).trans k1
  have c2 := (h2.frozen (p := ⟨(w.heap.size + 1), 0, none⟩) (by show (w.heap.size + 1) < _; omega) (by simp)).trans k4
  have H2 := Hd.mk (HC.out.trans h2)
  clear h2 k1 k3 k4
  go_wp2_with fail
  go_ret
  exact ⟨rfl, H2.out⟩
theorem take_uint16_nil (w : World) : Calls Try.prog 86 #[.pointer none] w fun e w' => e = .returned (.int .u16 0) ∧ Chg [] w w' := by
  have hmf : ∀ (fn : Fn) (first cap : Array Value) (w : World), (Instr.makeFunc fn first cap).run Try.prog w = .ok (.func fn first cap) w := fun _ _ _ _ => rfl
  go_enter Try.func86, Try.ntmps86
  go_wp2_with fail
  have hch : Chg [] w ((w.alloc (.cells #[.pointer none] 64)).alloc (.cells #[.int .u16 0] 106)) := (((Chg.refl _ _).alloc _).alloc _)
  obtain ⟨W1, hW⟩ : ∃ W1, ((w.alloc (.cells #[.pointer none] 64)).alloc (.cells #[.int .u16 0] 106)) = W1 := ⟨_, rfl⟩
  have k1 : W1.cell? ⟨(w.heap.size + 1), 0, none⟩ = some (.int .u16 0) := by rw [← hW]; exact cell_new _ _ (by simp)
  have k3 : W1.heap.size = w.heap.size + 2 := by rw [← hW]; simp
  have k4 : W1.frozen? ⟨(w.heap.size + 1), 0, none⟩ = false := by rw [← hW]; exact frozen_new _ _ (by simp)
  rw [hW] at hch ⊢
  have HC := Hd.mk hch
  clear hch hW
  refine (reading_nil W1 _).mono ?_
  rintro e w2 ⟨rfl, h2⟩
  have c1 := (h2.cell (p := ⟨(w.heap.size + 1), 0, none⟩) (by show (w.heap.size + 1) < _; omega) (by simp)).trans k1
  have c2 := (h2.frozen (p := ⟨(w.heap.size + 1), 0, none⟩) (by show (w.heap.size + 1) < _; omega) (by simp)).trans k4
  have H2 := Hd.mk (HC.out.trans h2)
  clear h2 k1 k3 k4
  go_wp2_with fail
  go_ret
  exact ⟨rfl, H2.out⟩
theorem take_uint32_nil (w : World) : Calls Try.prog 87 #[.pointer none] w fun e w' => e = .returned (.int .u32 0) ∧ Chg [] w w' := by
  have hmf : ∀ (fn : Fn) (first cap : Array Value) (w : World), (Instr.makeFunc fn first cap).run Try.prog w = .ok (.func fn first cap) w := fun _ _ _ _ => rfl
  go_enter Try.func87, Try.ntmps87
  go_wp2_with fail
  have hch : Chg [] w ((w.alloc (.cells #[.pointer none] 64)).alloc (.cells #[.int .u32 0] 108)) := (((Chg.refl _ _).alloc _).alloc _)
  obtain ⟨W1, hW⟩ : ∃ W1, ((w.alloc (.cells #[.pointer none] 64)).alloc (.cells #[.int .u32 0] 108)) = W1 := ⟨_, rfl⟩
  have k1 : W1.cell? ⟨(w.heap.size + 1), 0, none⟩ = some (.int .u32 0) := by rw [← hW]; exact cell_new _ _ (by simp)
  have k3 : W1.heap.size = w.heap.size + 2 := by rw [← hW]; simp
  have k4 : W1.frozen? ⟨(w.heap.size + 1), 0, none⟩ = false := by rw [← hW]; exact frozen_new _ _ (by simp)
  rw [hW] at hch ⊢
  have HC := Hd.mk hch
  clear hch hW
  refine (reading_nil W1 _).mono ?_
  rintro e w2 ⟨rfl, h2⟩
  have c1 := (h2.cell (p := ⟨(w.heap.size + 1), 0, none⟩) (by show (w.heap.size + 1) < _; omega) (by simp)).trans k1
  have c2 := (h2.frozen (p := ⟨(w.heap.size + 1), 0, none⟩) (by show (w.heap.size + 1) < _; omega) (by simp)).trans k4
  have H2 := Hd.mk (HC.out.trans h2)
  clear h2 k1 k3 k4
  go_wp2_with fail
  go_ret
  exact ⟨rfl, H2.out⟩
theorem take_uint64_nil (w : World) : Calls Try.prog 88 #[.pointer none] w fun e w' => e = .returned (.int .u64 0) ∧ Chg [] w w' := by
  have hmf : ∀ (fn : Fn) (first cap : Array Value) (w : World), (Instr.makeFunc fn first cap).run Try.prog w = .ok (.func fn first cap) w := fun _ _ _ _ => rfl
  go_enter Try.func88, Try.ntmps88
  go_wp2_with fail
  have hch : Chg [] w ((w.alloc (.cells #[.pointer none] 64)).alloc (.cells #[.int .u64 0] 23)) := (((Chg.refl _ _).alloc _).alloc _)
  obtain ⟨W1, hW⟩ : ∃ W1, ((w.alloc (.cells #[.pointer none] 64)).alloc (.cells #[.int .u64 0] 23)) = W1 := ⟨_, rfl⟩
  have k1 : W1.cell? ⟨(w.heap.size + 1), 0, none⟩ = some (.int .u64 0) := by rw [← hW]; exact cell_new _ _ (by simp)
  have k3 : W1.heap.size = w.heap.size + 2 := by rw [← hW]; simp
  have k4 : W1.frozen? ⟨(w.heap.size + 1), 0, none⟩ = false := by rw [← hW]; exact frozen_new _ _ (by simp)
  rw [hW] at hch ⊢
  have HC := Hd.mk hch
  clear hch hW
  refine (reading_nil W1 _).mono ?_
  rintro e w2 ⟨rfl, h2⟩
  have c1 := (h2.cell (p := ⟨(w.heap.size + 1), 0, none⟩) (by show (w.heap.size + 1) < _; omega) (by simp)).trans k1
  have c2 := (h2.frozen (p := ⟨(w.heap.size + 1), 0, none⟩) (by show (w.heap.size + 1) < _; omega) (by simp)).trans k4
  have H2 := Hd.mk (HC.out.trans h2)
  clear h2 k1 k3 k4
  go_wp2_with fail
  go_ret
  exact ⟨rfl, H2.out⟩
theorem take_tall_nil (w : World) : Calls Try.prog 89 #[.pointer none] w fun e w' => e = .returned (.int .u16 0) ∧ Chg [] w w' := by
  have hmf : ∀ (fn : Fn) (first cap : Array Value) (w : World), (Instr.makeFunc fn first cap).run Try.prog w = .ok (.func fn first cap) w := fun _ _ _ _ => rfl
  go_enter Try.func89, Try.ntmps89
  go_wp2_with fail
  have hch : Chg [] w ((w.alloc (.cells #[.pointer none] 64)).alloc (.cells #[.int .u16 0] 110)) := (((Chg.refl _ _).alloc _).alloc _)
  obtain ⟨W1, hW⟩ : ∃ W1, ((w.alloc (.cells #[.pointer none] 64)).alloc (.cells #[.int .u16 0] 110)) = W1 := ⟨_, rfl⟩
  have k1 : W1.cell? ⟨(w.heap.size + 1), 0, none⟩ = some (.int .u16 0) := by rw [← hW]; exact cell_new _ _ (by simp)
  have k3 : W1.heap.size = w.heap.size + 2 := by rw [← hW]; simp
  have k4 : W1.frozen? ⟨(w.heap.size + 1), 0, none⟩ = false := by rw [← hW]; exact frozen_new _ _ (by simp)
  rw [hW] at hch ⊢
  have HC := Hd.mk hch
  clear hch hW
  refine (reading_nil W1 _).mono ?_
  rintro e w2 ⟨rfl, h2⟩
  have c1 := (h2.cell (p := ⟨(w.heap.size + 1), 0, none⟩) (by show (w.heap.size + 1) < _; omega) (by simp)).trans k1
  have c2 := (h2.frozen (p := ⟨(w.heap.size + 1), 0, none⟩) (by show (w.heap.size + 1) < _; omega) (by simp)).trans k4
  have H2 := Hd.mk (HC.out.trans h2)
  clear h2 k1 k3 k4
  go_wp2_with fail
  go_ret
  exact ⟨rfl, H2.out⟩
end Go.Proofs.Ytjkenhkoakaaoaa
