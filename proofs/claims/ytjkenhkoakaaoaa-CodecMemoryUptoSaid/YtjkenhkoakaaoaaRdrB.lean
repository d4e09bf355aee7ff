/- Contracts of a reading: nothing of a reader that is not there or has a fault; else what it is made of, or a fault and the place as it was. -/
import Derived.Test.YtjkenhkoakaaoaaRdr
import Derived.Test.YtjkenhkoakaaoaaRdrF
namespace Go.Proofs.Ytjkenhkoakaaoaa
open Go.RowKit
set_option linter.unusedVariables false
theorem reading_nil (w : World) (fv : Value) : Calls Try.prog 91 #[.pointer none, fv] w fun e w' => e = .returned (.tuple #[]) ∧ Chg [] w w' := by
  go_enter_defers Try.func91, Try.ntmps91
  go_wp2_with fail
  simp [bodyPostD, Leaves, results, Try.results91, go_sem]
  exact (Chg.refl _ _).alloc _
set_option maxRecDepth 20000 in
set_option maxHeartbeats 1000000 in
theorem reading_ok (w : World) (gr n c at_ : Nat) (A : Option Addr) (bs : List Nat) (R : Rr w gr A n c at_ 0 bs) (f : FuncId) (eg : ∀ args w, (callFunc f args).run Try.prog w = .ok (.enter f args) w) (caps : Array Value) (Q : World → Prop)
    (hdo : ∀ w1, Chg [] w w1 → w.heap.size ≤ w1.heap.size → Calls Try.prog f caps w1 fun e w2 => e = .returned (.tuple #[]) ∧ Q w2) :
    Calls Try.prog 91 #[.pointer (some ⟨gr, 0, none⟩), .func (.func f) #[] caps] w fun e w' => e = .returned (.tuple #[]) ∧ Q w' := by
  have hmf : ∀ (fn : Fn) (first cap : Array Value) (w : World), (Instr.makeFunc fn first cap).run Try.prog w = .ok (.func fn first cap) w := fun _ _ _ _ => rfl
  have HR := Hd.mk R
  have g1 := R.c1
  have g2 := R.c2
  have hlt := R.lt
  have HDO := Hd.mk hdo
  clear R hdo
  go_enter_defers Try.func91, Try.ntmps91
  go_wp2_with fail
  refine (HDO.out _ (((Chg.refl _ _).alloc _).alloc _) (by simp; omega)).mono ?_
  rintro e w2 ⟨rfl, hq⟩
  have HQ := Hd.mk hq
  clear hq
  go_wp2_with fail
  simp only [bodyPostD]
  refine leaves_cons (f := 112) (args := #[.pointer (some ⟨w.heap.size + 1, 0, none⟩), .pointer (some ⟨w.heap.size, 0, none⟩)]) (by simp) (by simp [go_sem]) ?_
  refine (catch_idle _ _ _).mono ?_
  rintro e u' w3 ⟨rfl, rfl, rfl⟩
  simp [Leaves, settle, results, Try.results91, go_sem]
  exact HQ.out
set_option maxRecDepth 20000 in
set_option maxHeartbeats 1000000 in
theorem reading_no (w : World) (gr n c at_ : Nat) (ec : Int) (A : Option Addr) (bs : List Nat) (R : Rr w gr A n c at_ 0 bs) (f : FuncId) (eg : ∀ args w, (callFunc f args).run Try.prog w = .ok (.enter f args) w) (caps : Array Value)
    (hdo : ∀ w1, Chg [] w w1 → w.heap.size ≤ w1.heap.size → Calls Try.prog f caps w1 fun e w2 => e = giveUp ec ∧ Chg [gr] w1 w2 ∧ ∃ at', Rr w2 gr A n c at' 0 bs) :
    Calls Try.prog 91 #[.pointer (some ⟨gr, 0, none⟩), .func (.func f) #[] caps] w fun e w' => e = .returned (.tuple #[]) ∧ Chg [gr] w w' ∧ Rr w' gr A n c at_ ec bs := by
  have hmf : ∀ (fn : Fn) (first cap : Array Value) (w : World), (Instr.makeFunc fn first cap).run Try.prog w = .ok (.func fn first cap) w := fun _ _ _ _ => rfl
  have HR := Hd.mk R
  have g1 := R.c1
  have g2 := R.c2
  have hlt := R.lt
  have HDO := Hd.mk hdo
  clear R hdo
  go_enter_defers Try.func91, Try.ntmps91
  go_wp2_with fail
  have hc1 : Chg [] w ((w.alloc (Obj.cells #[Value.pointer (some { block := gr, off := 0 })] 64)).alloc (Obj.cells #[Value.int IntKind.i64 ↑at_] 3)) := ((Chg.refl _ _).alloc _).alloc _
  obtain ⟨W1, hW⟩ : ∃ W1, ((w.alloc (Obj.cells #[Value.pointer (some { block := gr, off := 0 })] 64)).alloc (Obj.cells #[Value.int IntKind.i64 ↑at_] 3)) = W1 := ⟨_, rfl⟩
  have k1 : W1.cell? ⟨w.heap.size + 1, 0, none⟩ = some (.int .i64 (at_ : Int)) := by rw [← hW]; simp
  have k2 : W1.cell? ⟨w.heap.size, 0, none⟩ = some (.pointer (some ⟨gr, 0, none⟩)) := by rw [← hW]; simp
  have k3 : W1.heap.size = w.heap.size + 2 := by rw [← hW]; simp
  rw [hW] at hc1 ⊢
  have HW : Hd (Chg [] w W1 ∧ W1.cell? ⟨w.heap.size + 1, 0, none⟩ = some (.int .i64 (at_ : Int)) ∧ W1.cell? ⟨w.heap.size, 0, none⟩ = some (.pointer (some ⟨gr, 0, none⟩)) ∧ W1.heap.size = w.heap.size + 2) := ⟨hc1, k1, k2, k3⟩
  clear hc1 hW k1 k2 k3 g1 g2
  refine (HDO.out _ HW.out.1 HW.out.1.size).mono ?_
  rintro e w2 ⟨he, hc2, at', hr2⟩
  unfold giveUp at he
  subst he
  have H2 : Hd (Chg [gr] W1 w2 ∧ Rr w2 gr A n c at' 0 bs) := ⟨hc2, hr2⟩
  clear hc2 hr2
  go_wp2_with fail
  simp only [bodyPostD]
  refine leaves_cons (f := 112) (args := #[.pointer (some ⟨w.heap.size + 1, 0, none⟩), .pointer (some ⟨w.heap.size, 0, none⟩)]) (by simp) (by simp [go_sem]) ?_
  refine (catch_panicking _ _ gr at_ ec _ ?_ ?_ ⟨_, H2.out.2.c1⟩ ⟨_, H2.out.2.c2⟩ H2.out.2.z1 H2.out.2.z2).mono ?_
  · rw [H2.out.1.cell (p := ⟨w.heap.size + 1, 0, none⟩) (by have := HW.out.2.2.2; simp; omega) (by simp; omega)]; exact HW.out.2.1
  · rw [H2.out.1.cell (p := ⟨w.heap.size, 0, none⟩) (by have := HW.out.2.2.2; simp; omega) (by simp; omega)]; exact HW.out.2.2.1
  rintro e u' w3 ⟨rfl, rfl, rfl⟩
  simp [Leaves, settle, results, Try.results91, go_sem]
  exact ⟨((HW.out.1.mono (by simp)).trans H2.out.1).setCell (by simp) _ |>.setCell (by simp) _, (H2.out.2.move at_ HR.out.le.1).fail ec⟩
set_option maxRecDepth 20000 in
theorem reading_fault (w : World) (gr n c at_ : Nat) (fl : Int) (A : Option Addr) (bs : List Nat) (R : Rr w gr A n c at_ fl bs) (hfl : fl ≠ 0) (fv : Value) :
    Calls Try.prog 91 #[.pointer (some ⟨gr, 0, none⟩), fv] w fun e w' => e = .returned (.tuple #[]) ∧ Chg [] w w' := by
  have g1 := R.c1
  have g2 := R.c2
  have hlt := R.lt
  have hz : (fl != 0) = true := by simp [hfl]
  clear R
  go_enter_defers Try.func91, Try.ntmps91
  go_wp2_with fail
  simp [bodyPostD, Leaves, results, Try.results91, go_sem]
  exact (Chg.refl _ _).alloc _
end Go.Proofs.Ytjkenhkoakaaoaa
