/- Contracts of codec's Reader: Varint, Bytes, Block. (Printed by tools/rdrgen.py.) -/
import Derived.Test.YtjkenhkoakaaoaaRdrE
import Derived.Test.YtjkenhkoakaaoaaCPuts
namespace Go.Proofs.Ytjkenhkoakaaoaa
open Go.RowKit
set_option linter.unusedVariables false
set_option maxRecDepth 20000
set_option maxHeartbeats 1000000 in
theorem vaC_any (w : World) (gr pr pv n c at_ : Nat) (A : Option Addr) (bs : List Nat) (R : Rr w gr A n c at_ 0 bs) (C : Caps w gr pr pv) :
    Calls Try.prog 111 #[.pointer (some ⟨pr, 0, none⟩), .pointer (some ⟨pv, 0, none⟩)] w (Clo w gr pv n c A bs KZag (numF bs at_)) := by
  have HR : Hd (Rr w gr A n c at_ 0 bs ∧ Caps w gr pr pv) := ⟨R, C⟩
  have k1 := C.hr
  clear R C
  go_enter Try.func111, Try.ntmps111
  go_wp2_with fail
  refine (number_any w gr n c at_ A 0 bs HR.out.1).mono ?_
  rintro e w1 ⟨hch, hy, hn⟩
  rcases hnum : numF bs at_ with ec | ⟨k, a1⟩
  · obtain ⟨rfl, at', hr⟩ := hn ec hnum
    have H1 : Hd (Chg [gr] w w1 ∧ Rr w1 gr A n c at' 0 bs) := ⟨hch, hr⟩
    clear hch hy hn hnum hr
    unfold giveUp
    go_wp2_with fail
    exact ⟨rfl, Clo.no rfl H1.out.1 H1.out.2⟩
  · obtain ⟨v, rfl, hk, hr⟩ := hy _ _ hnum
    unfold KNum at hk
    subst hk
    have hx := (numF_hi bs at_ k a1 HR.out.1.lb hnum).1
    have H1 : Hd (Chg [gr] w w1 ∧ Rr w1 gr A n c a1 0 bs ∧ Caps w1 gr pr pv) := ⟨hch, hr, HR.out.2.keep hch⟩
    have HN := Hd.mk hnum
    clear hch hy hn hnum hr
    obtain ⟨u, c1⟩ := H1.out.2.2.hv
    have c2 := H1.out.2.2.zv
    obtain ⟨X, hX⟩ : ∃ X : Int, (k : Int) = X := ⟨_, rfl⟩
    have x1 : 0 ≤ X := by omega
    have x2 : X ≤ 18446744073709551615 := by omega
    have HX := Hd.mk hX
    rw [hX]
    clear hX hx
    go_wp2_with fail
    refine (zag64_any w1 X x1 x2).mono ?_
    rintro e z ⟨rfl, rfl⟩
    go_wp2_with fail
    go_end0
    exact Clo.yes (a := k) (at' := a1) HN.out ((H1.out.1.mono (by simp)).setCell (by simp) _) (H1.out.2.1.keep' ((Chg.refl [pv] w1).setCell (by simp) _) (by have := HR.out.2.lt; simp; omega)) (World.cell?_setCell_same _ _ _ c1) (by rw [World.frozen?_setCell]; exact c2) (by rw [← HX.out]; rfl)
set_option maxHeartbeats 1000000 in
theorem varint_any (w : World) (gr n c at_ : Nat) (fl : Int) (A : Option Addr) (bs : List Nat) (R : Rr w gr A n c at_ fl bs) :
    Calls Try.prog 90 #[.pointer (some ⟨gr, 0, none⟩)] w (Ans w gr n c A bs KZag (redo (numF bs at_) 0 at_ fl)) := by
  have hmf : ∀ (fn : Fn) (first cap : Array Value) (w : World), (Instr.makeFunc fn first cap).run Try.prog w = .ok (.func fn first cap) w := fun _ _ _ _ => rfl
  have HR := Hd.mk R
  clear R
  go_enter Try.func90, Try.ntmps90
  go_wp2_with fail
  have hch : Chg [] w ((w.alloc (.cells #[.pointer (some ⟨gr, 0, none⟩)] 64)).alloc (.cells #[.int .i64 0] 2)) := (((Chg.refl _ _).alloc _).alloc _)
  obtain ⟨W1, hW⟩ : ∃ W1, ((w.alloc (.cells #[.pointer (some ⟨gr, 0, none⟩)] 64)).alloc (.cells #[.int .i64 0] 2)) = W1 := ⟨_, rfl⟩
  have k1 : W1.cell? ⟨(w.heap.size + 1), 0, none⟩ = some (.int .i64 0) := by rw [← hW]; exact cell_new _ _ (by simp)
  have k2 : W1.cell? ⟨w.heap.size, 0, none⟩ = some (.pointer (some ⟨gr, 0, none⟩)) := by rw [← hW, World.cell?_alloc_lt _ _ _ (by simp; try omega)]; exact cell_new _ _ (by simp)
  have k3 : W1.heap.size = w.heap.size + 2 := by rw [← hW]; simp
  have k4 : W1.frozen? ⟨(w.heap.size + 1), 0, none⟩ = false := by rw [← hW]; exact frozen_new _ _ (by simp)
  rw [hW] at hch ⊢
  have HC : Hd (Caps W1 gr w.heap.size (w.heap.size + 1)) := ⟨⟨k2, ⟨_, k1⟩, k4, by have := HR.out.lt; omega⟩⟩
  have H1 : Hd (Chg [] w W1 ∧ Rr W1 gr A n c at_ fl bs ∧ W1.heap.size = w.heap.size + 2) := ⟨hch, HR.out.keep' hch (by simp), k3⟩
  clear hch hW
  refine (reading_all W1 gr (w.heap.size + 1) n c at_ fl A bs H1.out.2.1 (.int .i64 0) k1 k4 (by have := HR.out.lt; omega) (by omega) 111 (fun _ _ => rfl) _ (KZag) (numF bs at_) 0 (fun _ => rfl) ?_).mono ?_
  · intro h0 w2 h2
    have hR := H1.out.2.1.keep' h2 (by simp)
    rw [h0] at hR
    exact vaC_any w2 gr w.heap.size (w.heap.size + 1) n c at_ A bs hR (HC.out.keep (h2.mono (by simp)))
  rintro e w2 ⟨rfl, ha⟩
  have HA := Hd.mk ha
  obtain ⟨v, c1, hk⟩ := ha.cell
  have c2 := ha.froz
  unfold KZag at hk
  subst hk
  obtain ⟨X, hX⟩ : ∃ X : Int, unz ((redo (numF bs at_) 0 at_ fl).1 : Int) = X := ⟨_, rfl⟩
  have HX := Hd.mk hX
  rw [hX] at c1
  clear ha k1 k2 k3 k4
  clear hX
  go_wp2_with fail
  have c3 := World.cell?_setCell_same (v := .int .i64 X) w2 ⟨w.heap.size + 1, 0, none⟩ c1
  refine bodyPost_ret (v := .int .i64 X) (by simp [results, Try.results90, go_sem, c3]) rfl ?_
  refine ⟨_, rfl, ?_, ?_, ?_⟩
  · exact Chg.pop (L := [gr]) (((H1.out.1.mono (by simp)).trans HA.out.ch).setCell (by simp) _) (by omega)
  · rw [← HX.out]; rfl
  · exact HA.out.rr.keep' ((Chg.refl [w.heap.size + 1] w2).setCell (by simp) _) (by have := HR.out.lt; simp; omega)
set_option maxHeartbeats 1000000 in
theorem bytesC_any (w : World) (gr pr pv pi n c at_ : Nat) (A : Option Addr) (bs : List Nat) (x : Int) (hx : -9223372036854775808 ≤ x ∧ x ≤ 9223372036854775807) (R : Rr w gr A n c at_ 0 bs) (C : Caps w gr pr pv) (ci : w.cell? ⟨pi, 0, none⟩ = some (.int .i64 x)) (hpi : gr < pi ∧ pi < w.heap.size) :
    Calls Try.prog 97 #[.pointer (some ⟨pi, 0, none⟩), .pointer (some ⟨pr, 0, none⟩), .pointer (some ⟨pv, 0, none⟩)] w (Clo w gr pv n c A bs (KOwn (pv + 1)) (bytesF bs at_ x)) := by
  have HR : Hd (Rr w gr A n c at_ 0 bs ∧ Caps w gr pr pv ∧ gr < pi ∧ pi < w.heap.size) := ⟨R, C, hpi⟩
  have k1 := C.hr
  have hx1 := hx.1
  have hx2 := hx.2
  clear R C hpi hx
  go_enter Try.func97, Try.ntmps97
  by_cases h0 : 0 ≤ x
  · have HB : Hd (bytesF bs at_ x = takeF bs at_ x.toNat) := ⟨by unfold bytesF; rw [if_neg (by omega)]⟩
    go_wp2_with fail
    refine (must_yes _ 2).mono ?_
    rintro e z ⟨rfl, rfl⟩
    go_wp2_with fail
    refine (take_any w gr n c at_ x x.toNat A 0 bs HR.out.1 (by omega)).mono ?_
    rintro e w1 ⟨hch, hy, hn⟩
    rcases hnum : takeF bs at_ x.toNat with ec | ⟨l, a1⟩
    · obtain ⟨rfl, at', hr⟩ := hn ec hnum
      have H1 : Hd (Chg [gr] w w1 ∧ Rr w1 gr A n c at' 0 bs ∧ bytesF bs at_ x = .error ec) := ⟨hch, hr, HB.out.trans hnum⟩
      clear hch hy hn hnum hr
      unfold giveUp
      go_wp2_with fail
      exact ⟨rfl, Clo.no H1.out.2.2 H1.out.1 H1.out.2.1⟩
    · obtain ⟨v, rfl, ⟨A1, c1, rfl, hrd, hc1⟩, hr⟩ := hy _ _ hnum
      have hl47 : l.length ≤ 140737488355328 := by have := HR.out.1.le; exact take_len hnum (by have := HR.out.1.len; omega)
      have H1 : Hd (Chg [gr] w w1 ∧ Rr w1 gr A n c a1 0 bs ∧ Caps w1 gr pr pv ∧ bytesF bs at_ x = .ok (l, a1)) := ⟨hch, hr, HR.out.2.1.keep hch, HB.out.trans hnum⟩
      have HRD := Hd.mk hrd
      clear hch hy hn hnum hr hrd
      go_wp2_with fail
      refine (clone_any w1 A1 l.length c1 gr l HRD.out hl47 (by have := H1.out.2.1.lt; omega)).mono ?_
      rintro e w2 ⟨v2, rfl, hO⟩
      obtain ⟨A2, c2, rfl, _, _⟩ := own_form hO.own
      have hb := hO.below (B := w1.heap.size) (fun k h => by cases h) (Nat.le_refl _)
      have H2 : Hd (Chg [gr] w w2 ∧ Rr w2 gr A n c a1 0 bs ∧ Caps w2 gr pr pv ∧ w2.ownsRow w1.heap.size 5 1 (.slice A2 l.length c2) l.length (cb l)) :=
        ⟨H1.out.1.trans (Chg.of_below hb), H1.out.2.1.keep' (L := []) (Chg.of_below hb) (by simp), H1.out.2.2.1.keep (Chg.of_below hb), hO.own⟩
      clear hO hb
      obtain ⟨u, d1⟩ := H2.out.2.2.1.hv
      have d2 := H2.out.2.2.1.zv
      go_wp2_with fail
      go_end0
      have hlt := H2.out.2.2.1.lt
      have hp1 : pv < w1.heap.size := H1.out.2.2.1.lt.2.2.1
      refine Clo.yes (a := l) (at' := a1) H1.out.2.2.2 ((H2.out.1.mono (by simp)).setCell (by simp) _) (H2.out.2.1.keep' ((Chg.refl [pv] w2).setCell (by simp) _) (by simp; omega)) (World.cell?_setCell_same _ _ _ d1) (by rw [World.frozen?_setCell]; exact d2) ?_
      exact own_base (ownsRow_setCell_below H2.out.2.2.2 (a := ⟨pv, 0, none⟩) hp1 _) (by omega)
  · have HB : Hd (bytesF bs at_ x = .error 2) := ⟨by unfold bytesF; rw [if_pos (by omega)]⟩
    go_wp2_with fail
    refine (must_no _ 2).mono ?_
    rintro e z ⟨he, rfl⟩
    unfold giveUp at he
    subst he
    go_wp2_with fail
    exact ⟨rfl, Clo.no HB.out (Chg.refl _ _) HR.out.1⟩
set_option maxHeartbeats 1000000 in
theorem bytes_any (w : World) (gr n c at_ : Nat) (fl : Int) (A : Option Addr) (bs : List Nat) (x : Int) (hx : -9223372036854775808 ≤ x ∧ x ≤ 9223372036854775807) (R : Rr w gr A n c at_ fl bs) :
    Calls Try.prog 50 #[.pointer (some ⟨gr, 0, none⟩), .int .i64 x] w (Ans w gr n c A bs (KOwn w.heap.size) (redo (bytesF bs at_ x) [] at_ fl)) := by
  have hmf : ∀ (fn : Fn) (first cap : Array Value) (w : World), (Instr.makeFunc fn first cap).run Try.prog w = .ok (.func fn first cap) w := fun _ _ _ _ => rfl
  have HR := Hd.mk R
  clear R
  go_enter Try.func50, Try.ntmps50
  go_wp2_with fail
  have hch : Chg [] w (((w.alloc (.cells #[.pointer (some ⟨gr, 0, none⟩)] 64)).alloc (.cells #[.int .i64 x] 3)).alloc (.cells #[.slice none 0 0] 45)) := ((((Chg.refl _ _).alloc _).alloc _).alloc _)
  obtain ⟨W1, hW⟩ : ∃ W1, (((w.alloc (.cells #[.pointer (some ⟨gr, 0, none⟩)] 64)).alloc (.cells #[.int .i64 x] 3)).alloc (.cells #[.slice none 0 0] 45)) = W1 := ⟨_, rfl⟩
  have k1 : W1.cell? ⟨(w.heap.size + 2), 0, none⟩ = some (.slice none 0 0) := by rw [← hW]; exact cell_new _ _ (by simp)
  have k2 : W1.cell? ⟨w.heap.size, 0, none⟩ = some (.pointer (some ⟨gr, 0, none⟩)) := by rw [← hW, World.cell?_alloc_lt _ _ _ (by simp; try omega), World.cell?_alloc_lt _ _ _ (by simp; try omega)]; exact cell_new _ _ (by simp)
  have k3 : W1.heap.size = w.heap.size + 3 := by rw [← hW]; simp
  have k4 : W1.frozen? ⟨(w.heap.size + 2), 0, none⟩ = false := by rw [← hW]; exact frozen_new _ _ (by simp)
  have i0 : W1.cell? ⟨w.heap.size + 1, 0, none⟩ = some (.int .i64 x) := by rw [← hW, World.cell?_alloc_lt _ _ _ (by simp; try omega)]; exact cell_new _ _ (by simp)
  rw [hW] at hch ⊢
  have HC : Hd (Caps W1 gr w.heap.size (w.heap.size + 2)) := ⟨⟨k2, ⟨_, k1⟩, k4, by have := HR.out.lt; omega⟩⟩
  have H1 : Hd (Chg [] w W1 ∧ Rr W1 gr A n c at_ fl bs ∧ W1.heap.size = w.heap.size + 3) := ⟨hch, HR.out.keep' hch (by simp), k3⟩
  clear hch hW
  refine (reading_all W1 gr (w.heap.size + 2) n c at_ fl A bs H1.out.2.1 (.slice none 0 0) k1 k4 (by have := HR.out.lt; omega) (by omega) 97 (fun _ _ => rfl) _ (KOwn (w.heap.size + 2 + 1)) (bytesF bs at_ x) [] (fun _ => KOwn.nil _ _) ?_).mono ?_
  · intro h0 w2 h2
    have hR := H1.out.2.1.keep' h2 (by simp)
    rw [h0] at hR
    exact bytesC_any w2 gr w.heap.size (w.heap.size + 2) (w.heap.size + 1) n c at_ A bs x hx hR (HC.out.keep (h2.mono (by simp))) ((h2.cell (p := ⟨w.heap.size + 1, 0, none⟩) (by show w.heap.size + 1 < _; omega) (by simp)).trans i0) (by have := HR.out.lt; have := h2.size; omega)
  rintro e w2 ⟨rfl, ha⟩
  have HA := Hd.mk ha
  obtain ⟨v, c1, hk⟩ := ha.cell
  have c2 := ha.froz
  unfold KOwn at hk
  obtain ⟨A2, c3, rfl, _, _⟩ := own_form hk
  have HK := Hd.mk hk
  obtain ⟨L, hL⟩ : ∃ L, (redo (bytesF bs at_ x) [] at_ fl).1.length = L := ⟨_, rfl⟩
  have HL := Hd.mk hL
  rw [hL] at c1
  clear ha k1 k2 k3 k4 i0
  clear hL hk
  go_wp2_with fail
  have c4 := World.cell?_setCell_same (v := .slice A2 L c3) w2 ⟨w.heap.size + 2, 0, none⟩ c1
  refine bodyPost_ret (v := .slice A2 L c3) (by simp [results, Try.results50, go_sem, c4]) rfl ?_
  refine ⟨_, rfl, ?_, ?_, ?_⟩
  · exact Chg.pop (L := [gr]) (((H1.out.1.mono (by simp)).trans HA.out.ch).setCell (by simp) _) (by omega)
  · have := HK.out; rw [HL.out] at this; unfold KOwn; rw [HL.out]; exact own_base (ownsRow_setCell_below this (a := ⟨w.heap.size + 2, 0, none⟩) (Nat.lt_succ_self _) _) (by omega)
  · exact HA.out.rr.keep' ((Chg.refl [w.heap.size + 2] w2).setCell (by simp) _) (by have := HR.out.lt; simp; omega)
set_option maxHeartbeats 1000000 in
theorem blkC_any (w : World) (gr pr pv pi n c at_ : Nat) (A : Option Addr) (bs : List Nat) (x : Int) (hx : -9223372036854775808 ≤ x ∧ x ≤ 9223372036854775807) (R : Rr w gr A n c at_ 0 bs) (C : Caps w gr pr pv) (ci : w.cell? ⟨pi, 0, none⟩ = some (.int .i64 x)) (hpi : gr < pi ∧ pi < w.heap.size) :
    Calls Try.prog 92 #[.pointer (some ⟨pi, 0, none⟩), .pointer (some ⟨pr, 0, none⟩), .pointer (some ⟨pv, 0, none⟩)] w (Clo w gr pv n c A bs (KOwn (pv + 1)) (blkF bs at_ x)) := by
  have HR : Hd (Rr w gr A n c at_ 0 bs ∧ Caps w gr pr pv ∧ gr < pi ∧ pi < w.heap.size) := ⟨R, C, hpi⟩
  have k1 := C.hr
  have hx1 := hx.1
  have hx2 := hx.2
  clear R C hpi hx
  go_enter Try.func92, Try.ntmps92
  by_cases h0 : 0 ≤ x
  · have HB : Hd (blkF bs at_ x = blockF bs at_ x.toNat) := ⟨by unfold blkF; rw [if_neg (by omega)]⟩
    go_wp2_with fail
    refine (must_yes _ 2).mono ?_
    rintro e z ⟨rfl, rfl⟩
    go_wp2_with fail
    refine (by have := block_any w gr n c at_ x.toNat A 0 bs HR.out.1 (by omega); rw [show ((x.toNat : Nat) : Int) = x by omega] at this; exact this : Calls Try.prog 94 #[.pointer (some ⟨gr, 0, none⟩), .int .i64 x] w (Gives w gr n c A 0 bs (KCut gr) (blockF bs at_ x.toNat))).mono ?_
    rintro e w1 ⟨hch, hy, hn⟩
    rcases hnum : blockF bs at_ x.toNat with ec | ⟨l, a1⟩
    · obtain ⟨rfl, at', hr⟩ := hn ec hnum
      have H1 : Hd (Chg [gr] w w1 ∧ Rr w1 gr A n c at' 0 bs ∧ blkF bs at_ x = .error ec) := ⟨hch, hr, HB.out.trans hnum⟩
      clear hch hy hn hnum hr
      unfold giveUp
      go_wp2_with fail
      exact ⟨rfl, Clo.no H1.out.2.2 H1.out.1 H1.out.2.1⟩
    · obtain ⟨v, rfl, ⟨A1, c1, rfl, hrd, hc1⟩, hr⟩ := hy _ _ hnum
      have hl47 : l.length ≤ 140737488355328 := by have := HR.out.1.le; exact block_len hnum (by have := HR.out.1.len; omega)
      have H1 : Hd (Chg [gr] w w1 ∧ Rr w1 gr A n c a1 0 bs ∧ Caps w1 gr pr pv ∧ blkF bs at_ x = .ok (l, a1)) := ⟨hch, hr, HR.out.2.1.keep hch, HB.out.trans hnum⟩
      have HRD := Hd.mk hrd
      clear hch hy hn hnum hr hrd
      go_wp2_with fail
      refine (clone_any w1 A1 l.length c1 gr l HRD.out hl47 (by have := H1.out.2.1.lt; omega)).mono ?_
      rintro e w2 ⟨v2, rfl, hO⟩
      obtain ⟨A2, c2, rfl, _, _⟩ := own_form hO.own
      have hb := hO.below (B := w1.heap.size) (fun k h => by cases h) (Nat.le_refl _)
      have H2 : Hd (Chg [gr] w w2 ∧ Rr w2 gr A n c a1 0 bs ∧ Caps w2 gr pr pv ∧ w2.ownsRow w1.heap.size 5 1 (.slice A2 l.length c2) l.length (cb l)) :=
        ⟨H1.out.1.trans (Chg.of_below hb), H1.out.2.1.keep' (L := []) (Chg.of_below hb) (by simp), H1.out.2.2.1.keep (Chg.of_below hb), hO.own⟩
      clear hO hb
      obtain ⟨u, d1⟩ := H2.out.2.2.1.hv
      have d2 := H2.out.2.2.1.zv
      go_wp2_with fail
      go_end0
      have hlt := H2.out.2.2.1.lt
      have hp1 : pv < w1.heap.size := H1.out.2.2.1.lt.2.2.1
      refine Clo.yes (a := l) (at' := a1) H1.out.2.2.2 ((H2.out.1.mono (by simp)).setCell (by simp) _) (H2.out.2.1.keep' ((Chg.refl [pv] w2).setCell (by simp) _) (by simp; omega)) (World.cell?_setCell_same _ _ _ d1) (by rw [World.frozen?_setCell]; exact d2) ?_
      exact own_base (ownsRow_setCell_below H2.out.2.2.2 (a := ⟨pv, 0, none⟩) hp1 _) (by omega)
  · have HB : Hd (blkF bs at_ x = .error 2) := ⟨by unfold blkF; rw [if_pos (by omega)]⟩
    go_wp2_with fail
    refine (must_no _ 2).mono ?_
    rintro e z ⟨he, rfl⟩
    unfold giveUp at he
    subst he
    go_wp2_with fail
    exact ⟨rfl, Clo.no HB.out (Chg.refl _ _) HR.out.1⟩
set_option maxHeartbeats 1000000 in
theorem blk_any (w : World) (gr n c at_ : Nat) (fl : Int) (A : Option Addr) (bs : List Nat) (x : Int) (hx : -9223372036854775808 ≤ x ∧ x ≤ 9223372036854775807) (R : Rr w gr A n c at_ fl bs) :
    Calls Try.prog 48 #[.pointer (some ⟨gr, 0, none⟩), .int .i64 x] w (Ans w gr n c A bs (KOwn w.heap.size) (redo (blkF bs at_ x) [] at_ fl)) := by
  have hmf : ∀ (fn : Fn) (first cap : Array Value) (w : World), (Instr.makeFunc fn first cap).run Try.prog w = .ok (.func fn first cap) w := fun _ _ _ _ => rfl
  have HR := Hd.mk R
  clear R
  go_enter Try.func48, Try.ntmps48
  go_wp2_with fail
  have hch : Chg [] w (((w.alloc (.cells #[.pointer (some ⟨gr, 0, none⟩)] 64)).alloc (.cells #[.int .i64 x] 3)).alloc (.cells #[.slice none 0 0] 45)) := ((((Chg.refl _ _).alloc _).alloc _).alloc _)
  obtain ⟨W1, hW⟩ : ∃ W1, (((w.alloc (.cells #[.pointer (some ⟨gr, 0, none⟩)] 64)).alloc (.cells #[.int .i64 x] 3)).alloc (.cells #[.slice none 0 0] 45)) = W1 := ⟨_, rfl⟩
  have k1 : W1.cell? ⟨(w.heap.size + 2), 0, none⟩ = some (.slice none 0 0) := by rw [← hW]; exact cell_new _ _ (by simp)
  have k2 : W1.cell? ⟨w.heap.size, 0, none⟩ = some (.pointer (some ⟨gr, 0, none⟩)) := by rw [← hW, World.cell?_alloc_lt _ _ _ (by simp; try omega), World.cell?_alloc_lt _ _ _ (by simp; try omega)]; exact cell_new _ _ (by simp)
  have k3 : W1.heap.size = w.heap.size + 3 := by rw [← hW]; simp
  have k4 : W1.frozen? ⟨(w.heap.size + 2), 0, none⟩ = false := by rw [← hW]; exact frozen_new _ _ (by simp)
  have i0 : W1.cell? ⟨w.heap.size + 1, 0, none⟩ = some (.int .i64 x) := by rw [← hW, World.cell?_alloc_lt _ _ _ (by simp; try omega)]; exact cell_new _ _ (by simp)
  rw [hW] at hch ⊢
  have HC : Hd (Caps W1 gr w.heap.size (w.heap.size + 2)) := ⟨⟨k2, ⟨_, k1⟩, k4, by have := HR.out.lt; omega⟩⟩
  have H1 : Hd (Chg [] w W1 ∧ Rr W1 gr A n c at_ fl bs ∧ W1.heap.size = w.heap.size + 3) := ⟨hch, HR.out.keep' hch (by simp), k3⟩
  clear hch hW
  refine (reading_all W1 gr (w.heap.size + 2) n c at_ fl A bs H1.out.2.1 (.slice none 0 0) k1 k4 (by have := HR.out.lt; omega) (by omega) 92 (fun _ _ => rfl) _ (KOwn (w.heap.size + 2 + 1)) (blkF bs at_ x) [] (fun _ => KOwn.nil _ _) ?_).mono ?_
  · intro h0 w2 h2
    have hR := H1.out.2.1.keep' h2 (by simp)
    rw [h0] at hR
    exact blkC_any w2 gr w.heap.size (w.heap.size + 2) (w.heap.size + 1) n c at_ A bs x hx hR (HC.out.keep (h2.mono (by simp))) ((h2.cell (p := ⟨w.heap.size + 1, 0, none⟩) (by show w.heap.size + 1 < _; omega) (by simp)).trans i0) (by have := HR.out.lt; have := h2.size; omega)
  rintro e w2 ⟨rfl, ha⟩
  have HA := Hd.mk ha
  obtain ⟨v, c1, hk⟩ := ha.cell
  have c2 := ha.froz
  unfold KOwn at hk
  obtain ⟨A2, c3, rfl, _, _⟩ := own_form hk
  have HK := Hd.mk hk
  obtain ⟨L, hL⟩ : ∃ L, (redo (blkF bs at_ x) [] at_ fl).1.length = L := ⟨_, rfl⟩
  have HL := Hd.mk hL
  rw [hL] at c1
  clear ha k1 k2 k3 k4 i0
  clear hL hk
  go_wp2_with fail
  have c4 := World.cell?_setCell_same (v := .slice A2 L c3) w2 ⟨w.heap.size + 2, 0, none⟩ c1
  refine bodyPost_ret (v := .slice A2 L c3) (by simp [results, Try.results48, go_sem, c4]) rfl ?_
  refine ⟨_, rfl, ?_, ?_, ?_⟩
  · exact Chg.pop (L := [gr]) (((H1.out.1.mono (by simp)).trans HA.out.ch).setCell (by simp) _) (by omega)
  · have := HK.out; rw [HL.out] at this; unfold KOwn; rw [HL.out]; exact own_base (ownsRow_setCell_below this (a := ⟨w.heap.size + 2, 0, none⟩) (Nat.lt_succ_self _) _) (by omega)
  · exact HA.out.rr.keep' ((Chg.refl [w.heap.size + 2] w2).setCell (by simp) _) (by have := HR.out.lt; simp; omega)
end Go.Proofs.Ytjkenhkoakaaoaa
