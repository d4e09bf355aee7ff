/- Put together of: RdrG RdrL RdrX AskF OneForm MsgP MemN. -/
import Derived.Test.YtbcmjjcbjojakaaPk4
import Derived.Test.YtbcmjjcbjojakaaPk3
import Derived.Test.YtbcmjjcbjojakaaPk1
import Derived.Great.BuildSlice
section
namespace Go.Proofs.Ytbcmjjcbjojakaa
open Go.RowKit
set_option linter.unusedVariables false
set_option maxRecDepth 20000
set_option maxHeartbeats 1000000 in
theorem vaC_any (w : World) (gr pr pv n c at_ : Nat) (A : Option Addr) (bs : List Nat) (R : Rr w gr A n c at_ 0 bs) (C : Caps w gr pr pv) :
  Calls Try.prog 143 #[.pointer (some ⟨pr, 0, none⟩), .pointer (some ⟨pv, 0, none⟩)] w (Clo w gr pv n c A bs KZag (numF bs at_)) := by
 have HR : Hd (Rr w gr A n c at_ 0 bs ∧ Caps w gr pr pv) := ⟨R, C⟩
 have k1 := C.hr
 clear R C
 go_enter Try.func143, Try.ntmps143
 go_wp2_with fail
 refine (number_any w gr n c at_ A 0 bs HR.out.1).mono ?_
 rintro e w1 ⟨hch, hy, hn⟩
 rcases hnum : numF bs at_ with ec | ⟨k, a1⟩
 ·obtain ⟨rfl, at', hr⟩ := hn ec hnum
  have H1 : Hd (Chg [gr] w w1 ∧ Rr w1 gr A n c at' 0 bs) := ⟨hch, hr⟩
  clear hch hy hn hnum hr
  unfold giveUp
  go_wp2_with fail
  exact ⟨rfl, Clo.no rfl H1.out.1 H1.out.2⟩
 ·obtain ⟨v, rfl, hk, hr⟩ := hy _ _ hnum
  unfold KNum at hk
  subst hk
  have hx := (numF_hi bs at_ k a1 HR.out.1.lb hnum).1
  have H1 : Hd (Chg [gr] w w1 ∧ Rr w1 gr A n c a1 0 bs ∧ Caps w1 gr pr pv) := ⟨hch, hr, HR.out.2.keep hch⟩
  have HN := Hd.mk hnum
  clear hch hy hn hnum hr
  obtain ⟨u, c1⟩ := H1.out.2.2.hv
  have c2 := H1.out.2.2.zv
  obtain ⟨X, hX⟩ : ∃ X : Int, (k : Int) = X := ⟨_, rfl⟩
  have x1 : 0 ≤ X := by omega
  have x2 : X ≤ 18446744073709551615 := by omega
  have HX := Hd.mk hX
  rw [hX]
  clear hX hx
  go_wp2_with fail
  refine (zag64_any w1 X x1 x2).mono ?_
  rintro e z ⟨rfl, rfl⟩
  go_wp2_with fail
  go_end0
  exact Clo.yes (a := k) (at' := a1) HN.out ((H1.out.1.mono (by simp)).setCell (by simp) _) (H1.out.2.1.keep' ((Chg.refl [pv] w1).setCell (by simp) _) (by have := HR.out.2.lt; simp; omega)) (World.cell?_setCell_same _ _ _ c1) (by rw [World.frozen?_setCell]; exact c2) (by rw [← HX.out]; rfl)
set_option maxHeartbeats 1000000 in
theorem varint_any (w : World) (gr n c at_ : Nat) (fl : Int) (A : Option Addr) (bs : List Nat) (R : Rr w gr A n c at_ fl bs) :
  Calls Try.prog 129 #[.pointer (some ⟨gr, 0, none⟩)] w (Ans w gr n c A bs KZag (redo (numF bs at_) 0 at_ fl)) := by
 have hmf : ∀ (fn : Fn) (first cap : Array Value) (w : World), (Instr.makeFunc fn first cap).run Try.prog w = .ok (.func fn first cap) w := fun _ _ _ _ => rfl
 have HR := Hd.mk R
 clear R
 go_enter Try.func129, Try.ntmps129
 go_wp2_with fail
 have hch : Chg [] w ((w.alloc (.cells #[.pointer (some ⟨gr, 0, none⟩)] 154)).alloc (.cells #[.int .i64 0] 2)) := (((Chg.refl _ _).alloc _).alloc _)
 obtain ⟨W1, hW⟩ : ∃ W1, ((w.alloc (.cells #[.pointer (some ⟨gr, 0, none⟩)] 154)).alloc (.cells #[.int .i64 0] 2)) = W1 := ⟨_, rfl⟩
 have k1 : W1.cell? ⟨(w.heap.size + 1), 0, none⟩ = some (.int .i64 0) := by rw [← hW]; exact cell_new _ _ (by simp)
 have k2 : W1.cell? ⟨w.heap.size, 0, none⟩ = some (.pointer (some ⟨gr, 0, none⟩)) := by rw [← hW, World.cell?_alloc_lt _ _ _ (by simp; try omega)]; exact cell_new _ _ (by simp)
 have k3 : W1.heap.size = w.heap.size + 2 := by rw [← hW]; simp
 have k4 : W1.frozen? ⟨(w.heap.size + 1), 0, none⟩ = false := by rw [← hW]; exact frozen_new _ _ (by simp)
 rw [hW] at hch ⊢
 have HC : Hd (Caps W1 gr w.heap.size (w.heap.size + 1)) := ⟨⟨k2, ⟨_, k1⟩, k4, by have := HR.out.lt; omega⟩⟩
 have H1 : Hd (Chg [] w W1 ∧ Rr W1 gr A n c at_ fl bs ∧ W1.heap.size = w.heap.size + 2) := ⟨hch, HR.out.keep' hch (by simp), k3⟩
 clear hch hW
 refine (reading_all W1 gr (w.heap.size + 1) n c at_ fl A bs H1.out.2.1 (.int .i64 0) k1 k4 (by have := HR.out.lt; omega) (by omega) 143 (fun _ _ => rfl) _ (KZag) (numF bs at_) 0 (fun _ => rfl) ?_).mono ?_
 ·intro h0 w2 h2
  have hR := H1.out.2.1.keep' h2 (by simp)
  rw [h0] at hR
  exact vaC_any w2 gr w.heap.size (w.heap.size + 1) n c at_ A bs hR (HC.out.keep (h2.mono (by simp)))
 rintro e w2 ⟨rfl, ha⟩
 have HA := Hd.mk ha
 obtain ⟨v, c1, hk⟩ := ha.cell
 have c2 := ha.froz
 unfold KZag at hk
 subst hk
 obtain ⟨X, hX⟩ : ∃ X : Int, unz ((redo (numF bs at_) 0 at_ fl).1 : Int) = X := ⟨_, rfl⟩
 have HX := Hd.mk hX
 rw [hX] at c1
 clear ha k1 k2 k3 k4
 clear hX
 go_wp2_with fail
 have c3 := World.cell?_setCell_same (v := .int .i64 X) w2 ⟨w.heap.size + 1, 0, none⟩ c1
 refine bodyPost_ret (v := .int .i64 X) (by simp [results, Try.results129, go_sem, c3]) rfl ?_
 refine ⟨_, rfl, ?_, ?_, ?_⟩
 ·exact Chg.pop (L := [gr]) (((H1.out.1.mono (by simp)).trans HA.out.ch).setCell (by simp) _) (by omega)
 ·rw [← HX.out]; rfl
 ·exact HA.out.rr.keep' ((Chg.refl [w.heap.size + 1] w2).setCell (by simp) _) (by have := HR.out.lt; simp; omega)
set_option maxHeartbeats 1000000 in
theorem blkC_any (w : World) (gr pr pv pi n c at_ : Nat) (A : Option Addr) (bs : List Nat) (x : Int) (hx : -9223372036854775808 ≤ x ∧ x ≤ 9223372036854775807) (R : Rr w gr A n c at_ 0 bs) (C : Caps w gr pr pv) (ci : w.cell? ⟨pi, 0, none⟩ = some (.int .i64 x)) (hpi : gr < pi ∧ pi < w.heap.size) :
  Calls Try.prog 147 #[.pointer (some ⟨pi, 0, none⟩), .pointer (some ⟨pr, 0, none⟩), .pointer (some ⟨pv, 0, none⟩)] w (Clo w gr pv n c A bs (KOwn (pv + 1)) (blkF bs at_ x)) := by
 have HR : Hd (Rr w gr A n c at_ 0 bs ∧ Caps w gr pr pv ∧ gr < pi ∧ pi < w.heap.size) := ⟨R, C, hpi⟩
 have k1 := C.hr
 have hx1 := hx.1
 have hx2 := hx.2
 clear R C hpi hx
 go_enter Try.func147, Try.ntmps147
 by_cases h0 : 0 ≤ x
 ·have HB : Hd (blkF bs at_ x = blockF bs at_ x.toNat) := ⟨by unfold blkF; rw [if_neg (by omega)]⟩
  go_wp2_with fail
  refine (must_yes _ 2).mono ?_
  rintro e z ⟨rfl, rfl⟩
  go_wp2_with fail
  refine (by have := block_any w gr n c at_ x.toNat A 0 bs HR.out.1 (by omega); rw [show ((x.toNat : Nat) : Int) = x by omega] at this; exact this : Calls Try.prog 149 #[.pointer (some ⟨gr, 0, none⟩), .int .i64 x] w (Gives w gr n c A 0 bs (KCut gr) (blockF bs at_ x.toNat))).mono ?_
  rintro e w1 ⟨hch, hy, hn⟩
  rcases hnum : blockF bs at_ x.toNat with ec | ⟨l, a1⟩
  ·obtain ⟨rfl, at', hr⟩ := hn ec hnum
   have H1 : Hd (Chg [gr] w w1 ∧ Rr w1 gr A n c at' 0 bs ∧ blkF bs at_ x = .error ec) := ⟨hch, hr, HB.out.trans hnum⟩
   clear hch hy hn hnum hr
   unfold giveUp
   go_wp2_with fail
   exact ⟨rfl, Clo.no H1.out.2.2 H1.out.1 H1.out.2.1⟩
  ·obtain ⟨v, rfl, ⟨A1, c1, rfl, hrd, hc1⟩, hr⟩ := hy _ _ hnum
   have hl47 : l.length ≤ 140737488355328 := by have := HR.out.1.le; exact block_len hnum (by have := HR.out.1.len; omega)
   have H1 : Hd (Chg [gr] w w1 ∧ Rr w1 gr A n c a1 0 bs ∧ Caps w1 gr pr pv ∧ blkF bs at_ x = .ok (l, a1)) := ⟨hch, hr, HR.out.2.1.keep hch, HB.out.trans hnum⟩
   have HRD := Hd.mk hrd
   clear hch hy hn hnum hr hrd
   go_wp2_with fail
   refine (clone_any w1 A1 l.length c1 gr l HRD.out hl47 (by have := H1.out.2.1.lt; omega)).mono ?_
   rintro e w2 ⟨v2, rfl, hO⟩
   obtain ⟨A2, c2, rfl, _, _⟩ := own_form hO.own
   have hb := hO.below (B := w1.heap.size) (fun k h => by cases h) (Nat.le_refl _)
   have H2 : Hd (Chg [gr] w w2 ∧ Rr w2 gr A n c a1 0 bs ∧ Caps w2 gr pr pv ∧ w2.ownsRow w1.heap.size 5 1 (.slice A2 l.length c2) l.length (cb l)) :=
    ⟨H1.out.1.trans (Chg.of_below hb), H1.out.2.1.keep' (L := []) (Chg.of_below hb) (by simp), H1.out.2.2.1.keep (Chg.of_below hb), hO.own⟩
   clear hO hb
   obtain ⟨u, d1⟩ := H2.out.2.2.1.hv
   have d2 := H2.out.2.2.1.zv
   go_wp2_with fail
   go_end0
   have hlt := H2.out.2.2.1.lt
   have hp1 : pv < w1.heap.size := H1.out.2.2.1.lt.2.2.1
   refine Clo.yes (a := l) (at' := a1) H1.out.2.2.2 ((H2.out.1.mono (by simp)).setCell (by simp) _) (H2.out.2.1.keep' ((Chg.refl [pv] w2).setCell (by simp) _) (by simp; omega)) (World.cell?_setCell_same _ _ _ d1) (by rw [World.frozen?_setCell]; exact d2) ?_
   exact own_base (ownsRow_setCell_below H2.out.2.2.2 (a := ⟨pv, 0, none⟩) hp1 _) (by omega)
 ·have HB : Hd (blkF bs at_ x = .error 2) := ⟨by unfold blkF; rw [if_pos (by omega)]⟩
  go_wp2_with fail
  refine (must_no _ 2).mono ?_
  rintro e z ⟨he, rfl⟩
  unfold giveUp at he
  subst he
  go_wp2_with fail
  exact ⟨rfl, Clo.no HB.out (Chg.refl _ _) HR.out.1⟩
set_option maxHeartbeats 1000000 in
theorem blk_any (w : World) (gr n c at_ : Nat) (fl : Int) (A : Option Addr) (bs : List Nat) (x : Int) (hx : -9223372036854775808 ≤ x ∧ x ≤ 9223372036854775807) (R : Rr w gr A n c at_ fl bs) :
  Calls Try.prog 131 #[.pointer (some ⟨gr, 0, none⟩), .int .i64 x] w (Ans w gr n c A bs (KOwn w.heap.size) (redo (blkF bs at_ x) [] at_ fl)) := by
 have hmf : ∀ (fn : Fn) (first cap : Array Value) (w : World), (Instr.makeFunc fn first cap).run Try.prog w = .ok (.func fn first cap) w := fun _ _ _ _ => rfl
 have HR := Hd.mk R
 clear R
 go_enter Try.func131, Try.ntmps131
 go_wp2_with fail
 have hch : Chg [] w (((w.alloc (.cells #[.pointer (some ⟨gr, 0, none⟩)] 154)).alloc (.cells #[.int .i64 x] 3)).alloc (.cells #[.slice none 0 0] 26)) := ((((Chg.refl _ _).alloc _).alloc _).alloc _)
 obtain ⟨W1, hW⟩ : ∃ W1, (((w.alloc (.cells #[.pointer (some ⟨gr, 0, none⟩)] 154)).alloc (.cells #[.int .i64 x] 3)).alloc (.cells #[.slice none 0 0] 26)) = W1 := ⟨_, rfl⟩
 have k1 : W1.cell? ⟨(w.heap.size + 2), 0, none⟩ = some (.slice none 0 0) := by rw [← hW]; exact cell_new _ _ (by simp)
 have k2 : W1.cell? ⟨w.heap.size, 0, none⟩ = some (.pointer (some ⟨gr, 0, none⟩)) := by rw [← hW, World.cell?_alloc_lt _ _ _ (by simp; try omega), World.cell?_alloc_lt _ _ _ (by simp; try omega)]; exact cell_new _ _ (by simp)
 have k3 : W1.heap.size = w.heap.size + 3 := by rw [← hW]; simp
 have k4 : W1.frozen? ⟨(w.heap.size + 2), 0, none⟩ = false := by rw [← hW]; exact frozen_new _ _ (by simp)
 have i0 : W1.cell? ⟨w.heap.size + 1, 0, none⟩ = some (.int .i64 x) := by rw [← hW, World.cell?_alloc_lt _ _ _ (by simp; try omega)]; exact cell_new _ _ (by simp)
 rw [hW] at hch ⊢
 have HC : Hd (Caps W1 gr w.heap.size (w.heap.size + 2)) := ⟨⟨k2, ⟨_, k1⟩, k4, by have := HR.out.lt; omega⟩⟩
 have H1 : Hd (Chg [] w W1 ∧ Rr W1 gr A n c at_ fl bs ∧ W1.heap.size = w.heap.size + 3) := ⟨hch, HR.out.keep' hch (by simp), k3⟩
 clear hch hW
 refine (reading_all W1 gr (w.heap.size + 2) n c at_ fl A bs H1.out.2.1 (.slice none 0 0) k1 k4 (by have := HR.out.lt; omega) (by omega) 147 (fun _ _ => rfl) _ (KOwn (w.heap.size + 2 + 1)) (blkF bs at_ x) [] (fun _ => KOwn.nil _ _) ?_).mono ?_
 ·intro h0 w2 h2
  have hR := H1.out.2.1.keep' h2 (by simp)
  rw [h0] at hR
  exact blkC_any w2 gr w.heap.size (w.heap.size + 2) (w.heap.size + 1) n c at_ A bs x hx hR (HC.out.keep (h2.mono (by simp))) ((h2.cell (p := ⟨w.heap.size + 1, 0, none⟩) (by show w.heap.size + 1 < _; omega) (by simp)).trans i0) (by have := HR.out.lt; have := h2.size; omega)
 rintro e w2 ⟨rfl, ha⟩
 have HA := Hd.mk ha
 obtain ⟨v, c1, hk⟩ := ha.cell
 have c2 := ha.froz
 unfold KOwn at hk
 obtain ⟨A2, c3, rfl, _, _⟩ := own_form hk
 have HK := Hd.mk hk
 obtain ⟨L, hL⟩ : ∃ L, (redo (blkF bs at_ x) [] at_ fl).1.length = L := ⟨_, rfl⟩
 have HL := Hd.mk hL
 rw [hL] at c1
 clear ha k1 k2 k3 k4 i0
 clear hL hk
 go_wp2_with fail
 have c4 := World.cell?_setCell_same (v := .slice A2 L c3) w2 ⟨w.heap.size + 2, 0, none⟩ c1
 refine bodyPost_ret (v := .slice A2 L c3) (by simp [results, Try.results131, go_sem, c4]) rfl ?_
 refine ⟨_, rfl, ?_, ?_, ?_⟩
 ·exact Chg.pop (L := [gr]) (((H1.out.1.mono (by simp)).trans HA.out.ch).setCell (by simp) _) (by omega)
 ·have := HK.out; rw [HL.out] at this; unfold KOwn; rw [HL.out]; exact own_base (ownsRow_setCell_below this (a := ⟨w.heap.size + 2, 0, none⟩) (Nat.lt_succ_self _) _) (by omega)
 ·exact HA.out.rr.keep' ((Chg.refl [w.heap.size + 2] w2).setCell (by simp) _) (by have := HR.out.lt; simp; omega)
end Go.Proofs.Ytbcmjjcbjojakaa
end
section
namespace Go.Proofs.Ytbcmjjcbjojakaa
open Go.RowKit
set_option linter.unusedVariables false
set_option maxRecDepth 20000
theorem left_any (w : World) (gr n c at_ : Nat) (fl : Int) (A : Option Addr) (bs : List Nat) (R : Rr w gr A n c at_ fl bs) :
  Calls Try.prog 146 #[.pointer (some ⟨gr, 0, none⟩)] w fun e w' => e = .returned (.int .i64 ((n - at_ : Nat) : Int)) ∧ Chg [] w w' := by
 have g0 := R.c0
 have g1 := R.c1
 obtain ⟨l1, l2, l3⟩ := R.le
 obtain ⟨AT, hAT⟩ : ∃ AT : Int, (at_ : Int) = AT := ⟨_, rfl⟩
 obtain ⟨N, hN⟩ : ∃ N : Int, (n : Int) = N := ⟨_, rfl⟩
 have w1 : IntKind.i64.wrap (N - AT) = N - AT := by rw [IntKind.wrap_i64]; omega
 have e1 : ((n - at_ : Nat) : Int) = N - AT := by omega
 rw [hAT] at g1
 rw [e1]
 clear R l1 l2 l3 hAT e1
 go_enter Try.func146, Try.ntmps146
 go_wp2_with fail
 go_quiet (fail)
 go_wp2_with fail
 go_ret
 exact ⟨rfl, (Chg.refl _ _).drewN _⟩
theorem fault_any (w : World) (gr n c at_ : Nat) (fl : Int) (A : Option Addr) (bs : List Nat) (R : Rr w gr A n c at_ fl bs) :
  Calls Try.prog 145 #[.pointer (some ⟨gr, 0, none⟩)] w fun e w' => e = .returned (.int .i64 fl) ∧ w = w' := by
 have g2 := R.c2
 clear R
 go_enter Try.func145, Try.ntmps145
 go_wp2_with fail
 go_ret
 exact ⟨rfl, rfl⟩
/-- What End answers. -/
def endF (n at_ : Nat) (fl : Int) : Int := if fl ≠ 0 then fl else if n - at_ = 0 then 0 else 72
theorem end_any (w : World) (gr n c at_ : Nat) (fl : Int) (A : Option Addr) (bs : List Nat) (R : Rr w gr A n c at_ fl bs) :
  Calls Try.prog 130 #[.pointer (some ⟨gr, 0, none⟩)] w fun e w' => e = .returned (.int .i64 (endF n at_ fl)) ∧ Chg [] w w' := by
 have HR := Hd.mk R
 clear R
 go_enter Try.func130, Try.ntmps130
 go_wp2_with fail
 refine (fault_any w gr n c at_ fl A bs HR.out).mono ?_
 rintro e z ⟨rfl, rfl⟩
 by_cases h0 : fl = 0
 ·subst h0
  go_wp2_with fail
  refine (left_any w gr n c at_ 0 A bs HR.out).mono ?_
  rintro e w1 ⟨rfl, hch⟩
  have H1 := Hd.mk hch
  clear hch
  by_cases hz : n - at_ = 0
  ·rw [hz]
   go_wp2_with fail
   go_ret
   exact ⟨by unfold endF; rw [if_neg (by simp), if_pos hz]; rfl, H1.out⟩
  ·have hz' : (((n - at_ : Nat) : Int) == 0) = false := by simp; omega
   have HZ := Hd.mk hz
   clear hz
   go_wp2_with fail
   go_ret
   exact ⟨by unfold endF; rw [if_neg (by simp), if_neg HZ.out]; rfl, H1.out⟩
 ·have h0' : (fl != 0) = true := by simp [h0]
  have HZ := Hd.mk h0
  clear h0
  go_wp2_with fail
  go_ret
  exact ⟨by unfold endF; rw [if_pos HZ.out]; rfl, Chg.refl _ _⟩
theorem open_any (w : World) (A : Option Addr) (n c B : Nat) (bs : List Nat) (hr : Rd w B A n (cb bs)) (hB : B ≤ w.heap.size) (hn : n ≤ 4398046511104) (hb : ∀ x ∈ bs, x < 256) :
  Calls Try.prog 112 #[.slice A n c] w fun e w' => ∃ gr A' c', e = .returned (.pointer (some ⟨gr, 0, none⟩)) ∧ Chg [] w w' ∧ Rr w' gr A' n c' 0 0 bs ∧ w.heap.size ≤ gr ∧ (∀ g off, A' = some ⟨g, off, none⟩ → 0 < n → w.heap.size ≤ g) := by
 have HR : Hd (Rd w B A n (cb bs) ∧ B ≤ w.heap.size ∧ n ≤ 4398046511104 ∧ ∀ x ∈ bs, x < 256) := ⟨hr, hB, hn, hb⟩
 clear hr hB hn hb
 go_enter Try.func112, Try.ntmps112
 go_wp2_with fail
 refine (clone_any w A n c B bs HR.out.1 (by have := HR.out.2.2.1; omega) HR.out.2.1).mono ?_
 rintro e w1 ⟨v1, rfl, hO⟩
 obtain ⟨A1, c1, rfl, hc1, hm1⟩ := own_form hO.own
 have H1 : Hd (Onto w w1 w.heap.size 5 (.slice none 0 0) (.slice A1 n c1) n (cb bs) ∧ n ≤ c1) := ⟨hO, hc1⟩
 clear hO hc1 hm1
 go_wp2_with fail
 go_ret
 have hbl := H1.out.1.below (B := w.heap.size) (fun k h => by cases h) (Nat.le_refl _)
 refine ⟨w1.heap.size, A1, c1, rfl, (Chg.of_below hbl).alloc _, ?_, hbl.size, ?_⟩
 ·refine ⟨by simp, by simp, by simp, by simp, by simp, ?_, ⟨Nat.zero_le _, H1.out.2, HR.out.2.2.1⟩, by simp, HR.out.2.2.2⟩
  exact (Rd.of_own H1.out.1.own).alloc (Nat.le_refl _) _
 ·intro g off he hn
  subst he
  obtain ⟨g', cap, hv, hg1, _⟩ := own_pos H1.out.1.own hn
  injection hv with hv
  injection hv with hv
  injection hv with hv
  omega
end Go.Proofs.Ytbcmjjcbjojakaa
end
section
namespace Go.Proofs.Ytbcmjjcbjojakaa
open Go.RowKit
set_option linter.unusedVariables false
set_option maxRecDepth 20000
/-- The text of these bytes. -/
def tx1 (l : List Nat) : ByteArray := strOfNums (l.map Int.ofNat)
def KTxt (base : Nat) (v : Value) (a : List (List Nat)) (w : World) : Prop := w.ownsRow base 9 1 v a.length (cs (a.map tx1))
theorem KTxt.nil (base : Nat) (w : World) : KTxt base (.slice none 0 0) [] w := World.ownsRow_nil ..
theorem rowsF_len (bs : List Nat) (each : Nat) : ∀ (k a : Nat) (l : List (List Nat)) (a2 : Nat), a ≤ bs.length → (∀ y ∈ bs, y < 256) → rowsF bs each k a = .ok (l, a2) → l.length = k ∧ a + k ≤ a2 ∧ a2 ≤ bs.length := by
 intro k
 induction k with
 | zero => intro a l a2 ha _ h; unfold rowsF at h; cases h; exact ⟨rfl, by omega, ha⟩
 | succ k ih =>
  intro a l a2 ha hb h
  unfold rowsF at h
  split at h
  ·cases h
  ·rename_i b a1 hbk
   split at h
   ·cases h
   ·rename_i l2 a3 hrk
    cases h
    have h1 : a < a1 ∧ a1 ≤ bs.length := by
     unfold blockF at hbk
     split at hbk
     ·rename_i x ax hx
      have h2 := numF_hi bs a x ax hb hx
      split at hbk
      ·unfold takeF at hbk
       split at hbk
       ·cases hbk; have := h2.2.2 ha; omega
       ·cases hbk
      ·cases hbk
     ·cases hbk
    obtain ⟨i1, i2, i3⟩ := ih a1 l2 a2 h1.2 hb hrk
    exact ⟨by simp [i1], by omega, i3⟩
theorem Chg.then_below {L : List Nat} {w w1 w2 : World} (h : Chg L w w1) (b : Below w.heap.size w1 w2) : Chg L w w2 :=
 ⟨b.os.trans h.os, b.tape.trans h.tape, b.output.trans h.output, Nat.le_trans h.size b.size, fun k hk hn => (b.block k hk).trans (h.block k hk hn)⟩
theorem Rr.below {w w1 : World} {B gr n c at_ : Nat} {A : Option Addr} {fl : Int} {bs : List Nat} (R : Rr w gr A n c at_ fl bs) (b : Below B w w1) (hg : gr < B) : Rr w1 gr A n c at_ fl bs where
 c0 := (b.cell (p := ⟨gr, 0, none⟩) hg).trans R.c0
 c1 := (b.cell (p := ⟨gr, 1, none⟩) hg).trans R.c1
 c2 := (b.cell (p := ⟨gr, 2, none⟩) hg).trans R.c2
 z1 := (b.frozen (p := ⟨gr, 1, none⟩) hg).trans R.z1
 z2 := (b.frozen (p := ⟨gr, 2, none⟩) hg).trans R.z2
 rd := R.rd.below (b.mono (Nat.le_of_lt hg))
 le := R.le
 lt := Nat.lt_of_lt_of_le R.lt b.size
 lb := R.lb
set_option maxHeartbeats 4000000 in
theorem textsC_any (w : World) (gr pr pv pm pe n c at_ : Nat) (A : Option Addr) (bs : List Nat) (x y : Int) (hx : -9223372036854775808 ≤ x ∧ x ≤ 9223372036854775807) (hy : -9223372036854775808 ≤ y ∧ y ≤ 9223372036854775807) (R : Rr w gr A n c at_ 0 bs) (C : Caps w gr pr pv)
  (cm : w.cell? ⟨pm, 0, none⟩ = some (.int .i64 x)) (hpm : gr < pm ∧ pm < w.heap.size) (ce : w.cell? ⟨pe, 0, none⟩ = some (.int .i64 y)) (hpe : gr < pe ∧ pe < w.heap.size) :
  Calls Try.prog 150 #[.pointer (some ⟨pm, 0, none⟩), .pointer (some ⟨pe, 0, none⟩), .pointer (some ⟨pr, 0, none⟩), .pointer (some ⟨pv, 0, none⟩)] w (Clo w gr pv n c A bs (KTxt (pv + 1)) (textsF bs at_ x y)) := by
 have HR : Hd (Rr w gr A n c at_ 0 bs ∧ Caps w gr pr pv ∧ (gr < pm ∧ pm < w.heap.size) ∧ (gr < pe ∧ pe < w.heap.size)) := ⟨R, C, hpm, hpe⟩
 have HC : Hd (w.cell? ⟨pm, 0, none⟩ = some (.int .i64 x) ∧ w.cell? ⟨pe, 0, none⟩ = some (.int .i64 y)) := ⟨cm, ce⟩
 have k1 := C.hr
 have hx1 := hx.1
 have hx2 := hx.2
 have hy1 := hy.1
 have hy2 := hy.2
 clear R C hpm hpe hx hy
 go_enter Try.func150, Try.ntmps150
 by_cases h0 : 0 ≤ x ∧ 0 ≤ y
 ·have h01 := h0.1
  have h02 := h0.2
  clear h0
  go_wp2_with fail
  refine (must_yes _ 2).mono ?_
  rintro e z ⟨rfl, rfl⟩
  go_wp2_with fail
  refine (number_any w gr n c at_ A 0 bs HR.out.1).mono ?_
  rintro e w1 ⟨hch, hyy, hn⟩
  rcases hnum : numF bs at_ with ec | ⟨k, a1⟩
  ·obtain ⟨rfl, at', hr⟩ := hn ec hnum
   have H1 : Hd (Chg [gr] w w1 ∧ Rr w1 gr A n c at' 0 bs ∧ textsF bs at_ x y = .error ec) := ⟨hch, hr, by unfold textsF; rw [if_neg (by omega), hnum]⟩
   clear hch hyy hn hnum hr
   unfold giveUp
   go_wp2_with fail
   exact ⟨rfl, Clo.no H1.out.2.2 H1.out.1 H1.out.2.1⟩
  ·obtain ⟨v, rfl, hk, hr⟩ := hyy _ _ hnum
   unfold KNum at hk
   subst hk
   have hxx := numF_hi bs at_ k a1 HR.out.1.lb hnum
   have cm : w1.cell? ⟨pm, 0, none⟩ = some (.int .i64 x) := (hch.cell (p := ⟨pm, 0, none⟩) HR.out.2.2.1.2 (by have := HR.out.2.2.1; simp; omega)).trans HC.out.1
   have ce : w1.cell? ⟨pe, 0, none⟩ = some (.int .i64 y) := (hch.cell (p := ⟨pe, 0, none⟩) HR.out.2.2.2.2 (by have := HR.out.2.2.2; simp; omega)).trans HC.out.2
   have H1 : Hd (Chg [gr] w w1 ∧ Rr w1 gr A n c a1 0 bs ∧ Caps w1 gr pr pv ∧ numF bs at_ = .ok (k, a1) ∧ w1.cell? ⟨pe, 0, none⟩ = some (.int .i64 y)) := ⟨hch, hr, HR.out.2.1.keep hch, hnum, ce⟩
   have k1 := H1.out.2.2.1.hr
   obtain ⟨X, hX⟩ : ∃ X : Int, (k : Int) = X := ⟨_, rfl⟩
   have x1 : 0 ≤ X := by omega
   have x2 : X ≤ 18446744073709551615 := by omega
   have HX := Hd.mk hX
   rw [hX]
   clear hch hyy hn hnum hr hxx hX
   by_cases hle : X ≤ x
   ·have HB : Hd (textsF bs at_ x y = rowsF bs y.toNat k a1) := ⟨by unfold textsF; rw [if_neg (by omega), H1.out.2.2.2.1]; simp only; rw [if_pos (by have := HX.out; omega)]⟩
    go_wp2_with fail
    refine (must_yes _ 71).mono ?_
    rintro e z ⟨rfl, rfl⟩
    clear cm
    go_wp2_with fail
    go_loopw [5, 21] (fun s i wr => ∃ (j a : Nat) (l : List (List Nat)), i = .int .u64 (j : Int) ∧ (j : Int) ≤ X ∧ Chg [gr] w1 wr ∧ Rr wr gr A n c a 0 bs ∧ wr.ownsRow w1.heap.size 9 1 s j (cs (l.map tx1)) ∧ l.length = j ∧ a1 + j ≤ a ∧
     (match rowsF bs y.toNat (k - j) a with | .ok (l2, a2) => Except.ok (l ++ l2, a2) | .error e => .error e) = rowsF bs y.toNat k a1) (fun _ i _ => k - (intOf i).toNat)
    case atStart =>
     refine ⟨0, a1, [], rfl, by omega, Chg.refl _ _, H1.out.2.1, World.ownsRow_nil .., rfl, by omega, ?_⟩
     rw [Nat.sub_zero]
     rcases rowsF bs y.toNat k a1 with e | ⟨l2, a2⟩ <;> rfl
    case round =>
     obtain ⟨j, a, l, rfl, hj, hch, hr, ho, hll, haj, hrow⟩ := hrel
     have ck : Caps wr gr pr pv := H1.out.2.2.1.keep hch
     have k1 := ck.hr
     have ce : wr.cell? ⟨pe, 0, none⟩ = some (.int .i64 y) := (hch.cell (p := ⟨pe, 0, none⟩) (Nat.lt_of_lt_of_le HR.out.2.2.2.2 H1.out.1.size) (by have := HR.out.2.2.2; simp; omega)).trans H1.out.2.2.2.2
     have hgr : gr < w1.heap.size := H1.out.2.1.lt
     have H2 : Hd (Chg [gr] w1 wr ∧ Rr wr gr A n c a 0 bs ∧ wr.ownsRow w1.heap.size 9 1 u5 j (cs (l.map tx1)) ∧ l.length = j ∧ a1 + j ≤ a ∧ (match rowsF bs y.toNat (k - j) a with | .ok (l2, a2) => Except.ok (l ++ l2, a2) | .error e => .error e) = rowsF bs y.toNat k a1 ∧ w1.heap.size ≤ wr.heap.size ∧ gr < w1.heap.size) := ⟨hch, hr, ho, hll, haj, hrow, hch.size, hgr⟩
     have hjn : j ≤ 4398046511104 := by have := hr.le; omega
     clear hch hr ho hll haj hrow ck hgr
     by_cases hlt : (j : Int) < X
     ·go_wp2_with fail
      refine (by have := block_any wr gr n c a y.toNat A 0 bs H2.out.2.1 (by omega); rw [show ((y.toNat : Nat) : Int) = y by omega] at this; exact this : Calls Try.prog 149 #[.pointer (some ⟨gr, 0, none⟩), .int .i64 y] wr (Gives wr gr n c A 0 bs (KCut gr) (blockF bs a y.toNat))).mono ?_
      rintro e w2 ⟨hch, hyy, hn⟩
      obtain ⟨q, hq⟩ : ∃ q, k - j = q + 1 := ⟨k - j - 1, by have := HX.out; omega⟩
      rcases hbk : blockF bs a y.toNat with ec | ⟨b, a2⟩
      ·obtain ⟨rfl, at', hr⟩ := hn ec hbk
       have H3 : Hd (Chg [gr] w w2 ∧ Rr w2 gr A n c at' 0 bs ∧ textsF bs at_ x y = .error ec) := ⟨(H1.out.1.trans H2.out.1).trans hch, hr, by
        rw [HB.out, ← H2.out.2.2.2.2.2.1, hq, rowsF, hbk]⟩
       clear hch hyy hn hbk hr
       unfold giveUp
       go_wp2_with fail
       exact ⟨rfl, Clo.no H3.out.2.2 H3.out.1 H3.out.2.1⟩
      ·obtain ⟨v, rfl, ⟨A1, c1, rfl, hrd, hc1⟩, hr⟩ := hyy _ _ hbk
       have ho := hch.own H2.out.2.2.1 (fun g hg => by have := (H2.out.2.2.1.lt g hg).1; have := H2.out.2.2.2.2.2.2.2; simp; omega)
       have hcv : ∀ w3, w3 = w2 → (convert 26 9 (.slice A1 b.length c1)).run Try.prog w3 = .ok (.string (tx1 b)) w3 := fun w3 he => by
        subst he
        rw [cb_ints] at hrd
        exact run_conv_str 26 9 5 Try.underlying26 Try.underlying5 infoStr c1 hrd
       have hcv := hcv w2 rfl
       have ha2 : a < a2 ∧ a2 ≤ n := by
        have h1 := rowsF_len bs y.toNat 1 a [b] a2 (by have := H2.out.2.1.len; have := H2.out.2.1.le; omega) H2.out.2.1.lb (by rw [rowsF, hbk]; rfl)
        have := H2.out.2.1.len
        omega
       have H3 : Hd (Chg [gr] w1 w2 ∧ Rr w2 gr A n c a2 0 bs ∧ w2.ownsRow w1.heap.size 9 1 u5 j (cs (l.map tx1)) ∧ (match rowsF bs y.toNat q a2 with | .ok (l2, a2) => Except.ok ((l ++ [b]) ++ l2, a2) | .error e => .error e) = rowsF bs y.toNat k a1 ∧ w1.heap.size ≤ w2.heap.size ∧ a < a2) :=
        ⟨H2.out.1.trans hch, hr, ho, by
         rw [← H2.out.2.2.2.2.2.1, hq, rowsF, hbk]
         simp only
         rcases rowsF bs y.toNat q a2 with e | ⟨l2, a3⟩
         ·rfl
         ·simp, Nat.le_trans H2.out.2.2.2.2.2.2.1 hch.size, ha2.1⟩
       have h63 : Hd (j + 1 ≤ maxLen) := ⟨by unfold maxLen; omega⟩
       have hby : Hd ((j + 1) * 16 ≤ 140737488355328) := ⟨by omega⟩
       clear hch hyy hn hbk hr hrd hc1 ho ha2
       go_wp2_with (refine wpList_push elS rfl rfl (.tmp 23) (.tmp 27) 28 rfl rfl rfl w1.heap.size u5 _ _ _ rfl rfl rfl rfl H3.out.2.2.1 h63.out hby.out H3.out.2.2.2.2.1 ?_; intro v2 w3 hO2)
       have hbl := hO2.below (B := w1.heap.size) (fun g hg => (H3.out.2.2.1.lt g hg).1) H3.out.2.2.2.2.1
       go_roundw
       case rel =>
        refine ⟨j + 1, a2, l ++ [b], by go_num, by omega, ?_, ?_, ?_, by rw [List.length_append, H2.out.2.2.2.1]; rfl, by have := H2.out.2.2.2.2.1; have := H3.out.2.2.2.2.2; omega, ?_⟩
        ·exact H3.out.1.then_below hbl
        ·exact H3.out.2.1.below hbl H2.out.2.2.2.2.2.2.2
        ·rw [List.map_append, cs_append]; exact hO2.own
        ·rw [show k - (j + 1) = q by omega]; exact H3.out.2.2.2.1
       case measure => simp [intOf]; have := HX.out; omega
     ·have hkj : k = j := by have := HX.out; omega
      obtain ⟨A2, c2, rfl, _, _⟩ := own_form H2.out.2.2.1
      have H4 : Hd (textsF bs at_ x y = .ok (l, a) ∧ Caps wr gr pr pv ∧ pv < w1.heap.size) := ⟨by
       rw [HB.out, ← H2.out.2.2.2.2.2.1, hkj, Nat.sub_self, rowsF]; simp, H1.out.2.2.1.keep H2.out.1, H1.out.2.2.1.lt.2.2.1⟩
      obtain ⟨u, d1⟩ := H4.out.2.1.hv
      have d2 := H4.out.2.1.zv
      have hX2 : X = (j : Int) := by omega
      subst hX2
      clear hkj hlt hj
      go_wp2_with fail
      go_end0
      refine Clo.yes (a := l) (at' := a) H4.out.1 (((H1.out.1.trans H2.out.1).mono (by simp)).setCell (by simp) _) (H2.out.2.1.keep' ((Chg.refl [pv] wr).setCell (by simp) _) (by have := HR.out.2.1.lt; simp; omega)) (World.cell?_setCell_same _ _ _ d1) (by rw [World.frozen?_setCell]; exact d2) ?_
      unfold KTxt
      rw [H2.out.2.2.2.1]
      exact own_base (ownsRow_setCell_below H2.out.2.2.1 (a := ⟨pv, 0, none⟩) H4.out.2.2 _) (by have := H4.out.2.2; omega)
   ·go_wp2_with fail
    rw [show decide (X ≤ x) = false from by simp; omega]
    refine (must_no _ 71).mono ?_
    rintro e z ⟨he, rfl⟩
    unfold giveUp at he
    subst he
    go_wp2_with fail
    refine ⟨rfl, Clo.no ?_ H1.out.1 H1.out.2.1⟩
    unfold textsF
    rw [if_neg (by omega), H1.out.2.2.2.1]
    simp only
    rw [if_neg (by have := HX.out; omega)]
 ·have HB : Hd (textsF bs at_ x y = .error 2) := ⟨by unfold textsF; rw [if_pos (by omega)]⟩
  have cm := HC.out.1
  have ce := HC.out.2
  by_cases hx0 : 0 ≤ x
  ·have hy0 : ¬ 0 ≤ y := by omega
   have HH := Hd.mk h0
   clear h0
   go_wp2_with fail
   refine (must_no _ 2).mono ?_
   rintro e z ⟨he, rfl⟩
   unfold giveUp at he
   subst he
   go_wp2_with fail
   exact ⟨rfl, Clo.no HB.out (Chg.refl _ _) HR.out.1⟩
  ·have HH := Hd.mk h0
   clear h0
   go_wp2_with fail
   refine (must_no _ 2).mono ?_
   rintro e z ⟨he, rfl⟩
   unfold giveUp at he
   subst he
   go_wp2_with fail
   exact ⟨rfl, Clo.no HB.out (Chg.refl _ _) HR.out.1⟩
end Go.Proofs.Ytbcmjjcbjojakaa
end
section
namespace Go.Proofs.Ytbcmjjcbjojakaa
open Go.RowKit
set_option linter.unusedVariables false
/-- What a call tells: a number, bytes, texts. -/
structure Tld where
 U : Int
 B : List Nat
 T : List (List Nat)
def numT (r : Nat × Nat × Int) : Tld × Nat × Int := (⟨(r.1 : Int), [], []⟩, r.2)
def zagT (r : Nat × Nat × Int) : Tld × Nat × Int := (⟨IntKind.u64.wrap (unz (r.1 : Int)), [], []⟩, r.2)
def bytT (r : List Nat × Nat × Int) : Tld × Nat × Int := (⟨0, r.1, []⟩, r.2)
def txtT (r : List (List Nat) × Nat × Int) : Tld × Nat × Int := (⟨0, [], r.1⟩, r.2)
def askF (bs : List Nat) (at_ : Nat) (fl : Int) (N E : Int) : Nat → Tld × Nat × Int
 | 0 => numT (redo (fixF bs at_ 1) 0 at_ fl)
 | 1 => numT (redo (fixF bs at_ 2) 0 at_ fl)
 | 2 => numT (redo (fixF bs at_ 4) 0 at_ fl)
 | 3 => numT (redo (fixF bs at_ 8) 0 at_ fl)
 | 4 => numT (redo (fixF bs at_ 2) 0 at_ fl)
 | 5 => numT (redo (numF bs at_) 0 at_ fl)
 | 6 => zagT (redo (numF bs at_) 0 at_ fl)
 | 7 => bytT (redo (bytesF bs at_ N) [] at_ fl)
 | 8 => bytT (redo (blkF bs at_ N) [] at_ fl)
 | 9 => txtT (redo (textsF bs at_ N E) [] at_ fl)
 | 10 => (⟨((bs.length - at_ : Nat) : Int), [], []⟩, at_, fl)
 | 11 => (⟨fl, [], []⟩, at_, fl)
 | _ => (⟨endF bs.length at_ fl, [], []⟩, at_, fl)
/-- What is told of no reader. -/
def noneF : Nat → Tld
 | 11 => ⟨1, [], []⟩
 | 12 => ⟨1, [], []⟩
 | _ => ⟨0, [], []⟩
/-- A fault's number. -/
def Bad (e : Int) : Prop := e = 2 ∨ e = 70 ∨ e = 71
/-- A reading that goes well goes on, within the bytes; one that does not tells a fault. -/
def Well {α : Type} (bs : List Nat) (at_ : Nat) (o : Except Int (α × Nat)) : Prop :=
 match o with
 | .ok (_, a) => at_ ≤ a ∧ a ≤ bs.length
 | .error e => Bad e
theorem numR_err : ∀ (l : List Nat) (i v : Nat) (e : Int), numR l i v = .error e → Bad e
 | [], _, _, e, h => by cases h; exact .inr (.inl rfl)
 | c :: l, i, v, e, h => by
  unfold numR at h
  split at h
  ·cases h; exact .inr (.inr rfl)
  ·split at h
   ·split at h
    ·cases h; exact .inr (.inr rfl)
    ·cases h
   ·exact numR_err l _ _ e h
variable {bs : List Nat} {at_ : Nat}
theorem well_num (hb : ∀ y ∈ bs, y < 256) (ha : at_ ≤ bs.length) : Well bs at_ (numF bs at_) := by
 rcases h : numF bs at_ with e | ⟨x, a⟩
 ·unfold numF at h
  split at h
  ·cases h
  ·rename_i e' h'
   cases h
   exact numR_err _ _ _ _ h'
 ·have := numF_hi bs at_ x a hb h
  exact ⟨by omega, this.2.2 ha⟩
theorem well_take (k : Nat) (ha : at_ ≤ bs.length) : Well bs at_ (takeF bs at_ k) := by
 unfold takeF
 split
 ·exact ⟨by omega, by omega⟩
 ·exact .inr (.inl rfl)
theorem well_fix (k : Nat) (ha : at_ ≤ bs.length) : Well bs at_ (fixF bs at_ k) := by
 have := well_take k ha
 unfold fixF
 rcases h : takeF bs at_ k with e | ⟨x, a⟩ <;> rw [h] at this <;> exact this
theorem well_block (most : Nat) (hb : ∀ y ∈ bs, y < 256) (ha : at_ ≤ bs.length) : Well bs at_ (blockF bs at_ most) := by
 have h1 := well_num hb ha
 unfold blockF
 rcases h : numF bs at_ with e | ⟨x, a⟩ <;> rw [h] at h1
 ·exact h1
 ·simp only
  split
  ·have h2 := well_take (bs := bs) x h1.2
   rcases h3 : takeF bs a x with e | ⟨y, a2⟩ <;> rw [h3] at h2
   ·exact h2
   ·exact ⟨Nat.le_trans h1.1 h2.1, h2.2⟩
  ·exact .inr (.inr rfl)
theorem well_blk (most : Int) (hb : ∀ y ∈ bs, y < 256) (ha : at_ ≤ bs.length) : Well bs at_ (blkF bs at_ most) := by
 unfold blkF
 split
 ·exact .inl rfl
 ·exact well_block _ hb ha
theorem well_rows (each : Nat) (hb : ∀ y ∈ bs, y < 256) : ∀ (k at_ : Nat), at_ ≤ bs.length → Well bs at_ (rowsF bs each k at_)
 | 0, a, ha => ⟨Nat.le_refl _, ha⟩
 | k + 1, a, ha => by
  have h1 := well_block each hb ha
  unfold rowsF
  rcases h : blockF bs a each with e | ⟨x, a1⟩ <;> rw [h] at h1
  ·exact h1
  ·simp only
   have h2 := well_rows each hb k a1 h1.2
   rcases h3 : rowsF bs each k a1 with e | ⟨y, a2⟩ <;> rw [h3] at h2
   ·exact h2
   ·exact ⟨Nat.le_trans h1.1 h2.1, h2.2⟩
theorem well_texts (most each : Int) (hb : ∀ y ∈ bs, y < 256) (ha : at_ ≤ bs.length) : Well bs at_ (textsF bs at_ most each) := by
 have h1 := well_num hb ha
 unfold textsF
 split
 ·exact .inl rfl
 rcases h : numF bs at_ with e | ⟨x, a⟩ <;> rw [h] at h1
 ·exact h1
 ·simp only
  split
  ·have h2 := well_rows each.toNat hb x a h1.2
   rcases h3 : rowsF bs each.toNat x a with e | ⟨y, a2⟩ <;> rw [h3] at h2
   ·exact h2
   ·exact ⟨Nat.le_trans h1.1 h2.1, h2.2⟩
  ·exact .inr (.inr rfl)
/-- What a reading comes to. -/
theorem redo_well {α : Type} {o : Except Int (α × Nat)} (z : α) (fl : Int) (h : Well bs at_ o) (ha : at_ ≤ bs.length) :
  (fl ≠ 0 ∧ redo o z at_ fl = (z, at_, fl)) ∨ (fl = 0 ∧ ∃ e, Bad e ∧ redo o z at_ fl = (z, at_, e)) ∨ (fl = 0 ∧ ∃ a at', o = .ok (a, at') ∧ redo o z at_ fl = (a, at', 0) ∧ at_ ≤ at' ∧ at' ≤ bs.length) := by
 unfold redo
 by_cases h0 : fl = 0
 ·rw [if_pos h0]
  rcases ho : o with e | ⟨a, at'⟩ <;> rw [ho] at h
  ·exact .inr (.inl ⟨h0, e, h, rfl⟩)
  ·exact .inr (.inr ⟨h0, a, at', rfl, rfl, h.1, h.2⟩)
 ·rw [if_neg h0]; exact .inl ⟨h0, rfl⟩
def zeroT : Tld := ⟨0, [], []⟩
end Go.Proofs.Ytbcmjjcbjojakaa
end
section
namespace Go.Proofs.Ytbcmjjcbjojakaa
open Go.RowKit
set_option linter.unusedVariables false
/-! the groups of a number -/
theorem numR_form : ∀ (l : List Nat) (i v0 x m : Nat), i ≤ 9 → (∀ y ∈ l, y < 256) → numR l i v0 = .ok (x, m) → ∃ y, x = v0 + y * 2 ^ (7 * i) ∧ l.take (m - i) = uvf (9 - i) y ∧ (i = 0 ∨ y ≠ 0) ∧ i < m
 | [], _, _, _, _, _, _, h => by cases h
 | c :: l, i, v0, x, m, hi, hl, h => by
  have hc := hl c (by simp)
  unfold numR at h
  split at h
  ·cases h
  rename_i hbad
  split at h
  ·rename_i hlt
   split at h
   ·cases h
   rename_i h0
   cases h
   refine ⟨c, by rw [show c % 128 = c by omega], ?_, by omega, by omega⟩
   rw [show i + 1 - i = 1 by omega, List.take_succ_cons, List.take_zero]
   rcases Nat.eq_zero_or_pos (9 - i) with h9 | h9
   ·rw [h9]; rfl
   ·obtain ⟨q, hq⟩ : ∃ q, 9 - i = q + 1 := ⟨9 - i - 1, by omega⟩
    rw [hq]; unfold uvf; rw [if_pos hlt]
  ·rename_i hge
   obtain ⟨y, hx, ht, hy, hm⟩ := numR_form l (i + 1) _ x m (by omega) (fun y hy => hl y (by simp [hy])) h
   have hy0 : y ≠ 0 := by omega
   refine ⟨c % 128 + y * 128, ?_, ?_, .inr (by omega), by omega⟩
   ·rw [hx, show 7 * (i + 1) = 7 + 7 * i by omega, Nat.pow_add, Nat.add_mul, Nat.mul_assoc, Nat.add_assoc]
   ·obtain ⟨q, hq⟩ : ∃ q, 9 - i = q + 1 := ⟨9 - i - 1, by omega⟩
    rw [hq, show m - i = (m - (i + 1)) + 1 by omega, List.take_succ_cons, ht, show 9 - (i + 1) = q by omega]
    conv => rhs; unfold uvf
    rw [if_neg (by omega), show (c % 128 + y * 128) / 128 = y by omega, show (c % 128 + y * 128) % 128 + 128 = c by omega]
/-! a number at a place -/
theorem numF_form (bs : List Nat) (at_ x a : Nat) (hb : ∀ y ∈ bs, y < 256) (h : numF bs at_ = .ok (x, a)) : (bs.drop at_).take (a - at_) = uv x ∧ at_ < a := by
 unfold numF at h
 split at h
 ·rename_i v m hr
  cases h
  obtain ⟨y, hx, ht, _, hm⟩ := numR_form _ 0 0 _ _ (by omega) (fun y hy => hb y (List.mem_of_mem_drop hy)) hr
  have : x = y := by rw [hx]; simp
  subst this
  rw [show at_ + m - at_ = m - 0 by omega, ht]
  exact ⟨rfl, by omega⟩
 ·cases h
/-! bytes -/
theorem takeF_form (bs : List Nat) (at_ k a : Nat) (l : List Nat) (h : takeF bs at_ k = .ok (l, a)) : l = (bs.drop at_).take k ∧ a = at_ + k ∧ (k = 0 ∨ at_ + k ≤ bs.length) ∧ l.length = k := by
 unfold takeF at h
 split at h
 ·rename_i hk; cases h; exact ⟨rfl, rfl, by omega, by rw [List.length_take, List.length_drop]; omega⟩
 ·cases h
/-- Two pieces that follow one another. -/
theorem cut_two (bs : List Nat) (a b c : Nat) (h1 : a ≤ b) (h2 : b ≤ c) : (bs.drop a).take (c - a) = (bs.drop a).take (b - a) ++ (bs.drop b).take (c - b) := by
 have e : c - a = (b - a) + (c - b) := by omega
 rw [e, List.take_add, List.drop_drop, show a + (b - a) = b by omega]
theorem fx_cons (k c r : Nat) (hc : c < 256) : fx (k + 1) (c + 256 * r) = c :: fx k r := by
 unfold fx
 rw [List.range_succ_eq_map, List.map_cons, List.map_map]
 congr 1
 ·simp; omega
 ·refine List.map_congr_left fun i _ => ?_
  simp only [Function.comp]
  rw [show 8 * (i + 1) = 8 + 8 * i by omega, Nat.pow_add, ← Nat.div_div_eq_div_mul, show (c + 256 * r) / 2 ^ 8 = r by omega]
theorem fx_le256 : ∀ (l : List Nat), (∀ x ∈ l, x < 256) → fx l.length (le256 l) = l
 | [], _ => rfl
 | c :: l, h => by
  rw [List.length_cons, le256, fx_cons _ _ _ (h c (by simp)), fx_le256 l fun x hx => h x (by simp [hx])]
theorem le256_fx : ∀ (k v : Nat), le256 (fx k v) = v % 256 ^ k
 | 0, v => by simp [fx, le256, Nat.mod_one]
 | k + 1, v => by
  have h := fx_cons k (v % 256) (v / 256) (by omega)
  rw [show v % 256 + 256 * (v / 256) = v by omega] at h
  rw [h, le256, le256_fx k, Nat.pow_succ, Nat.mul_comm (256 ^ k) 256, Nat.mod_mul]
theorem fixF_form (bs : List Nat) (at_ k x a : Nat) (hb : ∀ y ∈ bs, y < 256) (h : fixF bs at_ k = .ok (x, a)) : (bs.drop at_).take (a - at_) = fx k x ∧ at_ ≤ a := by
 unfold fixF at h
 split at h
 ·rename_i l a' ht
  cases h
  obtain ⟨hl, ha, _, hk⟩ := takeF_form _ _ _ _ _ ht
  have := fx_le256 l fun y hy => hb y (by rw [hl] at hy; exact List.mem_of_mem_drop (List.mem_of_mem_take hy))
  rw [hk] at this
  rw [this, ha, show at_ + k - at_ = k by omega, hl]
  exact ⟨rfl, by omega⟩
 ·cases h
/-! blocks -/
def blk (p : List Nat) : List Nat := uv p.length ++ p
theorem blockF_form (bs : List Nat) (at_ most a : Nat) (l : List Nat) (hb : ∀ y ∈ bs, y < 256) (h : blockF bs at_ most = .ok (l, a)) : (bs.drop at_).take (a - at_) = blk l ∧ at_ ≤ a := by
 unfold blockF at h
 split at h
 ·rename_i k a1 hn
  split at h
  ·obtain ⟨h1, h2⟩ := numF_form bs at_ k a1 hb hn
   obtain ⟨hl, ha, _, hk⟩ := takeF_form _ _ _ _ _ h
   refine ⟨?_, by omega⟩
   rw [cut_two bs at_ a1 a (by omega) (by omega), h1, show a - a1 = k by omega, ← hl]
   unfold blk
   rw [hk]
  ·cases h
 ·cases h
/-! texts -/
def rws (ts : List (List Nat)) : List Nat := ts.flatMap blk
theorem rws_cons (t : List Nat) (ts : List (List Nat)) : rws (t :: ts) = blk t ++ rws ts := rfl
theorem rowsF_form (bs : List Nat) (each : Nat) (hb : ∀ y ∈ bs, y < 256) : ∀ (k at_ a : Nat) (l : List (List Nat)), rowsF bs each k at_ = .ok (l, a) → (bs.drop at_).take (a - at_) = rws l ∧ at_ ≤ a ∧ l.length = k
 | 0, at_, a, l, h => by cases h; simp [rws]
 | k + 1, at_, a, l, h => by
  unfold rowsF at h
  split at h
  ·cases h
  rename_i b a1 hb1
  split at h
  ·cases h
  rename_i l2 a2 hr
  cases h
  obtain ⟨h1, h2⟩ := blockF_form bs at_ each a1 b hb hb1
  obtain ⟨h3, h4, h5⟩ := rowsF_form bs each hb k a1 a l2 hr
  refine ⟨?_, by omega, by simp [h5]⟩
  rw [cut_two bs at_ a1 a h2 h4, h1, h3, rws_cons]
def txts (ts : List (List Nat)) : List Nat := uv ts.length ++ rws ts
theorem textsF_form (bs : List Nat) (at_ : Nat) (most each : Int) (a : Nat) (l : List (List Nat)) (hb : ∀ y ∈ bs, y < 256) (h : textsF bs at_ most each = .ok (l, a)) : (bs.drop at_).take (a - at_) = txts l ∧ at_ ≤ a := by
 unfold textsF at h
 split at h
 ·cases h
 split at h
 ·cases h
 rename_i k a1 hn
 split at h
 ·obtain ⟨h1, h2⟩ := numF_form bs at_ k a1 hb hn
  obtain ⟨h3, h4, h5⟩ := rowsF_form bs each.toNat hb k a1 a l h
  refine ⟨?_, by omega⟩
  rw [cut_two bs at_ a1 a (by omega) h4, h1, h3]
  unfold txts
  rw [h5]
 ·cases h
end Go.Proofs.Ytbcmjjcbjojakaa
end
section
namespace Go.Proofs.Ytbcmjjcbjojakaa
open Go.RowKit
set_option linter.unusedVariables false
/-! The steps of a reading: where it stands, and the fault. -/
def rFix (bs : List Nat) (k : Nat) (s : Nat × Int) : Nat × Nat × Int := redo (fixF bs s.1 k) 0 s.1 s.2
def rNum (bs : List Nat) (s : Nat × Int) : Nat × Nat × Int := redo (numF bs s.1) 0 s.1 s.2
def rBlk (bs : List Nat) (most : Int) (s : Nat × Int) : List Nat × Nat × Int := redo (blkF bs s.1 most) [] s.1 s.2
def rTxt (bs : List Nat) (most each : Int) (s : Nat × Int) : List (List Nat) × Nat × Int := redo (textsF bs s.1 most each) [] s.1 s.2
/-- A step that is made or not. -/
def opt {α : Type} (b : Bool) (z : α) (f : Nat × Int → α × Nat × Int) (s : Nat × Int) : α × Nat × Int := if b = true then f s else (z, s)
/-- The request that a content says. -/
def rdRq (bs : List Nat) : Option Rq :=
 let r1 := rFix bs 1 (0, 0)
 let r2 := rFix bs 8 r1.2
 let k : Int := (r1.1 : Int)
 let r3 := opt (cKey k) [] (rBlk bs 1024) r2.2
 let r4 := opt (cBody k) [] (rBlk bs 1048576) r3.2
 let r5 := opt (cAfter k) [] (rBlk bs 1024) r4.2
 let r6 := opt (cOff k) 0 (rNum bs) r5.2
 let r7 := opt (cDelim k) 0 (rNum bs) r6.2
 let r8 := opt (cNum k) 0 (rNum bs) r7.2
 if 1 ≤ k ∧ k ≤ 8 ∧ endF bs.length r8.2.1 r8.2.2 = 0 then some ⟨k, r2.1, bstr r3.1, bstr r5.1, unz (r6.1 : Int), unz (r8.1 : Int), unz (r7.1 : Int), r4.1⟩ else none
def qBody (k c : Int) : Bool := decide (c = 0 ∧ (k = 2 ∨ k = 3))
def qGen (k c : Int) : Bool := decide (c = 0 ∧ k = 4)
def qKeys (k c : Int) : Bool := decide (c = 0 ∧ (k = 6 ∨ k = 7))
def qPage (k c : Int) : Bool := decide (c = 0 ∧ k = 7)
def qMost (k : Int) : Int := if k = 6 then 65536 else 1000
/-- The answer that a content says. -/
def rdAn (bs : List Nat) : Option An :=
 let r1 := rFix bs 1 (0, 0)
 let r2 := rFix bs 8 r1.2
 let r3 := rNum bs r2.2
 let k : Int := (r1.1 : Int)
 let c : Int := (r3.1 : Int)
 let h1 := opt (decide (k = 8)) 0 (rNum bs) r3.2
 let h2 := opt (decide (k = 8)) 0 (rNum bs) h1.2
 let h3 := opt (decide (k = 8)) 0 (rNum bs) h2.2
 let h4 := opt (decide (k = 8)) 0 (rNum bs) h3.2
 let b := opt (qBody k c) [] (rBlk bs 1048576) h4.2
 let g1 := opt (qGen k c) 0 (rNum bs) b.2
 let g2 := opt (qGen k c) 0 (rNum bs) g1.2
 let g3 := opt (qGen k c) 0 (rNum bs) g2.2
 let ks := opt (qKeys k c) [] (rTxt bs (qMost k) 255) g3.2
 let gs := opt (qPage k c) [] (rTxt bs 1000 255) ks.2
 let nx := opt (qPage k c) [] (rBlk bs 255) gs.2
 let mo := opt (qPage k c) 0 (rFix bs 1) nx.2
 if 1 ≤ k ∧ k ≤ 8 ∧ c ≤ 2147483647 ∧ mo.1 ≤ 1 ∧ endF bs.length mo.2.1 mo.2.2 = 0 then
  some ⟨k, r2.1, c, b.1, ks.1.map bstr, gs.1.map bstr, bstr nx.1, decide (mo.1 = 1), unz (g1.1 : Int), unz (g2.1 : Int), unz (g3.1 : Int), unz (h1.1 : Int), unz (h2.1 : Int), unz (h3.1 : Int), unz (h4.1 : Int)⟩
 else none
theorem sb_bstr (l : List Nat) (h : ∀ x ∈ l, x < 256) : sb (bstr l) = l := by
 unfold sb
 rw [bstr_data, List.map_map]
 conv => rhs; rw [← List.map_id l]
 exact List.map_congr_left fun x hx => by have := h x hx; simp [Function.comp]; omega
theorem bstr_nil : bstr [] = emS := rfl
theorem bstr_size (l : List Nat) : (bstr l).size = l.length := by
 rw [← sb_len]; unfold sb; rw [bstr_data, List.length_map, List.length_map]
theorem us_bstr (l : List Nat) (h : ∀ x ∈ l, x < 256) : us (bstr l) = blk l := by unfold us blk; rw [sb_bstr l h, bstr_size]
theorem us_blk (s : ByteArray) : us s = blk (sb s) := by unfold us blk; rw [sb_len]
/-! What is put is read. -/
section
variable (pre r : List Nat)
end
/-- A reading stands ahead of 'rest'. -/
def At (bs : List Nat) (s : Nat × Int) (rest : List Nat) : Prop := ∃ pre, bs = pre ++ rest ∧ s = (pre.length, 0)
section
variable {bs r : List Nat} {s : Nat × Int}
end
end Go.Proofs.Ytbcmjjcbjojakaa
end
section
namespace Go.Proofs.Ytbcmjjcbjojakaa
open Go.RowKit
set_option linter.unusedVariables false
/-- What the walk needs to know of a slice type t with elements e of 'size' cells. -/
structure ElN (P : Program) (t e size bytes : Nat) : Prop where
 ht : P.underlying t = some (.slice e)
 hi : ∃ i z, P.info? e = some i ∧ i.zero = some z ∧ i.size = size ∧ i.bytes = bytes ∧ z.cells.size = size
 hs : 0 < size ∧ size ≤ 1000
/-- A slice of elements of 'size' cells reads as the cells xs, and lies in a block that p allows. -/
def RdN (w : World) (p : Nat → Prop) (size : Nat) (A : Option Addr) (n : Nat) (xs : List Value) : Prop :=
 xs.length = n * size ∧ (0 < n → ∃ g off, A = some ⟨g, off, none⟩ ∧ p g ∧ ∀ i, i < n * size → w.cell? ⟨g, off + i, none⟩ = xs[i]?)
def OntoN (w w' : World) (base e size : Nat) (s v' : Value) (n : Nat) (xs : List Value) : Prop :=
 w'.ownsRow base e size v' n xs ∧ w.grownBy w' s.ownBlock ∧ ∀ k, v'.ownBlock = some k → s.ownBlock = some k ∨ w.heap.size ≤ k
section
variable {w w' w1 w2 : World} {base e size n n1 n2 : Nat} {s v1 v2 : Value} {xs xs1 xs2 : List Value} {p q : Nat → Prop} {A : Option Addr}
end
theorem fill_fold (cs : List Value) : ∀ (k : Nat) (zs : Array Value) (i : Nat), (((cs.zipIdx k).foldl (fun (cs : Array Value) (x : Value × Nat) => cs.setIfInBounds x.2 x.1) zs)[i]? = if k ≤ i ∧ i < k + cs.length ∧ i < zs.size then cs[i - k]? else zs[i]?) := by
 induction cs with
 | nil => intro k zs i; simp; intro h1 h2; omega
 | cons c r ih =>
  intro k zs i
  rw [List.zipIdx_cons, List.foldl_cons, ih]
  simp only [Array.size_setIfInBounds, List.length_cons]
  by_cases h1 : k + 1 ≤ i ∧ i < k + 1 + r.length ∧ i < zs.size
  ·rw [if_pos h1, if_pos (by omega), show i - k = (i - (k + 1)) + 1 by omega, List.getElem?_cons_succ]
  ·rw [if_neg h1, Array.getElem?_setIfInBounds]
   by_cases h2 : k = i
   ·subst h2
    by_cases h3 : k < zs.size
    ·rw [if_pos rfl, if_pos h3, if_pos ⟨Nat.le_refl _, by omega, h3⟩]; simp
    ·rw [if_pos rfl, if_neg h3, if_neg (by omega), Array.getElem?_eq_none (by omega)]
   ·rw [if_neg h2, if_neg (by omega)]
section
variable {P : Program} {w : World} {t e size bytes : Nat}
theorem fill_one (cells zs : Array Value) (hz : zs.size = cells.size) : Instr.fill (fun i => some (i * cells.size, cells.size)) zs [(0, .agg cells)] = some cells := by
 simp only [Instr.fill, Value.cells, Nat.zero_mul, Nat.zero_add, hz]
 rw [if_neg (by simp)]
 congr 1
 rw [← Array.foldl_toList, Array.toList_zipIdx]
 apply Array.ext_getElem?
 intro i
 rw [fill_fold]
 by_cases h : i < cells.size
 ·rw [if_pos ⟨Nat.zero_le _, by simpa using h, by omega⟩]; simp
 ·rw [if_neg (by omega), Array.getElem?_eq_none (by omega), Array.getElem?_eq_none (by omega)]
theorem run_build1N (E : ElN P t e size bytes) (cells : Array Value) (h1 : cells.size = size) : (Instr.buildSlice t 1 #[(0, .agg cells)]).run P w = .ok (.slice (some ⟨w.heap.size, 0, none⟩) 1 1) (w.alloc (.cells cells e)) := by
 obtain ⟨i, z, hi, hz, hs, hb, hzs⟩ := E.hi
 have h2 := E.hs
 refine run_buildSlice w t e 1 _ cells i z E.ht hi hz (by rw [hs]; omega) (by rw [hs]; omega) ?_
 rw [hs, ← h1]
 exact fill_one cells _ (by simp)
section
variable {ops : Array Oper} {rest : List Oper} {o o1 o2 : Oper} {a : Act} {Q : Exit → Act → World → Prop}
end
end
end Go.Proofs.Ytbcmjjcbjojakaa
end
