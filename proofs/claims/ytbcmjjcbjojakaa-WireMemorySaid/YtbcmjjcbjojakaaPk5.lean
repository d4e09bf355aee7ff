/- Put together of: RdrE CPuts RdrG RdrL RdrX AskF OneForm. -/
import Derived.Test.YtbcmjjcbjojakaaPk4
import Derived.Test.YtbcmjjcbjojakaaPk2
section
namespace Go.Proofs.Ytbcmjjcbjojakaa
open Go.RowKit
set_option linter.unusedVariables false
set_option maxRecDepth 20000
/-- What a method of the reader answers. -/
def Ans {α : Type} (w : World) (gr n c : Nat) (A : Option Addr) (bs : List Nat) (K : Value → α → World → Prop) (r : α × Nat × Int) (e : Ending) (w' : World) : Prop :=
 ∃ v, e = .returned v ∧ Chg [gr] w w' ∧ K v r.1 w' ∧ Rr w' gr A n c r.2.1 r.2.2 bs
def KZag (v : Value) (a : Nat) (_ : World) : Prop := v = .int .i64 (unz (a : Int))
def KOwn (base : Nat) (v : Value) (a : List Nat) (w : World) : Prop := w.ownsRow base 5 1 v a.length (cb a)
theorem KOwn.nil (base : Nat) (w : World) : KOwn base (.slice none 0 0) [] w := World.ownsRow_nil ..
theorem Chg.pop {x : Nat} {L : List Nat} {w w1 : World} (h : Chg (L ++ [x]) w w1) (hx : w.heap.size ≤ x) : Chg L w w1 := h.mono fun k hk hl => by
 rcases List.mem_append.1 hk with h | h
 ·exact h
 ·simp at h; omega
theorem cell_new {w : World} {g : Nat} (u : Value) (t : TypeId) (hg : g = w.heap.size) : (w.alloc (.cells #[u] t)).cell? ⟨g, 0, none⟩ = some u := by subst hg; simp
theorem frozen_new {w : World} {g : Nat} (u : Value) (t : TypeId) (hg : g = w.heap.size) : (w.alloc (.cells #[u] t)).frozen? ⟨g, 0, none⟩ = false := by subst hg; simp
theorem take_len {bs l : List Nat} {at_ k a N : Nat} (h : takeF bs at_ k = .ok (l, a)) (hb : bs.length ≤ N) : l.length ≤ N := by
 unfold takeF at h
 split at h
 ·cases h; rw [List.length_take, List.length_drop]; omega
 ·cases h
theorem block_len {bs l : List Nat} {at_ k a N : Nat} (h : blockF bs at_ k = .ok (l, a)) (hb : bs.length ≤ N) : l.length ≤ N := by
 unfold blockF at h
 split at h
 ·split at h
  ·exact take_len h hb
  ·cases h
 ·cases h
/-- What a closure of a reading stands on. -/
structure Caps (w : World) (gr pr pv : Nat) : Prop where
 hr : w.cell? ⟨pr, 0, none⟩ = some (.pointer (some ⟨gr, 0, none⟩))
 hv : ∃ u, w.cell? ⟨pv, 0, none⟩ = some u
 zv : w.frozen? ⟨pv, 0, none⟩ = false
 lt : gr < pv ∧ gr < pr ∧ pv < w.heap.size ∧ pr < w.heap.size
theorem Caps.keep {w w1 : World} {gr pr pv : Nat} (h : Caps w gr pr pv) (b : Chg [gr] w w1) : Caps w1 gr pr pv where
 hr := (b.cell (p := ⟨pr, 0, none⟩) h.lt.2.2.2 (by have := h.lt; simp; omega)).trans h.hr
 hv := let ⟨u, hu⟩ := h.hv; ⟨u, (b.cell (p := ⟨pv, 0, none⟩) h.lt.2.2.1 (by have := h.lt; simp; omega)).trans hu⟩
 zv := (b.frozen (p := ⟨pv, 0, none⟩) h.lt.2.2.1 (by have := h.lt; simp; omega)).trans h.zv
 lt := by have := h.lt; have := b.size; omega
set_option maxHeartbeats 1000000 in
theorem uvC_any (w : World) (gr pr pv n c at_ : Nat) (A : Option Addr) (bs : List Nat) (R : Rr w gr A n c at_ 0 bs) (C : Caps w gr pr pv) :
  Calls Try.prog 141 #[.pointer (some ⟨pr, 0, none⟩), .pointer (some ⟨pv, 0, none⟩)] w (Clo w gr pv n c A bs KNum (numF bs at_)) := by
 have HR : Hd (Rr w gr A n c at_ 0 bs ∧ Caps w gr pr pv) := ⟨R, C⟩
 have k1 := C.hr
 clear R C
 go_enter Try.func141, Try.ntmps141
 go_wp2_with fail
 refine (number_any w gr n c at_ A 0 bs HR.out.1).mono ?_
 rintro e w1 ⟨hch, hy, hn⟩
 rcases hnum : numF bs at_ with ec | ⟨k, a1⟩
 ·obtain ⟨rfl, at', hr⟩ := hn ec hnum
  have H1 : Hd (Chg [gr] w w1 ∧ Rr w1 gr A n c at' 0 bs) := ⟨hch, hr⟩
  clear hch hy hn hnum hr
  unfold giveUp
  go_wp2_with fail
  exact ⟨rfl, Clo.no rfl H1.out.1 H1.out.2⟩
 ·obtain ⟨v, rfl, hk, hr⟩ := hy _ _ hnum
  unfold KNum at hk
  subst hk
  have H1 : Hd (Chg [gr] w w1 ∧ Rr w1 gr A n c a1 0 bs ∧ Caps w1 gr pr pv) := ⟨hch, hr, HR.out.2.keep hch⟩
  have HN := Hd.mk hnum
  clear hch hy hn hnum hr
  obtain ⟨u, c1⟩ := H1.out.2.2.hv
  have c2 := H1.out.2.2.zv
  obtain ⟨X, hX⟩ : ∃ X : Int, (k : Int) = X := ⟨_, rfl⟩
  have HX := Hd.mk hX
  rw [hX]
  clear hX
  go_wp2_with fail
  go_end0
  exact Clo.yes (a := k) (at' := a1) HN.out ((H1.out.1.mono (by simp)).setCell (by simp) _) (H1.out.2.1.keep' ((Chg.refl [pv] w1).setCell (by simp) _) (by have := HR.out.2.lt; simp; omega)) (World.cell?_setCell_same _ _ _ c1) (by rw [World.frozen?_setCell]; exact c2) (by rw [← HX.out]; rfl)
set_option maxHeartbeats 1000000 in
theorem uvarint_any (w : World) (gr n c at_ : Nat) (fl : Int) (A : Option Addr) (bs : List Nat) (R : Rr w gr A n c at_ fl bs) :
  Calls Try.prog 128 #[.pointer (some ⟨gr, 0, none⟩)] w (Ans w gr n c A bs KNum (redo (numF bs at_) 0 at_ fl)) := by
 have hmf : ∀ (fn : Fn) (first cap : Array Value) (w : World), (Instr.makeFunc fn first cap).run Try.prog w = .ok (.func fn first cap) w := fun _ _ _ _ => rfl
 have HR := Hd.mk R
 clear R
 go_enter Try.func128, Try.ntmps128
 go_wp2_with fail
 have hch : Chg [] w ((w.alloc (.cells #[.pointer (some ⟨gr, 0, none⟩)] 154)).alloc (.cells #[.int .u64 0] 25)) := ((Chg.refl _ _).alloc _).alloc _
 obtain ⟨W1, hW⟩ : ∃ W1, ((w.alloc (.cells #[.pointer (some ⟨gr, 0, none⟩)] 154)).alloc (.cells #[.int .u64 0] 25)) = W1 := ⟨_, rfl⟩
 have k1 : W1.cell? ⟨w.heap.size + 1, 0, none⟩ = some (.int .u64 0) := by rw [← hW]; simp
 have k2 : W1.cell? ⟨w.heap.size, 0, none⟩ = some (.pointer (some ⟨gr, 0, none⟩)) := by rw [← hW]; simp
 have k3 : W1.heap.size = w.heap.size + 2 := by rw [← hW]; simp
 have k4 : W1.frozen? ⟨w.heap.size + 1, 0, none⟩ = false := by rw [← hW]; simp
 rw [hW] at hch ⊢
 have HC : Hd (Caps W1 gr w.heap.size (w.heap.size + 1)) := ⟨⟨k2, ⟨_, k1⟩, k4, by have := HR.out.lt; omega⟩⟩
 have H1 : Hd (Chg [] w W1 ∧ Rr W1 gr A n c at_ fl bs) := ⟨hch, HR.out.keep' hch (by simp)⟩
 clear hch hW
 refine (reading_all W1 gr (w.heap.size + 1) n c at_ fl A bs H1.out.2 (.int .u64 0) k1 k4 (by have := HR.out.lt; omega) (by omega) 141 (fun _ _ => rfl) _ KNum (numF bs at_) 0 (fun _ => rfl) ?_).mono ?_
 ·intro h0 w2 h2
  have := H1.out.2.keep' h2 (by simp)
  rw [h0] at this
  exact uvC_any w2 gr w.heap.size (w.heap.size + 1) n c at_ A bs this (HC.out.keep (h2.mono (by simp)))
 rintro e w2 ⟨rfl, ha⟩
 have HA := Hd.mk ha
 obtain ⟨v, c1, hk⟩ := ha.cell
 have c2 := ha.froz
 unfold KNum at hk
 subst hk
 obtain ⟨X, hX⟩ : ∃ X : Int, ((redo (numF bs at_) 0 at_ fl).1 : Int) = X := ⟨_, rfl⟩
 have HX := Hd.mk hX
 rw [hX] at c1
 clear ha k1 k2 k3 k4 hX
 go_wp2_with fail
 have c3 := World.cell?_setCell_same (v := .int .u64 X) w2 ⟨w.heap.size + 1, 0, none⟩ c1
 refine bodyPost_ret (v := .int .u64 X) (by simp [results, Try.results128, go_sem, c3]) rfl ?_
 refine ⟨_, rfl, ?_, ?_, ?_⟩
 ·exact Chg.pop (L := [gr]) (((H1.out.1.mono (by simp)).trans HA.out.ch).setCell (by simp) _) (by omega)
 ·rw [← HX.out]; rfl
 ·exact HA.out.rr.keep' ((Chg.refl [w.heap.size + 1] w2).setCell (by simp) _) (by have := HR.out.lt; simp; omega)
end Go.Proofs.Ytbcmjjcbjojakaa
end
section

end
section
namespace Go.Proofs.Ytbcmjjcbjojakaa
open Go.RowKit
set_option linter.unusedVariables false
set_option maxRecDepth 20000
set_option maxHeartbeats 1000000 in
theorem vaC_any (w : World) (gr pr pv n c at_ : Nat) (A : Option Addr) (bs : List Nat) (R : Rr w gr A n c at_ 0 bs) (C : Caps w gr pr pv) :
  Calls Try.prog 143 #[.pointer (some ⟨pr, 0, none⟩), .pointer (some ⟨pv, 0, none⟩)] w (Clo w gr pv n c A bs KZag (numF bs at_)) := by
 have HR : Hd (Rr w gr A n c at_ 0 bs ∧ Caps w gr pr pv) := ⟨R, C⟩
 have k1 := C.hr
 clear R C
 go_enter Try.func143, Try.ntmps143
 go_wp2_with fail
 refine (number_any w gr n c at_ A 0 bs HR.out.1).mono ?_
 rintro e w1 ⟨hch, hy, hn⟩
 rcases hnum : numF bs at_ with ec | ⟨k, a1⟩
 ·obtain ⟨rfl, at', hr⟩ := hn ec hnum
  have H1 : Hd (Chg [gr] w w1 ∧ Rr w1 gr A n c at' 0 bs) := ⟨hch, hr⟩
  clear hch hy hn hnum hr
  unfold giveUp
  go_wp2_with fail
  exact ⟨rfl, Clo.no rfl H1.out.1 H1.out.2⟩
 ·obtain ⟨v, rfl, hk, hr⟩ := hy _ _ hnum
  unfold KNum at hk
  subst hk
  have hx := (numF_hi bs at_ k a1 HR.out.1.lb hnum).1
  have H1 : Hd (Chg [gr] w w1 ∧ Rr w1 gr A n c a1 0 bs ∧ Caps w1 gr pr pv) := ⟨hch, hr, HR.out.2.keep hch⟩
  have HN := Hd.mk hnum
  clear hch hy hn hnum hr
  obtain ⟨u, c1⟩ := H1.out.2.2.hv
  have c2 := H1.out.2.2.zv
  obtain ⟨X, hX⟩ : ∃ X : Int, (k : Int) = X := ⟨_, rfl⟩
  have x1 : 0 ≤ X := by omega
  have x2 : X ≤ 18446744073709551615 := by omega
  have HX := Hd.mk hX
  rw [hX]
  clear hX hx
  go_wp2_with fail
  refine (zag64_any w1 X x1 x2).mono ?_
  rintro e z ⟨rfl, rfl⟩
  go_wp2_with fail
  go_end0
  exact Clo.yes (a := k) (at' := a1) HN.out ((H1.out.1.mono (by simp)).setCell (by simp) _) (H1.out.2.1.keep' ((Chg.refl [pv] w1).setCell (by simp) _) (by have := HR.out.2.lt; simp; omega)) (World.cell?_setCell_same _ _ _ c1) (by rw [World.frozen?_setCell]; exact c2) (by rw [← HX.out]; rfl)
set_option maxHeartbeats 1000000 in
theorem varint_any (w : World) (gr n c at_ : Nat) (fl : Int) (A : Option Addr) (bs : List Nat) (R : Rr w gr A n c at_ fl bs) :
  Calls Try.prog 129 #[.pointer (some ⟨gr, 0, none⟩)] w (Ans w gr n c A bs KZag (redo (numF bs at_) 0 at_ fl)) := by
 have hmf : ∀ (fn : Fn) (first cap : Array Value) (w : World), (Instr.makeFunc fn first cap).run Try.prog w = .ok (.func fn first cap) w := fun _ _ _ _ => rfl
 have HR := Hd.mk R
 clear R
 go_enter Try.func129, Try.ntmps129
 go_wp2_with fail
 have hch : Chg [] w ((w.alloc (.cells #[.pointer (some ⟨gr, 0, none⟩)] 154)).alloc (.cells #[.int .i64 0] 2)) := (((Chg.refl _ _).alloc _).alloc _)
 obtain ⟨W1, hW⟩ : ∃ W1, ((w.alloc (.cells #[.pointer (some ⟨gr, 0, none⟩)] 154)).alloc (.cells #[.int .i64 0] 2)) = W1 := ⟨_, rfl⟩
 have k1 : W1.cell? ⟨(w.heap.size + 1), 0, none⟩ = some (.int .i64 0) := by rw [← hW]; exact cell_new _ _ (by simp)
 have k2 : W1.cell? ⟨w.heap.size, 0, none⟩ = some (.pointer (some ⟨gr, 0, none⟩)) := by rw [← hW, World.cell?_alloc_lt _ _ _ (by simp; try omega)]; exact cell_new _ _ (by simp)
 have k3 : W1.heap.size = w.heap.size + 2 := by rw [← hW]; simp
 have k4 : W1.frozen? ⟨(w.heap.size + 1), 0, none⟩ = false := by rw [← hW]; exact frozen_new _ _ (by simp)
 rw [hW] at hch ⊢
 have HC : Hd (Caps W1 gr w.heap.size (w.heap.size + 1)) := ⟨⟨k2, ⟨_, k1⟩, k4, by have := HR.out.lt; omega⟩⟩
 have H1 : Hd (Chg [] w W1 ∧ Rr W1 gr A n c at_ fl bs ∧ W1.heap.size = w.heap.size + 2) := ⟨hch, HR.out.keep' hch (by simp), k3⟩
 clear hch hW
 refine (reading_all W1 gr (w.heap.size + 1) n c at_ fl A bs H1.out.2.1 (.int .i64 0) k1 k4 (by have := HR.out.lt; omega) (by omega) 143 (fun _ _ => rfl) _ (KZag) (numF bs at_) 0 (fun _ => rfl) ?_).mono ?_
 ·intro h0 w2 h2
  have hR := H1.out.2.1.keep' h2 (by simp)
  rw [h0] at hR
  exact vaC_any w2 gr w.heap.size (w.heap.size + 1) n c at_ A bs hR (HC.out.keep (h2.mono (by simp)))
 rintro e w2 ⟨rfl, ha⟩
 have HA := Hd.mk ha
 obtain ⟨v, c1, hk⟩ := ha.cell
 have c2 := ha.froz
 unfold KZag at hk
 subst hk
 obtain ⟨X, hX⟩ : ∃ X : Int, unz ((redo (numF bs at_) 0 at_ fl).1 : Int) = X := ⟨_, rfl⟩
 have HX := Hd.mk hX
 rw [hX] at c1
 clear ha k1 k2 k3 k4
 clear hX
 go_wp2_with fail
 have c3 := World.cell?_setCell_same (v := .int .i64 X) w2 ⟨w.heap.size + 1, 0, none⟩ c1
 refine bodyPost_ret (v := .int .i64 X) (by simp [results, Try.results129, go_sem, c3]) rfl ?_
 refine ⟨_, rfl, ?_, ?_, ?_⟩
 ·exact Chg.pop (L := [gr]) (((H1.out.1.mono (by simp)).trans HA.out.ch).setCell (by simp) _) (by omega)
 ·rw [← HX.out]; rfl
 ·exact HA.out.rr.keep' ((Chg.refl [w.heap.size + 1] w2).setCell (by simp) _) (by have := HR.out.lt; simp; omega)
set_option maxHeartbeats 1000000 in
theorem blkC_any (w : World) (gr pr pv pi n c at_ : Nat) (A : Option Addr) (bs : List Nat) (x : Int) (hx : -9223372036854775808 ≤ x ∧ x ≤ 9223372036854775807) (R : Rr w gr A n c at_ 0 bs) (C : Caps w gr pr pv) (ci : w.cell? ⟨pi, 0, none⟩ = some (.int .i64 x)) (hpi : gr < pi ∧ pi < w.heap.size) :
  Calls Try.prog 147 #[.pointer (some ⟨pi, 0, none⟩), .pointer (some ⟨pr, 0, none⟩), .pointer (some ⟨pv, 0, none⟩)] w (Clo w gr pv n c A bs (KOwn (pv + 1)) (blkF bs at_ x)) := by
 have HR : Hd (Rr w gr A n c at_ 0 bs ∧ Caps w gr pr pv ∧ gr < pi ∧ pi < w.heap.size) := ⟨R, C, hpi⟩
 have k1 := C.hr
 have hx1 := hx.1
 have hx2 := hx.2
 clear R C hpi hx
 go_enter Try.func147, Try.ntmps147
 by_cases h0 : 0 ≤ x
 ·have HB : Hd (blkF bs at_ x = blockF bs at_ x.toNat) := ⟨by unfold blkF; rw [if_neg (by omega)]⟩
  go_wp2_with fail
  refine (must_yes _ 2).mono ?_
  rintro e z ⟨rfl, rfl⟩
  go_wp2_with fail
  refine (by have := block_any w gr n c at_ x.toNat A 0 bs HR.out.1 (by omega); rw [show ((x.toNat : Nat) : Int) = x by omega] at this; exact this : Calls Try.prog 149 #[.pointer (some ⟨gr, 0, none⟩), .int .i64 x] w (Gives w gr n c A 0 bs (KCut gr) (blockF bs at_ x.toNat))).mono ?_
  rintro e w1 ⟨hch, hy, hn⟩
  rcases hnum : blockF bs at_ x.toNat with ec | ⟨l, a1⟩
  ·obtain ⟨rfl, at', hr⟩ := hn ec hnum
   have H1 : Hd (Chg [gr] w w1 ∧ Rr w1 gr A n c at' 0 bs ∧ blkF bs at_ x = .error ec) := ⟨hch, hr, HB.out.trans hnum⟩
   clear hch hy hn hnum hr
   unfold giveUp
   go_wp2_with fail
   exact ⟨rfl, Clo.no H1.out.2.2 H1.out.1 H1.out.2.1⟩
  ·obtain ⟨v, rfl, ⟨A1, c1, rfl, hrd, hc1⟩, hr⟩ := hy _ _ hnum
   have hl47 : l.length ≤ 140737488355328 := by have := HR.out.1.le; exact block_len hnum (by have := HR.out.1.len; omega)
   have H1 : Hd (Chg [gr] w w1 ∧ Rr w1 gr A n c a1 0 bs ∧ Caps w1 gr pr pv ∧ blkF bs at_ x = .ok (l, a1)) := ⟨hch, hr, HR.out.2.1.keep hch, HB.out.trans hnum⟩
   have HRD := Hd.mk hrd
   clear hch hy hn hnum hr hrd
   go_wp2_with fail
   refine (clone_any w1 A1 l.length c1 gr l HRD.out hl47 (by have := H1.out.2.1.lt; omega)).mono ?_
   rintro e w2 ⟨v2, rfl, hO⟩
   obtain ⟨A2, c2, rfl, _, _⟩ := own_form hO.own
   have hb := hO.below (B := w1.heap.size) (fun k h => by cases h) (Nat.le_refl _)
   have H2 : Hd (Chg [gr] w w2 ∧ Rr w2 gr A n c a1 0 bs ∧ Caps w2 gr pr pv ∧ w2.ownsRow w1.heap.size 5 1 (.slice A2 l.length c2) l.length (cb l)) :=
    ⟨H1.out.1.trans (Chg.of_below hb), H1.out.2.1.keep' (L := []) (Chg.of_below hb) (by simp), H1.out.2.2.1.keep (Chg.of_below hb), hO.own⟩
   clear hO hb
   obtain ⟨u, d1⟩ := H2.out.2.2.1.hv
   have d2 := H2.out.2.2.1.zv
   go_wp2_with fail
   go_end0
   have hlt := H2.out.2.2.1.lt
   have hp1 : pv < w1.heap.size := H1.out.2.2.1.lt.2.2.1
   refine Clo.yes (a := l) (at' := a1) H1.out.2.2.2 ((H2.out.1.mono (by simp)).setCell (by simp) _) (H2.out.2.1.keep' ((Chg.refl [pv] w2).setCell (by simp) _) (by simp; omega)) (World.cell?_setCell_same _ _ _ d1) (by rw [World.frozen?_setCell]; exact d2) ?_
   exact own_base (ownsRow_setCell_below H2.out.2.2.2 (a := ⟨pv, 0, none⟩) hp1 _) (by omega)
 ·have HB : Hd (blkF bs at_ x = .error 2) := ⟨by unfold blkF; rw [if_pos (by omega)]⟩
  go_wp2_with fail
  refine (must_no _ 2).mono ?_
  rintro e z ⟨he, rfl⟩
  unfold giveUp at he
  subst he
  go_wp2_with fail
  exact ⟨rfl, Clo.no HB.out (Chg.refl _ _) HR.out.1⟩
set_option maxHeartbeats 1000000 in
theorem blk_any (w : World) (gr n c at_ : Nat) (fl : Int) (A : Option Addr) (bs : List Nat) (x : Int) (hx : -9223372036854775808 ≤ x ∧ x ≤ 9223372036854775807) (R : Rr w gr A n c at_ fl bs) :
  Calls Try.prog 131 #[.pointer (some ⟨gr, 0, none⟩), .int .i64 x] w (Ans w gr n c A bs (KOwn w.heap.size) (redo (blkF bs at_ x) [] at_ fl)) := by
 have hmf : ∀ (fn : Fn) (first cap : Array Value) (w : World), (Instr.makeFunc fn first cap).run Try.prog w = .ok (.func fn first cap) w := fun _ _ _ _ => rfl
 have HR := Hd.mk R
 clear R
 go_enter Try.func131, Try.ntmps131
 go_wp2_with fail
 have hch : Chg [] w (((w.alloc (.cells #[.pointer (some ⟨gr, 0, none⟩)] 154)).alloc (.cells #[.int .i64 x] 3)).alloc (.cells #[.slice none 0 0] 26)) := ((((Chg.refl _ _).alloc _).alloc _).alloc _)
 obtain ⟨W1, hW⟩ : ∃ W1, (((w.alloc (.cells #[.pointer (some ⟨gr, 0, none⟩)] 154)).alloc (.cells #[.int .i64 x] 3)).alloc (.cells #[.slice none 0 0] 26)) = W1 := ⟨_, rfl⟩
 have k1 : W1.cell? ⟨(w.heap.size + 2), 0, none⟩ = some (.slice none 0 0) := by rw [← hW]; exact cell_new _ _ (by simp)
 have k2 : W1.cell? ⟨w.heap.size, 0, none⟩ = some (.pointer (some ⟨gr, 0, none⟩)) := by rw [← hW, World.cell?_alloc_lt _ _ _ (by simp; try omega), World.cell?_alloc_lt _ _ _ (by simp; try omega)]; exact cell_new _ _ (by simp)
 have k3 : W1.heap.size = w.heap.size + 3 := by rw [← hW]; simp
 have k4 : W1.frozen? ⟨(w.heap.size + 2), 0, none⟩ = false := by rw [← hW]; exact frozen_new _ _ (by simp)
 have i0 : W1.cell? ⟨w.heap.size + 1, 0, none⟩ = some (.int .i64 x) := by rw [← hW, World.cell?_alloc_lt _ _ _ (by simp; try omega)]; exact cell_new _ _ (by simp)
 rw [hW] at hch ⊢
 have HC : Hd (Caps W1 gr w.heap.size (w.heap.size + 2)) := ⟨⟨k2, ⟨_, k1⟩, k4, by have := HR.out.lt; omega⟩⟩
 have H1 : Hd (Chg [] w W1 ∧ Rr W1 gr A n c at_ fl bs ∧ W1.heap.size = w.heap.size + 3) := ⟨hch, HR.out.keep' hch (by simp), k3⟩
 clear hch hW
 refine (reading_all W1 gr (w.heap.size + 2) n c at_ fl A bs H1.out.2.1 (.slice none 0 0) k1 k4 (by have := HR.out.lt; omega) (by omega) 147 (fun _ _ => rfl) _ (KOwn (w.heap.size + 2 + 1)) (blkF bs at_ x) [] (fun _ => KOwn.nil _ _) ?_).mono ?_
 ·intro h0 w2 h2
  have hR := H1.out.2.1.keep' h2 (by simp)
  rw [h0] at hR
  exact blkC_any w2 gr w.heap.size (w.heap.size + 2) (w.heap.size + 1) n c at_ A bs x hx hR (HC.out.keep (h2.mono (by simp))) ((h2.cell (p := ⟨w.heap.size + 1, 0, none⟩) (by show w.heap.size + 1 < _; omega) (by simp)).trans i0) (by have := HR.out.lt; have := h2.size; omega)
 rintro e w2 ⟨rfl, ha⟩
 have HA := Hd.mk ha
 obtain ⟨v, c1, hk⟩ := ha.cell
 have c2 := ha.froz
 unfold KOwn at hk
 obtain ⟨A2, c3, rfl, _, _⟩ := own_form hk
 have HK := Hd.mk hk
 obtain ⟨L, hL⟩ : ∃ L, (redo (blkF bs at_ x) [] at_ fl).1.length = L := ⟨_, rfl⟩
 have HL := Hd.mk hL
 rw [hL] at c1
 clear ha k1 k2 k3 k4 i0
 clear hL hk
 go_wp2_with fail
 have c4 := World.cell?_setCell_same (v := .slice A2 L c3) w2 ⟨w.heap.size + 2, 0, none⟩ c1
 refine bodyPost_ret (v := .slice A2 L c3) (by simp [results, Try.results131, go_sem, c4]) rfl ?_
 refine ⟨_, rfl, ?_, ?_, ?_⟩
 ·exact Chg.pop (L := [gr]) (((H1.out.1.mono (by simp)).trans HA.out.ch).setCell (by simp) _) (by omega)
 ·have := HK.out; rw [HL.out] at this; unfold KOwn; rw [HL.out]; exact own_base (ownsRow_setCell_below this (a := ⟨w.heap.size + 2, 0, none⟩) (Nat.lt_succ_self _) _) (by omega)
 ·exact HA.out.rr.keep' ((Chg.refl [w.heap.size + 2] w2).setCell (by simp) _) (by have := HR.out.lt; simp; omega)
end Go.Proofs.Ytbcmjjcbjojakaa
end
section
namespace Go.Proofs.Ytbcmjjcbjojakaa
open Go.RowKit
set_option linter.unusedVariables false
set_option maxRecDepth 20000
theorem left_any (w : World) (gr n c at_ : Nat) (fl : Int) (A : Option Addr) (bs : List Nat) (R : Rr w gr A n c at_ fl bs) :
  Calls Try.prog 146 #[.pointer (some ⟨gr, 0, none⟩)] w fun e w' => e = .returned (.int .i64 ((n - at_ : Nat) : Int)) ∧ Chg [] w w' := by
 have g0 := R.c0
 have g1 := R.c1
 obtain ⟨l1, l2, l3⟩ := R.le
 obtain ⟨AT, hAT⟩ : ∃ AT : Int, (at_ : Int) = AT := ⟨_, rfl⟩
 obtain ⟨N, hN⟩ : ∃ N : Int, (n : Int) = N := ⟨_, rfl⟩
 have w1 : IntKind.i64.wrap (N - AT) = N - AT := by rw [IntKind.wrap_i64]; omega
 have e1 : ((n - at_ : Nat) : Int) = N - AT := by omega
 rw [hAT] at g1
 rw [e1]
 clear R l1 l2 l3 hAT e1
 go_enter Try.func146, Try.ntmps146
 go_wp2_with fail
 go_quiet (fail)
 go_wp2_with fail
 go_ret
 exact ⟨rfl, (Chg.refl _ _).drewN _⟩
theorem fault_any (w : World) (gr n c at_ : Nat) (fl : Int) (A : Option Addr) (bs : List Nat) (R : Rr w gr A n c at_ fl bs) :
  Calls Try.prog 145 #[.pointer (some ⟨gr, 0, none⟩)] w fun e w' => e = .returned (.int .i64 fl) ∧ w = w' := by
 have g2 := R.c2
 clear R
 go_enter Try.func145, Try.ntmps145
 go_wp2_with fail
 go_ret
 exact ⟨rfl, rfl⟩
/-- What End answers. -/
def endF (n at_ : Nat) (fl : Int) : Int := if fl ≠ 0 then fl else if n - at_ = 0 then 0 else 72
theorem end_any (w : World) (gr n c at_ : Nat) (fl : Int) (A : Option Addr) (bs : List Nat) (R : Rr w gr A n c at_ fl bs) :
  Calls Try.prog 130 #[.pointer (some ⟨gr, 0, none⟩)] w fun e w' => e = .returned (.int .i64 (endF n at_ fl)) ∧ Chg [] w w' := by
 have HR := Hd.mk R
 clear R
 go_enter Try.func130, Try.ntmps130
 go_wp2_with fail
 refine (fault_any w gr n c at_ fl A bs HR.out).mono ?_
 rintro e z ⟨rfl, rfl⟩
 by_cases h0 : fl = 0
 ·subst h0
  go_wp2_with fail
  refine (left_any w gr n c at_ 0 A bs HR.out).mono ?_
  rintro e w1 ⟨rfl, hch⟩
  have H1 := Hd.mk hch
  clear hch
  by_cases hz : n - at_ = 0
  ·rw [hz]
   go_wp2_with fail
   go_ret
   exact ⟨by unfold endF; rw [if_neg (by simp), if_pos hz]; rfl, H1.out⟩
  ·have hz' : (((n - at_ : Nat) : Int) == 0) = false := by simp; omega
   have HZ := Hd.mk hz
   clear hz
   go_wp2_with fail
   go_ret
   exact ⟨by unfold endF; rw [if_neg (by simp), if_neg HZ.out]; rfl, H1.out⟩
 ·have h0' : (fl != 0) = true := by simp [h0]
  have HZ := Hd.mk h0
  clear h0
  go_wp2_with fail
  go_ret
  exact ⟨by unfold endF; rw [if_pos HZ.out]; rfl, Chg.refl _ _⟩
theorem open_any (w : World) (A : Option Addr) (n c B : Nat) (bs : List Nat) (hr : Rd w B A n (cb bs)) (hB : B ≤ w.heap.size) (hn : n ≤ 4398046511104) (hb : ∀ x ∈ bs, x < 256) :
  Calls Try.prog 112 #[.slice A n c] w fun e w' => ∃ gr A' c', e = .returned (.pointer (some ⟨gr, 0, none⟩)) ∧ Chg [] w w' ∧ Rr w' gr A' n c' 0 0 bs ∧ w.heap.size ≤ gr ∧ (∀ g off, A' = some ⟨g, off, none⟩ → 0 < n → w.heap.size ≤ g) := by
 have HR : Hd (Rd w B A n (cb bs) ∧ B ≤ w.heap.size ∧ n ≤ 4398046511104 ∧ ∀ x ∈ bs, x < 256) := ⟨hr, hB, hn, hb⟩
 clear hr hB hn hb
 go_enter Try.func112, Try.ntmps112
 go_wp2_with fail
 refine (clone_any w A n c B bs HR.out.1 (by have := HR.out.2.2.1; omega) HR.out.2.1).mono ?_
 rintro e w1 ⟨v1, rfl, hO⟩
 obtain ⟨A1, c1, rfl, hc1, hm1⟩ := own_form hO.own
 have H1 : Hd (Onto w w1 w.heap.size 5 (.slice none 0 0) (.slice A1 n c1) n (cb bs) ∧ n ≤ c1) := ⟨hO, hc1⟩
 clear hO hc1 hm1
 go_wp2_with fail
 go_ret
 have hbl := H1.out.1.below (B := w.heap.size) (fun k h => by cases h) (Nat.le_refl _)
 refine ⟨w1.heap.size, A1, c1, rfl, (Chg.of_below hbl).alloc _, ?_, hbl.size, ?_⟩
 ·refine ⟨by simp, by simp, by simp, by simp, by simp, ?_, ⟨Nat.zero_le _, H1.out.2, HR.out.2.2.1⟩, by simp, HR.out.2.2.2⟩
  exact (Rd.of_own H1.out.1.own).alloc (Nat.le_refl _) _
 ·intro g off he hn
  subst he
  obtain ⟨g', cap, hv, hg1, _⟩ := own_pos H1.out.1.own hn
  injection hv with hv
  injection hv with hv
  injection hv with hv
  omega
end Go.Proofs.Ytbcmjjcbjojakaa
end
section
namespace Go.Proofs.Ytbcmjjcbjojakaa
open Go.RowKit
set_option linter.unusedVariables false
set_option maxRecDepth 20000
/-- The text of these bytes. -/
def tx1 (l : List Nat) : ByteArray := strOfNums (l.map Int.ofNat)
def KTxt (base : Nat) (v : Value) (a : List (List Nat)) (w : World) : Prop := w.ownsRow base 9 1 v a.length (cs (a.map tx1))
theorem KTxt.nil (base : Nat) (w : World) : KTxt base (.slice none 0 0) [] w := World.ownsRow_nil ..
theorem rowsF_len (bs : List Nat) (each : Nat) : ∀ (k a : Nat) (l : List (List Nat)) (a2 : Nat), a ≤ bs.length → (∀ y ∈ bs, y < 256) → rowsF bs each k a = .ok (l, a2) → l.length = k ∧ a + k ≤ a2 ∧ a2 ≤ bs.length := by
 intro k
 induction k with
 | zero => intro a l a2 ha _ h; unfold rowsF at h; cases h; exact ⟨rfl, by omega, ha⟩
 | succ k ih =>
  intro a l a2 ha hb h
  unfold rowsF at h
  split at h
  ·cases h
  ·rename_i b a1 hbk
   split at h
   ·cases h
   ·rename_i l2 a3 hrk
    cases h
    have h1 : a < a1 ∧ a1 ≤ bs.length := by
     unfold blockF at hbk
     split at hbk
     ·rename_i x ax hx
      have h2 := numF_hi bs a x ax hb hx
      split at hbk
      ·unfold takeF at hbk
       split at hbk
       ·cases hbk; have := h2.2.2 ha; omega
       ·cases hbk
      ·cases hbk
     ·cases hbk
    obtain ⟨i1, i2, i3⟩ := ih a1 l2 a2 h1.2 hb hrk
    exact ⟨by simp [i1], by omega, i3⟩
theorem Chg.then_below {L : List Nat} {w w1 w2 : World} (h : Chg L w w1) (b : Below w.heap.size w1 w2) : Chg L w w2 :=
 ⟨b.os.trans h.os, b.tape.trans h.tape, b.output.trans h.output, Nat.le_trans h.size b.size, fun k hk hn => (b.block k hk).trans (h.block k hk hn)⟩
theorem Rr.below {w w1 : World} {B gr n c at_ : Nat} {A : Option Addr} {fl : Int} {bs : List Nat} (R : Rr w gr A n c at_ fl bs) (b : Below B w w1) (hg : gr < B) : Rr w1 gr A n c at_ fl bs where
 c0 := (b.cell (p := ⟨gr, 0, none⟩) hg).trans R.c0
 c1 := (b.cell (p := ⟨gr, 1, none⟩) hg).trans R.c1
 c2 := (b.cell (p := ⟨gr, 2, none⟩) hg).trans R.c2
 z1 := (b.frozen (p := ⟨gr, 1, none⟩) hg).trans R.z1
 z2 := (b.frozen (p := ⟨gr, 2, none⟩) hg).trans R.z2
 rd := R.rd.below (b.mono (Nat.le_of_lt hg))
 le := R.le
 lt := Nat.lt_of_lt_of_le R.lt b.size
 lb := R.lb
set_option maxHeartbeats 4000000 in
theorem textsC_any (w : World) (gr pr pv pm pe n c at_ : Nat) (A : Option Addr) (bs : List Nat) (x y : Int) (hx : -9223372036854775808 ≤ x ∧ x ≤ 9223372036854775807) (hy : -9223372036854775808 ≤ y ∧ y ≤ 9223372036854775807) (R : Rr w gr A n c at_ 0 bs) (C : Caps w gr pr pv)
  (cm : w.cell? ⟨pm, 0, none⟩ = some (.int .i64 x)) (hpm : gr < pm ∧ pm < w.heap.size) (ce : w.cell? ⟨pe, 0, none⟩ = some (.int .i64 y)) (hpe : gr < pe ∧ pe < w.heap.size) :
  Calls Try.prog 150 #[.pointer (some ⟨pm, 0, none⟩), .pointer (some ⟨pe, 0, none⟩), .pointer (some ⟨pr, 0, none⟩), .pointer (some ⟨pv, 0, none⟩)] w (Clo w gr pv n c A bs (KTxt (pv + 1)) (textsF bs at_ x y)) := by
 have HR : Hd (Rr w gr A n c at_ 0 bs ∧ Caps w gr pr pv ∧ (gr < pm ∧ pm < w.heap.size) ∧ (gr < pe ∧ pe < w.heap.size)) := ⟨R, C, hpm, hpe⟩
 have HC : Hd (w.cell? ⟨pm, 0, none⟩ = some (.int .i64 x) ∧ w.cell? ⟨pe, 0, none⟩ = some (.int .i64 y)) := ⟨cm, ce⟩
 have k1 := C.hr
 have hx1 := hx.1
 have hx2 := hx.2
 have hy1 := hy.1
 have hy2 := hy.2
 clear R C hpm hpe hx hy
 go_enter Try.func150, Try.ntmps150
 by_cases h0 : 0 ≤ x ∧ 0 ≤ y
 ·have h01 := h0.1
  have h02 := h0.2
  clear h0
  go_wp2_with fail
  refine (must_yes _ 2).mono ?_
  rintro e z ⟨rfl, rfl⟩
  go_wp2_with fail
  refine (number_any w gr n c at_ A 0 bs HR.out.1).mono ?_
  rintro e w1 ⟨hch, hyy, hn⟩
  rcases hnum : numF bs at_ with ec | ⟨k, a1⟩
  ·obtain ⟨rfl, at', hr⟩ := hn ec hnum
   have H1 : Hd (Chg [gr] w w1 ∧ Rr w1 gr A n c at' 0 bs ∧ textsF bs at_ x y = .error ec) := ⟨hch, hr, by unfold textsF; rw [if_neg (by omega), hnum]⟩
   clear hch hyy hn hnum hr
   unfold giveUp
   go_wp2_with fail
   exact ⟨rfl, Clo.no H1.out.2.2 H1.out.1 H1.out.2.1⟩
  ·obtain ⟨v, rfl, hk, hr⟩ := hyy _ _ hnum
   unfold KNum at hk
   subst hk
   have hxx := numF_hi bs at_ k a1 HR.out.1.lb hnum
   have cm : w1.cell? ⟨pm, 0, none⟩ = some (.int .i64 x) := (hch.cell (p := ⟨pm, 0, none⟩) HR.out.2.2.1.2 (by have := HR.out.2.2.1; simp; omega)).trans HC.out.1
   have ce : w1.cell? ⟨pe, 0, none⟩ = some (.int .i64 y) := (hch.cell (p := ⟨pe, 0, none⟩) HR.out.2.2.2.2 (by have := HR.out.2.2.2; simp; omega)).trans HC.out.2
   have H1 : Hd (Chg [gr] w w1 ∧ Rr w1 gr A n c a1 0 bs ∧ Caps w1 gr pr pv ∧ numF bs at_ = .ok (k, a1) ∧ w1.cell? ⟨pe, 0, none⟩ = some (.int .i64 y)) := ⟨hch, hr, HR.out.2.1.keep hch, hnum, ce⟩
   have k1 := H1.out.2.2.1.hr
   obtain ⟨X, hX⟩ : ∃ X : Int, (k : Int) = X := ⟨_, rfl⟩
   have x1 : 0 ≤ X := by omega
   have x2 : X ≤ 18446744073709551615 := by omega
   have HX := Hd.mk hX
   rw [hX]
   clear hch hyy hn hnum hr hxx hX
   by_cases hle : X ≤ x
   ·have HB : Hd (textsF bs at_ x y = rowsF bs y.toNat k a1) := ⟨by unfold textsF; rw [if_neg (by omega), H1.out.2.2.2.1]; simp only; rw [if_pos (by have := HX.out; omega)]⟩
    go_wp2_with fail
    refine (must_yes _ 71).mono ?_
    rintro e z ⟨rfl, rfl⟩
    clear cm
    go_wp2_with fail
    go_loopw [5, 21] (fun s i wr => ∃ (j a : Nat) (l : List (List Nat)), i = .int .u64 (j : Int) ∧ (j : Int) ≤ X ∧ Chg [gr] w1 wr ∧ Rr wr gr A n c a 0 bs ∧ wr.ownsRow w1.heap.size 9 1 s j (cs (l.map tx1)) ∧ l.length = j ∧ a1 + j ≤ a ∧
     (match rowsF bs y.toNat (k - j) a with | .ok (l2, a2) => Except.ok (l ++ l2, a2) | .error e => .error e) = rowsF bs y.toNat k a1) (fun _ i _ => k - (intOf i).toNat)
    case atStart =>
     refine ⟨0, a1, [], rfl, by omega, Chg.refl _ _, H1.out.2.1, World.ownsRow_nil .., rfl, by omega, ?_⟩
     rw [Nat.sub_zero]
     rcases rowsF bs y.toNat k a1 with e | ⟨l2, a2⟩ <;> rfl
    case round =>
     obtain ⟨j, a, l, rfl, hj, hch, hr, ho, hll, haj, hrow⟩ := hrel
     have ck : Caps wr gr pr pv := H1.out.2.2.1.keep hch
     have k1 := ck.hr
     have ce : wr.cell? ⟨pe, 0, none⟩ = some (.int .i64 y) := (hch.cell (p := ⟨pe, 0, none⟩) (Nat.lt_of_lt_of_le HR.out.2.2.2.2 H1.out.1.size) (by have := HR.out.2.2.2; simp; omega)).trans H1.out.2.2.2.2
     have hgr : gr < w1.heap.size := H1.out.2.1.lt
     have H2 : Hd (Chg [gr] w1 wr ∧ Rr wr gr A n c a 0 bs ∧ wr.ownsRow w1.heap.size 9 1 u5 j (cs (l.map tx1)) ∧ l.length = j ∧ a1 + j ≤ a ∧ (match rowsF bs y.toNat (k - j) a with | .ok (l2, a2) => Except.ok (l ++ l2, a2) | .error e => .error e) = rowsF bs y.toNat k a1 ∧ w1.heap.size ≤ wr.heap.size ∧ gr < w1.heap.size) := ⟨hch, hr, ho, hll, haj, hrow, hch.size, hgr⟩
     have hjn : j ≤ 4398046511104 := by have := hr.le; omega
     clear hch hr ho hll haj hrow ck hgr
     by_cases hlt : (j : Int) < X
     ·go_wp2_with fail
      refine (by have := block_any wr gr n c a y.toNat A 0 bs H2.out.2.1 (by omega); rw [show ((y.toNat : Nat) : Int) = y by omega] at this; exact this : Calls Try.prog 149 #[.pointer (some ⟨gr, 0, none⟩), .int .i64 y] wr (Gives wr gr n c A 0 bs (KCut gr) (blockF bs a y.toNat))).mono ?_
      rintro e w2 ⟨hch, hyy, hn⟩
      obtain ⟨q, hq⟩ : ∃ q, k - j = q + 1 := ⟨k - j - 1, by have := HX.out; omega⟩
      rcases hbk : blockF bs a y.toNat with ec | ⟨b, a2⟩
      ·obtain ⟨rfl, at', hr⟩ := hn ec hbk
       have H3 : Hd (Chg [gr] w w2 ∧ Rr w2 gr A n c at' 0 bs ∧ textsF bs at_ x y = .error ec) := ⟨(H1.out.1.trans H2.out.1).trans hch, hr, by
        rw [HB.out, ← H2.out.2.2.2.2.2.1, hq, rowsF, hbk]⟩
       clear hch hyy hn hbk hr
       unfold giveUp
       go_wp2_with fail
       exact ⟨rfl, Clo.no H3.out.2.2 H3.out.1 H3.out.2.1⟩
      ·obtain ⟨v, rfl, ⟨A1, c1, rfl, hrd, hc1⟩, hr⟩ := hyy _ _ hbk
       have ho := hch.own H2.out.2.2.1 (fun g hg => by have := (H2.out.2.2.1.lt g hg).1; have := H2.out.2.2.2.2.2.2.2; simp; omega)
       have hcv : ∀ w3, w3 = w2 → (convert 26 9 (.slice A1 b.length c1)).run Try.prog w3 = .ok (.string (tx1 b)) w3 := fun w3 he => by
        subst he
        rw [cb_ints] at hrd
        exact run_conv_str 26 9 5 Try.underlying26 Try.underlying5 infoStr c1 hrd
       have hcv := hcv w2 rfl
       have ha2 : a < a2 ∧ a2 ≤ n := by
        have h1 := rowsF_len bs y.toNat 1 a [b] a2 (by have := H2.out.2.1.len; have := H2.out.2.1.le; omega) H2.out.2.1.lb (by rw [rowsF, hbk]; rfl)
        have := H2.out.2.1.len
        omega
       have H3 : Hd (Chg [gr] w1 w2 ∧ Rr w2 gr A n c a2 0 bs ∧ w2.ownsRow w1.heap.size 9 1 u5 j (cs (l.map tx1)) ∧ (match rowsF bs y.toNat q a2 with | .ok (l2, a2) => Except.ok ((l ++ [b]) ++ l2, a2) | .error e => .error e) = rowsF bs y.toNat k a1 ∧ w1.heap.size ≤ w2.heap.size ∧ a < a2) :=
        ⟨H2.out.1.trans hch, hr, ho, by
         rw [← H2.out.2.2.2.2.2.1, hq, rowsF, hbk]
         simp only
         rcases rowsF bs y.toNat q a2 with e | ⟨l2, a3⟩
         ·rfl
         ·simp, Nat.le_trans H2.out.2.2.2.2.2.2.1 hch.size, ha2.1⟩
       have h63 : Hd (j + 1 ≤ maxLen) := ⟨by unfold maxLen; omega⟩
       have hby : Hd ((j + 1) * 16 ≤ 140737488355328) := ⟨by omega⟩
       clear hch hyy hn hbk hr hrd hc1 ho ha2
       go_wp2_with (refine wpList_push elS rfl rfl (.tmp 23) (.tmp 27) 28 rfl rfl rfl w1.heap.size u5 _ _ _ rfl rfl rfl rfl H3.out.2.2.1 h63.out hby.out H3.out.2.2.2.2.1 ?_; intro v2 w3 hO2)
       have hbl := hO2.below (B := w1.heap.size) (fun g hg => (H3.out.2.2.1.lt g hg).1) H3.out.2.2.2.2.1
       go_roundw
       case rel =>
        refine ⟨j + 1, a2, l ++ [b], by go_num, by omega, ?_, ?_, ?_, by rw [List.length_append, H2.out.2.2.2.1]; rfl, by have := H2.out.2.2.2.2.1; have := H3.out.2.2.2.2.2; omega, ?_⟩
        ·exact H3.out.1.then_below hbl
        ·exact H3.out.2.1.below hbl H2.out.2.2.2.2.2.2.2
        ·rw [List.map_append, cs_append]; exact hO2.own
        ·rw [show k - (j + 1) = q by omega]; exact H3.out.2.2.2.1
       case measure => simp [intOf]; have := HX.out; omega
     ·have hkj : k = j := by have := HX.out; omega
      obtain ⟨A2, c2, rfl, _, _⟩ := own_form H2.out.2.2.1
      have H4 : Hd (textsF bs at_ x y = .ok (l, a) ∧ Caps wr gr pr pv ∧ pv < w1.heap.size) := ⟨by
       rw [HB.out, ← H2.out.2.2.2.2.2.1, hkj, Nat.sub_self, rowsF]; simp, H1.out.2.2.1.keep H2.out.1, H1.out.2.2.1.lt.2.2.1⟩
      obtain ⟨u, d1⟩ := H4.out.2.1.hv
      have d2 := H4.out.2.1.zv
      have hX2 : X = (j : Int) := by omega
      subst hX2
      clear hkj hlt hj
      go_wp2_with fail
      go_end0
      refine Clo.yes (a := l) (at' := a) H4.out.1 (((H1.out.1.trans H2.out.1).mono (by simp)).setCell (by simp) _) (H2.out.2.1.keep' ((Chg.refl [pv] wr).setCell (by simp) _) (by have := HR.out.2.1.lt; simp; omega)) (World.cell?_setCell_same _ _ _ d1) (by rw [World.frozen?_setCell]; exact d2) ?_
      unfold KTxt
      rw [H2.out.2.2.2.1]
      exact own_base (ownsRow_setCell_below H2.out.2.2.1 (a := ⟨pv, 0, none⟩) H4.out.2.2 _) (by have := H4.out.2.2; omega)
   ·go_wp2_with fail
    rw [show decide (X ≤ x) = false from by simp; omega]
    refine (must_no _ 71).mono ?_
    rintro e z ⟨he, rfl⟩
    unfold giveUp at he
    subst he
    go_wp2_with fail
    refine ⟨rfl, Clo.no ?_ H1.out.1 H1.out.2.1⟩
    unfold textsF
    rw [if_neg (by omega), H1.out.2.2.2.1]
    simp only
    rw [if_neg (by have := HX.out; omega)]
 ·have HB : Hd (textsF bs at_ x y = .error 2) := ⟨by unfold textsF; rw [if_pos (by omega)]⟩
  have cm := HC.out.1
  have ce := HC.out.2
  by_cases hx0 : 0 ≤ x
  ·have hy0 : ¬ 0 ≤ y := by omega
   have HH := Hd.mk h0
   clear h0
   go_wp2_with fail
   refine (must_no _ 2).mono ?_
   rintro e z ⟨he, rfl⟩
   unfold giveUp at he
   subst he
   go_wp2_with fail
   exact ⟨rfl, Clo.no HB.out (Chg.refl _ _) HR.out.1⟩
  ·have HH := Hd.mk h0
   clear h0
   go_wp2_with fail
   refine (must_no _ 2).mono ?_
   rintro e z ⟨he, rfl⟩
   unfold giveUp at he
   subst he
   go_wp2_with fail
   exact ⟨rfl, Clo.no HB.out (Chg.refl _ _) HR.out.1⟩
end Go.Proofs.Ytbcmjjcbjojakaa
end
section
namespace Go.Proofs.Ytbcmjjcbjojakaa
open Go.RowKit
set_option linter.unusedVariables false
/-- What a call tells: a number, bytes, texts. -/
structure Tld where
 U : Int
 B : List Nat
 T : List (List Nat)
def numT (r : Nat × Nat × Int) : Tld × Nat × Int := (⟨(r.1 : Int), [], []⟩, r.2)
def zagT (r : Nat × Nat × Int) : Tld × Nat × Int := (⟨IntKind.u64.wrap (unz (r.1 : Int)), [], []⟩, r.2)
def bytT (r : List Nat × Nat × Int) : Tld × Nat × Int := (⟨0, r.1, []⟩, r.2)
def txtT (r : List (List Nat) × Nat × Int) : Tld × Nat × Int := (⟨0, [], r.1⟩, r.2)
def askF (bs : List Nat) (at_ : Nat) (fl : Int) (N E : Int) : Nat → Tld × Nat × Int
 | 0 => numT (redo (fixF bs at_ 1) 0 at_ fl)
 | 1 => numT (redo (fixF bs at_ 2) 0 at_ fl)
 | 2 => numT (redo (fixF bs at_ 4) 0 at_ fl)
 | 3 => numT (redo (fixF bs at_ 8) 0 at_ fl)
 | 4 => numT (redo (fixF bs at_ 2) 0 at_ fl)
 | 5 => numT (redo (numF bs at_) 0 at_ fl)
 | 6 => zagT (redo (numF bs at_) 0 at_ fl)
 | 7 => bytT (redo (bytesF bs at_ N) [] at_ fl)
 | 8 => bytT (redo (blkF bs at_ N) [] at_ fl)
 | 9 => txtT (redo (textsF bs at_ N E) [] at_ fl)
 | 10 => (⟨((bs.length - at_ : Nat) : Int), [], []⟩, at_, fl)
 | 11 => (⟨fl, [], []⟩, at_, fl)
 | _ => (⟨endF bs.length at_ fl, [], []⟩, at_, fl)
/-- What is told of no reader. -/
def noneF : Nat → Tld
 | 11 => ⟨1, [], []⟩
 | 12 => ⟨1, [], []⟩
 | _ => ⟨0, [], []⟩
/-- A fault's number. -/
def Bad (e : Int) : Prop := e = 2 ∨ e = 70 ∨ e = 71
/-- A reading that goes well goes on, within the bytes; one that does not tells a fault. -/
def Well {α : Type} (bs : List Nat) (at_ : Nat) (o : Except Int (α × Nat)) : Prop :=
 match o with
 | .ok (_, a) => at_ ≤ a ∧ a ≤ bs.length
 | .error e => Bad e
variable {bs : List Nat} {at_ : Nat}
def zeroT : Tld := ⟨0, [], []⟩
end Go.Proofs.Ytbcmjjcbjojakaa
end
section
namespace Go.Proofs.Ytbcmjjcbjojakaa
open Go.RowKit
set_option linter.unusedVariables false
/-! the groups of a number -/
theorem numR_put : ∀ (k i y v0 : Nat) (r : List Nat), i + k = 9 → y < 2 ^ (7 * k + 1) → (i = 0 ∨ y ≠ 0) → numR (uvf k y ++ r) i v0 = .ok (v0 + y * 2 ^ (7 * i), i + (uvf k y).length)
 | 0, i, y, v0, r, hi, hy, h0 => by
  have : y < 2 := by simpa using hy
  simp only [uvf, List.cons_append, List.nil_append, numR, List.length_cons, List.length_nil]
  rw [if_neg (by omega), if_pos (by omega), if_neg (by omega), show y % 128 = y by omega]
 | k + 1, i, y, v0, r, hi, hy, h0 => by
  unfold uvf
  split
  ·rename_i h
   simp only [List.cons_append, List.nil_append, numR, List.length_cons, List.length_nil]
   rw [if_neg (by omega), if_pos h, if_neg (by omega), show y % 128 = y by omega]
  ·rename_i h
   have hq : y / 128 < 2 ^ (7 * k + 1) := by
    rw [show 7 * (k + 1) + 1 = (7 * k + 1) + 7 by omega, Nat.pow_add] at hy
    exact Nat.div_lt_of_lt_mul (by rw [Nat.mul_comm]; exact hy)
   simp only [List.cons_append, numR]
   rw [if_neg (by omega), if_neg (by omega), numR_put k (i + 1) (y / 128) _ r (by omega) hq (.inr (by omega)), List.length_cons]
   congr 2
   ·rw [show 7 * (i + 1) = 7 + 7 * i by omega, Nat.pow_add, show (y % 128 + 128) % 128 = y % 128 by omega]
    have hd : y = y % 128 + y / 128 * 2 ^ 7 := by omega
    generalize 2 ^ (7 * i) = z
    conv => rhs; rw [hd]
    rw [Nat.add_mul, Nat.mul_assoc, Nat.add_assoc]
   ·omega
/-! a number at a place -/
theorem numF_put (pre r : List Nat) (v : Nat) (hv : v < 2 ^ 64) : numF (pre ++ uv v ++ r) pre.length = .ok (v, pre.length + (uv v).length) := by
 unfold numF
 rw [List.append_assoc, List.drop_left]
 have := numR_put 9 0 v 0 r rfl hv (.inl rfl)
 unfold uv
 rw [this]
 simp
/-! bytes -/
theorem takeF_put (pre p r : List Nat) : takeF (pre ++ p ++ r) pre.length p.length = .ok (p, pre.length + p.length) := by
 unfold takeF
 rw [if_pos (by simp), List.append_assoc, List.drop_left, List.take_left]
theorem takeF_form (bs : List Nat) (at_ k a : Nat) (l : List Nat) (h : takeF bs at_ k = .ok (l, a)) : l = (bs.drop at_).take k ∧ a = at_ + k ∧ (k = 0 ∨ at_ + k ≤ bs.length) ∧ l.length = k := by
 unfold takeF at h
 split at h
 ·rename_i hk; cases h; exact ⟨rfl, rfl, by omega, by rw [List.length_take, List.length_drop]; omega⟩
 ·cases h
theorem fx_cons (k c r : Nat) (hc : c < 256) : fx (k + 1) (c + 256 * r) = c :: fx k r := by
 unfold fx
 rw [List.range_succ_eq_map, List.map_cons, List.map_map]
 congr 1
 ·simp; omega
 ·refine List.map_congr_left fun i _ => ?_
  simp only [Function.comp]
  rw [show 8 * (i + 1) = 8 + 8 * i by omega, Nat.pow_add, ← Nat.div_div_eq_div_mul, show (c + 256 * r) / 2 ^ 8 = r by omega]
theorem le256_fx : ∀ (k v : Nat), le256 (fx k v) = v % 256 ^ k
 | 0, v => by simp [fx, le256, Nat.mod_one]
 | k + 1, v => by
  have h := fx_cons k (v % 256) (v / 256) (by omega)
  rw [show v % 256 + 256 * (v / 256) = v by omega] at h
  rw [h, le256, le256_fx k, Nat.pow_succ, Nat.mul_comm (256 ^ k) 256, Nat.mod_mul]
theorem fixF_put (pre r : List Nat) (k v : Nat) (hv : v < 256 ^ k) : fixF (pre ++ fx k v ++ r) pre.length k = .ok (v, pre.length + (fx k v).length) := by
 unfold fixF
 have := takeF_put pre (fx k v) r
 rw [fx_len] at this
 rw [this]
 simp only
 rw [le256_fx, Nat.mod_eq_of_lt hv, fx_len]
/-! blocks -/
def blk (p : List Nat) : List Nat := uv p.length ++ p
theorem blockF_put (pre r p : List Nat) (most : Nat) (hp : p.length ≤ most) (h64 : p.length < 2 ^ 64) : blockF (pre ++ blk p ++ r) pre.length most = .ok (p, pre.length + (blk p).length) := by
 unfold blockF blk
 have h1 := numF_put pre (p ++ r) p.length h64
 rw [show pre ++ (uv p.length ++ p) ++ r = pre ++ uv p.length ++ (p ++ r) by simp, h1]
 simp only
 rw [if_pos hp]
 have h2 := takeF_put (pre ++ uv p.length) p r
 rw [show pre ++ uv p.length ++ (p ++ r) = pre ++ uv p.length ++ p ++ r by simp]
 rw [List.length_append] at h2
 rw [h2, List.length_append, Nat.add_assoc]
/-! texts -/
def rws (ts : List (List Nat)) : List Nat := ts.flatMap blk
theorem rws_cons (t : List Nat) (ts : List (List Nat)) : rws (t :: ts) = blk t ++ rws ts := rfl
theorem rowsF_put (each : Nat) : ∀ (ts : List (List Nat)) (pre r : List Nat), (∀ t ∈ ts, t.length ≤ each ∧ t.length < 2 ^ 64) → rowsF (pre ++ rws ts ++ r) each ts.length pre.length = .ok (ts, pre.length + (rws ts).length)
 | [], pre, r, _ => by simp [rowsF, rws]
 | t :: ts, pre, r, h => by
  have ht := h t (by simp)
  have h1 := blockF_put pre (rws ts ++ r) t each ht.1 ht.2
  have h2 := rowsF_put each ts (pre ++ blk t) r fun x hx => h x (by simp [hx])
  rw [rws_cons, List.length_cons]
  unfold rowsF
  rw [show pre ++ (blk t ++ rws ts) ++ r = pre ++ blk t ++ (rws ts ++ r) by simp, h1]
  simp only
  rw [show pre ++ blk t ++ (rws ts ++ r) = pre ++ blk t ++ rws ts ++ r by simp]
  rw [List.length_append] at h2
  rw [h2]
  simp only [List.length_append, Nat.add_assoc]
def txts (ts : List (List Nat)) : List Nat := uv ts.length ++ rws ts
theorem textsF_put (pre r : List Nat) (ts : List (List Nat)) (most each : Int) (h0 : ts.length ≤ most.toNat) (hm : 0 ≤ most) (he : 0 ≤ each) (h : ∀ t ∈ ts, t.length ≤ each.toNat ∧ t.length < 2 ^ 64) (h64 : ts.length < 2 ^ 64) :
  textsF (pre ++ txts ts ++ r) pre.length most each = .ok (ts, pre.length + (txts ts).length) := by
 unfold textsF txts
 rw [if_neg (by omega)]
 have h1 := numF_put pre (rws ts ++ r) ts.length h64
 rw [show pre ++ (uv ts.length ++ rws ts) ++ r = pre ++ uv ts.length ++ (rws ts ++ r) by simp, h1]
 simp only
 rw [if_pos h0]
 have h2 := rowsF_put each.toNat ts (pre ++ uv ts.length) r h
 rw [show pre ++ uv ts.length ++ (rws ts ++ r) = pre ++ uv ts.length ++ rws ts ++ r by simp]
 rw [List.length_append] at h2
 rw [h2, List.length_append, Nat.add_assoc]
end Go.Proofs.Ytbcmjjcbjojakaa
end
