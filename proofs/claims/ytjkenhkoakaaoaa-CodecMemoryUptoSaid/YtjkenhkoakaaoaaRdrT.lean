/- Contracts of codec.Take at the five kinds. (Printed by tools/rdrgen.py.) -/
import Derived.Test.YtjkenhkoakaaoaaRdrG
import Derived.Deep.CutRange
namespace Go.Proofs.Ytjkenhkoakaaoaa
open Go.RowKit
set_option linter.unusedVariables false
set_option maxRecDepth 20000
def KT (k : IntKind) (v : Value) (a : Nat) (_ : World) : Prop := v = .int k (a : Int)
theorem take_len_eq {bs l : List Nat} {at_ k a : Nat} (h : takeF bs at_ k = .ok (l, a)) : l.length = k := by
  unfold takeF at h
  split at h
  · cases h; rw [List.length_take, List.length_drop]; omega
  · cases h
theorem take_lb {bs l : List Nat} {at_ k a : Nat} (hb : ∀ x ∈ bs, x < 256) (h : takeF bs at_ k = .ok (l, a)) : ∀ x ∈ l, x < 256 := by
  unfold takeF at h
  split at h
  · cases h; intro x hx; exact hb x (List.mem_of_mem_drop (List.mem_of_mem_take hx))
  · cases h
theorem le_step (l : List Nat) (k : Nat) (hk : k < l.length) (h8 : k < 8) (hb : ∀ x ∈ l, x < 256) :
    bits .or .u64 ((le256 (l.take k) : Nat) : Int) (IntKind.u64.wrap (((l.getD k 0 : Nat) : Int) * 2 ^ (8 * k))) = ((le256 (l.take (k + 1)) : Nat) : Int) ∧ 0 ≤ ((l.getD k 0 : Nat) : Int) ∧ ((l.getD k 0 : Nat) : Int) ≤ 255 := by
  have hx : l.getD k 0 < 256 := by rw [List.getD_eq_getElem?_getD, List.getElem?_eq_getElem hk]; exact hb _ (List.getElem_mem hk)
  have hl : (l.take k).length = k := by rw [List.length_take]; omega
  have h1 := le256_lt (l.take k) fun y hy => hb y (List.mem_of_mem_take hy)
  rw [hl] at h1
  have hp : (256 : Nat) ^ k = 2 ^ (8 * k) := by rw [Nat.pow_mul]
  have e0 : l.take (k + 1) = l.take k ++ [l.getD k 0] := by rw [List.take_succ_eq_append_getElem hk, List.getD_eq_getElem?_getD, List.getElem?_eq_getElem hk]; rfl
  rw [e0, le256_snoc, hl]
  obtain ⟨x, hxe⟩ : ∃ x, l.getD k 0 = x := ⟨_, rfl⟩
  obtain ⟨v, hve⟩ : ∃ v, le256 (l.take k) = v := ⟨_, rfl⟩
  rw [hxe] at hx ⊢
  rw [hve] at h1 ⊢
  rw [hp] at h1 ⊢
  refine ⟨?_, by omega, by omega⟩
  have e2 : (x : Int) * 2 ^ (8 * k) = ((x * 2 ^ (8 * k) : Nat) : Int) := by push_cast; rfl
  have h56 : 2 ^ (8 * k) * 256 ≤ 18446744073709551616 := by
    rw [show (256 : Nat) = 2 ^ 8 by rfl, ← Nat.pow_add, show (18446744073709551616 : Nat) = 2 ^ 64 by rfl]
    exact Nat.pow_le_pow_right (by omega) (by omega)
  have h2 : x * 2 ^ (8 * k) ≤ 255 * 2 ^ (8 * k) := Nat.mul_le_mul_right _ (by omega)
  obtain ⟨y, hy⟩ : ∃ y, x * 2 ^ (8 * k) = y := ⟨_, rfl⟩
  rw [hy] at h2
  have e3 : IntKind.u64.wrap (y : Int) = (y : Int) := by rw [IntKind.wrap_u64]; omega
  rw [e2, hy, e3, u64_or_nat v y (by omega) (by omega)]
  rw [← hy, Nat.or_comm, ← Nat.shiftLeft_eq, ← Nat.shiftLeft_add_eq_or_of_lt h1, Nat.add_comm]
set_option maxHeartbeats 2000000 in
theorem takeC_uint8 (w : World) (gr pr pv n c at_ : Nat) (A : Option Addr) (bs : List Nat) (R : Rr w gr A n c at_ 0 bs) (C : Caps w gr pr pv) :
    Calls Try.prog 106 #[.pointer (some ⟨pr, 0, none⟩), .pointer (some ⟨pv, 0, none⟩)] w (Clo w gr pv n c A bs (KT .u8) (fixF bs at_ 1)) := by
  have HR : Hd (Rr w gr A n c at_ 0 bs ∧ Caps w gr pr pv) := ⟨R, C⟩
  have k1 := C.hr
  clear R C
  go_enter Try.func106, Try.ntmps106
  have WK : Hd (IntKind.u64.wrap 1 = 1) := ⟨by rw [IntKind.wrap_u64]; rfl⟩
  go_upto_region 1 with fail
  go_cut [2, 8, 9, 10] from 2 to 24 (fun t2 t8 t9 t10 wx => t2 = .int .u64 0 ∧ t9 = .int .i64 1 ∧ t10 = .int .i64 0 ∧ ∃ l a1, takeF bs at_ 1 = .ok (l, a1) ∧ ∃ A1 c1, t8 = .slice A1 1 c1 ∧ Chg [gr] w wx ∧ Rr wx gr A n c a1 0 bs ∧ Rd wx gr A1 1 (cb l))
  case first =>
    go_region_with (first
      | (go_at_call 100; refine (width_uint8 _).mono ?_; rintro e z ⟨rfl, rfl⟩)
      | (go_at_call 98; rw [WK.out]; refine (take_any _ gr n c at_ 1 1 A 0 bs HR.out.1.drew rfl).mono ?_; rintro e w1 ⟨hch, hy, hn⟩
         rcases hnum : takeF bs at_ 1 with ec | ⟨l, a1⟩
         · obtain ⟨he, at', hr⟩ := hn _ hnum
           unfold giveUp at he
           subst he
           exact ⟨rfl, Clo.no (by unfold fixF; rw [hnum]) hch.of_drew hr⟩
         obtain ⟨v, rfl, ⟨A1, c1, rfl, hrd, hc1⟩, hr⟩ := hy _ _ hnum
         rw [take_len_eq hnum] at hrd ⊢))
    all_goals
      go_wp2_with fail
      go_meet
      exact ⟨rfl, rfl, rfl, l, a1, hnum, A1, c1, rfl, hch.of_drew, hr, hrd⟩
  case rest =>
    obtain ⟨rfl, rfl, rfl, l, a1, hnum, A1, c1, rfl, hch, hr, hrd⟩ := hcut
    have H1 : Hd (Chg [gr] w wc ∧ Rr wc gr A n c a1 0 bs ∧ Caps wc gr pr pv ∧ fixF bs at_ 1 = .ok (le256 l, a1) ∧ Rd wc gr A1 1 (cb l) ∧ (∀ x ∈ l, x < 256) ∧ l.length = 1) :=
      ⟨hch, hr, HR.out.2.keep hch, by unfold fixF; rw [hnum], hrd, take_lb HR.out.1.lb hnum, take_len_eq hnum⟩
    clear hch hnum hr hrd
    go_wp2_with fail
    go_loopw [2, 10] (fun u i wr => ∃ k : Nat, k ≤ 1 ∧ i = .int .i64 k ∧ u = .int .u64 ((le256 (l.take k) : Nat) : Int) ∧ wr = wc) (fun _ i _ => 1 - (intOf i).toNat)
    case atStart => exact ⟨0, by omega, rfl, rfl, rfl⟩
    case round =>
      obtain ⟨k, hk, rfl, rfl, rfl⟩ := hrel
      by_cases hlt : k < 1
      · obtain ⟨g, off, u, hA, hg, hxx, hcell⟩ := H1.out.2.2.2.2.1.at_ hlt
        subst hA
        rw [cb_get l k (by rw [H1.out.2.2.2.2.2.2]; exact hlt)] at hxx
        injection hxx with hxx
        rw [← hxx] at hcell
        have HS := Hd.mk (le_step l k (by rw [H1.out.2.2.2.2.2.2]; exact hlt) (by omega) H1.out.2.2.2.2.2.1)
        obtain ⟨X, hX⟩ : ∃ X : Int, ((l.getD k 0 : Nat) : Int) = X := ⟨_, rfl⟩
        obtain ⟨V, hV⟩ : ∃ V : Int, ((le256 (l.take k) : Nat) : Int) = V := ⟨_, rfl⟩
        rw [hX, hV] at HS
        have x1 : 0 ≤ X := HS.out.2.1
        have x2 : X ≤ 255 := HS.out.2.2
        rw [hX] at hcell
        rw [hV]
        clear hX hV hxx
        go_wp2_with fail
        go_roundw
        case rel => exact ⟨k + 1, by omega, by go_num, by rw [← HS.out.1], by first | rfl | trivial⟩
        case measure => simp [intOf]; omega
      · have hk1 : k = 1 := by omega
        subst hk1
        have ht : l.take 1 = l := List.take_of_length_le (by rw [H1.out.2.2.2.2.2.2]; omega)
        rw [ht]
        have hb := le256_lt l H1.out.2.2.2.2.2.1
        rw [H1.out.2.2.2.2.2.2] at hb
        obtain ⟨V, hV⟩ : ∃ V : Int, ((le256 l : Nat) : Int) = V := ⟨_, rfl⟩
        have x1 : 0 ≤ V := by omega
        have x2 : V ≤ 255 := by omega
        have HV := Hd.mk hV
        rw [hV]
        clear hV hb ht
        obtain ⟨u, d1⟩ := H1.out.2.2.1.hv
        have d2 := H1.out.2.2.1.zv
        go_wp2_with fail
        go_end0
        refine Clo.yes (a := le256 l) (at' := a1) H1.out.2.2.2.1 ((H1.out.1.mono (by simp)).setCell (by simp) _) (H1.out.2.1.keep' ((Chg.refl [pv] _).setCell (by simp) _) (by have := HR.out.2.lt; simp; omega)) (World.cell?_setCell_same _ _ _ d1) (by rw [World.frozen?_setCell]; exact d2) (by rw [← HV.out]; rfl)
set_option maxHeartbeats 1000000 in
theorem take_uint8_any (w : World) (gr n c at_ : Nat) (fl : Int) (A : Option Addr) (bs : List Nat) (R : Rr w gr A n c at_ fl bs) :
    Calls Try.prog 85 #[.pointer (some ⟨gr, 0, none⟩)] w (Ans w gr n c A bs (KT .u8) (redo (fixF bs at_ 1) 0 at_ fl)) := by
  have hmf : ∀ (fn : Fn) (first cap : Array Value) (w : World), (Instr.makeFunc fn first cap).run Try.prog w = .ok (.func fn first cap) w := fun _ _ _ _ => rfl
  have HR := Hd.mk R
  clear R
  go_enter Try.func85, Try.ntmps85
  go_wp2_with fail
  have hch : Chg [] w ((w.alloc (.cells #[.pointer (some ⟨gr, 0, none⟩)] 64)).alloc (.cells #[.int .u8 0] 5)) := (((Chg.refl _ _).alloc _).alloc _)
  obtain ⟨W1, hW⟩ : ∃ W1, ((w.alloc (.cells #[.pointer (some ⟨gr, 0, none⟩)] 64)).alloc (.cells #[.int .u8 0] 5)) = W1 := ⟨_, rfl⟩
  have k1 : W1.cell? ⟨(w.heap.size + 1), 0, none⟩ = some (.int .u8 0) := by rw [← hW]; exact cell_new _ _ (by simp)
  have k2 : W1.cell? ⟨w.heap.size, 0, none⟩ = some (.pointer (some ⟨gr, 0, none⟩)) := by rw [← hW, World.cell?_alloc_lt _ _ _ (by simp; try omega)]; exact cell_new _ _ (by simp)
  have k3 : W1.heap.size = w.heap.size + 2 := by rw [← hW]; simp
  have k4 : W1.frozen? ⟨(w.heap.size + 1), 0, none⟩ = false := by rw [← hW]; exact frozen_new _ _ (by simp)
  rw [hW] at hch ⊢
  have HC : Hd (Caps W1 gr w.heap.size (w.heap.size + 1)) := ⟨⟨k2, ⟨_, k1⟩, k4, by have := HR.out.lt; omega⟩⟩
  have H1 : Hd (Chg [] w W1 ∧ Rr W1 gr A n c at_ fl bs ∧ W1.heap.size = w.heap.size + 2) := ⟨hch, HR.out.keep' hch (by simp), k3⟩
  clear hch hW
  refine (reading_all W1 gr (w.heap.size + 1) n c at_ fl A bs H1.out.2.1 (.int .u8 0) k1 k4 (by have := HR.out.lt; omega) (by omega) 106 (fun _ _ => rfl) _ (KT .u8) (fixF bs at_ 1) 0 (fun _ => rfl) ?_).mono ?_
  · intro h0 w2 h2
    have hR := H1.out.2.1.keep' h2 (by simp)
    rw [h0] at hR
    exact takeC_uint8 w2 gr w.heap.size (w.heap.size + 1) n c at_ A bs hR (HC.out.keep (h2.mono (by simp)))
  rintro e w2 ⟨rfl, ha⟩
  have HA := Hd.mk ha
  obtain ⟨v, c1, hk⟩ := ha.cell
  have c2 := ha.froz
  unfold KT at hk
  subst hk
  obtain ⟨X, hX⟩ : ∃ X : Int, ((redo (fixF bs at_ 1) 0 at_ fl).1 : Int) = X := ⟨_, rfl⟩
  have HX := Hd.mk hX
  rw [hX] at c1
  clear ha k1 k2 k3 k4
  clear hX
  go_wp2_with fail
  go_ret
  refine ⟨_, rfl, ?_, ?_, ?_⟩
  · exact Chg.pop (L := [gr]) ((H1.out.1.mono (by simp)).trans HA.out.ch) (by omega)
  · rw [← HX.out]; rfl
  · exact HA.out.rr
set_option maxHeartbeats 2000000 in
theorem takeC_uint16 (w : World) (gr pr pv n c at_ : Nat) (A : Option Addr) (bs : List Nat) (R : Rr w gr A n c at_ 0 bs) (C : Caps w gr pr pv) :
    Calls Try.prog 107 #[.pointer (some ⟨pr, 0, none⟩), .pointer (some ⟨pv, 0, none⟩)] w (Clo w gr pv n c A bs (KT .u16) (fixF bs at_ 2)) := by
  have HR : Hd (Rr w gr A n c at_ 0 bs ∧ Caps w gr pr pv) := ⟨R, C⟩
  have k1 := C.hr
  clear R C
  go_enter Try.func107, Try.ntmps107
  have WK : Hd (IntKind.u64.wrap 2 = 2) := ⟨by rw [IntKind.wrap_u64]; rfl⟩
  go_upto_region 1 with fail
  go_cut [2, 8, 9, 10] from 2 to 24 (fun t2 t8 t9 t10 wx => t2 = .int .u64 0 ∧ t9 = .int .i64 2 ∧ t10 = .int .i64 0 ∧ ∃ l a1, takeF bs at_ 2 = .ok (l, a1) ∧ ∃ A1 c1, t8 = .slice A1 2 c1 ∧ Chg [gr] w wx ∧ Rr wx gr A n c a1 0 bs ∧ Rd wx gr A1 2 (cb l))
  case first =>
    go_region_with (first
      | (go_at_call 101; refine (width_uint16 _).mono ?_; rintro e z ⟨rfl, rfl⟩)
      | (go_at_call 98; rw [WK.out]; refine (take_any _ gr n c at_ 2 2 A 0 bs HR.out.1.drew rfl).mono ?_; rintro e w1 ⟨hch, hy, hn⟩
         rcases hnum : takeF bs at_ 2 with ec | ⟨l, a1⟩
         · obtain ⟨he, at', hr⟩ := hn _ hnum
           unfold giveUp at he
           subst he
           exact ⟨rfl, Clo.no (by unfold fixF; rw [hnum]) hch.of_drew hr⟩
         obtain ⟨v, rfl, ⟨A1, c1, rfl, hrd, hc1⟩, hr⟩ := hy _ _ hnum
         rw [take_len_eq hnum] at hrd ⊢))
    all_goals
      go_wp2_with fail
      go_meet
      exact ⟨rfl, rfl, rfl, l, a1, hnum, A1, c1, rfl, hch.of_drew, hr, hrd⟩
  case rest =>
    obtain ⟨rfl, rfl, rfl, l, a1, hnum, A1, c1, rfl, hch, hr, hrd⟩ := hcut
    have H1 : Hd (Chg [gr] w wc ∧ Rr wc gr A n c a1 0 bs ∧ Caps wc gr pr pv ∧ fixF bs at_ 2 = .ok (le256 l, a1) ∧ Rd wc gr A1 2 (cb l) ∧ (∀ x ∈ l, x < 256) ∧ l.length = 2) :=
      ⟨hch, hr, HR.out.2.keep hch, by unfold fixF; rw [hnum], hrd, take_lb HR.out.1.lb hnum, take_len_eq hnum⟩
    clear hch hnum hr hrd
    go_wp2_with fail
    go_loopw [2, 10] (fun u i wr => ∃ k : Nat, k ≤ 2 ∧ i = .int .i64 k ∧ u = .int .u64 ((le256 (l.take k) : Nat) : Int) ∧ wr = wc) (fun _ i _ => 2 - (intOf i).toNat)
    case atStart => exact ⟨0, by omega, rfl, rfl, rfl⟩
    case round =>
      obtain ⟨k, hk, rfl, rfl, rfl⟩ := hrel
      by_cases hlt : k < 2
      · obtain ⟨g, off, u, hA, hg, hxx, hcell⟩ := H1.out.2.2.2.2.1.at_ hlt
        subst hA
        rw [cb_get l k (by rw [H1.out.2.2.2.2.2.2]; exact hlt)] at hxx
        injection hxx with hxx
        rw [← hxx] at hcell
        have HS := Hd.mk (le_step l k (by rw [H1.out.2.2.2.2.2.2]; exact hlt) (by omega) H1.out.2.2.2.2.2.1)
        obtain ⟨X, hX⟩ : ∃ X : Int, ((l.getD k 0 : Nat) : Int) = X := ⟨_, rfl⟩
        obtain ⟨V, hV⟩ : ∃ V : Int, ((le256 (l.take k) : Nat) : Int) = V := ⟨_, rfl⟩
        rw [hX, hV] at HS
        have x1 : 0 ≤ X := HS.out.2.1
        have x2 : X ≤ 255 := HS.out.2.2
        rw [hX] at hcell
        rw [hV]
        clear hX hV hxx
        go_wp2_with fail
        go_roundw
        case rel => exact ⟨k + 1, by omega, by go_num, by rw [← HS.out.1], by first | rfl | trivial⟩
        case measure => simp [intOf]; omega
      · have hk1 : k = 2 := by omega
        subst hk1
        have ht : l.take 2 = l := List.take_of_length_le (by rw [H1.out.2.2.2.2.2.2]; omega)
        rw [ht]
        have hb := le256_lt l H1.out.2.2.2.2.2.1
        rw [H1.out.2.2.2.2.2.2] at hb
        obtain ⟨V, hV⟩ : ∃ V : Int, ((le256 l : Nat) : Int) = V := ⟨_, rfl⟩
        have x1 : 0 ≤ V := by omega
        have x2 : V ≤ 65535 := by omega
        have HV := Hd.mk hV
        rw [hV]
        clear hV hb ht
        obtain ⟨u, d1⟩ := H1.out.2.2.1.hv
        have d2 := H1.out.2.2.1.zv
        go_wp2_with fail
        go_end0
        refine Clo.yes (a := le256 l) (at' := a1) H1.out.2.2.2.1 ((H1.out.1.mono (by simp)).setCell (by simp) _) (H1.out.2.1.keep' ((Chg.refl [pv] _).setCell (by simp) _) (by have := HR.out.2.lt; simp; omega)) (World.cell?_setCell_same _ _ _ d1) (by rw [World.frozen?_setCell]; exact d2) (by rw [← HV.out]; rfl)
set_option maxHeartbeats 1000000 in
theorem take_uint16_any (w : World) (gr n c at_ : Nat) (fl : Int) (A : Option Addr) (bs : List Nat) (R : Rr w gr A n c at_ fl bs) :
    Calls Try.prog 86 #[.pointer (some ⟨gr, 0, none⟩)] w (Ans w gr n c A bs (KT .u16) (redo (fixF bs at_ 2) 0 at_ fl)) := by
  have hmf : ∀ (fn : Fn) (first cap : Array Value) (w : World), (Instr.makeFunc fn first cap).run Try.prog w = .ok (.func fn first cap) w := fun _ _ _ _ => rfl
  have HR := Hd.mk R
  clear R
  go_enter Try.func86, Try.ntmps86
  go_wp2_with fail
  have hch : Chg [] w ((w.alloc (.cells #[.pointer (some ⟨gr, 0, none⟩)] 64)).alloc (.cells #[.int .u16 0] 106)) := (((Chg.refl _ _).alloc _).alloc _)
  obtain ⟨W1, hW⟩ : ∃ W1, ((w.alloc (.cells #[.pointer (some ⟨gr, 0, none⟩)] 64)).alloc (.cells #[.int .u16 0] 106)) = W1 := ⟨_, rfl⟩
  have k1 : W1.cell? ⟨(w.heap.size + 1), 0, none⟩ = some (.int .u16 0) := by rw [← hW]; exact cell_new _ _ (by simp)
  have k2 : W1.cell? ⟨w.heap.size, 0, none⟩ = some (.pointer (some ⟨gr, 0, none⟩)) := by rw [← hW, World.cell?_alloc_lt _ _ _ (by simp; try omega)]; exact cell_new _ _ (by simp)
  have k3 : W1.heap.size = w.heap.size + 2 := by rw [← hW]; simp
  have k4 : W1.frozen? ⟨(w.heap.size + 1), 0, none⟩ = false := by rw [← hW]; exact frozen_new _ _ (by simp)
  rw [hW] at hch ⊢
  have HC : Hd (Caps W1 gr w.heap.size (w.heap.size + 1)) := ⟨⟨k2, ⟨_, k1⟩, k4, by have := HR.out.lt; omega⟩⟩
  have H1 : Hd (Chg [] w W1 ∧ Rr W1 gr A n c at_ fl bs ∧ W1.heap.size = w.heap.size + 2) := ⟨hch, HR.out.keep' hch (by simp), k3⟩
  clear hch hW
  refine (reading_all W1 gr (w.heap.size + 1) n c at_ fl A bs H1.out.2.1 (.int .u16 0) k1 k4 (by have := HR.out.lt; omega) (by omega) 107 (fun _ _ => rfl) _ (KT .u16) (fixF bs at_ 2) 0 (fun _ => rfl) ?_).mono ?_
  · intro h0 w2 h2
    have hR := H1.out.2.1.keep' h2 (by simp)
    rw [h0] at hR
    exact takeC_uint16 w2 gr w.heap.size (w.heap.size + 1) n c at_ A bs hR (HC.out.keep (h2.mono (by simp)))
  rintro e w2 ⟨rfl, ha⟩
  have HA := Hd.mk ha
  obtain ⟨v, c1, hk⟩ := ha.cell
  have c2 := ha.froz
  unfold KT at hk
  subst hk
  obtain ⟨X, hX⟩ : ∃ X : Int, ((redo (fixF bs at_ 2) 0 at_ fl).1 : Int) = X := ⟨_, rfl⟩
  have HX := Hd.mk hX
  rw [hX] at c1
  clear ha k1 k2 k3 k4
  clear hX
  go_wp2_with fail
  go_ret
  refine ⟨_, rfl, ?_, ?_, ?_⟩
  · exact Chg.pop (L := [gr]) ((H1.out.1.mono (by simp)).trans HA.out.ch) (by omega)
  · rw [← HX.out]; rfl
  · exact HA.out.rr
set_option maxHeartbeats 2000000 in
theorem takeC_uint32 (w : World) (gr pr pv n c at_ : Nat) (A : Option Addr) (bs : List Nat) (R : Rr w gr A n c at_ 0 bs) (C : Caps w gr pr pv) :
    Calls Try.prog 108 #[.pointer (some ⟨pr, 0, none⟩), .pointer (some ⟨pv, 0, none⟩)] w (Clo w gr pv n c A bs (KT .u32) (fixF bs at_ 4)) := by
  have HR : Hd (Rr w gr A n c at_ 0 bs ∧ Caps w gr pr pv) := ⟨R, C⟩
  have k1 := C.hr
  clear R C
  go_enter Try.func108, Try.ntmps108
  have WK : Hd (IntKind.u64.wrap 4 = 4) := ⟨by rw [IntKind.wrap_u64]; rfl⟩
  go_upto_region 1 with fail
  go_cut [2, 8, 9, 10] from 2 to 24 (fun t2 t8 t9 t10 wx => t2 = .int .u64 0 ∧ t9 = .int .i64 4 ∧ t10 = .int .i64 0 ∧ ∃ l a1, takeF bs at_ 4 = .ok (l, a1) ∧ ∃ A1 c1, t8 = .slice A1 4 c1 ∧ Chg [gr] w wx ∧ Rr wx gr A n c a1 0 bs ∧ Rd wx gr A1 4 (cb l))
  case first =>
    go_region_with (first
      | (go_at_call 102; refine (width_uint32 _).mono ?_; rintro e z ⟨rfl, rfl⟩)
      | (go_at_call 98; rw [WK.out]; refine (take_any _ gr n c at_ 4 4 A 0 bs HR.out.1.drew rfl).mono ?_; rintro e w1 ⟨hch, hy, hn⟩
         rcases hnum : takeF bs at_ 4 with ec | ⟨l, a1⟩
         · obtain ⟨he, at', hr⟩ := hn _ hnum
           unfold giveUp at he
           subst he
           exact ⟨rfl, Clo.no (by unfold fixF; rw [hnum]) hch.of_drew hr⟩
         obtain ⟨v, rfl, ⟨A1, c1, rfl, hrd, hc1⟩, hr⟩ := hy _ _ hnum
         rw [take_len_eq hnum] at hrd ⊢))
    all_goals
      go_wp2_with fail
      go_meet
      exact ⟨rfl, rfl, rfl, l, a1, hnum, A1, c1, rfl, hch.of_drew, hr, hrd⟩
  case rest =>
    obtain ⟨rfl, rfl, rfl, l, a1, hnum, A1, c1, rfl, hch, hr, hrd⟩ := hcut
    have H1 : Hd (Chg [gr] w wc ∧ Rr wc gr A n c a1 0 bs ∧ Caps wc gr pr pv ∧ fixF bs at_ 4 = .ok (le256 l, a1) ∧ Rd wc gr A1 4 (cb l) ∧ (∀ x ∈ l, x < 256) ∧ l.length = 4) :=
      ⟨hch, hr, HR.out.2.keep hch, by unfold fixF; rw [hnum], hrd, take_lb HR.out.1.lb hnum, take_len_eq hnum⟩
    clear hch hnum hr hrd
    go_wp2_with fail
    go_loopw [2, 10] (fun u i wr => ∃ k : Nat, k ≤ 4 ∧ i = .int .i64 k ∧ u = .int .u64 ((le256 (l.take k) : Nat) : Int) ∧ wr = wc) (fun _ i _ => 4 - (intOf i).toNat)
    case atStart => exact ⟨0, by omega, rfl, rfl, rfl⟩
    case round =>
      obtain ⟨k, hk, rfl, rfl, rfl⟩ := hrel
      by_cases hlt : k < 4
      · obtain ⟨g, off, u, hA, hg, hxx, hcell⟩ := H1.out.2.2.2.2.1.at_ hlt
        subst hA
        rw [cb_get l k (by rw [H1.out.2.2.2.2.2.2]; exact hlt)] at hxx
        injection hxx with hxx
        rw [← hxx] at hcell
        have HS := Hd.mk (le_step l k (by rw [H1.out.2.2.2.2.2.2]; exact hlt) (by omega) H1.out.2.2.2.2.2.1)
        obtain ⟨X, hX⟩ : ∃ X : Int, ((l.getD k 0 : Nat) : Int) = X := ⟨_, rfl⟩
        obtain ⟨V, hV⟩ : ∃ V : Int, ((le256 (l.take k) : Nat) : Int) = V := ⟨_, rfl⟩
        rw [hX, hV] at HS
        have x1 : 0 ≤ X := HS.out.2.1
        have x2 : X ≤ 255 := HS.out.2.2
        rw [hX] at hcell
        rw [hV]
        clear hX hV hxx
        go_wp2_with fail
        go_roundw
        case rel => exact ⟨k + 1, by omega, by go_num, by rw [← HS.out.1], by first | rfl | trivial⟩
        case measure => simp [intOf]; omega
      · have hk1 : k = 4 := by omega
        subst hk1
        have ht : l.take 4 = l := List.take_of_length_le (by rw [H1.out.2.2.2.2.2.2]; omega)
        rw [ht]
        have hb := le256_lt l H1.out.2.2.2.2.2.1
        rw [H1.out.2.2.2.2.2.2] at hb
        obtain ⟨V, hV⟩ : ∃ V : Int, ((le256 l : Nat) : Int) = V := ⟨_, rfl⟩
        have x1 : 0 ≤ V := by omega
        have x2 : V ≤ 4294967295 := by omega
        have HV := Hd.mk hV
        rw [hV]
        clear hV hb ht
        obtain ⟨u, d1⟩ := H1.out.2.2.1.hv
        have d2 := H1.out.2.2.1.zv
        go_wp2_with fail
        go_end0
        refine Clo.yes (a := le256 l) (at' := a1) H1.out.2.2.2.1 ((H1.out.1.mono (by simp)).setCell (by simp) _) (H1.out.2.1.keep' ((Chg.refl [pv] _).setCell (by simp) _) (by have := HR.out.2.lt; simp; omega)) (World.cell?_setCell_same _ _ _ d1) (by rw [World.frozen?_setCell]; exact d2) (by rw [← HV.out]; rfl)
set_option maxHeartbeats 1000000 in
theorem take_uint32_any (w : World) (gr n c at_ : Nat) (fl : Int) (A : Option Addr) (bs : List Nat) (R : Rr w gr A n c at_ fl bs) :
    Calls Try.prog 87 #[.pointer (some ⟨gr, 0, none⟩)] w (Ans w gr n c A bs (KT .u32) (redo (fixF bs at_ 4) 0 at_ fl)) := by
  have hmf : ∀ (fn : Fn) (first cap : Array Value) (w : World), (Instr.makeFunc fn first cap).run Try.prog w = .ok (.func fn first cap) w := fun _ _ _ _ => rfl
  have HR := Hd.mk R
  clear R
  go_enter Try.func87, Try.ntmps87
  go_wp2_with fail
  have hch : Chg [] w ((w.alloc (.cells #[.pointer (some ⟨gr, 0, none⟩)] 64)).alloc (.cells #[.int .u32 0] 108)) := (((Chg.refl _ _).alloc _).alloc _)
  obtain ⟨W1, hW⟩ : ∃ W1, ((w.alloc (.cells #[.pointer (some ⟨gr, 0, none⟩)] 64)).alloc (.cells #[.int .u32 0] 108)) = W1 := ⟨_, rfl⟩
  have k1 : W1.cell? ⟨(w.heap.size + 1), 0, none⟩ = some (.int .u32 0) := by rw [← hW]; exact cell_new _ _ (by simp)
  have k2 : W1.cell? ⟨w.heap.size, 0, none⟩ = some (.pointer (some ⟨gr, 0, none⟩)) := by rw [← hW, World.cell?_alloc_lt _ _ _ (by simp; try omega)]; exact cell_new _ _ (by simp)
  have k3 : W1.heap.size = w.heap.size + 2 := by rw [← hW]; simp
  have k4 : W1.frozen? ⟨(w.heap.size + 1), 0, none⟩ = false := by rw [← hW]; exact frozen_new _ _ (by simp)
  rw [hW] at hch ⊢
  have HC : Hd (Caps W1 gr w.heap.size (w.heap.size + 1)) := ⟨⟨k2, ⟨_, k1⟩, k4, by have := HR.out.lt; omega⟩⟩
  have H1 : Hd (Chg [] w W1 ∧ Rr W1 gr A n c at_ fl bs ∧ W1.heap.size = w.heap.size + 2) := ⟨hch, HR.out.keep' hch (by simp), k3⟩
  clear hch hW
  refine (reading_all W1 gr (w.heap.size + 1) n c at_ fl A bs H1.out.2.1 (.int .u32 0) k1 k4 (by have := HR.out.lt; omega) (by omega) 108 (fun _ _ => rfl) _ (KT .u32) (fixF bs at_ 4) 0 (fun _ => rfl) ?_).mono ?_
  · intro h0 w2 h2
    have hR := H1.out.2.1.keep' h2 (by simp)
    rw [h0] at hR
    exact takeC_uint32 w2 gr w.heap.size (w.heap.size + 1) n c at_ A bs hR (HC.out.keep (h2.mono (by simp)))
  rintro e w2 ⟨rfl, ha⟩
  have HA := Hd.mk ha
  obtain ⟨v, c1, hk⟩ := ha.cell
  have c2 := ha.froz
  unfold KT at hk
  subst hk
  obtain ⟨X, hX⟩ : ∃ X : Int, ((redo (fixF bs at_ 4) 0 at_ fl).1 : Int) = X := ⟨_, rfl⟩
  have HX := Hd.mk hX
  rw [hX] at c1
  clear ha k1 k2 k3 k4
  clear hX
  go_wp2_with fail
  go_ret
  refine ⟨_, rfl, ?_, ?_, ?_⟩
  · exact Chg.pop (L := [gr]) ((H1.out.1.mono (by simp)).trans HA.out.ch) (by omega)
  · rw [← HX.out]; rfl
  · exact HA.out.rr
set_option maxHeartbeats 2000000 in
theorem takeC_uint64 (w : World) (gr pr pv n c at_ : Nat) (A : Option Addr) (bs : List Nat) (R : Rr w gr A n c at_ 0 bs) (C : Caps w gr pr pv) :
    Calls Try.prog 109 #[.pointer (some ⟨pr, 0, none⟩), .pointer (some ⟨pv, 0, none⟩)] w (Clo w gr pv n c A bs (KT .u64) (fixF bs at_ 8)) := by
  have HR : Hd (Rr w gr A n c at_ 0 bs ∧ Caps w gr pr pv) := ⟨R, C⟩
  have k1 := C.hr
  clear R C
  go_enter Try.func109, Try.ntmps109
  have WK : Hd (IntKind.u64.wrap 8 = 8) := ⟨by rw [IntKind.wrap_u64]; rfl⟩
  go_upto_region 1 with fail
  go_cut [2, 8, 9, 10] from 2 to 23 (fun t2 t8 t9 t10 wx => t2 = .int .u64 0 ∧ t9 = .int .i64 8 ∧ t10 = .int .i64 0 ∧ ∃ l a1, takeF bs at_ 8 = .ok (l, a1) ∧ ∃ A1 c1, t8 = .slice A1 8 c1 ∧ Chg [gr] w wx ∧ Rr wx gr A n c a1 0 bs ∧ Rd wx gr A1 8 (cb l))
  case first =>
    go_region_with (first
      | (go_at_call 103; refine (width_uint64 _).mono ?_; rintro e z ⟨rfl, rfl⟩)
      | (go_at_call 98; rw [WK.out]; refine (take_any _ gr n c at_ 8 8 A 0 bs HR.out.1.drew rfl).mono ?_; rintro e w1 ⟨hch, hy, hn⟩
         rcases hnum : takeF bs at_ 8 with ec | ⟨l, a1⟩
         · obtain ⟨he, at', hr⟩ := hn _ hnum
           unfold giveUp at he
           subst he
           exact ⟨rfl, Clo.no (by unfold fixF; rw [hnum]) hch.of_drew hr⟩
         obtain ⟨v, rfl, ⟨A1, c1, rfl, hrd, hc1⟩, hr⟩ := hy _ _ hnum
         rw [take_len_eq hnum] at hrd ⊢))
    all_goals
      go_wp2_with fail
      go_meet
      exact ⟨rfl, rfl, rfl, l, a1, hnum, A1, c1, rfl, hch.of_drew, hr, hrd⟩
  case rest =>
    obtain ⟨rfl, rfl, rfl, l, a1, hnum, A1, c1, rfl, hch, hr, hrd⟩ := hcut
    have H1 : Hd (Chg [gr] w wc ∧ Rr wc gr A n c a1 0 bs ∧ Caps wc gr pr pv ∧ fixF bs at_ 8 = .ok (le256 l, a1) ∧ Rd wc gr A1 8 (cb l) ∧ (∀ x ∈ l, x < 256) ∧ l.length = 8) :=
      ⟨hch, hr, HR.out.2.keep hch, by unfold fixF; rw [hnum], hrd, take_lb HR.out.1.lb hnum, take_len_eq hnum⟩
    clear hch hnum hr hrd
    go_wp2_with fail
    go_loopw [2, 10] (fun u i wr => ∃ k : Nat, k ≤ 8 ∧ i = .int .i64 k ∧ u = .int .u64 ((le256 (l.take k) : Nat) : Int) ∧ wr = wc) (fun _ i _ => 8 - (intOf i).toNat)
    case atStart => exact ⟨0, by omega, rfl, rfl, rfl⟩
    case round =>
      obtain ⟨k, hk, rfl, rfl, rfl⟩ := hrel
      by_cases hlt : k < 8
      · obtain ⟨g, off, u, hA, hg, hxx, hcell⟩ := H1.out.2.2.2.2.1.at_ hlt
        subst hA
        rw [cb_get l k (by rw [H1.out.2.2.2.2.2.2]; exact hlt)] at hxx
        injection hxx with hxx
        rw [← hxx] at hcell
        have HS := Hd.mk (le_step l k (by rw [H1.out.2.2.2.2.2.2]; exact hlt) (by omega) H1.out.2.2.2.2.2.1)
        obtain ⟨X, hX⟩ : ∃ X : Int, ((l.getD k 0 : Nat) : Int) = X := ⟨_, rfl⟩
        obtain ⟨V, hV⟩ : ∃ V : Int, ((le256 (l.take k) : Nat) : Int) = V := ⟨_, rfl⟩
        rw [hX, hV] at HS
        have x1 : 0 ≤ X := HS.out.2.1
        have x2 : X ≤ 255 := HS.out.2.2
        rw [hX] at hcell
        rw [hV]
        clear hX hV hxx
        go_wp2_with fail
        go_roundw
        case rel => exact ⟨k + 1, by omega, by go_num, by rw [← HS.out.1], by first | rfl | trivial⟩
        case measure => simp [intOf]; omega
      · have hk1 : k = 8 := by omega
        subst hk1
        have ht : l.take 8 = l := List.take_of_length_le (by rw [H1.out.2.2.2.2.2.2]; omega)
        rw [ht]
        have hb := le256_lt l H1.out.2.2.2.2.2.1
        rw [H1.out.2.2.2.2.2.2] at hb
        obtain ⟨V, hV⟩ : ∃ V : Int, ((le256 l : Nat) : Int) = V := ⟨_, rfl⟩
        have x1 : 0 ≤ V := by omega
        have x2 : V ≤ 18446744073709551615 := by omega
        have HV := Hd.mk hV
        rw [hV]
        clear hV hb ht
        obtain ⟨u, d1⟩ := H1.out.2.2.1.hv
        have d2 := H1.out.2.2.1.zv
        go_wp2_with fail
        go_end0
        refine Clo.yes (a := le256 l) (at' := a1) H1.out.2.2.2.1 ((H1.out.1.mono (by simp)).setCell (by simp) _) (H1.out.2.1.keep' ((Chg.refl [pv] _).setCell (by simp) _) (by have := HR.out.2.lt; simp; omega)) (World.cell?_setCell_same _ _ _ d1) (by rw [World.frozen?_setCell]; exact d2) (by rw [← HV.out]; rfl)
set_option maxHeartbeats 1000000 in
theorem take_uint64_any (w : World) (gr n c at_ : Nat) (fl : Int) (A : Option Addr) (bs : List Nat) (R : Rr w gr A n c at_ fl bs) :
    Calls Try.prog 88 #[.pointer (some ⟨gr, 0, none⟩)] w (Ans w gr n c A bs (KT .u64) (redo (fixF bs at_ 8) 0 at_ fl)) := by
  have hmf : ∀ (fn : Fn) (first cap : Array Value) (w : World), (Instr.makeFunc fn first cap).run Try.prog w = .ok (.func fn first cap) w := fun _ _ _ _ => rfl
  have HR := Hd.mk R
  clear R
  go_enter Try.func88, Try.ntmps88
  go_wp2_with fail
  have hch : Chg [] w ((w.alloc (.cells #[.pointer (some ⟨gr, 0, none⟩)] 64)).alloc (.cells #[.int .u64 0] 23)) := (((Chg.refl _ _).alloc _).alloc _)
  obtain ⟨W1, hW⟩ : ∃ W1, ((w.alloc (.cells #[.pointer (some ⟨gr, 0, none⟩)] 64)).alloc (.cells #[.int .u64 0] 23)) = W1 := ⟨_, rfl⟩
  have k1 : W1.cell? ⟨(w.heap.size + 1), 0, none⟩ = some (.int .u64 0) := by rw [← hW]; exact cell_new _ _ (by simp)
  have k2 : W1.cell? ⟨w.heap.size, 0, none⟩ = some (.pointer (some ⟨gr, 0, none⟩)) := by rw [← hW, World.cell?_alloc_lt _ _ _ (by simp; try omega)]; exact cell_new _ _ (by simp)
  have k3 : W1.heap.size = w.heap.size + 2 := by rw [← hW]; simp
  have k4 : W1.frozen? ⟨(w.heap.size + 1), 0, none⟩ = false := by rw [← hW]; exact frozen_new _ _ (by simp)
  rw [hW] at hch ⊢
  have HC : Hd (Caps W1 gr w.heap.size (w.heap.size + 1)) := ⟨⟨k2, ⟨_, k1⟩, k4, by have := HR.out.lt; omega⟩⟩
  have H1 : Hd (Chg [] w W1 ∧ Rr W1 gr A n c at_ fl bs ∧ W1.heap.size = w.heap.size + 2) := ⟨hch, HR.out.keep' hch (by simp), k3⟩
  clear hch hW
  refine (reading_all W1 gr (w.heap.size + 1) n c at_ fl A bs H1.out.2.1 (.int .u64 0) k1 k4 (by have := HR.out.lt; omega) (by omega) 109 (fun _ _ => rfl) _ (KT .u64) (fixF bs at_ 8) 0 (fun _ => rfl) ?_).mono ?_
  · intro h0 w2 h2
    have hR := H1.out.2.1.keep' h2 (by simp)
    rw [h0] at hR
    exact takeC_uint64 w2 gr w.heap.size (w.heap.size + 1) n c at_ A bs hR (HC.out.keep (h2.mono (by simp)))
  rintro e w2 ⟨rfl, ha⟩
  have HA := Hd.mk ha
  obtain ⟨v, c1, hk⟩ := ha.cell
  have c2 := ha.froz
  unfold KT at hk
  subst hk
  obtain ⟨X, hX⟩ : ∃ X : Int, ((redo (fixF bs at_ 8) 0 at_ fl).1 : Int) = X := ⟨_, rfl⟩
  have HX := Hd.mk hX
  rw [hX] at c1
  clear ha k1 k2 k3 k4
  clear hX
  go_wp2_with fail
  go_ret
  refine ⟨_, rfl, ?_, ?_, ?_⟩
  · exact Chg.pop (L := [gr]) ((H1.out.1.mono (by simp)).trans HA.out.ch) (by omega)
  · rw [← HX.out]; rfl
  · exact HA.out.rr
set_option maxHeartbeats 2000000 in
theorem takeC_tall (w : World) (gr pr pv n c at_ : Nat) (A : Option Addr) (bs : List Nat) (R : Rr w gr A n c at_ 0 bs) (C : Caps w gr pr pv) :
    Calls Try.prog 110 #[.pointer (some ⟨pr, 0, none⟩), .pointer (some ⟨pv, 0, none⟩)] w (Clo w gr pv n c A bs (KT .u16) (fixF bs at_ 2)) := by
  have HR : Hd (Rr w gr A n c at_ 0 bs ∧ Caps w gr pr pv) := ⟨R, C⟩
  have k1 := C.hr
  clear R C
  go_enter Try.func110, Try.ntmps110
  have WK : Hd (IntKind.u64.wrap 2 = 2) := ⟨by rw [IntKind.wrap_u64]; rfl⟩
  go_upto_region 1 with fail
  go_cut [2, 8, 9, 10] from 2 to 24 (fun t2 t8 t9 t10 wx => t2 = .int .u64 0 ∧ t9 = .int .i64 2 ∧ t10 = .int .i64 0 ∧ ∃ l a1, takeF bs at_ 2 = .ok (l, a1) ∧ ∃ A1 c1, t8 = .slice A1 2 c1 ∧ Chg [gr] w wx ∧ Rr wx gr A n c a1 0 bs ∧ Rd wx gr A1 2 (cb l))
  case first =>
    go_region_with (first
      | (go_at_call 104; refine (width_tall _).mono ?_; rintro e z ⟨rfl, rfl⟩)
      | (go_at_call 98; rw [WK.out]; refine (take_any _ gr n c at_ 2 2 A 0 bs HR.out.1.drew rfl).mono ?_; rintro e w1 ⟨hch, hy, hn⟩
         rcases hnum : takeF bs at_ 2 with ec | ⟨l, a1⟩
         · obtain ⟨he, at', hr⟩ := hn _ hnum
           unfold giveUp at he
           subst he
           exact ⟨rfl, Clo.no (by unfold fixF; rw [hnum]) hch.of_drew hr⟩
         obtain ⟨v, rfl, ⟨A1, c1, rfl, hrd, hc1⟩, hr⟩ := hy _ _ hnum
         rw [take_len_eq hnum] at hrd ⊢))
    all_goals
      go_wp2_with fail
      go_meet
      exact ⟨rfl, rfl, rfl, l, a1, hnum, A1, c1, rfl, hch.of_drew, hr, hrd⟩
  case rest =>
    obtain ⟨rfl, rfl, rfl, l, a1, hnum, A1, c1, rfl, hch, hr, hrd⟩ := hcut
    have H1 : Hd (Chg [gr] w wc ∧ Rr wc gr A n c a1 0 bs ∧ Caps wc gr pr pv ∧ fixF bs at_ 2 = .ok (le256 l, a1) ∧ Rd wc gr A1 2 (cb l) ∧ (∀ x ∈ l, x < 256) ∧ l.length = 2) :=
      ⟨hch, hr, HR.out.2.keep hch, by unfold fixF; rw [hnum], hrd, take_lb HR.out.1.lb hnum, take_len_eq hnum⟩
    clear hch hnum hr hrd
    go_wp2_with fail
    go_loopw [2, 10] (fun u i wr => ∃ k : Nat, k ≤ 2 ∧ i = .int .i64 k ∧ u = .int .u64 ((le256 (l.take k) : Nat) : Int) ∧ wr = wc) (fun _ i _ => 2 - (intOf i).toNat)
    case atStart => exact ⟨0, by omega, rfl, rfl, rfl⟩
    case round =>
      obtain ⟨k, hk, rfl, rfl, rfl⟩ := hrel
      by_cases hlt : k < 2
      · obtain ⟨g, off, u, hA, hg, hxx, hcell⟩ := H1.out.2.2.2.2.1.at_ hlt
        subst hA
        rw [cb_get l k (by rw [H1.out.2.2.2.2.2.2]; exact hlt)] at hxx
        injection hxx with hxx
        rw [← hxx] at hcell
        have HS := Hd.mk (le_step l k (by rw [H1.out.2.2.2.2.2.2]; exact hlt) (by omega) H1.out.2.2.2.2.2.1)
        obtain ⟨X, hX⟩ : ∃ X : Int, ((l.getD k 0 : Nat) : Int) = X := ⟨_, rfl⟩
        obtain ⟨V, hV⟩ : ∃ V : Int, ((le256 (l.take k) : Nat) : Int) = V := ⟨_, rfl⟩
        rw [hX, hV] at HS
        have x1 : 0 ≤ X := HS.out.2.1
        have x2 : X ≤ 255 := HS.out.2.2
        rw [hX] at hcell
        rw [hV]
        clear hX hV hxx
        go_wp2_with fail
        go_roundw
        case rel => exact ⟨k + 1, by omega, by go_num, by rw [← HS.out.1], by first | rfl | trivial⟩
        case measure => simp [intOf]; omega
      · have hk1 : k = 2 := by omega
        subst hk1
        have ht : l.take 2 = l := List.take_of_length_le (by rw [H1.out.2.2.2.2.2.2]; omega)
        rw [ht]
        have hb := le256_lt l H1.out.2.2.2.2.2.1
        rw [H1.out.2.2.2.2.2.2] at hb
        obtain ⟨V, hV⟩ : ∃ V : Int, ((le256 l : Nat) : Int) = V := ⟨_, rfl⟩
        have x1 : 0 ≤ V := by omega
        have x2 : V ≤ 65535 := by omega
        have HV := Hd.mk hV
        rw [hV]
        clear hV hb ht
        obtain ⟨u, d1⟩ := H1.out.2.2.1.hv
        have d2 := H1.out.2.2.1.zv
        go_wp2_with fail
        go_end0
        refine Clo.yes (a := le256 l) (at' := a1) H1.out.2.2.2.1 ((H1.out.1.mono (by simp)).setCell (by simp) _) (H1.out.2.1.keep' ((Chg.refl [pv] _).setCell (by simp) _) (by have := HR.out.2.lt; simp; omega)) (World.cell?_setCell_same _ _ _ d1) (by rw [World.frozen?_setCell]; exact d2) (by rw [← HV.out]; rfl)
set_option maxHeartbeats 1000000 in
theorem take_tall_any (w : World) (gr n c at_ : Nat) (fl : Int) (A : Option Addr) (bs : List Nat) (R : Rr w gr A n c at_ fl bs) :
    Calls Try.prog 89 #[.pointer (some ⟨gr, 0, none⟩)] w (Ans w gr n c A bs (KT .u16) (redo (fixF bs at_ 2) 0 at_ fl)) := by
  have hmf : ∀ (fn : Fn) (first cap : Array Value) (w : World), (Instr.makeFunc fn first cap).run Try.prog w = .ok (.func fn first cap) w := fun _ _ _ _ => rfl
  have HR := Hd.mk R
  clear R
  go_enter Try.func89, Try.ntmps89
  go_wp2_with fail
  have hch : Chg [] w ((w.alloc (.cells #[.pointer (some ⟨gr, 0, none⟩)] 64)).alloc (.cells #[.int .u16 0] 110)) := (((Chg.refl _ _).alloc _).alloc _)
  obtain ⟨W1, hW⟩ : ∃ W1, ((w.alloc (.cells #[.pointer (some ⟨gr, 0, none⟩)] 64)).alloc (.cells #[.int .u16 0] 110)) = W1 := ⟨_, rfl⟩
  have k1 : W1.cell? ⟨(w.heap.size + 1), 0, none⟩ = some (.int .u16 0) := by rw [← hW]; exact cell_new _ _ (by simp)
  have k2 : W1.cell? ⟨w.heap.size, 0, none⟩ = some (.pointer (some ⟨gr, 0, none⟩)) := by rw [← hW, World.cell?_alloc_lt _ _ _ (by simp; try omega)]; exact cell_new _ _ (by simp)
  have k3 : W1.heap.size = w.heap.size + 2 := by rw [← hW]; simp
  have k4 : W1.frozen? ⟨(w.heap.size + 1), 0, none⟩ = false := by rw [← hW]; exact frozen_new _ _ (by simp)
  rw [hW] at hch ⊢
  have HC : Hd (Caps W1 gr w.heap.size (w.heap.size + 1)) := ⟨⟨k2, ⟨_, k1⟩, k4, by have := HR.out.lt; omega⟩⟩
  have H1 : Hd (Chg [] w W1 ∧ Rr W1 gr A n c at_ fl bs ∧ W1.heap.size = w.heap.size + 2) := ⟨hch, HR.out.keep' hch (by simp), k3⟩
  clear hch hW
  refine (reading_all W1 gr (w.heap.size + 1) n c at_ fl A bs H1.out.2.1 (.int .u16 0) k1 k4 (by have := HR.out.lt; omega) (by omega) 110 (fun _ _ => rfl) _ (KT .u16) (fixF bs at_ 2) 0 (fun _ => rfl) ?_).mono ?_
  · intro h0 w2 h2
    have hR := H1.out.2.1.keep' h2 (by simp)
    rw [h0] at hR
    exact takeC_tall w2 gr w.heap.size (w.heap.size + 1) n c at_ A bs hR (HC.out.keep (h2.mono (by simp)))
  rintro e w2 ⟨rfl, ha⟩
  have HA := Hd.mk ha
  obtain ⟨v, c1, hk⟩ := ha.cell
  have c2 := ha.froz
  unfold KT at hk
  subst hk
  obtain ⟨X, hX⟩ : ∃ X : Int, ((redo (fixF bs at_ 2) 0 at_ fl).1 : Int) = X := ⟨_, rfl⟩
  have HX := Hd.mk hX
  rw [hX] at c1
  clear ha k1 k2 k3 k4
  clear hX
  go_wp2_with fail
  go_ret
  refine ⟨_, rfl, ?_, ?_, ?_⟩
  · exact Chg.pop (L := [gr]) ((H1.out.1.mono (by simp)).trans HA.out.ch) (by omega)
  · rw [← HX.out]; rfl
  · exact HA.out.rr
end Go.Proofs.Ytjkenhkoakaaoaa
