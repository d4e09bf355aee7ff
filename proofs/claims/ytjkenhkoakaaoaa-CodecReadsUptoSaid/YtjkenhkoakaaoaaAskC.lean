/- Contracts of the laws' ask: what each call of a reader tells. (Printed by tools/askgen.py.) -/
import Derived.Test.YtjkenhkoakaaoaaAskF
import Derived.Test.YtjkenhkoakaaoaaRdrY
import Derived.Test.YtjkenhkoakaaoaaArgFlat
namespace Go.Proofs.Ytjkenhkoakaaoaa
open Go.RowKit
set_option linter.unusedVariables false
set_option maxRecDepth 20000
/-- What a call of a reader tells, and what became of it. -/
def Tells (w : World) (gr n c : Nat) (A : Option Addr) (bs : List Nat) (r : Tld × Nat × Int) (e : Ending) (w' : World) : Prop :=
  ∃ vB vT, e = .returned (.agg #[.int .u64 r.1.U, vB, vT]) ∧ Chg [gr] w w' ∧ Rr w' gr A n c r.2.1 r.2.2 bs ∧ KOwn w.heap.size vB r.1.B w' ∧ KTxt w.heap.size vT r.1.T w'
set_option maxHeartbeats 400000 in
theorem pick_any (w : World) (k n : Int) (hk : I64 k) (h0 : 0 < n) (h1 : n ≤ 4611686018427387904) :
    Calls Try.prog 38 #[.int .i64 k, .int .i64 n] w fun e w' => e = .returned (.int .i64 (k % n)) ∧ w = w' := by
  obtain ⟨k1, k2⟩ := hk
  have e1 := Int.emod_nonneg k (b := n) (by omega)
  have e2 := Int.emod_lt_of_pos k h0
  have e3 : k.tmod n = if 0 ≤ k ∨ k % n = 0 then k % n else k % n - n := by
    rw [Int.tmod_eq_emod]
    by_cases hh : 0 ≤ k ∨ n ∣ k
    · rw [if_pos hh, if_pos (by rcases hh with h | h; exact .inl h; exact .inr (Int.emod_eq_zero_of_dvd h))]; omega
    · rw [if_neg hh, if_neg (fun h => hh (by rcases h with h | h; exact .inl h; exact .inr (Int.dvd_of_emod_eq_zero h)))]
      have : (n.natAbs : Int) = n := by omega
      rw [this]
  have hne : n ≠ 0 := by omega
  have hne' : (n == 0) = false := by simp; omega
  have HQ : Hd (k.tmod n = if 0 ≤ k ∨ k % n = 0 then k % n else k % n - n) := ⟨e3⟩
  have t1 : -9223372036854775808 ≤ k.tmod n := by rw [e3]; split <;> omega
  have t2 : k.tmod n ≤ 9223372036854775807 := by rw [e3]; split <;> omega
  have hw : wrap64 (k.tmod n) = k.tmod n := by unfold wrap64; omega
  by_cases hneg : k.tmod n < 0
  · have t3 : -9223372036854775808 ≤ k.tmod n + n := by omega
    have t4 : k.tmod n + n ≤ 9223372036854775807 := by omega
    clear e3
    go_enter Try.func38, Try.ntmps38
    go_wp2_with fail
    go_ret
    refine ⟨ret_int ?_, rfl⟩
    have := HQ.out
    split at this <;> omega
  · clear e3
    go_enter Try.func38, Try.ntmps38
    go_wp2_with fail
    go_ret
    refine ⟨ret_int ?_, rfl⟩
    have := HQ.out
    split at this <;> omega
/-- What ask stands on: the reader, and the cells of its answer. -/
structure AskW (w W : World) (gr n c at_ : Nat) (fl : Int) (A : Option Addr) (bs : List Nat) (who kind N E : Int) : Prop where
  ch : Chg [gr] w W
  rr : Rr W gr A n c at_ fl bs
  st : W.heap[w.heap.size]? = some (.cells #[.int .i64 who, .int .i64 kind, .int .i64 N, .int .i64 E] 70 (0, 0))
  b : W.heap[w.heap.size + 1]? = some (.cells #[.int .u64 0, .slice none 0 0, .slice none 0 0] 72 (0, 0))
  lt : gr < w.heap.size
namespace AskW
variable {w W w1 : World} {gr n c at_ : Nat} {fl : Int} {A : Option Addr} {bs : List Nat} {who kind N E : Int}
theorem sz (H : AskW w W gr n c at_ fl A bs who kind N E) : w.heap.size + 2 ≤ W.heap.size := lt_of_block H.b
theorem next (H : AskW w W gr n c at_ fl A bs who kind N E) {at' : Nat} {fl' : Int} (h : Chg [gr] W w1) (r : Rr w1 gr A n c at' fl' bs) : AskW w w1 gr n c at' fl' A bs who kind N E where
  ch := H.ch.trans h
  rr := r
  st := (h.block _ (by have := H.sz; omega) (by have := H.lt; simp; omega)).trans H.st
  b := (h.block _ (by have := H.sz; omega) (by have := H.lt; simp; omega)).trans H.b
  lt := H.lt
theorem cells (H : AskW w W gr n c at_ fl A bs who kind N E) : W.cell? ⟨w.heap.size + 1, 0, none⟩ = some (.int .u64 0) ∧ W.cell? ⟨w.heap.size + 1, 1, none⟩ = some (.slice none 0 0) ∧ W.cell? ⟨w.heap.size + 1, 2, none⟩ = some (.slice none 0 0) ∧ ∀ o, W.frozen? ⟨w.heap.size + 1, o, none⟩ = false :=
  ⟨by simp [World.cell?, H.b], by simp [World.cell?, H.b], by simp [World.cell?, H.b], fun o => by simp [World.frozen?, H.b]⟩
theorem step (H : AskW w W gr n c at_ fl A bs who kind N E) : W.cell? ⟨w.heap.size, 2, none⟩ = some (.int .i64 N) ∧ W.cell? ⟨w.heap.size, 3, none⟩ = some (.int .i64 E) :=
  ⟨by simp [World.cell?, H.st], by simp [World.cell?, H.st]⟩
theorem fin (H : AskW w W gr n c at_ fl A bs who kind N E) (x y z : Value) : ∃ WF, ((W.setCell ⟨w.heap.size + 1, 0, none⟩ x).setCell ⟨w.heap.size + 1, 1, none⟩ y).setCell ⟨w.heap.size + 1, 2, none⟩ z = WF ∧
    WF.cell? ⟨w.heap.size + 1, 0, none⟩ = some x ∧ WF.cell? ⟨w.heap.size + 1, 1, none⟩ = some y ∧ WF.cell? ⟨w.heap.size + 1, 2, none⟩ = some z ∧
    Hd (Chg [gr] w WF ∧ Rr WF gr A n c at_ fl bs ∧ ∀ base e v n xs, w.heap.size + 1 < base → W.ownsRow base e 1 v n xs → WF.ownsRow w.heap.size e 1 v n xs) := by
  obtain ⟨h0, h1, h2, _⟩ := H.cells
  refine ⟨_, rfl, ?_, ?_, ?_, ⟨?_, ?_, ?_⟩⟩
  · rw [World.cell?_setCell_other _ _ _ _ (by simp), World.cell?_setCell_other _ _ _ _ (by simp)]; exact World.cell?_setCell_same _ _ _ h0
  · rw [World.cell?_setCell_other _ _ _ _ (by simp)]; exact World.cell?_setCell_same _ _ _ ((World.cell?_setCell_other _ _ _ _ (by simp)).trans h1)
  · exact World.cell?_setCell_same _ _ _ (((World.cell?_setCell_other _ _ _ _ (by simp)).trans (World.cell?_setCell_other _ _ _ _ (by simp))).trans h2)
  · exact ((H.ch.setNew (p := ⟨w.heap.size + 1, 0, none⟩) (Nat.le_succ _) x).setNew (p := ⟨w.heap.size + 1, 1, none⟩) (Nat.le_succ _) y).setNew (p := ⟨w.heap.size + 1, 2, none⟩) (Nat.le_succ _) z
  · exact H.rr.keep' ((((Chg.refl [w.heap.size + 1] W).setCell (by simp) x).setCell (by simp) y).setCell (by simp) z) (by have := H.lt; simp; omega)
  · intro base e v n xs hb ho
    exact own_base (ownsRow_setCell_below (ownsRow_setCell_below (ownsRow_setCell_below ho (a := ⟨w.heap.size + 1, 0, none⟩) hb _) (a := ⟨w.heap.size + 1, 1, none⟩) hb _) (a := ⟨w.heap.size + 1, 2, none⟩) hb _) (by omega)
end AskW
theorem ask_world (w : World) (who kind N E : Int) (gr n c at_ : Nat) (fl : Int) (A : Option Addr) (bs : List Nat) (R : Rr w gr A n c at_ fl bs) :
    ∃ W1, (w.alloc (.cells #[.int .i64 who, .int .i64 kind, .int .i64 N, .int .i64 E] 70)).alloc (.cells #[.int .u64 0, .slice none 0 0, .slice none 0 0] 72) = W1 ∧ AskW w W1 gr n c at_ fl A bs who kind N E := by
  refine ⟨_, rfl, ?_, ?_, ?_, ?_, R.lt⟩
  · exact ((Chg.refl [gr] w).alloc _).alloc _
  · exact R.keep' (((Chg.refl [] w).alloc _).alloc _) (by simp)
  · rw [Below.heap_alloc _ _ _ (by simp)]; exact heap_alloc_new w _
  · have := heap_alloc_new (w.alloc (.cells #[.int .i64 who, .int .i64 kind, .int .i64 N, .int .i64 E] 70)) (.cells #[.int .u64 0, .slice none 0 0, .slice none 0 0] 72)
    simpa using this
theorem fix_bd (bs : List Nat) (at_ k : Nat) (fl : Int) (hb : ∀ x ∈ bs, x < 256) : (redo (fixF bs at_ k) 0 at_ fl).1 < 256 ^ k := by
  have h0 : 0 < 256 ^ k := Nat.pow_pos (by omega)
  unfold redo
  split
  · unfold fixF
    rcases h : takeF bs at_ k with e | ⟨l, a⟩
    · exact h0
    · have h1 := le256_lt l (take_lb hb h)
      rw [take_len_eq h] at h1
      exact h1
  · exact h0
theorem num_bd (bs : List Nat) (at_ : Nat) (fl : Int) (hb : ∀ x ∈ bs, x < 256) : (redo (numF bs at_) 0 at_ fl).1 < 2 ^ 64 := by
  unfold redo
  split
  · rcases h : numF bs at_ with e | ⟨x, a⟩
    · exact Nat.two_pow_pos _
    · exact (numF_hi bs at_ x a hb h).1
  · exact Nat.two_pow_pos _
set_option maxHeartbeats 1000000 in
theorem ask_0 (w : World) (gr n c at_ : Nat) (fl : Int) (A : Option Addr) (bs : List Nat) (who kind N E : Int) (hk : I64 kind) (hN : I64 N) (hE : I64 E) (hj : kind % 13 = 0) (R : Rr w gr A n c at_ fl bs) :
    Calls Try.prog 40 #[.pointer (some ⟨gr, 0, none⟩), .agg #[.int .i64 who, .int .i64 kind, .int .i64 N, .int .i64 E]] w (Tells w gr n c A bs (askF bs at_ fl N E 0)) := by
  have HR : Hd (Rr w gr A n c at_ fl bs ∧ I64 N ∧ I64 E) := ⟨R, hN, hE⟩
  clear R hN hE
  go_enter Try.func40, Try.ntmps40
  go_wp2_with fail
  refine (pick_any _ kind 13 hk (by omega) (by omega)).mono ?_
  rw [hj]
  rintro e z ⟨rfl, rfl⟩
  clear hj hk
  go_wp2_with fail
  obtain ⟨W1, hW, H0⟩ := ask_world w who kind N E gr n c at_ fl A bs HR.out.1
  rw [hW]
  clear hW
  refine (take_uint8_any W1 gr n c at_ fl A bs H0.rr).mono ?_
  rintro e w1 ⟨v, rfl, hch, hk, hr⟩
  unfold KT at hk
  subst hk
  have H1 := H0.next hch hr
  have hX0 : (0:Int) ≤ ((redo (fixF bs at_ 1) 0 at_ fl).1 : Int) ∧ ((redo (fixF bs at_ 1) 0 at_ fl).1 : Int) ≤ 255 := by have := fix_bd bs at_ 1 fl HR.out.1.lb; omega
  obtain ⟨X, hX⟩ : ∃ X : Int, ((redo (fixF bs at_ 1) 0 at_ fl).1 : Int) = X := ⟨_, rfl⟩
  have HX := Hd.mk hX
  rw [hX] at hX0 ⊢
  obtain ⟨X0, X1⟩ := hX0
  obtain ⟨c0, c1, c2, z⟩ := H1.cells
  clear hch hr hX
  go_wp2_with fail
  obtain ⟨WF, hWF, f0, f1, f2, HF⟩ := H1.fin (.int .u64 X) (.slice none 0 0) (.slice none 0 0)
  rw [hWF]
  clear hWF c0 c1 c2 z
  refine bodyPost_ret (v := .agg #[.int .u64 X, .slice none 0 0, .slice none 0 0]) (by simp [results, Try.results40, go_sem, f0, f1, f2]) rfl ?_
  exact ⟨_, _, by rw [← HX.out]; rfl, HF.out.1, HF.out.2.1, KOwn.nil _ _, KTxt.nil _ _⟩
set_option maxHeartbeats 1000000 in
theorem ask_1 (w : World) (gr n c at_ : Nat) (fl : Int) (A : Option Addr) (bs : List Nat) (who kind N E : Int) (hk : I64 kind) (hN : I64 N) (hE : I64 E) (hj : kind % 13 = 1) (R : Rr w gr A n c at_ fl bs) :
    Calls Try.prog 40 #[.pointer (some ⟨gr, 0, none⟩), .agg #[.int .i64 who, .int .i64 kind, .int .i64 N, .int .i64 E]] w (Tells w gr n c A bs (askF bs at_ fl N E 1)) := by
  have HR : Hd (Rr w gr A n c at_ fl bs ∧ I64 N ∧ I64 E) := ⟨R, hN, hE⟩
  clear R hN hE
  go_enter Try.func40, Try.ntmps40
  go_wp2_with fail
  refine (pick_any _ kind 13 hk (by omega) (by omega)).mono ?_
  rw [hj]
  rintro e z ⟨rfl, rfl⟩
  clear hj hk
  go_wp2_with fail
  obtain ⟨W1, hW, H0⟩ := ask_world w who kind N E gr n c at_ fl A bs HR.out.1
  rw [hW]
  clear hW
  refine (take_uint16_any W1 gr n c at_ fl A bs H0.rr).mono ?_
  rintro e w1 ⟨v, rfl, hch, hk, hr⟩
  unfold KT at hk
  subst hk
  have H1 := H0.next hch hr
  have hX0 : (0:Int) ≤ ((redo (fixF bs at_ 2) 0 at_ fl).1 : Int) ∧ ((redo (fixF bs at_ 2) 0 at_ fl).1 : Int) ≤ 65535 := by have := fix_bd bs at_ 2 fl HR.out.1.lb; omega
  obtain ⟨X, hX⟩ : ∃ X : Int, ((redo (fixF bs at_ 2) 0 at_ fl).1 : Int) = X := ⟨_, rfl⟩
  have HX := Hd.mk hX
  rw [hX] at hX0 ⊢
  obtain ⟨X0, X1⟩ := hX0
  obtain ⟨c0, c1, c2, z⟩ := H1.cells
  clear hch hr hX
  go_wp2_with fail
  obtain ⟨WF, hWF, f0, f1, f2, HF⟩ := H1.fin (.int .u64 X) (.slice none 0 0) (.slice none 0 0)
  rw [hWF]
  clear hWF c0 c1 c2 z
  refine bodyPost_ret (v := .agg #[.int .u64 X, .slice none 0 0, .slice none 0 0]) (by simp [results, Try.results40, go_sem, f0, f1, f2]) rfl ?_
  exact ⟨_, _, by rw [← HX.out]; rfl, HF.out.1, HF.out.2.1, KOwn.nil _ _, KTxt.nil _ _⟩
set_option maxHeartbeats 1000000 in
theorem ask_2 (w : World) (gr n c at_ : Nat) (fl : Int) (A : Option Addr) (bs : List Nat) (who kind N E : Int) (hk : I64 kind) (hN : I64 N) (hE : I64 E) (hj : kind % 13 = 2) (R : Rr w gr A n c at_ fl bs) :
    Calls Try.prog 40 #[.pointer (some ⟨gr, 0, none⟩), .agg #[.int .i64 who, .int .i64 kind, .int .i64 N, .int .i64 E]] w (Tells w gr n c A bs (askF bs at_ fl N E 2)) := by
  have HR : Hd (Rr w gr A n c at_ fl bs ∧ I64 N ∧ I64 E) := ⟨R, hN, hE⟩
  clear R hN hE
  go_enter Try.func40, Try.ntmps40
  go_wp2_with fail
  refine (pick_any _ kind 13 hk (by omega) (by omega)).mono ?_
  rw [hj]
  rintro e z ⟨rfl, rfl⟩
  clear hj hk
  go_wp2_with fail
  obtain ⟨W1, hW, H0⟩ := ask_world w who kind N E gr n c at_ fl A bs HR.out.1
  rw [hW]
  clear hW
  refine (take_uint32_any W1 gr n c at_ fl A bs H0.rr).mono ?_
  rintro e w1 ⟨v, rfl, hch, hk, hr⟩
  unfold KT at hk
  subst hk
  have H1 := H0.next hch hr
  have hX0 : (0:Int) ≤ ((redo (fixF bs at_ 4) 0 at_ fl).1 : Int) ∧ ((redo (fixF bs at_ 4) 0 at_ fl).1 : Int) ≤ 4294967295 := by have := fix_bd bs at_ 4 fl HR.out.1.lb; omega
  obtain ⟨X, hX⟩ : ∃ X : Int, ((redo (fixF bs at_ 4) 0 at_ fl).1 : Int) = X := ⟨_, rfl⟩
  have HX := Hd.mk hX
  rw [hX] at hX0 ⊢
  obtain ⟨X0, X1⟩ := hX0
  obtain ⟨c0, c1, c2, z⟩ := H1.cells
  clear hch hr hX
  go_wp2_with fail
  obtain ⟨WF, hWF, f0, f1, f2, HF⟩ := H1.fin (.int .u64 X) (.slice none 0 0) (.slice none 0 0)
  rw [hWF]
  clear hWF c0 c1 c2 z
  refine bodyPost_ret (v := .agg #[.int .u64 X, .slice none 0 0, .slice none 0 0]) (by simp [results, Try.results40, go_sem, f0, f1, f2]) rfl ?_
  exact ⟨_, _, by rw [← HX.out]; rfl, HF.out.1, HF.out.2.1, KOwn.nil _ _, KTxt.nil _ _⟩
set_option maxHeartbeats 1000000 in
theorem ask_3 (w : World) (gr n c at_ : Nat) (fl : Int) (A : Option Addr) (bs : List Nat) (who kind N E : Int) (hk : I64 kind) (hN : I64 N) (hE : I64 E) (hj : kind % 13 = 3) (R : Rr w gr A n c at_ fl bs) :
    Calls Try.prog 40 #[.pointer (some ⟨gr, 0, none⟩), .agg #[.int .i64 who, .int .i64 kind, .int .i64 N, .int .i64 E]] w (Tells w gr n c A bs (askF bs at_ fl N E 3)) := by
  have HR : Hd (Rr w gr A n c at_ fl bs ∧ I64 N ∧ I64 E) := ⟨R, hN, hE⟩
  clear R hN hE
  go_enter Try.func40, Try.ntmps40
  go_wp2_with fail
  refine (pick_any _ kind 13 hk (by omega) (by omega)).mono ?_
  rw [hj]
  rintro e z ⟨rfl, rfl⟩
  clear hj hk
  go_wp2_with fail
  obtain ⟨W1, hW, H0⟩ := ask_world w who kind N E gr n c at_ fl A bs HR.out.1
  rw [hW]
  clear hW
  refine (take_uint64_any W1 gr n c at_ fl A bs H0.rr).mono ?_
  rintro e w1 ⟨v, rfl, hch, hk, hr⟩
  unfold KT at hk
  subst hk
  have H1 := H0.next hch hr
  have hX0 : (0:Int) ≤ ((redo (fixF bs at_ 8) 0 at_ fl).1 : Int) ∧ ((redo (fixF bs at_ 8) 0 at_ fl).1 : Int) ≤ 18446744073709551615 := by have := fix_bd bs at_ 8 fl HR.out.1.lb; omega
  obtain ⟨X, hX⟩ : ∃ X : Int, ((redo (fixF bs at_ 8) 0 at_ fl).1 : Int) = X := ⟨_, rfl⟩
  have HX := Hd.mk hX
  rw [hX] at hX0 ⊢
  obtain ⟨X0, X1⟩ := hX0
  obtain ⟨c0, c1, c2, z⟩ := H1.cells
  clear hch hr hX
  go_wp2_with fail
  obtain ⟨WF, hWF, f0, f1, f2, HF⟩ := H1.fin (.int .u64 X) (.slice none 0 0) (.slice none 0 0)
  rw [hWF]
  clear hWF c0 c1 c2 z
  refine bodyPost_ret (v := .agg #[.int .u64 X, .slice none 0 0, .slice none 0 0]) (by simp [results, Try.results40, go_sem, f0, f1, f2]) rfl ?_
  exact ⟨_, _, by rw [← HX.out]; rfl, HF.out.1, HF.out.2.1, KOwn.nil _ _, KTxt.nil _ _⟩
set_option maxHeartbeats 1000000 in
theorem ask_4 (w : World) (gr n c at_ : Nat) (fl : Int) (A : Option Addr) (bs : List Nat) (who kind N E : Int) (hk : I64 kind) (hN : I64 N) (hE : I64 E) (hj : kind % 13 = 4) (R : Rr w gr A n c at_ fl bs) :
    Calls Try.prog 40 #[.pointer (some ⟨gr, 0, none⟩), .agg #[.int .i64 who, .int .i64 kind, .int .i64 N, .int .i64 E]] w (Tells w gr n c A bs (askF bs at_ fl N E 4)) := by
  have HR : Hd (Rr w gr A n c at_ fl bs ∧ I64 N ∧ I64 E) := ⟨R, hN, hE⟩
  clear R hN hE
  go_enter Try.func40, Try.ntmps40
  go_wp2_with fail
  refine (pick_any _ kind 13 hk (by omega) (by omega)).mono ?_
  rw [hj]
  rintro e z ⟨rfl, rfl⟩
  clear hj hk
  go_wp2_with fail
  obtain ⟨W1, hW, H0⟩ := ask_world w who kind N E gr n c at_ fl A bs HR.out.1
  rw [hW]
  clear hW
  refine (take_tall_any W1 gr n c at_ fl A bs H0.rr).mono ?_
  rintro e w1 ⟨v, rfl, hch, hk, hr⟩
  unfold KT at hk
  subst hk
  have H1 := H0.next hch hr
  have hX0 : (0:Int) ≤ ((redo (fixF bs at_ 2) 0 at_ fl).1 : Int) ∧ ((redo (fixF bs at_ 2) 0 at_ fl).1 : Int) ≤ 65535 := by have := fix_bd bs at_ 2 fl HR.out.1.lb; omega
  obtain ⟨X, hX⟩ : ∃ X : Int, ((redo (fixF bs at_ 2) 0 at_ fl).1 : Int) = X := ⟨_, rfl⟩
  have HX := Hd.mk hX
  rw [hX] at hX0 ⊢
  obtain ⟨X0, X1⟩ := hX0
  obtain ⟨c0, c1, c2, z⟩ := H1.cells
  clear hch hr hX
  go_wp2_with fail
  obtain ⟨WF, hWF, f0, f1, f2, HF⟩ := H1.fin (.int .u64 X) (.slice none 0 0) (.slice none 0 0)
  rw [hWF]
  clear hWF c0 c1 c2 z
  refine bodyPost_ret (v := .agg #[.int .u64 X, .slice none 0 0, .slice none 0 0]) (by simp [results, Try.results40, go_sem, f0, f1, f2]) rfl ?_
  exact ⟨_, _, by rw [← HX.out]; rfl, HF.out.1, HF.out.2.1, KOwn.nil _ _, KTxt.nil _ _⟩
set_option maxHeartbeats 1000000 in
theorem ask_5 (w : World) (gr n c at_ : Nat) (fl : Int) (A : Option Addr) (bs : List Nat) (who kind N E : Int) (hk : I64 kind) (hN : I64 N) (hE : I64 E) (hj : kind % 13 = 5) (R : Rr w gr A n c at_ fl bs) :
    Calls Try.prog 40 #[.pointer (some ⟨gr, 0, none⟩), .agg #[.int .i64 who, .int .i64 kind, .int .i64 N, .int .i64 E]] w (Tells w gr n c A bs (askF bs at_ fl N E 5)) := by
  have HR : Hd (Rr w gr A n c at_ fl bs ∧ I64 N ∧ I64 E) := ⟨R, hN, hE⟩
  clear R hN hE
  go_enter Try.func40, Try.ntmps40
  go_wp2_with fail
  refine (pick_any _ kind 13 hk (by omega) (by omega)).mono ?_
  rw [hj]
  rintro e z ⟨rfl, rfl⟩
  clear hj hk
  go_wp2_with fail
  obtain ⟨W1, hW, H0⟩ := ask_world w who kind N E gr n c at_ fl A bs HR.out.1
  rw [hW]
  clear hW
  refine (uvarint_any W1 gr n c at_ fl A bs H0.rr).mono ?_
  rintro e w1 ⟨v, rfl, hch, hk, hr⟩
  unfold KNum at hk
  subst hk
  have H1 := H0.next hch hr
  have hX0 : (0:Int) ≤ ((redo (numF bs at_) 0 at_ fl).1 : Int) ∧ ((redo (numF bs at_) 0 at_ fl).1 : Int) ≤ 18446744073709551615 := by have := num_bd bs at_ fl HR.out.1.lb; omega
  obtain ⟨X, hX⟩ : ∃ X : Int, ((redo (numF bs at_) 0 at_ fl).1 : Int) = X := ⟨_, rfl⟩
  have HX := Hd.mk hX
  rw [hX] at hX0 ⊢
  obtain ⟨X0, X1⟩ := hX0
  obtain ⟨c0, c1, c2, z⟩ := H1.cells
  clear hch hr hX
  go_wp2_with fail
  obtain ⟨WF, hWF, f0, f1, f2, HF⟩ := H1.fin (.int .u64 X) (.slice none 0 0) (.slice none 0 0)
  rw [hWF]
  clear hWF c0 c1 c2 z
  refine bodyPost_ret (v := .agg #[.int .u64 X, .slice none 0 0, .slice none 0 0]) (by simp [results, Try.results40, go_sem, f0, f1, f2]) rfl ?_
  exact ⟨_, _, by rw [← HX.out]; rfl, HF.out.1, HF.out.2.1, KOwn.nil _ _, KTxt.nil _ _⟩
set_option maxHeartbeats 1000000 in
theorem ask_6 (w : World) (gr n c at_ : Nat) (fl : Int) (A : Option Addr) (bs : List Nat) (who kind N E : Int) (hk : I64 kind) (hN : I64 N) (hE : I64 E) (hj : kind % 13 = 6) (R : Rr w gr A n c at_ fl bs) :
    Calls Try.prog 40 #[.pointer (some ⟨gr, 0, none⟩), .agg #[.int .i64 who, .int .i64 kind, .int .i64 N, .int .i64 E]] w (Tells w gr n c A bs (askF bs at_ fl N E 6)) := by
  have HR : Hd (Rr w gr A n c at_ fl bs ∧ I64 N ∧ I64 E) := ⟨R, hN, hE⟩
  clear R hN hE
  go_enter Try.func40, Try.ntmps40
  go_wp2_with fail
  refine (pick_any _ kind 13 hk (by omega) (by omega)).mono ?_
  rw [hj]
  rintro e z ⟨rfl, rfl⟩
  clear hj hk
  go_wp2_with fail
  obtain ⟨W1, hW, H0⟩ := ask_world w who kind N E gr n c at_ fl A bs HR.out.1
  rw [hW]
  clear hW
  refine (varint_any W1 gr n c at_ fl A bs H0.rr).mono ?_
  rintro e w1 ⟨v, rfl, hch, hk, hr⟩
  unfold KZag at hk
  subst hk
  have H1 := H0.next hch hr
  have hX0 := unz_bd ((redo (numF bs at_) 0 at_ fl).1 : Int) (by omega) (by have := num_bd bs at_ fl HR.out.1.lb; omega)
  obtain ⟨X, hX⟩ : ∃ X : Int, unz ((redo (numF bs at_) 0 at_ fl).1 : Int) = X := ⟨_, rfl⟩
  have HX := Hd.mk hX
  rw [hX] at hX0 ⊢
  obtain ⟨X0, X1⟩ := hX0
  obtain ⟨c0, c1, c2, z⟩ := H1.cells
  clear hch hr hX
  go_wp2_with fail
  obtain ⟨WF, hWF, f0, f1, f2, HF⟩ := H1.fin (.int .u64 (IntKind.u64.wrap X)) (.slice none 0 0) (.slice none 0 0)
  rw [hWF]
  clear hWF c0 c1 c2 z
  refine bodyPost_ret (v := .agg #[.int .u64 (IntKind.u64.wrap X), .slice none 0 0, .slice none 0 0]) (by simp [results, Try.results40, go_sem, f0, f1, f2]) rfl ?_
  exact ⟨_, _, by rw [← HX.out]; rfl, HF.out.1, HF.out.2.1, KOwn.nil _ _, KTxt.nil _ _⟩
set_option maxHeartbeats 1000000 in
theorem ask_7 (w : World) (gr n c at_ : Nat) (fl : Int) (A : Option Addr) (bs : List Nat) (who kind N E : Int) (hk : I64 kind) (hN : I64 N) (hE : I64 E) (hj : kind % 13 = 7) (R : Rr w gr A n c at_ fl bs) :
    Calls Try.prog 40 #[.pointer (some ⟨gr, 0, none⟩), .agg #[.int .i64 who, .int .i64 kind, .int .i64 N, .int .i64 E]] w (Tells w gr n c A bs (askF bs at_ fl N E 7)) := by
  have HR : Hd (Rr w gr A n c at_ fl bs ∧ I64 N ∧ I64 E) := ⟨R, hN, hE⟩
  clear R hN hE
  go_enter Try.func40, Try.ntmps40
  go_wp2_with fail
  refine (pick_any _ kind 13 hk (by omega) (by omega)).mono ?_
  rw [hj]
  rintro e z ⟨rfl, rfl⟩
  clear hj hk
  go_wp2_with fail
  obtain ⟨W1, hW, H0⟩ := ask_world w who kind N E gr n c at_ fl A bs HR.out.1
  rw [hW]
  clear hW
  refine (bytes_any W1 gr n c at_ fl A bs N HR.out.2.1 H0.rr).mono ?_
  rintro e w1 ⟨v, rfl, hch, hk, hr⟩
  unfold KOwn at hk
  obtain ⟨A2, c3, rfl, _, _⟩ := own_form hk
  have H1 := H0.next hch hr
  have HK := Hd.mk hk
  have HS : Hd (w.heap.size + 1 < W1.heap.size) := ⟨by have := H0.sz; omega⟩
  obtain ⟨L, hL⟩ : ∃ L, (redo (bytesF bs at_ N) [] at_ fl).1.length = L := ⟨_, rfl⟩
  have HL := Hd.mk hL
  rw [hL]
  obtain ⟨c0, c1, c2, z⟩ := H1.cells
  clear hch hr hL hk
  go_wp2_with fail
  obtain ⟨WF, hWF, f0, f1, f2, HF⟩ := H1.fin (.int .u64 0) (.slice A2 L c3) (.slice none 0 0)
  rw [hWF]
  clear hWF c0 c1 c2 z
  refine bodyPost_ret (v := .agg #[.int .u64 0, .slice A2 L c3, .slice none 0 0]) (by simp [results, Try.results40, go_sem, f0, f1, f2]) rfl ?_
  exact ⟨_, _, rfl, HF.out.1, HF.out.2.1, (by show KOwn _ _ (redo (bytesF bs at_ N) [] at_ fl).1 _; unfold KOwn; have := HF.out.2.2 _ _ _ _ _ HS.out HK.out; rw [HL.out] at this; rw [HL.out]; exact this), KTxt.nil _ _⟩
set_option maxHeartbeats 1000000 in
theorem ask_8 (w : World) (gr n c at_ : Nat) (fl : Int) (A : Option Addr) (bs : List Nat) (who kind N E : Int) (hk : I64 kind) (hN : I64 N) (hE : I64 E) (hj : kind % 13 = 8) (R : Rr w gr A n c at_ fl bs) :
    Calls Try.prog 40 #[.pointer (some ⟨gr, 0, none⟩), .agg #[.int .i64 who, .int .i64 kind, .int .i64 N, .int .i64 E]] w (Tells w gr n c A bs (askF bs at_ fl N E 8)) := by
  have HR : Hd (Rr w gr A n c at_ fl bs ∧ I64 N ∧ I64 E) := ⟨R, hN, hE⟩
  clear R hN hE
  go_enter Try.func40, Try.ntmps40
  go_wp2_with fail
  refine (pick_any _ kind 13 hk (by omega) (by omega)).mono ?_
  rw [hj]
  rintro e z ⟨rfl, rfl⟩
  clear hj hk
  go_wp2_with fail
  obtain ⟨W1, hW, H0⟩ := ask_world w who kind N E gr n c at_ fl A bs HR.out.1
  rw [hW]
  clear hW
  refine (blk_any W1 gr n c at_ fl A bs N HR.out.2.1 H0.rr).mono ?_
  rintro e w1 ⟨v, rfl, hch, hk, hr⟩
  unfold KOwn at hk
  obtain ⟨A2, c3, rfl, _, _⟩ := own_form hk
  have H1 := H0.next hch hr
  have HK := Hd.mk hk
  have HS : Hd (w.heap.size + 1 < W1.heap.size) := ⟨by have := H0.sz; omega⟩
  obtain ⟨L, hL⟩ : ∃ L, (redo (blkF bs at_ N) [] at_ fl).1.length = L := ⟨_, rfl⟩
  have HL := Hd.mk hL
  rw [hL]
  obtain ⟨c0, c1, c2, z⟩ := H1.cells
  clear hch hr hL hk
  go_wp2_with fail
  obtain ⟨WF, hWF, f0, f1, f2, HF⟩ := H1.fin (.int .u64 0) (.slice A2 L c3) (.slice none 0 0)
  rw [hWF]
  clear hWF c0 c1 c2 z
  refine bodyPost_ret (v := .agg #[.int .u64 0, .slice A2 L c3, .slice none 0 0]) (by simp [results, Try.results40, go_sem, f0, f1, f2]) rfl ?_
  exact ⟨_, _, rfl, HF.out.1, HF.out.2.1, (by show KOwn _ _ (redo (blkF bs at_ N) [] at_ fl).1 _; unfold KOwn; have := HF.out.2.2 _ _ _ _ _ HS.out HK.out; rw [HL.out] at this; rw [HL.out]; exact this), KTxt.nil _ _⟩
set_option maxHeartbeats 1000000 in
theorem ask_9 (w : World) (gr n c at_ : Nat) (fl : Int) (A : Option Addr) (bs : List Nat) (who kind N E : Int) (hk : I64 kind) (hN : I64 N) (hE : I64 E) (hj : kind % 13 = 9) (R : Rr w gr A n c at_ fl bs) :
    Calls Try.prog 40 #[.pointer (some ⟨gr, 0, none⟩), .agg #[.int .i64 who, .int .i64 kind, .int .i64 N, .int .i64 E]] w (Tells w gr n c A bs (askF bs at_ fl N E 9)) := by
  have HR : Hd (Rr w gr A n c at_ fl bs ∧ I64 N ∧ I64 E) := ⟨R, hN, hE⟩
  clear R hN hE
  go_enter Try.func40, Try.ntmps40
  go_wp2_with fail
  refine (pick_any _ kind 13 hk (by omega) (by omega)).mono ?_
  rw [hj]
  rintro e z ⟨rfl, rfl⟩
  clear hj hk
  go_wp2_with fail
  obtain ⟨W1, hW, H0⟩ := ask_world w who kind N E gr n c at_ fl A bs HR.out.1
  rw [hW]
  clear hW
  refine (texts_any W1 gr n c at_ fl A bs N E HR.out.2.1 HR.out.2.2 H0.rr).mono ?_
  rintro e w1 ⟨v, rfl, hch, hk, hr⟩
  unfold KTxt at hk
  obtain ⟨A2, c3, rfl, _, _⟩ := own_form hk
  have H1 := H0.next hch hr
  have HK := Hd.mk hk
  have HS : Hd (w.heap.size + 1 < W1.heap.size) := ⟨by have := H0.sz; omega⟩
  obtain ⟨L, hL⟩ : ∃ L, (redo (textsF bs at_ N E) [] at_ fl).1.length = L := ⟨_, rfl⟩
  have HL := Hd.mk hL
  rw [hL]
  obtain ⟨c0, c1, c2, z⟩ := H1.cells
  clear hch hr hL hk
  go_wp2_with fail
  obtain ⟨WF, hWF, f0, f1, f2, HF⟩ := H1.fin (.int .u64 0) (.slice none 0 0) (.slice A2 L c3)
  rw [hWF]
  clear hWF c0 c1 c2 z
  refine bodyPost_ret (v := .agg #[.int .u64 0, .slice none 0 0, .slice A2 L c3]) (by simp [results, Try.results40, go_sem, f0, f1, f2]) rfl ?_
  exact ⟨_, _, rfl, HF.out.1, HF.out.2.1, KOwn.nil _ _, (by show KTxt _ _ (redo (textsF bs at_ N E) [] at_ fl).1 _; unfold KTxt; have := HF.out.2.2 _ _ _ _ _ HS.out HK.out; rw [HL.out] at this; rw [HL.out]; exact this)⟩
theorem ask_reading (w : World) (gr n c at_ : Nat) (fl : Int) (A : Option Addr) (bs : List Nat) (who kind N E : Int) (k : Nat) (hk : I64 kind) (hN : I64 N) (hE : I64 E) (hj : kind % 13 = (k : Int)) (h10 : k < 10) (R : Rr w gr A n c at_ fl bs) :
    Calls Try.prog 40 #[.pointer (some ⟨gr, 0, none⟩), .agg #[.int .i64 who, .int .i64 kind, .int .i64 N, .int .i64 E]] w (Tells w gr n c A bs (askF bs at_ fl N E k)) :=
  match k, h10 with
  | 0, _ => ask_0 w gr n c at_ fl A bs who kind N E hk hN hE hj R
  | 1, _ => ask_1 w gr n c at_ fl A bs who kind N E hk hN hE hj R
  | 2, _ => ask_2 w gr n c at_ fl A bs who kind N E hk hN hE hj R
  | 3, _ => ask_3 w gr n c at_ fl A bs who kind N E hk hN hE hj R
  | 4, _ => ask_4 w gr n c at_ fl A bs who kind N E hk hN hE hj R
  | 5, _ => ask_5 w gr n c at_ fl A bs who kind N E hk hN hE hj R
  | 6, _ => ask_6 w gr n c at_ fl A bs who kind N E hk hN hE hj R
  | 7, _ => ask_7 w gr n c at_ fl A bs who kind N E hk hN hE hj R
  | 8, _ => ask_8 w gr n c at_ fl A bs who kind N E hk hN hE hj R
  | 9, _ => ask_9 w gr n c at_ fl A bs who kind N E hk hN hE hj R
end Go.Proofs.Ytjkenhkoakaaoaa
