/- Contracts of the laws' want: what each call of a reader tells. (Printed by tools/askgen.py.) -/
import Derived.Test.YtjkenhkoakaaoaaAskC
import Derived.Test.YtjkenhkoakaaoaaRefT
namespace Go.Proofs.Ytjkenhkoakaaoaa
open Go.RowKit
set_option linter.unusedVariables false
set_option maxRecDepth 20000
theorem rfix_lit (k : Nat) (K : Int) (hK : K = (k : Int)) (w : World) (gr n c at_ : Nat) (fl : Int) (A : Option Addr) (bs : List Nat) (hk1 : 1 ≤ k) (hk8 : k ≤ 8) (R : Rr w gr A n c at_ fl bs) :
    Calls Try.prog 76 #[.pointer (some ⟨gr, 0, none⟩), .int .i64 K] w (Ans w gr n c A bs KNum (redo (fixF bs at_ k) 0 at_ fl)) := by
  subst hK; exact rfixed_any w gr n c at_ k fl A bs hk1 hk8 R
set_option maxHeartbeats 1000000 in
theorem want_0 (w : World) (gr n c at_ : Nat) (fl : Int) (A : Option Addr) (bs : List Nat) (who kind N E : Int) (hk : I64 kind) (hN : I64 N) (hE : I64 E) (hj : kind % 13 = 0) (R : Rr w gr A n c at_ fl bs) :
    Calls Try.prog 39 #[.pointer (some ⟨gr, 0, none⟩), .agg #[.int .i64 who, .int .i64 kind, .int .i64 N, .int .i64 E]] w (Tells w gr n c A bs (askF bs at_ fl N E 0)) := by
  have HR : Hd (Rr w gr A n c at_ fl bs ∧ I64 N ∧ I64 E) := ⟨R, hN, hE⟩
  clear R hN hE
  go_enter Try.func39, Try.ntmps39
  go_wp2_with fail
  refine (pick_any _ kind 13 hk (by omega) (by omega)).mono ?_
  rw [hj]
  rintro e z ⟨rfl, rfl⟩
  clear hj hk
  go_wp2_with fail
  obtain ⟨W1, hW, H0⟩ := ask_world w who kind N E gr n c at_ fl A bs HR.out.1
  rw [hW]
  clear hW
  refine (rfix_lit 1 1 rfl W1 gr n c at_ fl A bs (by omega) (by omega) H0.rr).mono ?_
  rintro e w1 ⟨v, rfl, hch, hk, hr⟩
  unfold KNum at hk
  subst hk
  have H1 := H0.next hch hr
  have hX0 : (0:Int) ≤ ((redo (fixF bs at_ 1) 0 at_ fl).1 : Int) ∧ ((redo (fixF bs at_ 1) 0 at_ fl).1 : Int) ≤ 255 := by have := fix_bd bs at_ 1 fl HR.out.1.lb; omega
  obtain ⟨X, hX⟩ : ∃ X : Int, ((redo (fixF bs at_ 1) 0 at_ fl).1 : Int) = X := ⟨_, rfl⟩
  have HX := Hd.mk hX
  rw [hX] at hX0 ⊢
  obtain ⟨X0, X1⟩ := hX0
  obtain ⟨c0, c1, c2, z⟩ := H1.cells
  clear hch hr hX
  go_wp2_with fail
  obtain ⟨WF, hWF, f0, f1, f2, HF⟩ := H1.fin (.int .u64 X) (.slice none 0 0) (.slice none 0 0)
  rw [hWF]
  clear hWF c0 c1 c2 z
  refine bodyPost_ret (v := .agg #[.int .u64 X, .slice none 0 0, .slice none 0 0]) (by simp [results, Try.results39, go_sem, f0, f1, f2]) rfl ?_
  exact ⟨_, _, by rw [← HX.out]; rfl, HF.out.1, HF.out.2.1, KOwn.nil _ _, KTxt.nil _ _⟩
set_option maxHeartbeats 1000000 in
theorem want_1 (w : World) (gr n c at_ : Nat) (fl : Int) (A : Option Addr) (bs : List Nat) (who kind N E : Int) (hk : I64 kind) (hN : I64 N) (hE : I64 E) (hj : kind % 13 = 1) (R : Rr w gr A n c at_ fl bs) :
    Calls Try.prog 39 #[.pointer (some ⟨gr, 0, none⟩), .agg #[.int .i64 who, .int .i64 kind, .int .i64 N, .int .i64 E]] w (Tells w gr n c A bs (askF bs at_ fl N E 1)) := by
  have HR : Hd (Rr w gr A n c at_ fl bs ∧ I64 N ∧ I64 E) := ⟨R, hN, hE⟩
  clear R hN hE
  go_enter Try.func39, Try.ntmps39
  go_wp2_with fail
  refine (pick_any _ kind 13 hk (by omega) (by omega)).mono ?_
  rw [hj]
  rintro e z ⟨rfl, rfl⟩
  clear hj hk
  go_wp2_with fail
  obtain ⟨W1, hW, H0⟩ := ask_world w who kind N E gr n c at_ fl A bs HR.out.1
  rw [hW]
  clear hW
  refine (rfix_lit 2 2 rfl W1 gr n c at_ fl A bs (by omega) (by omega) H0.rr).mono ?_
  rintro e w1 ⟨v, rfl, hch, hk, hr⟩
  unfold KNum at hk
  subst hk
  have H1 := H0.next hch hr
  have hX0 : (0:Int) ≤ ((redo (fixF bs at_ 2) 0 at_ fl).1 : Int) ∧ ((redo (fixF bs at_ 2) 0 at_ fl).1 : Int) ≤ 65535 := by have := fix_bd bs at_ 2 fl HR.out.1.lb; omega
  obtain ⟨X, hX⟩ : ∃ X : Int, ((redo (fixF bs at_ 2) 0 at_ fl).1 : Int) = X := ⟨_, rfl⟩
  have HX := Hd.mk hX
  rw [hX] at hX0 ⊢
  obtain ⟨X0, X1⟩ := hX0
  obtain ⟨c0, c1, c2, z⟩ := H1.cells
  clear hch hr hX
  go_wp2_with fail
  obtain ⟨WF, hWF, f0, f1, f2, HF⟩ := H1.fin (.int .u64 X) (.slice none 0 0) (.slice none 0 0)
  rw [hWF]
  clear hWF c0 c1 c2 z
  refine bodyPost_ret (v := .agg #[.int .u64 X, .slice none 0 0, .slice none 0 0]) (by simp [results, Try.results39, go_sem, f0, f1, f2]) rfl ?_
  exact ⟨_, _, by rw [← HX.out]; rfl, HF.out.1, HF.out.2.1, KOwn.nil _ _, KTxt.nil _ _⟩
set_option maxHeartbeats 1000000 in
theorem want_2 (w : World) (gr n c at_ : Nat) (fl : Int) (A : Option Addr) (bs : List Nat) (who kind N E : Int) (hk : I64 kind) (hN : I64 N) (hE : I64 E) (hj : kind % 13 = 2) (R : Rr w gr A n c at_ fl bs) :
    Calls Try.prog 39 #[.pointer (some ⟨gr, 0, none⟩), .agg #[.int .i64 who, .int .i64 kind, .int .i64 N, .int .i64 E]] w (Tells w gr n c A bs (askF bs at_ fl N E 2)) := by
  have HR : Hd (Rr w gr A n c at_ fl bs ∧ I64 N ∧ I64 E) := ⟨R, hN, hE⟩
  clear R hN hE
  go_enter Try.func39, Try.ntmps39
  go_wp2_with fail
  refine (pick_any _ kind 13 hk (by omega) (by omega)).mono ?_
  rw [hj]
  rintro e z ⟨rfl, rfl⟩
  clear hj hk
  go_wp2_with fail
  obtain ⟨W1, hW, H0⟩ := ask_world w who kind N E gr n c at_ fl A bs HR.out.1
  rw [hW]
  clear hW
  refine (rfix_lit 4 4 rfl W1 gr n c at_ fl A bs (by omega) (by omega) H0.rr).mono ?_
  rintro e w1 ⟨v, rfl, hch, hk, hr⟩
  unfold KNum at hk
  subst hk
  have H1 := H0.next hch hr
  have hX0 : (0:Int) ≤ ((redo (fixF bs at_ 4) 0 at_ fl).1 : Int) ∧ ((redo (fixF bs at_ 4) 0 at_ fl).1 : Int) ≤ 4294967295 := by have := fix_bd bs at_ 4 fl HR.out.1.lb; omega
  obtain ⟨X, hX⟩ : ∃ X : Int, ((redo (fixF bs at_ 4) 0 at_ fl).1 : Int) = X := ⟨_, rfl⟩
  have HX := Hd.mk hX
  rw [hX] at hX0 ⊢
  obtain ⟨X0, X1⟩ := hX0
  obtain ⟨c0, c1, c2, z⟩ := H1.cells
  clear hch hr hX
  go_wp2_with fail
  obtain ⟨WF, hWF, f0, f1, f2, HF⟩ := H1.fin (.int .u64 X) (.slice none 0 0) (.slice none 0 0)
  rw [hWF]
  clear hWF c0 c1 c2 z
  refine bodyPost_ret (v := .agg #[.int .u64 X, .slice none 0 0, .slice none 0 0]) (by simp [results, Try.results39, go_sem, f0, f1, f2]) rfl ?_
  exact ⟨_, _, by rw [← HX.out]; rfl, HF.out.1, HF.out.2.1, KOwn.nil _ _, KTxt.nil _ _⟩
set_option maxHeartbeats 1000000 in
theorem want_3 (w : World) (gr n c at_ : Nat) (fl : Int) (A : Option Addr) (bs : List Nat) (who kind N E : Int) (hk : I64 kind) (hN : I64 N) (hE : I64 E) (hj : kind % 13 = 3) (R : Rr w gr A n c at_ fl bs) :
    Calls Try.prog 39 #[.pointer (some ⟨gr, 0, none⟩), .agg #[.int .i64 who, .int .i64 kind, .int .i64 N, .int .i64 E]] w (Tells w gr n c A bs (askF bs at_ fl N E 3)) := by
  have HR : Hd (Rr w gr A n c at_ fl bs ∧ I64 N ∧ I64 E) := ⟨R, hN, hE⟩
  clear R hN hE
  go_enter Try.func39, Try.ntmps39
  go_wp2_with fail
  refine (pick_any _ kind 13 hk (by omega) (by omega)).mono ?_
  rw [hj]
  rintro e z ⟨rfl, rfl⟩
  clear hj hk
  go_wp2_with fail
  obtain ⟨W1, hW, H0⟩ := ask_world w who kind N E gr n c at_ fl A bs HR.out.1
  rw [hW]
  clear hW
  refine (rfix_lit 8 8 rfl W1 gr n c at_ fl A bs (by omega) (by omega) H0.rr).mono ?_
  rintro e w1 ⟨v, rfl, hch, hk, hr⟩
  unfold KNum at hk
  subst hk
  have H1 := H0.next hch hr
  have hX0 : (0:Int) ≤ ((redo (fixF bs at_ 8) 0 at_ fl).1 : Int) ∧ ((redo (fixF bs at_ 8) 0 at_ fl).1 : Int) ≤ 18446744073709551615 := by have := fix_bd bs at_ 8 fl HR.out.1.lb; omega
  obtain ⟨X, hX⟩ : ∃ X : Int, ((redo (fixF bs at_ 8) 0 at_ fl).1 : Int) = X := ⟨_, rfl⟩
  have HX := Hd.mk hX
  rw [hX] at hX0 ⊢
  obtain ⟨X0, X1⟩ := hX0
  obtain ⟨c0, c1, c2, z⟩ := H1.cells
  clear hch hr hX
  go_wp2_with fail
  obtain ⟨WF, hWF, f0, f1, f2, HF⟩ := H1.fin (.int .u64 X) (.slice none 0 0) (.slice none 0 0)
  rw [hWF]
  clear hWF c0 c1 c2 z
  refine bodyPost_ret (v := .agg #[.int .u64 X, .slice none 0 0, .slice none 0 0]) (by simp [results, Try.results39, go_sem, f0, f1, f2]) rfl ?_
  exact ⟨_, _, by rw [← HX.out]; rfl, HF.out.1, HF.out.2.1, KOwn.nil _ _, KTxt.nil _ _⟩
set_option maxHeartbeats 1000000 in
theorem want_4 (w : World) (gr n c at_ : Nat) (fl : Int) (A : Option Addr) (bs : List Nat) (who kind N E : Int) (hk : I64 kind) (hN : I64 N) (hE : I64 E) (hj : kind % 13 = 4) (R : Rr w gr A n c at_ fl bs) :
    Calls Try.prog 39 #[.pointer (some ⟨gr, 0, none⟩), .agg #[.int .i64 who, .int .i64 kind, .int .i64 N, .int .i64 E]] w (Tells w gr n c A bs (askF bs at_ fl N E 4)) := by
  have HR : Hd (Rr w gr A n c at_ fl bs ∧ I64 N ∧ I64 E) := ⟨R, hN, hE⟩
  clear R hN hE
  go_enter Try.func39, Try.ntmps39
  go_wp2_with fail
  refine (pick_any _ kind 13 hk (by omega) (by omega)).mono ?_
  rw [hj]
  rintro e z ⟨rfl, rfl⟩
  clear hj hk
  go_wp2_with fail
  obtain ⟨W1, hW, H0⟩ := ask_world w who kind N E gr n c at_ fl A bs HR.out.1
  rw [hW]
  clear hW
  refine (rfix_lit 2 2 rfl W1 gr n c at_ fl A bs (by omega) (by omega) H0.rr).mono ?_
  rintro e w1 ⟨v, rfl, hch, hk, hr⟩
  unfold KNum at hk
  subst hk
  have H1 := H0.next hch hr
  have hX0 : (0:Int) ≤ ((redo (fixF bs at_ 2) 0 at_ fl).1 : Int) ∧ ((redo (fixF bs at_ 2) 0 at_ fl).1 : Int) ≤ 65535 := by have := fix_bd bs at_ 2 fl HR.out.1.lb; omega
  obtain ⟨X, hX⟩ : ∃ X : Int, ((redo (fixF bs at_ 2) 0 at_ fl).1 : Int) = X := ⟨_, rfl⟩
  have HX := Hd.mk hX
  rw [hX] at hX0 ⊢
  obtain ⟨X0, X1⟩ := hX0
  obtain ⟨c0, c1, c2, z⟩ := H1.cells
  clear hch hr hX
  go_wp2_with fail
  obtain ⟨WF, hWF, f0, f1, f2, HF⟩ := H1.fin (.int .u64 X) (.slice none 0 0) (.slice none 0 0)
  rw [hWF]
  clear hWF c0 c1 c2 z
  refine bodyPost_ret (v := .agg #[.int .u64 X, .slice none 0 0, .slice none 0 0]) (by simp [results, Try.results39, go_sem, f0, f1, f2]) rfl ?_
  exact ⟨_, _, by rw [← HX.out]; rfl, HF.out.1, HF.out.2.1, KOwn.nil _ _, KTxt.nil _ _⟩
set_option maxHeartbeats 1000000 in
theorem want_5 (w : World) (gr n c at_ : Nat) (fl : Int) (A : Option Addr) (bs : List Nat) (who kind N E : Int) (hk : I64 kind) (hN : I64 N) (hE : I64 E) (hj : kind % 13 = 5) (R : Rr w gr A n c at_ fl bs) :
    Calls Try.prog 39 #[.pointer (some ⟨gr, 0, none⟩), .agg #[.int .i64 who, .int .i64 kind, .int .i64 N, .int .i64 E]] w (Tells w gr n c A bs (askF bs at_ fl N E 5)) := by
  have HR : Hd (Rr w gr A n c at_ fl bs ∧ I64 N ∧ I64 E) := ⟨R, hN, hE⟩
  clear R hN hE
  go_enter Try.func39, Try.ntmps39
  go_wp2_with fail
  refine (pick_any _ kind 13 hk (by omega) (by omega)).mono ?_
  rw [hj]
  rintro e z ⟨rfl, rfl⟩
  clear hj hk
  go_wp2_with fail
  obtain ⟨W1, hW, H0⟩ := ask_world w who kind N E gr n c at_ fl A bs HR.out.1
  rw [hW]
  clear hW
  refine (ruvarint_any W1 gr n c at_ fl A bs H0.rr).mono ?_
  rintro e w1 ⟨v, rfl, hch, hk, hr⟩
  unfold KNum at hk
  subst hk
  have H1 := H0.next hch hr
  have hX0 : (0:Int) ≤ ((redo (numF bs at_) 0 at_ fl).1 : Int) ∧ ((redo (numF bs at_) 0 at_ fl).1 : Int) ≤ 18446744073709551615 := by have := num_bd bs at_ fl HR.out.1.lb; omega
  obtain ⟨X, hX⟩ : ∃ X : Int, ((redo (numF bs at_) 0 at_ fl).1 : Int) = X := ⟨_, rfl⟩
  have HX := Hd.mk hX
  rw [hX] at hX0 ⊢
  obtain ⟨X0, X1⟩ := hX0
  obtain ⟨c0, c1, c2, z⟩ := H1.cells
  clear hch hr hX
  go_wp2_with fail
  obtain ⟨WF, hWF, f0, f1, f2, HF⟩ := H1.fin (.int .u64 X) (.slice none 0 0) (.slice none 0 0)
  rw [hWF]
  clear hWF c0 c1 c2 z
  refine bodyPost_ret (v := .agg #[.int .u64 X, .slice none 0 0, .slice none 0 0]) (by simp [results, Try.results39, go_sem, f0, f1, f2]) rfl ?_
  exact ⟨_, _, by rw [← HX.out]; rfl, HF.out.1, HF.out.2.1, KOwn.nil _ _, KTxt.nil _ _⟩
set_option maxHeartbeats 1000000 in
theorem want_6 (w : World) (gr n c at_ : Nat) (fl : Int) (A : Option Addr) (bs : List Nat) (who kind N E : Int) (hk : I64 kind) (hN : I64 N) (hE : I64 E) (hj : kind % 13 = 6) (R : Rr w gr A n c at_ fl bs) :
    Calls Try.prog 39 #[.pointer (some ⟨gr, 0, none⟩), .agg #[.int .i64 who, .int .i64 kind, .int .i64 N, .int .i64 E]] w (Tells w gr n c A bs (askF bs at_ fl N E 6)) := by
  have HR : Hd (Rr w gr A n c at_ fl bs ∧ I64 N ∧ I64 E) := ⟨R, hN, hE⟩
  clear R hN hE
  go_enter Try.func39, Try.ntmps39
  go_wp2_with fail
  refine (pick_any _ kind 13 hk (by omega) (by omega)).mono ?_
  rw [hj]
  rintro e z ⟨rfl, rfl⟩
  clear hj hk
  go_wp2_with fail
  obtain ⟨W1, hW, H0⟩ := ask_world w who kind N E gr n c at_ fl A bs HR.out.1
  rw [hW]
  clear hW
  refine (rvarint_any W1 gr n c at_ fl A bs H0.rr).mono ?_
  rintro e w1 ⟨v, rfl, hch, hk, hr⟩
  unfold KZag at hk
  subst hk
  have H1 := H0.next hch hr
  have hX0 := unz_bd ((redo (numF bs at_) 0 at_ fl).1 : Int) (by omega) (by have := num_bd bs at_ fl HR.out.1.lb; omega)
  obtain ⟨X, hX⟩ : ∃ X : Int, unz ((redo (numF bs at_) 0 at_ fl).1 : Int) = X := ⟨_, rfl⟩
  have HX := Hd.mk hX
  rw [hX] at hX0 ⊢
  obtain ⟨X0, X1⟩ := hX0
  obtain ⟨c0, c1, c2, z⟩ := H1.cells
  clear hch hr hX
  go_wp2_with fail
  obtain ⟨WF, hWF, f0, f1, f2, HF⟩ := H1.fin (.int .u64 (IntKind.u64.wrap X)) (.slice none 0 0) (.slice none 0 0)
  rw [hWF]
  clear hWF c0 c1 c2 z
  refine bodyPost_ret (v := .agg #[.int .u64 (IntKind.u64.wrap X), .slice none 0 0, .slice none 0 0]) (by simp [results, Try.results39, go_sem, f0, f1, f2]) rfl ?_
  exact ⟨_, _, by rw [← HX.out]; rfl, HF.out.1, HF.out.2.1, KOwn.nil _ _, KTxt.nil _ _⟩
set_option maxHeartbeats 1000000 in
theorem want_7 (w : World) (gr n c at_ : Nat) (fl : Int) (A : Option Addr) (bs : List Nat) (who kind N E : Int) (hk : I64 kind) (hN : I64 N) (hE : I64 E) (hj : kind % 13 = 7) (R : Rr w gr A n c at_ fl bs) :
    Calls Try.prog 39 #[.pointer (some ⟨gr, 0, none⟩), .agg #[.int .i64 who, .int .i64 kind, .int .i64 N, .int .i64 E]] w (Tells w gr n c A bs (askF bs at_ fl N E 7)) := by
  have HR : Hd (Rr w gr A n c at_ fl bs ∧ I64 N ∧ I64 E) := ⟨R, hN, hE⟩
  clear R hN hE
  go_enter Try.func39, Try.ntmps39
  go_wp2_with fail
  refine (pick_any _ kind 13 hk (by omega) (by omega)).mono ?_
  rw [hj]
  rintro e z ⟨rfl, rfl⟩
  clear hj hk
  go_wp2_with fail
  obtain ⟨W1, hW, H0⟩ := ask_world w who kind N E gr n c at_ fl A bs HR.out.1
  rw [hW]
  clear hW
  refine (rbytes_any W1 gr n c at_ fl A bs N HR.out.2.1 H0.rr).mono ?_
  rintro e w1 ⟨v, rfl, hch, hk, hr⟩
  unfold KOwn at hk
  obtain ⟨A2, c3, rfl, _, _⟩ := own_form hk
  have H1 := H0.next hch hr
  have HK := Hd.mk hk
  have HS : Hd (w.heap.size + 1 < W1.heap.size) := ⟨by have := H0.sz; omega⟩
  obtain ⟨L, hL⟩ : ∃ L, (redo (bytesF bs at_ N) [] at_ fl).1.length = L := ⟨_, rfl⟩
  have HL := Hd.mk hL
  rw [hL]
  obtain ⟨c0, c1, c2, z⟩ := H1.cells
  clear hch hr hL hk
  go_wp2_with fail
  obtain ⟨WF, hWF, f0, f1, f2, HF⟩ := H1.fin (.int .u64 0) (.slice A2 L c3) (.slice none 0 0)
  rw [hWF]
  clear hWF c0 c1 c2 z
  refine bodyPost_ret (v := .agg #[.int .u64 0, .slice A2 L c3, .slice none 0 0]) (by simp [results, Try.results39, go_sem, f0, f1, f2]) rfl ?_
  exact ⟨_, _, rfl, HF.out.1, HF.out.2.1, (by show KOwn _ _ (redo (bytesF bs at_ N) [] at_ fl).1 _; unfold KOwn; have := HF.out.2.2 _ _ _ _ _ HS.out HK.out; rw [HL.out] at this; rw [HL.out]; exact this), KTxt.nil _ _⟩
set_option maxHeartbeats 1000000 in
theorem want_8 (w : World) (gr n c at_ : Nat) (fl : Int) (A : Option Addr) (bs : List Nat) (who kind N E : Int) (hk : I64 kind) (hN : I64 N) (hE : I64 E) (hj : kind % 13 = 8) (R : Rr w gr A n c at_ fl bs) :
    Calls Try.prog 39 #[.pointer (some ⟨gr, 0, none⟩), .agg #[.int .i64 who, .int .i64 kind, .int .i64 N, .int .i64 E]] w (Tells w gr n c A bs (askF bs at_ fl N E 8)) := by
  have HR : Hd (Rr w gr A n c at_ fl bs ∧ I64 N ∧ I64 E) := ⟨R, hN, hE⟩
  clear R hN hE
  go_enter Try.func39, Try.ntmps39
  go_wp2_with fail
  refine (pick_any _ kind 13 hk (by omega) (by omega)).mono ?_
  rw [hj]
  rintro e z ⟨rfl, rfl⟩
  clear hj hk
  go_wp2_with fail
  obtain ⟨W1, hW, H0⟩ := ask_world w who kind N E gr n c at_ fl A bs HR.out.1
  rw [hW]
  clear hW
  refine (rblock_any W1 gr n c at_ fl A bs N HR.out.2.1 H0.rr).mono ?_
  rintro e w1 ⟨v, rfl, hch, hk, hr⟩
  unfold KOwn at hk
  obtain ⟨A2, c3, rfl, _, _⟩ := own_form hk
  have H1 := H0.next hch hr
  have HK := Hd.mk hk
  have HS : Hd (w.heap.size + 1 < W1.heap.size) := ⟨by have := H0.sz; omega⟩
  obtain ⟨L, hL⟩ : ∃ L, (redo (blkF bs at_ N) [] at_ fl).1.length = L := ⟨_, rfl⟩
  have HL := Hd.mk hL
  rw [hL]
  obtain ⟨c0, c1, c2, z⟩ := H1.cells
  clear hch hr hL hk
  go_wp2_with fail
  obtain ⟨WF, hWF, f0, f1, f2, HF⟩ := H1.fin (.int .u64 0) (.slice A2 L c3) (.slice none 0 0)
  rw [hWF]
  clear hWF c0 c1 c2 z
  refine bodyPost_ret (v := .agg #[.int .u64 0, .slice A2 L c3, .slice none 0 0]) (by simp [results, Try.results39, go_sem, f0, f1, f2]) rfl ?_
  exact ⟨_, _, rfl, HF.out.1, HF.out.2.1, (by show KOwn _ _ (redo (blkF bs at_ N) [] at_ fl).1 _; unfold KOwn; have := HF.out.2.2 _ _ _ _ _ HS.out HK.out; rw [HL.out] at this; rw [HL.out]; exact this), KTxt.nil _ _⟩
set_option maxHeartbeats 1000000 in
theorem want_9 (w : World) (gr n c at_ : Nat) (fl : Int) (A : Option Addr) (bs : List Nat) (who kind N E : Int) (hk : I64 kind) (hN : I64 N) (hE : I64 E) (hj : kind % 13 = 9) (R : Rr w gr A n c at_ fl bs) :
    Calls Try.prog 39 #[.pointer (some ⟨gr, 0, none⟩), .agg #[.int .i64 who, .int .i64 kind, .int .i64 N, .int .i64 E]] w (Tells w gr n c A bs (askF bs at_ fl N E 9)) := by
  have HR : Hd (Rr w gr A n c at_ fl bs ∧ I64 N ∧ I64 E) := ⟨R, hN, hE⟩
  clear R hN hE
  go_enter Try.func39, Try.ntmps39
  go_wp2_with fail
  refine (pick_any _ kind 13 hk (by omega) (by omega)).mono ?_
  rw [hj]
  rintro e z ⟨rfl, rfl⟩
  clear hj hk
  go_wp2_with fail
  obtain ⟨W1, hW, H0⟩ := ask_world w who kind N E gr n c at_ fl A bs HR.out.1
  rw [hW]
  clear hW
  refine (rtexts_any W1 gr n c at_ fl A bs N E HR.out.2.1 HR.out.2.2 H0.rr).mono ?_
  rintro e w1 ⟨v, rfl, hch, hk, hr⟩
  unfold KTxt at hk
  obtain ⟨A2, c3, rfl, _, _⟩ := own_form hk
  have H1 := H0.next hch hr
  have HK := Hd.mk hk
  have HS : Hd (w.heap.size + 1 < W1.heap.size) := ⟨by have := H0.sz; omega⟩
  obtain ⟨L, hL⟩ : ∃ L, (redo (textsF bs at_ N E) [] at_ fl).1.length = L := ⟨_, rfl⟩
  have HL := Hd.mk hL
  rw [hL]
  obtain ⟨c0, c1, c2, z⟩ := H1.cells
  clear hch hr hL hk
  go_wp2_with fail
  obtain ⟨WF, hWF, f0, f1, f2, HF⟩ := H1.fin (.int .u64 0) (.slice none 0 0) (.slice A2 L c3)
  rw [hWF]
  clear hWF c0 c1 c2 z
  refine bodyPost_ret (v := .agg #[.int .u64 0, .slice none 0 0, .slice A2 L c3]) (by simp [results, Try.results39, go_sem, f0, f1, f2]) rfl ?_
  exact ⟨_, _, rfl, HF.out.1, HF.out.2.1, KOwn.nil _ _, (by show KTxt _ _ (redo (textsF bs at_ N E) [] at_ fl).1 _; unfold KTxt; have := HF.out.2.2 _ _ _ _ _ HS.out HK.out; rw [HL.out] at this; rw [HL.out]; exact this)⟩
set_option maxHeartbeats 1000000 in
theorem want_10 (w : World) (gr n c at_ : Nat) (fl : Int) (A : Option Addr) (bs : List Nat) (who kind N E : Int) (hk : I64 kind) (hN : I64 N) (hE : I64 E) (hj : kind % 13 = 10) (hfl : 0 ≤ fl) (hfl2 : fl ≤ 1000) (R : Rr w gr A n c at_ fl bs) :
    Calls Try.prog 39 #[.pointer (some ⟨gr, 0, none⟩), .agg #[.int .i64 who, .int .i64 kind, .int .i64 N, .int .i64 E]] w (Tells w gr n c A bs (askF bs at_ fl N E 10)) := by
  have HR : Hd (Rr w gr A n c at_ fl bs ∧ I64 N ∧ I64 E) := ⟨R, hN, hE⟩
  clear R hN hE
  go_enter Try.func39, Try.ntmps39
  go_wp2_with fail
  refine (pick_any _ kind 13 hk (by omega) (by omega)).mono ?_
  rw [hj]
  rintro e z ⟨rfl, rfl⟩
  clear hj hk
  go_wp2_with fail
  obtain ⟨W1, hW, H0⟩ := ask_world w who kind N E gr n c at_ fl A bs HR.out.1
  rw [hW]
  clear hW
  refine (rleft_any W1 gr n c at_ fl A bs H0.rr).mono ?_
  rintro e w1 ⟨rfl, hch⟩
  have H1 := H0.next (hch.mono (by simp)) (H0.rr.keep' hch (by simp))
  obtain ⟨X, hX⟩ : ∃ X : Int, ((n - at_ : Nat) : Int) = X := ⟨_, rfl⟩
  have hX0 : 0 ≤ X ∧ X ≤ 4398046511104 := by have := H0.rr.le; omega
  clear hch
  have HX := Hd.mk hX
  rw [hX]
  obtain ⟨X0, X1⟩ := hX0
  obtain ⟨c0, c1, c2, z⟩ := H1.cells
  have HN : Hd (bs.length = n) := ⟨H0.rr.len⟩
  clear hX hfl hfl2
  go_wp2_with fail
  obtain ⟨WF, hWF, f0, f1, f2, HF⟩ := H1.fin (.int .u64 X) (.slice none 0 0) (.slice none 0 0)
  rw [hWF]
  clear hWF c0 c1 c2 z
  refine bodyPost_ret (v := .agg #[.int .u64 X, .slice none 0 0, .slice none 0 0]) (by simp [results, Try.results39, go_sem, f0, f1, f2]) rfl ?_
  exact ⟨_, _, by rw [← HX.out, ← HN.out]; rfl, HF.out.1, HF.out.2.1, KOwn.nil _ _, KTxt.nil _ _⟩
set_option maxHeartbeats 1000000 in
theorem ask_10 (w : World) (gr n c at_ : Nat) (fl : Int) (A : Option Addr) (bs : List Nat) (who kind N E : Int) (hk : I64 kind) (hN : I64 N) (hE : I64 E) (hj : kind % 13 = 10) (hfl : 0 ≤ fl) (hfl2 : fl ≤ 1000) (R : Rr w gr A n c at_ fl bs) :
    Calls Try.prog 40 #[.pointer (some ⟨gr, 0, none⟩), .agg #[.int .i64 who, .int .i64 kind, .int .i64 N, .int .i64 E]] w (Tells w gr n c A bs (askF bs at_ fl N E 10)) := by
  have HR : Hd (Rr w gr A n c at_ fl bs ∧ I64 N ∧ I64 E) := ⟨R, hN, hE⟩
  clear R hN hE
  go_enter Try.func40, Try.ntmps40
  go_wp2_with fail
  refine (pick_any _ kind 13 hk (by omega) (by omega)).mono ?_
  rw [hj]
  rintro e z ⟨rfl, rfl⟩
  clear hj hk
  go_wp2_with fail
  obtain ⟨W1, hW, H0⟩ := ask_world w who kind N E gr n c at_ fl A bs HR.out.1
  rw [hW]
  clear hW
  refine (left_any W1 gr n c at_ fl A bs H0.rr).mono ?_
  rintro e w1 ⟨rfl, hch⟩
  have H1 := H0.next (hch.mono (by simp)) (H0.rr.keep' hch (by simp))
  obtain ⟨X, hX⟩ : ∃ X : Int, ((n - at_ : Nat) : Int) = X := ⟨_, rfl⟩
  have hX0 : 0 ≤ X ∧ X ≤ 4398046511104 := by have := H0.rr.le; omega
  clear hch
  have HX := Hd.mk hX
  rw [hX]
  obtain ⟨X0, X1⟩ := hX0
  obtain ⟨c0, c1, c2, z⟩ := H1.cells
  have HN : Hd (bs.length = n) := ⟨H0.rr.len⟩
  clear hX hfl hfl2
  go_wp2_with fail
  obtain ⟨WF, hWF, f0, f1, f2, HF⟩ := H1.fin (.int .u64 X) (.slice none 0 0) (.slice none 0 0)
  rw [hWF]
  clear hWF c0 c1 c2 z
  refine bodyPost_ret (v := .agg #[.int .u64 X, .slice none 0 0, .slice none 0 0]) (by simp [results, Try.results40, go_sem, f0, f1, f2]) rfl ?_
  exact ⟨_, _, by rw [← HX.out, ← HN.out]; rfl, HF.out.1, HF.out.2.1, KOwn.nil _ _, KTxt.nil _ _⟩
set_option maxHeartbeats 1000000 in
theorem want_11 (w : World) (gr n c at_ : Nat) (fl : Int) (A : Option Addr) (bs : List Nat) (who kind N E : Int) (hk : I64 kind) (hN : I64 N) (hE : I64 E) (hj : kind % 13 = 11) (hfl : 0 ≤ fl) (hfl2 : fl ≤ 1000) (R : Rr w gr A n c at_ fl bs) :
    Calls Try.prog 39 #[.pointer (some ⟨gr, 0, none⟩), .agg #[.int .i64 who, .int .i64 kind, .int .i64 N, .int .i64 E]] w (Tells w gr n c A bs (askF bs at_ fl N E 11)) := by
  have HR : Hd (Rr w gr A n c at_ fl bs ∧ I64 N ∧ I64 E) := ⟨R, hN, hE⟩
  clear R hN hE
  go_enter Try.func39, Try.ntmps39
  go_wp2_with fail
  refine (pick_any _ kind 13 hk (by omega) (by omega)).mono ?_
  rw [hj]
  rintro e z ⟨rfl, rfl⟩
  clear hj hk
  go_wp2_with fail
  obtain ⟨W1, hW, H0⟩ := ask_world w who kind N E gr n c at_ fl A bs HR.out.1
  rw [hW]
  clear hW
  refine (rfault_any W1 gr n c at_ fl A bs H0.rr).mono ?_
  rintro e w1 ⟨rfl, rfl⟩
  have H1 := H0
  obtain ⟨X, hX⟩ : ∃ X : Int, fl = X := ⟨_, rfl⟩
  have hX0 : 0 ≤ X ∧ X ≤ 1000 := by omega
  have HX := Hd.mk hX
  rw [hX]
  obtain ⟨X0, X1⟩ := hX0
  obtain ⟨c0, c1, c2, z⟩ := H1.cells
  have HN : Hd (bs.length = n) := ⟨H0.rr.len⟩
  clear hX hfl hfl2
  go_wp2_with fail
  obtain ⟨WF, hWF, f0, f1, f2, HF⟩ := H1.fin (.int .u64 X) (.slice none 0 0) (.slice none 0 0)
  rw [hWF]
  clear hWF c0 c1 c2 z
  refine bodyPost_ret (v := .agg #[.int .u64 X, .slice none 0 0, .slice none 0 0]) (by simp [results, Try.results39, go_sem, f0, f1, f2]) rfl ?_
  exact ⟨_, _, by rw [← HX.out]; rfl, HF.out.1, HF.out.2.1, KOwn.nil _ _, KTxt.nil _ _⟩
set_option maxHeartbeats 1000000 in
theorem ask_11 (w : World) (gr n c at_ : Nat) (fl : Int) (A : Option Addr) (bs : List Nat) (who kind N E : Int) (hk : I64 kind) (hN : I64 N) (hE : I64 E) (hj : kind % 13 = 11) (hfl : 0 ≤ fl) (hfl2 : fl ≤ 1000) (R : Rr w gr A n c at_ fl bs) :
    Calls Try.prog 40 #[.pointer (some ⟨gr, 0, none⟩), .agg #[.int .i64 who, .int .i64 kind, .int .i64 N, .int .i64 E]] w (Tells w gr n c A bs (askF bs at_ fl N E 11)) := by
  have HR : Hd (Rr w gr A n c at_ fl bs ∧ I64 N ∧ I64 E) := ⟨R, hN, hE⟩
  clear R hN hE
  go_enter Try.func40, Try.ntmps40
  go_wp2_with fail
  refine (pick_any _ kind 13 hk (by omega) (by omega)).mono ?_
  rw [hj]
  rintro e z ⟨rfl, rfl⟩
  clear hj hk
  go_wp2_with fail
  obtain ⟨W1, hW, H0⟩ := ask_world w who kind N E gr n c at_ fl A bs HR.out.1
  rw [hW]
  clear hW
  refine (fault_any W1 gr n c at_ fl A bs H0.rr).mono ?_
  rintro e w1 ⟨rfl, rfl⟩
  have H1 := H0
  obtain ⟨X, hX⟩ : ∃ X : Int, fl = X := ⟨_, rfl⟩
  have hX0 : 0 ≤ X ∧ X ≤ 1000 := by omega
  have HX := Hd.mk hX
  rw [hX]
  obtain ⟨X0, X1⟩ := hX0
  obtain ⟨c0, c1, c2, z⟩ := H1.cells
  have HN : Hd (bs.length = n) := ⟨H0.rr.len⟩
  clear hX hfl hfl2
  go_wp2_with fail
  obtain ⟨WF, hWF, f0, f1, f2, HF⟩ := H1.fin (.int .u64 X) (.slice none 0 0) (.slice none 0 0)
  rw [hWF]
  clear hWF c0 c1 c2 z
  refine bodyPost_ret (v := .agg #[.int .u64 X, .slice none 0 0, .slice none 0 0]) (by simp [results, Try.results40, go_sem, f0, f1, f2]) rfl ?_
  exact ⟨_, _, by rw [← HX.out]; rfl, HF.out.1, HF.out.2.1, KOwn.nil _ _, KTxt.nil _ _⟩
set_option maxHeartbeats 1000000 in
theorem want_12 (w : World) (gr n c at_ : Nat) (fl : Int) (A : Option Addr) (bs : List Nat) (who kind N E : Int) (hk : I64 kind) (hN : I64 N) (hE : I64 E) (hj : kind % 13 = 12) (hfl : 0 ≤ fl) (hfl2 : fl ≤ 1000) (R : Rr w gr A n c at_ fl bs) :
    Calls Try.prog 39 #[.pointer (some ⟨gr, 0, none⟩), .agg #[.int .i64 who, .int .i64 kind, .int .i64 N, .int .i64 E]] w (Tells w gr n c A bs (askF bs at_ fl N E 12)) := by
  have HR : Hd (Rr w gr A n c at_ fl bs ∧ I64 N ∧ I64 E) := ⟨R, hN, hE⟩
  clear R hN hE
  go_enter Try.func39, Try.ntmps39
  go_wp2_with fail
  refine (pick_any _ kind 13 hk (by omega) (by omega)).mono ?_
  rw [hj]
  rintro e z ⟨rfl, rfl⟩
  clear hj hk
  go_wp2_with fail
  obtain ⟨W1, hW, H0⟩ := ask_world w who kind N E gr n c at_ fl A bs HR.out.1
  rw [hW]
  clear hW
  refine (rend_any W1 gr n c at_ fl A bs H0.rr).mono ?_
  rintro e w1 ⟨rfl, hch⟩
  have H1 := H0.next (hch.mono (by simp)) (H0.rr.keep' hch (by simp))
  obtain ⟨X, hX⟩ : ∃ X : Int, endF n at_ fl = X := ⟨_, rfl⟩
  have hX0 : 0 ≤ X ∧ X ≤ 4398046511104 := by rw [← hX]; unfold endF; split; omega; split <;> omega
  clear hch
  have HX := Hd.mk hX
  rw [hX]
  obtain ⟨X0, X1⟩ := hX0
  obtain ⟨c0, c1, c2, z⟩ := H1.cells
  have HN : Hd (bs.length = n) := ⟨H0.rr.len⟩
  clear hX hfl hfl2
  go_wp2_with fail
  obtain ⟨WF, hWF, f0, f1, f2, HF⟩ := H1.fin (.int .u64 X) (.slice none 0 0) (.slice none 0 0)
  rw [hWF]
  clear hWF c0 c1 c2 z
  refine bodyPost_ret (v := .agg #[.int .u64 X, .slice none 0 0, .slice none 0 0]) (by simp [results, Try.results39, go_sem, f0, f1, f2]) rfl ?_
  exact ⟨_, _, by rw [← HX.out, ← HN.out]; rfl, HF.out.1, HF.out.2.1, KOwn.nil _ _, KTxt.nil _ _⟩
set_option maxHeartbeats 1000000 in
theorem ask_12 (w : World) (gr n c at_ : Nat) (fl : Int) (A : Option Addr) (bs : List Nat) (who kind N E : Int) (hk : I64 kind) (hN : I64 N) (hE : I64 E) (hj : kind % 13 = 12) (hfl : 0 ≤ fl) (hfl2 : fl ≤ 1000) (R : Rr w gr A n c at_ fl bs) :
    Calls Try.prog 40 #[.pointer (some ⟨gr, 0, none⟩), .agg #[.int .i64 who, .int .i64 kind, .int .i64 N, .int .i64 E]] w (Tells w gr n c A bs (askF bs at_ fl N E 12)) := by
  have HR : Hd (Rr w gr A n c at_ fl bs ∧ I64 N ∧ I64 E) := ⟨R, hN, hE⟩
  clear R hN hE
  go_enter Try.func40, Try.ntmps40
  go_wp2_with fail
  refine (pick_any _ kind 13 hk (by omega) (by omega)).mono ?_
  rw [hj]
  rintro e z ⟨rfl, rfl⟩
  clear hj hk
  go_wp2_with fail
  obtain ⟨W1, hW, H0⟩ := ask_world w who kind N E gr n c at_ fl A bs HR.out.1
  rw [hW]
  clear hW
  refine (end_any W1 gr n c at_ fl A bs H0.rr).mono ?_
  rintro e w1 ⟨rfl, hch⟩
  have H1 := H0.next (hch.mono (by simp)) (H0.rr.keep' hch (by simp))
  obtain ⟨X, hX⟩ : ∃ X : Int, endF n at_ fl = X := ⟨_, rfl⟩
  have hX0 : 0 ≤ X ∧ X ≤ 4398046511104 := by rw [← hX]; unfold endF; split; omega; split <;> omega
  clear hch
  have HX := Hd.mk hX
  rw [hX]
  obtain ⟨X0, X1⟩ := hX0
  obtain ⟨c0, c1, c2, z⟩ := H1.cells
  have HN : Hd (bs.length = n) := ⟨H0.rr.len⟩
  clear hX hfl hfl2
  go_wp2_with fail
  obtain ⟨WF, hWF, f0, f1, f2, HF⟩ := H1.fin (.int .u64 X) (.slice none 0 0) (.slice none 0 0)
  rw [hWF]
  clear hWF c0 c1 c2 z
  refine bodyPost_ret (v := .agg #[.int .u64 X, .slice none 0 0, .slice none 0 0]) (by simp [results, Try.results40, go_sem, f0, f1, f2]) rfl ?_
  exact ⟨_, _, by rw [← HX.out, ← HN.out]; rfl, HF.out.1, HF.out.2.1, KOwn.nil _ _, KTxt.nil _ _⟩
theorem want_all (w : World) (gr n c at_ : Nat) (fl : Int) (A : Option Addr) (bs : List Nat) (who kind N E : Int) (k : Nat) (hk : I64 kind) (hN : I64 N) (hE : I64 E) (hj : kind % 13 = (k : Int)) (h13 : k < 13) (hfl : 0 ≤ fl) (hfl2 : fl ≤ 1000) (R : Rr w gr A n c at_ fl bs) :
    Calls Try.prog 39 #[.pointer (some ⟨gr, 0, none⟩), .agg #[.int .i64 who, .int .i64 kind, .int .i64 N, .int .i64 E]] w (Tells w gr n c A bs (askF bs at_ fl N E k)) :=
  match k, h13 with
  | 0, _ => want_0 w gr n c at_ fl A bs who kind N E hk hN hE hj R
  | 1, _ => want_1 w gr n c at_ fl A bs who kind N E hk hN hE hj R
  | 2, _ => want_2 w gr n c at_ fl A bs who kind N E hk hN hE hj R
  | 3, _ => want_3 w gr n c at_ fl A bs who kind N E hk hN hE hj R
  | 4, _ => want_4 w gr n c at_ fl A bs who kind N E hk hN hE hj R
  | 5, _ => want_5 w gr n c at_ fl A bs who kind N E hk hN hE hj R
  | 6, _ => want_6 w gr n c at_ fl A bs who kind N E hk hN hE hj R
  | 7, _ => want_7 w gr n c at_ fl A bs who kind N E hk hN hE hj R
  | 8, _ => want_8 w gr n c at_ fl A bs who kind N E hk hN hE hj R
  | 9, _ => want_9 w gr n c at_ fl A bs who kind N E hk hN hE hj R
  | 10, _ => want_10 w gr n c at_ fl A bs who kind N E hk hN hE hj hfl hfl2 R
  | 11, _ => want_11 w gr n c at_ fl A bs who kind N E hk hN hE hj hfl hfl2 R
  | 12, _ => want_12 w gr n c at_ fl A bs who kind N E hk hN hE hj hfl hfl2 R
theorem ask_all (w : World) (gr n c at_ : Nat) (fl : Int) (A : Option Addr) (bs : List Nat) (who kind N E : Int) (k : Nat) (hk : I64 kind) (hN : I64 N) (hE : I64 E) (hj : kind % 13 = (k : Int)) (h13 : k < 13) (hfl : 0 ≤ fl) (hfl2 : fl ≤ 1000) (R : Rr w gr A n c at_ fl bs) :
    Calls Try.prog 40 #[.pointer (some ⟨gr, 0, none⟩), .agg #[.int .i64 who, .int .i64 kind, .int .i64 N, .int .i64 E]] w (Tells w gr n c A bs (askF bs at_ fl N E k)) :=
  match k, h13 with
  | 0, _ => ask_0 w gr n c at_ fl A bs who kind N E hk hN hE hj R
  | 1, _ => ask_1 w gr n c at_ fl A bs who kind N E hk hN hE hj R
  | 2, _ => ask_2 w gr n c at_ fl A bs who kind N E hk hN hE hj R
  | 3, _ => ask_3 w gr n c at_ fl A bs who kind N E hk hN hE hj R
  | 4, _ => ask_4 w gr n c at_ fl A bs who kind N E hk hN hE hj R
  | 5, _ => ask_5 w gr n c at_ fl A bs who kind N E hk hN hE hj R
  | 6, _ => ask_6 w gr n c at_ fl A bs who kind N E hk hN hE hj R
  | 7, _ => ask_7 w gr n c at_ fl A bs who kind N E hk hN hE hj R
  | 8, _ => ask_8 w gr n c at_ fl A bs who kind N E hk hN hE hj R
  | 9, _ => ask_9 w gr n c at_ fl A bs who kind N E hk hN hE hj R
  | 10, _ => ask_10 w gr n c at_ fl A bs who kind N E hk hN hE hj hfl hfl2 R
  | 11, _ => ask_11 w gr n c at_ fl A bs who kind N E hk hN hE hj hfl hfl2 R
  | 12, _ => ask_12 w gr n c at_ fl A bs who kind N E hk hN hE hj hfl hfl2 R
end Go.Proofs.Ytjkenhkoakaaoaa
