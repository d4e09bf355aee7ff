/- Contracts of codec's take and reading. -/
import Derived.Test.YtjkenhkoakaaoaaRdr
import Derived.Test.YtjkenhkoakaaoaaRdrF
import Derived.Deep.RegionHeld3
import Derived.StillTailTactics
namespace Go.Proofs.Ytjkenhkoakaaoaa
open Go.RowKit
set_option linter.unusedVariables false
theorem Chg.drewN {L : List Nat} {w w1 : World} (h : Chg L w w1) (m : Nat) : Chg L w (w1.drewN m) := ⟨h.os, h.tape, h.output, h.size, h.block⟩
theorem Rr.drewN {w : World} {gr n c at_ : Nat} {A : Option Addr} {fl : Int} {bs : List Nat} (R : Rr w gr A n c at_ fl bs) (m : Nat) : Rr (w.drewN m) gr A n c at_ fl bs := ⟨R.c0, R.c1, R.c2, R.z1, R.z2, R.rd, R.le, R.lt, R.lb⟩
set_option maxRecDepth 20000 in
set_option maxHeartbeats 1000000 in
theorem take_yes (w : World) (gr n c at_ k : Nat) (A : Option Addr) (fl : Int) (bs : List Nat) (R : Rr w gr A n c at_ fl bs) (hk : k ≤ n - at_) :
    Calls Try.prog 98 #[.pointer (some ⟨gr, 0, none⟩), .int .u64 (k : Int)] w fun e w' => ∃ A' c', e = .returned (.slice A' k c') ∧ Chg [gr] w w' ∧ Rr w' gr A n c (at_ + k) fl bs ∧ Rd w' gr A' k (cb ((bs.drop at_).take k)) ∧ k ≤ c' := by
  have HR := Hd.mk R
  have g0 := R.c0
  have g1 := R.c1
  have z1 := R.z1
  obtain ⟨l1, l2, l3⟩ := R.le
  have HL : Hd (at_ ≤ n ∧ n ≤ c ∧ n ≤ 4398046511104 ∧ k ≤ n - at_) := ⟨l1, l2, l3, hk⟩
  have hcut : ∀ w, (Instr.slice 45 (.slice A n c) (some (.int .i64 (at_ : Int))) (some (.int .i64 ((at_ : Int) + (k : Int)))) none).run Try.prog w = .ok (.slice (cutA A c at_) k (c - at_)) w := by
    intro w
    have := run_cut (w := w) elB A n c at_ (at_ + k) (by omega) (by omega)
    rw [show at_ + k - at_ = k from by omega] at this
    push_cast at this
    exact this
  obtain ⟨AT, hAT⟩ : ∃ AT : Int, (at_ : Int) = AT := ⟨_, rfl⟩
  obtain ⟨K, hK⟩ : ∃ K : Int, (k : Int) = K := ⟨_, rfl⟩
  obtain ⟨N, hN⟩ : ∃ N : Int, (n : Int) = N := ⟨_, rfl⟩
  have b1 : 0 ≤ AT := by omega
  have b2 : 0 ≤ K := by omega
  have b3 : AT + K ≤ N := by omega
  have b4 : N ≤ 4398046511104 := by omega
  have HE : Hd ((at_ : Int) = AT ∧ (k : Int) = K ∧ (n : Int) = N) := ⟨hAT, hK, hN⟩
  rw [hAT] at g1 hcut
  rw [hK] at hcut ⊢
  have w1 : Hd (IntKind.i64.wrap (N - AT) = N - AT) := ⟨by rw [IntKind.wrap_i64]; omega⟩
  have w2 : Hd (IntKind.u64.wrap (N - AT) = N - AT) := ⟨by rw [IntKind.wrap_u64]; omega⟩
  have w3 : Hd (decide (K ≤ N - AT) = true) := ⟨by rw [decide_eq_true_iff]; omega⟩
  have w4 : Hd (IntKind.i64.wrap K = K) := ⟨by rw [IntKind.wrap_i64]; omega⟩
  have w5 : Hd (IntKind.i64.wrap (AT + K) = AT + K) := ⟨by rw [IntKind.wrap_i64]; omega⟩
  clear R l1 l2 l3 hk hAT hK
  go_enter Try.func98, Try.ntmps98
  go_wp2_with fail
  go_still_tail 13, (by kernel_rfl)
  change wpList _ _ _ _ _ w.drew
  go_wp2_with fail
  rw [w3.out]
  refine (must_yes w.drew 70).mono ?_
  rintro e z ⟨rfl, rfl⟩
  go_wp2_with fail
  have q4 := w4.out
  have q5 := w5.out
  go_quiet (fail)
  go_wp2_with fail
  go_ret
  have e1 : AT + K = ((at_ + k : Nat) : Int) := by have := HE.out; omega
  rw [e1]
  obtain ⟨l1, l2, l3, l4⟩ := HL.out
  have hm := (HR.out.drewN (1 + nq)).move (at_ + k) (by omega)
  refine ⟨_, _, rfl, ((Chg.refl [gr] w).drewN _).setCell (by simp) _, hm, ?_, by omega⟩
  have := HR.out.rd.cut (c := c) (l := at_) (h := at_ + k) (by omega) (by omega) l2
  rw [show at_ + k - at_ = k from by omega] at this
  have h2 : Rd (w.drewN (1 + nq)) gr (cutA A c at_) k (List.take k (List.drop at_ (cb bs))) := this
  have h3 := h2.setCell (p := ⟨gr, 1, none⟩) (Nat.le_refl _) (.int .i64 ((at_ + k : Nat) : Int))
  unfold cb at h3 ⊢
  rw [← List.map_drop, ← List.map_take] at h3
  exact h3
set_option maxRecDepth 20000 in
set_option maxHeartbeats 1000000 in
theorem take_no (w : World) (gr n c at_ : Nat) (K : Int) (A : Option Addr) (fl : Int) (bs : List Nat) (R : Rr w gr A n c at_ fl bs) (hk : (n : Int) - at_ < K) :
    Calls Try.prog 98 #[.pointer (some ⟨gr, 0, none⟩), .int .u64 K] w fun e w' => e = giveUp 70 ∧ Chg [gr] w w' ∧ Rr w' gr A n c at_ fl bs := by
  have HR := Hd.mk R
  have g0 := R.c0
  have g1 := R.c1
  obtain ⟨l1, l2, l3⟩ := R.le
  obtain ⟨AT, hAT⟩ : ∃ AT : Int, (at_ : Int) = AT := ⟨_, rfl⟩
  obtain ⟨N, hN⟩ : ∃ N : Int, (n : Int) = N := ⟨_, rfl⟩
  have b1 : 0 ≤ AT := by omega
  have b3 : AT ≤ N := by omega
  have b4 : N ≤ 4398046511104 := by omega
  rw [hAT] at g1 hk
  rw [hN] at hk
  have w3 : Hd (decide (K ≤ N - AT) = false) := ⟨by rw [decide_eq_false_iff_not]; omega⟩
  clear R l1 l2 l3 hk hAT
  go_enter Try.func98, Try.ntmps98
  go_wp2_with fail
  go_still_tail 13, (by kernel_rfl)
  change wpList _ _ _ _ _ w.drew
  go_wp2_with fail
  rw [w3.out]
  refine (must_no w.drew 70).mono ?_
  rintro e z ⟨he, rfl⟩
  unfold giveUp at he
  subst he
  go_wp2_with fail
  exact ⟨rfl, rfl, (Chg.refl _ _).drew, HR.out.drew⟩
end Go.Proofs.Ytjkenhkoakaaoaa
