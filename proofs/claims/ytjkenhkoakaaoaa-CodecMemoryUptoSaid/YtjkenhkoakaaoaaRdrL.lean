/- Contracts of codec's Reader: Left, Fault, End, Open; and of a reader that is not there. -/
import Derived.Test.YtjkenhkoakaaoaaRdrG
namespace Go.Proofs.Ytjkenhkoakaaoaa
open Go.RowKit
set_option linter.unusedVariables false
set_option maxRecDepth 20000
theorem left_any (w : World) (gr n c at_ : Nat) (fl : Int) (A : Option Addr) (bs : List Nat) (R : Rr w gr A n c at_ fl bs) :
    Calls Try.prog 58 #[.pointer (some ⟨gr, 0, none⟩)] w fun e w' => e = .returned (.int .i64 ((n - at_ : Nat) : Int)) ∧ Chg [] w w' := by
  have g0 := R.c0
  have g1 := R.c1
  obtain ⟨l1, l2, l3⟩ := R.le
  obtain ⟨AT, hAT⟩ : ∃ AT : Int, (at_ : Int) = AT := ⟨_, rfl⟩
  obtain ⟨N, hN⟩ : ∃ N : Int, (n : Int) = N := ⟨_, rfl⟩
  have w1 : IntKind.i64.wrap (N - AT) = N - AT := by rw [IntKind.wrap_i64]; omega
  have e1 : ((n - at_ : Nat) : Int) = N - AT := by omega
  rw [hAT] at g1
  rw [e1]
  clear R l1 l2 l3 hAT e1
  go_enter Try.func58, Try.ntmps58
  go_wp2_with fail
  go_quiet (fail)
  go_wp2_with fail
  go_ret
  exact ⟨rfl, (Chg.refl _ _).drewN _⟩
theorem left_nil (w : World) : Calls Try.prog 58 #[.pointer none] w fun e w' => e = .returned (.int .i64 0) ∧ w = w' := by
  go_enter Try.func58, Try.ntmps58
  go_wp2_with fail
  go_ret
  exact ⟨rfl, rfl⟩
theorem fault_any (w : World) (gr n c at_ : Nat) (fl : Int) (A : Option Addr) (bs : List Nat) (R : Rr w gr A n c at_ fl bs) :
    Calls Try.prog 59 #[.pointer (some ⟨gr, 0, none⟩)] w fun e w' => e = .returned (.int .i64 fl) ∧ w = w' := by
  have g2 := R.c2
  clear R
  go_enter Try.func59, Try.ntmps59
  go_wp2_with fail
  go_ret
  exact ⟨rfl, rfl⟩
theorem fault_nil (w : World) : Calls Try.prog 59 #[.pointer none] w fun e w' => e = .returned (.int .i64 1) ∧ w = w' := by
  go_enter Try.func59, Try.ntmps59
  go_wp2_with fail
  go_ret
  exact ⟨rfl, rfl⟩
/-- What End answers. -/
def endF (n at_ : Nat) (fl : Int) : Int := if fl ≠ 0 then fl else if n - at_ = 0 then 0 else 72
theorem end_any (w : World) (gr n c at_ : Nat) (fl : Int) (A : Option Addr) (bs : List Nat) (R : Rr w gr A n c at_ fl bs) :
    Calls Try.prog 53 #[.pointer (some ⟨gr, 0, none⟩)] w fun e w' => e = .returned (.int .i64 (endF n at_ fl)) ∧ Chg [] w w' := by
  have HR := Hd.mk R
  clear R
  go_enter Try.func53, Try.ntmps53
  go_wp2_with fail
  refine (fault_any w gr n c at_ fl A bs HR.out).mono ?_
  rintro e z ⟨rfl, rfl⟩
  by_cases h0 : fl = 0
  · subst h0
    go_wp2_with fail
    refine (left_any w gr n c at_ 0 A bs HR.out).mono ?_
    rintro e w1 ⟨rfl, hch⟩
    have H1 := Hd.mk hch
    clear hch
    by_cases hz : n - at_ = 0
    · rw [hz]
      go_wp2_with fail
      go_ret
      exact ⟨by unfold endF; rw [if_neg (by simp), if_pos hz]; rfl, H1.out⟩
    · have hz' : (((n - at_ : Nat) : Int) == 0) = false := by simp; omega
      have HZ := Hd.mk hz
      clear hz
      go_wp2_with fail
      go_ret
      exact ⟨by unfold endF; rw [if_neg (by simp), if_neg HZ.out]; rfl, H1.out⟩
  · have h0' : (fl != 0) = true := by simp [h0]
    have HZ := Hd.mk h0
    clear h0
    go_wp2_with fail
    go_ret
    exact ⟨by unfold endF; rw [if_pos HZ.out]; rfl, Chg.refl _ _⟩
theorem end_nil (w : World) : Calls Try.prog 53 #[.pointer none] w fun e w' => e = .returned (.int .i64 1) ∧ w = w' := by
  go_enter Try.func53, Try.ntmps53
  go_wp2_with fail
  refine (fault_nil w).mono ?_
  rintro e z ⟨rfl, rfl⟩
  go_wp2_with fail
  go_ret
  exact ⟨rfl, rfl⟩
theorem open_any (w : World) (A : Option Addr) (n c B : Nat) (bs : List Nat) (hr : Rd w B A n (cb bs)) (hB : B ≤ w.heap.size) (hn : n ≤ 4398046511104) (hb : ∀ x ∈ bs, x < 256) :
    Calls Try.prog 37 #[.slice A n c] w fun e w' => ∃ gr A' c', e = .returned (.pointer (some ⟨gr, 0, none⟩)) ∧ Chg [] w w' ∧ Rr w' gr A' n c' 0 0 bs ∧ w.heap.size ≤ gr ∧ (∀ g off, A' = some ⟨g, off, none⟩ → 0 < n → w.heap.size ≤ g) := by
  have HR : Hd (Rd w B A n (cb bs) ∧ B ≤ w.heap.size ∧ n ≤ 4398046511104 ∧ ∀ x ∈ bs, x < 256) := ⟨hr, hB, hn, hb⟩
  clear hr hB hn hb
  go_enter Try.func37, Try.ntmps37
  go_wp2_with fail
  refine (clone_any w A n c B bs HR.out.1 (by have := HR.out.2.2.1; omega) HR.out.2.1).mono ?_
  rintro e w1 ⟨v1, rfl, hO⟩
  obtain ⟨A1, c1, rfl, hc1, hm1⟩ := own_form hO.own
  have H1 : Hd (Onto w w1 w.heap.size 5 (.slice none 0 0) (.slice A1 n c1) n (cb bs) ∧ n ≤ c1) := ⟨hO, hc1⟩
  clear hO hc1 hm1
  go_wp2_with fail
  go_ret
  have hbl := H1.out.1.below (B := w.heap.size) (fun k h => by cases h) (Nat.le_refl _)
  refine ⟨w1.heap.size, A1, c1, rfl, (Chg.of_below hbl).alloc _, ?_, hbl.size, ?_⟩
  · refine ⟨by simp, by simp, by simp, by simp, by simp, ?_, ⟨Nat.zero_le _, H1.out.2, HR.out.2.2.1⟩, by simp, HR.out.2.2.2⟩
    exact (Rd.of_own H1.out.1.own).alloc (Nat.le_refl _) _
  · intro g off he hn
    subst he
    obtain ⟨g', cap, hv, hg1, _⟩ := own_pos H1.out.1.own hn
    injection hv with hv
    injection hv with hv
    injection hv with hv
    omega
end Go.Proofs.Ytjkenhkoakaaoaa
