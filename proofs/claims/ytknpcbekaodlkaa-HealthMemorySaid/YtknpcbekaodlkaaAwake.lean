/- Contracts of the laws' sameInts (of equal numbers) and awake. -/
import Derived.Test.YtknpcbekaodlkaaAwakeP
import Derived.Test.YtknpcbekaodlkaaLentNums
namespace Go.Proofs.Ytknpcbekaodlkaa
open Go.RowKit
set_option linter.unusedVariables false
set_option maxRecDepth 20000 in
set_option maxHeartbeats 1000000 in
theorem sameInts_any (w : World) (B n c1 c2 : Nat) (A1 A2 : Option Addr) (l : List Nat) (h1 : Rd w B A1 n (iv l)) (h2 : Rd w B A2 n (iv l)) (hB : B ≤ w.heap.size) (hn : n ≤ 140737488355328) :
    Calls Try.prog 29 #[.slice A1 n c1, .slice A2 n c2] w fun e w' => e = .returned (.bool true) ∧ Below w.heap.size w w' := by
  have hl : l.length = n := by have := h1.1; rwa [iv_len] at this
  have HH := Hd.mk (And.intro h1 (And.intro h2 (And.intro hB hl)))
  clear h1 h2 hB hl
  go_enter Try.func29, Try.ntmps29
  go_wp2_with fail
  go_loopw [5] (fun i wr => ∃ k : Nat, k ≤ n ∧ i = .int .i64 (k : Int) ∧ Below w.heap.size w wr) (fun i _ => n - (intOf i).toNat)
  case atStart => exact ⟨0, by omega, rfl, Below.refl _ _⟩
  case round =>
    obtain ⟨k, hk, rfl, hb⟩ := hrel
    have HB := Hd.mk hb
    clear hb
    by_cases hlt : k < n
    · have hki : (k : Int) < (n : Int) := by omega
      obtain ⟨g, off, u, hA, _, hx, hc⟩ := (HH.out.1.below (HB.out.mono HH.out.2.2.1)).at_ hlt
      obtain ⟨g2, off2, u2, hA2, _, hx2, hc2⟩ := (HH.out.2.1.below (HB.out.mono HH.out.2.2.1)).at_ hlt
      rw [iv_get _ _ (by rw [HH.out.2.2.2]; exact hlt)] at hx hx2
      injection hx with hx
      injection hx2 with hx2
      subst hx hx2 hA hA2
      generalize ((l.getD k 0 : Nat) : Int) = x at hc hc2
      have hq : (x != x) = false := by simp
      go_wp2_with fail
      go_quiet (fail)
      go_wp2_with fail
      go_roundw
      case rel => exact ⟨k + 1, by omega, by go_num, below_drewN HB.out _⟩
      case measure => simp [intOf]; omega
    · have hkn : k = n := by omega
      subst hkn
      go_wp2_with fail
      go_ret
      exact ⟨rfl, HB.out⟩
theorem chance_half (w : World) (A : Option Addr) (c B : Nat) (hr : Rd w B A 2 (fv [4602678819172646912, 4602678819172646912])) (hB : B ≤ w.heap.size) :
    Calls Try.prog 18 #[.slice A 2 c, .int .i64 0] w fun e w' => e = .returned (.tuple #[.float .f64 4604930618986332160, .int .i64 0]) ∧ Below w.heap.size w w' := by
  have h := chance_any w A 2 c B [4602678819172646912, 4602678819172646912] 0 hr hB (by decide) (by decide) (by decide) (by decide)
  rw [awake_chance] at h
  exact h
theorem turn_four (w : World) (A : Option Addr) (c B : Nat) (hr : Rd w B A 4 (fv [4607182418800017408, 4611686018427387904, 4613937818241073152, 4616189618054758400])) (hB : B ≤ w.heap.size) :
    Calls Try.prog 21 #[.slice A 4 c, .int .i64 1] w fun e w' => e = .returned (.tuple #[.complex .f64 13835058055282163712 13835058055282163712, .int .i64 0]) ∧ Below w.heap.size w w' := by
  have h := turn_any w A 4 c B [4607182418800017408, 4611686018427387904, 4613937818241073152, 4616189618054758400] 1 hr hB (by decide) (by decide) (by decide) (by decide)
  rw [awake_turn] at h
  exact h
theorem law_start {K : Nat} (h0 : 0 < K) (h1 : K < one32) (n : Nat) : Law K (List.replicate n one32) := ⟨h0, h1, fun s hs => by rw [List.eq_of_mem_replicate hs]; exact Nat.le_refl _⟩
theorem ord_self (x : Nat) (h : x < inf64) : (FloatKind.f64.format.order x x == some .eq) = true := by
  have := order_pos h h
  rw [show FloatKind.f64.format.order x x = some .eq by refine this.trans ?_; rw [if_neg (Nat.lt_irrefl _), if_pos rfl]]; rfl
theorem ord_m2 : (FloatKind.f64.format.order 13835058055282163712 13835058055282163712 == some .eq) = true := by kernel_rfl
set_option maxRecDepth 20000 in
set_option maxHeartbeats 1000000 in
theorem awake_any (w : World) : Calls Try.prog 22 #[] w fun e w' => e = .returned (.bool true) ∧ Below w.heap.size w w' := by
  have q1 := ord_self 4602678819172646912 (by decide)
  have q2 := ord_self 4604930618986332160 (by decide)
  have q3 := ord_m2
  have HN : Hd (∀ w, Calls Try.prog 37 #[.int .i64 3, .float .f64 4602678819172646912] w fun e w' => ∃ b h cap, e = .returned (.tuple #[.pointer (some ⟨b, 0, none⟩), .int .i64 0]) ∧
      Brd w' w.heap.size b h cap 1056964608 (List.replicate 3 one32) ∧ Below w.heap.size w w') := ⟨fun w => by
    have h := new_any w 3 1056964608 (by decide) (by decide) (by decide) (by decide)
    rw [up_half] at h
    exact h⟩
  have L1 := Hd.mk (law_start (K := 1056964608) (by decide) (by decide) 3)
  have L2 : Hd (Law 1056964608 [one32, 1056964608, one32]) := ⟨⟨by decide, by decide, by decide⟩⟩
  go_enter Try.func22, Try.ntmps22
  go_wp2_with fail
  refine (HN.out w).mono ?_
  rintro e w1 ⟨b, h, cap, rfl, hB, hb⟩
  have H1 := Hd.mk (And.intro hB hb)
  clear hB hb
  go_wp2_with fail
  refine (tell_in w1 w.heap.size b h cap 1056964608 (List.replicate 3 one32) H1.out.1 L1.out 1 (by simp) false).mono ?_
  rintro e w2 ⟨rfl, hB, hg⟩
  have HB2 : Hd (Brd w2 w.heap.size b h cap 1056964608 [one32, 1056964608, one32] ∧ Below w.heap.size w w2) := ⟨by
    have : (List.replicate 3 one32).set 1 (tellT 1056964608 ((List.replicate 3 one32).getD 1 0) false) = [one32, 1056964608, one32] := by
      show [one32, tellT 1056964608 one32 false, one32] = _
      rw [awake_tell]
    rw [this] at hB
    exact hB, H1.out.2.grown hg H1.out.2.size (fun k hk => by cases hk; exact H1.out.1.lt.2.2)⟩
  clear hB hg
  go_wp2_with fail
  refine (score_in w2 w.heap.size b h cap 1056964608 [one32, 1056964608, one32] HB2.out.1 L2.out 1 (by simp)).mono ?_
  rintro e w3 ⟨rfl, rfl⟩
  rw [show [one32, 1056964608, one32].getD 1 0 = 1056964608 from rfl, up_half]
  go_wp2_with fail
  refine (chance_half _ (some ⟨w2.heap.size, 0, none⟩) 2 (w2.heap.size + 1) (rd_lit (fv [4602678819172646912, 4602678819172646912])) (by simp)).mono ?_
  rintro e w4 ⟨rfl, hb4⟩
  have H4 : Hd (Below w2.heap.size w2 w4) := ⟨((Below.refl _ _).alloc (Nat.le_refl _) _).trans (hb4.mono (by simp))⟩
  clear hb4
  go_wp2_with fail
  refine (turn_four _ (some ⟨w4.heap.size, 0, none⟩) 4 (w4.heap.size + 1) (rd_lit (fv [4607182418800017408, 4611686018427387904, 4613937818241073152, 4616189618054758400])) (by simp)).mono ?_
  rintro e w5 ⟨rfl, hb5⟩
  have H5 : Hd (Below w2.heap.size w2 w5) := ⟨H4.out.trans ((((Below.refl _ _).alloc (Nat.le_refl _) _).trans (hb5.mono (by simp))).mono H4.out.size)⟩
  clear hb5
  go_wp2_with fail
  refine (order_any w5 w.heap.size b h cap 1056964608 [one32, 1056964608, one32] (HB2.out.1.keep H5.out) L2.out.sc (by simp) (by simp)).mono ?_
  rintro e w6 ⟨g, rfl, ho, hb6, hg6⟩
  rw [awake_order] at ho
  have H6 := Hd.mk (And.intro ho hb6)
  clear ho hb6 hg6
  go_wp2_with fail
  refine (sameInts_any _ (w6.heap.size + 1) 3 3 3 (some ⟨g, 0, none⟩) (some ⟨w6.heap.size, 0, none⟩) [0, 2, 1] (((Rd.of_own H6.out.1).alloc (Nat.le_refl _) _).more (by omega)) (rd_lit (iv [0, 2, 1])) (by simp) (by decide)).mono ?_
  rintro e w7 ⟨rfl, hb7⟩
  have H7 : Hd (Below w.heap.size w w7) := ⟨HB2.out.2.trans ((H5.out.trans ((H6.out.2.trans ((((Below.refl _ _).alloc (Nat.le_refl _) _).trans (hb7.mono (by simp))).mono H6.out.2.size)).mono H5.out.size)).mono HB2.out.2.size)⟩
  clear hb7
  go_wp2_with fail
  go_ret
  exact ⟨rfl, H7.out⟩
end Go.Proofs.Ytknpcbekaodlkaa
