/- Contracts of the laws' back at bytes; of longest, and of sameTexts at lists of unlike lengths. (Printed by tools/backgen.py.) -/
import Derived.Test.YtjkenhkoakaaoaaBackC
namespace Go.Proofs.Ytjkenhkoakaaoaa
open Go.RowKit
set_option linter.unusedVariables false
set_option linter.unusedSimpArgs false
set_option maxRecDepth 20000
set_option maxHeartbeats 1000000 in
theorem back_7 (w : World) (gr n c at_ : Nat) (fl : Int) (A : Option Addr) (bs : List Nat) (kind U S : Int) (AB AT : Option Addr) (nB cB nT cT : Nat) (hk : I64 kind) (hU0 : 0 ≤ U) (hU1 : U ≤ 18446744073709551615) (hS0 : -9223372036854775808 ≤ S) (hS1 : S ≤ 9223372036854775807) (hj : kind % 9 = 7) (R : Rr w gr A n c at_ fl bs) (lB : List Nat) (B : Nat) (hrB : Rd w B AB nB (cb lB)) (hBg : B ≤ gr) (hnB : nB ≤ 4194304) :
    Calls Try.prog 61 #[.pointer (some ⟨gr, 0, none⟩), .agg #[.int .i64 kind, .int .u64 U, .int .i64 S, .slice AB nB cB, .slice AT nT cT]] w (Backs w gr n c A bs (redo (blkF bs at_ (nB : Int)) [] at_ fl) lB) := by
  obtain ⟨W1, hW⟩ : ∃ W1, w.alloc (.cells #[.int .i64 kind, .int .u64 U, .int .i64 S, .slice AB nB cB, .slice AT nT cT] 98) = W1 := ⟨_, rfl⟩
  have HW := Hd.mk hW
  have H1 : Hd (Chg [gr] w W1 ∧ Rr W1 gr A n c at_ fl bs ∧ gr < w.heap.size ∧ w.heap.size < W1.heap.size) := by
    rw [← hW]
    exact ⟨(Chg.refl _ _).alloc _, R.keep' ((Chg.refl [] w).alloc _) (by simp), R.lt, by simp⟩
  have HC : Hd (W1.cell? ⟨w.heap.size, 1, none⟩ = some (.int .u64 U) ∧ W1.cell? ⟨w.heap.size, 2, none⟩ = some (.int .i64 S) ∧ W1.cell? ⟨w.heap.size, 3, none⟩ = some (.slice AB nB cB) ∧ W1.cell? ⟨w.heap.size, 4, none⟩ = some (.slice AT nT cT)) := by
    rw [← hW]; exact ⟨⟨by simp, by simp, by simp, by simp⟩⟩
  have HB : Hd (Rd W1 B AB nB (cb lB) ∧ B ≤ gr ∧ B ≤ W1.heap.size) := ⟨H1.out.1.rd hrB (by have := H1.out.2.2.1; omega) (by simpa using hBg), hBg, by have := H1.out.2.2; omega⟩
  clear hrB hBg
  clear hW R
  go_enter Try.func61, Try.ntmps61
  go_wp2_with fail
  refine (pick_any _ kind 9 hk (by omega) (by omega)).mono ?_
  rw [hj]
  rintro e z ⟨rfl, rfl⟩
  clear hj hk
  go_wp2_with fail
  rw [HW.out]
  obtain ⟨SB, hSB⟩ : ∃ SB, bstr lB = SB := ⟨_, rfl⟩
  have hcv : ∀ w', Rd w' B AB nB (cb lB) → (convert 45 9 (.slice AB nB cB)).run Try.prog w' = .ok (.string SB) w' := by
    intro w' h
    rw [cb_ints] at h
    rw [← hSB]
    exact run_conv_str _ _ 5 Try.underlying45 Try.underlying5 infoStr cB h
  have HCV := Hd.mk hcv
  have HSB := Hd.mk hSB
  have hcv0 := hcv W1.drew HB.out.1
  have hc := HC.out.2.2.1
  clear hcv hSB
  go_region_with (
     (go_at_call 48
      refine (blk_any _ gr n c at_ fl A bs (nB : Int) (by omega) H1.out.2.1.drew).mono ?_
      rintro e w1 ⟨v, rfl, hch, hk, hr⟩
      unfold KOwn at hk
      obtain ⟨A2, c3, rfl, _, _⟩ := own_form hk
      have hc2 : w1.cell? ⟨w.heap.size, 3, none⟩ = some (.slice AB nB cB) := (hch.cell (p := ⟨w.heap.size, 3, none⟩) H1.out.2.2.2 (by have := H1.out.2.2.1; simp; omega)).trans hc
      have hcv2 := HCV.out w1 (hch.of_drew.rd HB.out.1 HB.out.2.2 (by simpa using HB.out.2.1))
      obtain ⟨SR, hSR⟩ : ∃ SR, bstr (redo (blkF bs at_ (nB : Int)) [] at_ fl).1 = SR := ⟨_, rfl⟩
      have hcv3 : (convert 45 9 (.slice A2 (redo (blkF bs at_ (nB : Int)) [] at_ fl).1.length c3)).run Try.prog w1 = .ok (.string SR) w1 := by
        have h := Rd.of_own hk
        rw [cb_ints] at h
        rw [← hSR]
        exact run_conv_str _ _ 5 Try.underlying45 Try.underlying5 infoStr c3 h
      have HSR := Hd.mk hSR
      have H2 : Hd (Chg [gr] w w1 ∧ Rr w1 gr A n c (redo (blkF bs at_ (nB : Int)) [] at_ fl).2.1 (redo (blkF bs at_ (nB : Int)) [] at_ fl).2.2 bs) := ⟨H1.out.1.trans hch.of_drew, hr⟩
      obtain ⟨L, hL⟩ : ∃ L, (redo (blkF bs at_ (nB : Int)) [] at_ fl).1.length = L := ⟨_, rfl⟩
      rw [hL] at hcv3 ⊢
      clear hch hr hk hSR hL))
  all_goals
    go_wp2_with fail
    go_ret
    refine ⟨_, rfl, H2.out.1, H2.out.2, fun h => ?_⟩
    have hx := HSR.out
    rw [h, HSB.out] at hx
    rw [hx]
    simp
end Go.Proofs.Ytjkenhkoakaaoaa
