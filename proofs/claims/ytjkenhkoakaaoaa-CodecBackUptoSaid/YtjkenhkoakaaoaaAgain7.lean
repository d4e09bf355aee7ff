/- Contract of the laws' again at the kind Bytes. -/
import Derived.Test.YtjkenhkoakaaoaaAgainC
import Derived.Deep.RegionLaw
namespace Go.Proofs.Ytjkenhkoakaaoaa
open Go.RowKit
set_option linter.unusedVariables false
set_option maxRecDepth 20000
theorem Onto.of_drew {w w1 : World} {base e n : Nat} {s v1 : Value} {xs : List Value} (h : Onto w.drew w1 base e s v1 n xs) : Onto w w1 base e s v1 n xs :=
  ⟨h.1, ⟨h.2.1.os, h.2.1.tape, h.2.1.output, h.2.1.size, h.2.1.block⟩, h.2.2⟩
set_option maxHeartbeats 1000000 in
theorem again_7 (w : World) (A AB AT : Option Addr) (n c nB cB nT cT B : Nat) (who kind N E X : Int) (all lB : List Nat) (lT : List ByteArray) (hr : Rd w B A n (cb all)) (hrB : Rd w B AB nB (cb lB)) (hB : B ≤ w.heap.size) (hn : n + nB ≤ 70368744177000) (hk : I64 kind) (hj : kind % 10 = 7) :
    Calls Try.prog 62 #[.slice A n c, .agg #[.int .i64 who, .int .i64 kind, .int .i64 N, .int .i64 E], .agg #[.int .u64 X, .slice AB nB cB, .slice AT nT cT]] w (PutsOut w n all lB) := by
  obtain ⟨W1, hW⟩ : ∃ W1, ((w.alloc (.cells #[.int .i64 who, .int .i64 kind, .int .i64 N, .int .i64 E] 70)).alloc (.cells #[.int .u64 X, .slice AB nB cB, .slice AT nT cT] 72)) = W1 := ⟨_, rfl⟩
  have HW := Hd.mk hW
  have H1 : Hd (Rd W1 W1.heap.size A n (cb all) ∧ Rd W1 W1.heap.size AB nB (cb lB) ∧ Below w.heap.size w W1 ∧ n + nB ≤ 70368744177000 ∧ lB.length = nB) := by
    rw [← hW]
    have hb : Below w.heap.size w ((w.alloc (.cells #[.int .i64 who, .int .i64 kind, .int .i64 N, .int .i64 E] 70)).alloc (.cells #[.int .u64 X, .slice AB nB cB, .slice AT nT cT] 72)) := (((Below.refl _ w).alloc (Nat.le_refl _) _).alloc (by simp) _)
    exact ⟨(hr.below (hb.mono hB)).more (Nat.le_trans hB hb.size), (hrB.below (hb.mono hB)).more (Nat.le_trans hB hb.size), hb, hn, by have := hrB.1; rwa [cb_length] at this⟩
  have hcell : W1.cell? ⟨w.heap.size + 1, 1, none⟩ = some (.slice AB nB cB) := by rw [← hW]; simp
  have hsz : w.heap.size + 1 < W1.heap.size := by rw [← hW]; simp
  have HC := Hd.mk hcell
  have HS := Hd.mk hsz
  clear hr hrB hB hn hW hcell hsz
  go_enter Try.func62, Try.ntmps62
  go_wp2_with fail
  refine (pick_any _ kind 10 hk (by omega) (by omega)).mono ?_
  rw [hj]
  rintro e z ⟨rfl, rfl⟩
  clear hj hk
  go_wp2_with fail
  rw [HW.out]
  have hcell := HC.out
  have h63 : Hd (0 + n ≤ maxLen ∧ n + nB ≤ maxLen) := ⟨by have := H1.out.2.2.2.1; unfold maxLen; omega, by have := H1.out.2.2.2.1; unfold maxLen; omega⟩
  have hby : Hd ((0 + n) * 1 ≤ 140737488355328 ∧ (n + nB) * 1 ≤ 140737488355328) := ⟨by have := H1.out.2.2.2.1; omega, by have := H1.out.2.2.2.1; omega⟩
  have HK : Hd (∀ w1 v1, Onto W1.drew w1 W1.heap.size 5 (.slice none 0 0) v1 n (cb all) → w1.cell? ⟨w.heap.size + 1, 1, none⟩ = some (.slice AB nB cB)) :=
    ⟨fun w1 v1 h => ((h.of_drew.below (B := W1.heap.size) (fun k h => by cases h) (Nat.le_refl _)).cell (p := ⟨w.heap.size + 1, 1, none⟩) HS.out).trans HC.out⟩
  have hOwn0 : Hd (W1.drew.ownsRow W1.heap.size 5 1 (.slice none 0 0) 0 []) := ⟨World.ownsRow_nil ..⟩
  go_region_held3 (fun w' => w'.cell? ⟨w.heap.size + 1, 1, none⟩ = some (.slice AB nB cB))
    (first | (exact hc2) | (exact hcell1) | go_keep)
    (first
    | (refine step_app elB (by rfl) (.const (.slice none 0 0)) (.tmp 59) (by rfl) W1.heap.size (.slice none 0 0) 0 [] (by rfl) hOwn0.out W1.heap.size A n c (cb all) (by rfl) H1.out.1 (cb_one all) h63.out.1 hby.out.1 (Nat.le_refl _) ?_
       intro v1 w1 hO1'
       have hO1 : Onto W1.drew w1 W1.heap.size 5 (.slice none 0 0) v1 n (cb all) := by rw [Nat.zero_add, List.nil_append] at hO1'; exact hO1'
       have H2 : Hd (Onto W1 w1 W1.heap.size 5 (.slice none 0 0) v1 n (cb all) ∧ Rd w1 W1.heap.size AB nB (cb lB)) := ⟨hO1.of_drew, H1.out.2.1.below (hO1.of_drew.below (fun k h => by cases h) (Nat.le_refl _))⟩
       have hcell1 : w1.cell? ⟨w.heap.size + 1, 1, none⟩ = some (.slice AB nB cB) := HK.out _ _ hO1
       clear hO1')
    | (refine step_app elB (by rfl) (.tmp 60) (.tmp 62) (by rfl) W1.heap.size v1 n (cb all) (by rfl) H2.out.1.own W1.heap.size AB nB cB (cb lB) (by rfl) H2.out.2 (cb_one lB) h63.out.2 hby.out.2 H2.out.1.size ?_
       intro v2 w2 hO2
       have hc2 : w2.cell? ⟨w.heap.size + 1, 1, none⟩ = some (.slice AB nB cB) := ((hO2.below (B := W1.heap.size) (fun k h => (H2.out.1.own.lt k h).1) H2.out.1.size).cell (p := ⟨w.heap.size + 1, 1, none⟩) HS.out).trans hcell1))
  have H3 : Hd (Onto w w2 w.heap.size 5 (.slice none 0 0) v2 (n + lB.length) (cb (all ++ lB))) := ⟨by rw [cb_append, H1.out.2.2.2.2]; exact onto_fresh w H1.out.2.2.1 (H2.out.1.trans hO2)⟩
  clear hO2
  go_wp2_with fail
  go_ret
  exact ⟨v2, rfl, H3.out⟩
end Go.Proofs.Ytjkenhkoakaaoaa
