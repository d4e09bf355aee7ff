/- The walk of CrcJoins. -/
import Derived.Test.YtofblciodgibdaaRefJoin
import Derived.Test.YtofblciodgibdaaZerosWalk
namespace Go.Proofs.Ytofblciodgibdaa
open Go.RowKit
set_option linter.unusedVariables false
theorem refJoin_int (w : World) (A B N V : Int) (a1 : 0 ≤ A) (a2 : A ≤ 4294967295) (b1 : 0 ≤ B) (b2 : B ≤ 4294967295) (n1 : -9223372036854775808 ≤ N) (n2 : N ≤ 9223372036854775807) (hV : ((Crc.itT (8 * N.toNat) A.toNat ^^^ B.toNat : Nat) : Int) = V) :
    Calls Try.prog 36 #[.int .u32 A, .int .u32 B, .int .i64 N] w fun e w' => e = .returned (.int .u32 V) ∧ Below w.heap.size w w' := by
  have := refJoin_any w A.toNat B.toNat N (by omega) (by omega) n1 n2
  rw [Int.toNat_of_nonneg a1, Int.toNat_of_nonneg b1, hV] at this
  exact this
theorem keepJ {w0 w1 w2 : World} {g B : Nat} {u v t : Value} (hb : Below w1.heap.size w1 w2)
    (h : w1.cell? ⟨g, 0, none⟩ = some u ∧ w1.cell? ⟨g, 1, none⟩ = some v ∧ w1.cell? ⟨g, 2, none⟩ = some t ∧ g < B ∧ B ≤ w1.heap.size ∧ Below w0.heap.size w0 w1) :
    w2.cell? ⟨g, 0, none⟩ = some u ∧ w2.cell? ⟨g, 1, none⟩ = some v ∧ w2.cell? ⟨g, 2, none⟩ = some t ∧ g < B ∧ B ≤ w2.heap.size ∧ Below w0.heap.size w0 w2 := by
  obtain ⟨h1, h2, h3, h4, h5, h7⟩ := h
  have := hb.size
  exact ⟨(hb.cell (p := ⟨g, 0, none⟩) (by show g < _; omega)).trans h1, (hb.cell (p := ⟨g, 1, none⟩) (by show g < _; omega)).trans h2, (hb.cell (p := ⟨g, 2, none⟩) (by show g < _; omega)).trans h3, h4, by omega, h7.trans (hb.mono h7.size)⟩
set_option maxRecDepth 100000 in
set_option maxHeartbeats 2000000 in
theorem joins_frame (A B N : Int) (w : World) (ha : (Lit.int .u32 A).wf = true) (hb : (Lit.int .u32 B).wf = true) (hN : (Lit.int .i64 N).wf = true) :
    Calls Try.prog 12 #[.agg #[.int .u32 A, .int .u32 B, .int .i64 N]] w fun e w' => e = .returned (.bool true) ∧ Below w.heap.size w w' := by
  obtain ⟨a1, a2⟩ : 0 ≤ A ∧ A ≤ 4294967295 := by simpa [Lit.wf, IntKind.min, IntKind.max, IntKind.signed, IntKind.bits] using ha
  obtain ⟨b1, b2⟩ : 0 ≤ B ∧ B ≤ 4294967295 := by simpa [Lit.wf, IntKind.min, IntKind.max, IntKind.signed, IntKind.bits] using hb
  obtain ⟨n1, n2⟩ : -9223372036854775808 ≤ N ∧ N ≤ 9223372036854775807 := by simpa [Lit.wf, IntKind.min, IntKind.max, IntKind.signed, IntKind.bits] using hN
  clear ha hb hN
  obtain ⟨V, hV⟩ : ∃ V : Int, ((Crc.itT (8 * N.toNat) A.toNat ^^^ B.toNat : Nat) : Int) = V := ⟨_, rfl⟩
  have HV := Hd.mk hV
  have hVV : (V == V) = true := by simp
  clear hV
  go_enter Try.func12, Try.ntmps12
  go_wp2_with fail
  have HW : Hd ((w.alloc (.cells #[.int .u32 A, .int .u32 B, .int .i64 N] 59)).cell? ⟨w.heap.size, 0, none⟩ = some (.int .u32 A) ∧ (w.alloc (.cells #[.int .u32 A, .int .u32 B, .int .i64 N] 59)).cell? ⟨w.heap.size, 1, none⟩ = some (.int .u32 B) ∧
      (w.alloc (.cells #[.int .u32 A, .int .u32 B, .int .i64 N] 59)).cell? ⟨w.heap.size, 2, none⟩ = some (.int .i64 N) ∧ w.heap.size < w.heap.size + 1 ∧ w.heap.size + 1 ≤ (w.alloc (.cells #[.int .u32 A, .int .u32 B, .int .i64 N] 59)).heap.size ∧ Below w.heap.size w (w.alloc (.cells #[.int .u32 A, .int .u32 B, .int .i64 N] 59))) :=
    ⟨by rw [cell_of_row _ _ 0 _ _ (0, 0) (heap_alloc_new w _)]; rfl, by rw [cell_of_row _ _ 1 _ _ (0, 0) (heap_alloc_new w _)]; rfl, by rw [cell_of_row _ _ 2 _ _ (0, 0) (heap_alloc_new w _)]; rfl, by omega, by simp, (Below.refl _ w).alloc (Nat.le_refl _) _⟩
  obtain ⟨WW, hWW⟩ : ∃ WW, w.alloc (.cells #[.int .u32 A, .int .u32 B, .int .i64 N] 59) = WW := ⟨_, rfl⟩
  rw [hWW] at HW ⊢
  clear hWW
  obtain ⟨BB, hBB⟩ : ∃ BB, w.heap.size + 1 = BB := ⟨_, rfl⟩
  rw [hBB] at HW
  clear hBB
  obtain ⟨G, hG⟩ : ∃ G, w.heap.size = G := ⟨_, rfl⟩
  have HG := Hd.mk hG
  rw [hG] at HW ⊢
  clear hG
  go_wp2_with fail
  go_region_held3 (fun w' => w'.cell? ⟨G, 0, none⟩ = some (.int .u32 A) ∧ w'.cell? ⟨G, 1, none⟩ = some (.int .u32 B) ∧ w'.cell? ⟨G, 2, none⟩ = some (.int .i64 N) ∧ G < BB ∧ BB ≤ w'.heap.size ∧ Below w.heap.size w w')
    (first | (exact keepJ hb (by assumption)) | (exact ⟨HW.out.1, HW.out.2.1, HW.out.2.2.1, HW.out.2.2.2.1, HW.out.2.2.2.2.1, by have := HW.out.2.2.2.2.2.drew; rw [HG.out]; exact this⟩))
    (first
      | (go_at_call 35; refine (join_int _ A B N V a1 a2 b1 b2 n1 n2 HV.out).mono ?_; rintro e w' ⟨rfl, hb⟩)
      | (go_at_call 36; refine (refJoin_int _ A B N V a1 a2 b1 b2 n1 n2 HV.out).mono ?_; rintro e w' ⟨rfl, hb⟩))
  obtain ⟨s1, s2, s3, s4, s5, s7⟩ : _ ∧ _ ∧ _ ∧ _ ∧ _ ∧ _ := by assumption
  go_wp2_with fail
  go_ret
  exact ⟨rfl, s7⟩
end Go.Proofs.Ytofblciodgibdaa
