/- CodecMemory: the walk in the frame's words. -/
import Derived.Test.YtjkenhkoakaaoaaMemoryWalk7
namespace Go.Proofs.Ytjkenhkoakaaoaa
open Go.RowKit
set_option linter.unusedVariables false
theorem pu_ok (Ab : Option Addr) (nb cb2 : Nat) (V S : Int) (Ap : Option Addr) (np cp2 : Nat) (At : Option Addr) (k ct2 : Nat) (bs ps : List Nat) (ts : List ByteArray) (w : World) (hb : Rd w w.heap.size Ab nb (cb bs)) (hp : Rd w w.heap.size Ap np (cb ps)) (ht : Rd w w.heap.size At k (cs ts)) (lb : ∀ x ∈ bs, x < 256) (lp : ∀ x ∈ ps, x < 256)
    (hV : (Lit.int .u64 V).wf = true) (hS : (Lit.int .i64 S).wf = true) (hnb : nb ≤ 1048576) (hnp : np ≤ 1048576) (hk : k ≤ 1048576) (hss : ssum ts ≤ 1048576) :
    Pu.Ok w ⟨Ab, nb, cb2, V.toNat, (zig S).toNat, S, Ap, np, cp2, At, k, ct2, bs, ps, ts⟩ ∧ ((V.toNat : Nat) : Int) = V := by
  have h1 : 0 ≤ V ∧ V ≤ 18446744073709551615 := by simpa [Lit.wf, IntKind.min, IntKind.max, IntKind.signed, IntKind.bits] using hV
  have h2 : -9223372036854775808 ≤ S ∧ S ≤ 9223372036854775807 := by simpa [Lit.wf, IntKind.min, IntKind.max, IntKind.signed, IntKind.bits] using hS
  have hz : 0 ≤ zig S ∧ zig S < 18446744073709551616 := by unfold zig; split <;> omega
  exact ⟨⟨hb, hp, ht, lb, lp, by show V.toNat < _; omega, by show (zig S).toNat < _; omega, h2.1, h2.2, by show zig S = (((zig S).toNat : Nat) : Int); omega, hnb, hnp, hk, hss⟩, Int.toNat_of_nonneg h1.1⟩
set_option maxRecDepth 20000 in
theorem memory7_frame (Ab : Option Addr) (nb cb2 : Nat) (V S : Int) (Ap : Option Addr) (np cp2 : Nat) (At : Option Addr) (k ct2 : Nat) (bs ps : List Nat) (ts : List ByteArray)
    (Bb : Option Addr) (mb db2 : Nat) (V' S' : Int) (Bp : Option Addr) (mp dp2 : Nat) (Bt : Option Addr) (k' dt2 : Nat) (bs' ps' : List Nat) (ts' : List ByteArray) (w : World)
    (hb : Rd w w.heap.size Ab nb (cb bs)) (hp : Rd w w.heap.size Ap np (cb ps)) (ht : Rd w w.heap.size At k (cs ts)) (lb : ∀ x ∈ bs, x < 256) (lp : ∀ x ∈ ps, x < 256)
    (hV : (Lit.int .u64 V).wf = true) (hS : (Lit.int .i64 S).wf = true) (hnb : nb ≤ 1048576) (hnp : np ≤ 1048576) (hk : k ≤ 1048576) (hss : ssum ts ≤ 1048576)
    (hb' : Rd w w.heap.size Bb mb (cb bs')) (hp' : Rd w w.heap.size Bp mp (cb ps')) (ht' : Rd w w.heap.size Bt k' (cs ts')) (lb' : ∀ x ∈ bs', x < 256) (lp' : ∀ x ∈ ps', x < 256)
    (hV' : (Lit.int .u64 V').wf = true) (hS' : (Lit.int .i64 S').wf = true) (hnb' : mb ≤ 1048576) (hnp' : mp ≤ 1048576) (hk' : k' ≤ 1048576) (hss' : ssum ts' ≤ 1048576) :
    Calls Try.prog 9 #[.agg #[.slice Ab nb cb2, .int .u64 V, .int .i64 S, .slice Ap np cp2, .slice At k ct2], .agg #[.slice Bb mb db2, .int .u64 V', .int .i64 S', .slice Bp mp dp2, .slice Bt k' dt2]] w fun e w' => e = .returned (.bool true) ∧ Below w.heap.size w w' := by
  have h1 := pu_ok Ab nb cb2 V S Ap np cp2 At k ct2 bs ps ts w hb hp ht lb lp hV hS hnb hnp hk hss
  have h2 := pu_ok Bb mb db2 V' S' Bp mp dp2 Bt k' dt2 bs' ps' ts' w hb' hp' ht' lb' lp' hV' hS' hnb' hnp' hk' hss'
  have h : Calls Try.prog 9 #[.agg #[.slice Ab nb cb2, .int .u64 ((V.toNat : Nat) : Int), .int .i64 S, .slice Ap np cp2, .slice At k ct2], .agg #[.slice Bb mb db2, .int .u64 ((V'.toNat : Nat) : Int), .int .i64 S', .slice Bp mp dp2, .slice Bt k' dt2]] w fun e w' => e = .returned (.bool true) ∧ Below w.heap.size w w' := memory7_walk w ⟨Ab, nb, cb2, V.toNat, (zig S).toNat, S, Ap, np, cp2, At, k, ct2, bs, ps, ts⟩ ⟨Bb, mb, db2, V'.toNat, (zig S').toNat, S', Bp, mp, dp2, Bt, k', dt2, bs', ps', ts'⟩ h1.1 h2.1
  rw [h1.2, h2.2] at h
  exact h
end Go.Proofs.Ytjkenhkoakaaoaa
