/- Contract of the law's shown. -/
import Derived.Test.YtplpaipmkpjgfaaGroupsWalk
import Derived.Test.YtplpaipmkpjgfaaShowsA
namespace Go.Proofs.Ytplpaipmkpjgfaa
open Go.RowKit
set_option linter.unusedVariables false
set_option linter.unusedSimpArgs false
set_option maxRecDepth 20000 in
set_option maxHeartbeats 8000000 in
theorem shownL_any (w : World) (ct sz : Int) :
    Calls Try.prog 43 #[.int .i64 ct, .int .i64 sz] w fun e w' => e = .returned (.agg (shW (1, ct, sz)).cells.toArray) ∧ Below w.heap.size w w' := by
  go_enter Try.func43, Try.ntmps43
  go_wp2_with fail
  refine (shown_any _ 1 ct sz).mono ?_
  rintro e w1 ⟨rfl, hb1⟩
  have hb : Below w.heap.size w w1 := ((Below.refl _ _).alloc (Nat.le_refl _) _).trans (hb1.mono (by simp))
  have hz : w1.heap[w.heap.size]? = _ := (hb1.block _ (by simp)).trans (heap_alloc_new _ _)
  have HB := Hd.mk (And.intro hb hz)
  clear hb1 hb hz
  go_wp2_with (refine at_store ?_; refine wpList_stored rfl 58 (.tmp 4) (.tmp 8) rfl w.heap.size (shW (1, ct, sz)).cells.toArray rfl rfl _ _ HB.out.2 infoS rfl (by simp [shW, Sn.cells, Hdr.cells, Value.oneCell']) ?_; intro w6 HW6)
  (try simp only [Exit.inBlock, Exit.then])
  refine bodyPost_ret (results_cell1 rfl _ _ w.heap.size 58 (shW (1, ct, sz)).cells.toArray (0, 0) _ rfl HW6.out.1 Try.underlying58 rfl infoS) rfl ?_
  exact ⟨rfl, HB.out.1.grown HW6.out.2.1 HB.out.1.size fun g e => by injection e with e; omega⟩
end Go.Proofs.Ytplpaipmkpjgfaa
