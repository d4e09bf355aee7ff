/- Contracts of cairnref06.terms; the laws that the walk of gone uses. -/
import Derived.Test.YtofblciodgibdaaBits
import Derived.Test.YtofblciodgibdaaGone
namespace Go.Proofs.Ytofblciodgibdaa
open Go.RowKit
set_option linter.unusedVariables false
theorem own_lit {w : World} {e : TypeId} (cs : List Value) (hm : cs.length ≤ maxLen) :
    Onto w (w.alloc (.cells cs.toArray e)) w.heap.size e (.slice none 0 0) (.slice (some ⟨w.heap.size, 0, none⟩) cs.length cs.length) cs.length cs :=
  ⟨⟨by simp, .inr ⟨w.heap.size, cs.length, cs.toArray, rfl, Nat.le_refl _, heap_alloc_new w _, Nat.le_refl _, hm, by simp, by simp⟩⟩, World.grownBy_alloc w _ _, fun k hk => by simp [Value.ownBlock] at hk; exact .inr (by omega)⟩
theorem terms_any (w : World) :
    Calls Try.prog 46 #[] w fun e w' => ∃ v', e = .returned v' ∧ Onto w w' w.heap.size 3 (.slice none 0 0) v' 18 (ci Crc.trm) := by
  go_enter Try.func46, Try.ntmps46
  go_wp2
  go_ret
  exact ⟨_, rfl, own_lit (ci Crc.trm) (by unfold maxLen; decide)⟩
theorem xor01 : ∀ a, a < 2 → ∀ b, b < 2 → bits .xor .i64 ((a : Nat) : Int) ((b : Nat) : Int) = ((a ^^^ b : Nat) : Int) := by decide
end Go.Proofs.Ytofblciodgibdaa
