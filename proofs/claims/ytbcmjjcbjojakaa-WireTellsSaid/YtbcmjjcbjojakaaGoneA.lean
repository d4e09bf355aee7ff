
/- Contracts of cairnref06.terms; the laws that the walk of gone uses. -/
import Derived.Test.YtbcmjjcbjojakaaBits
import Derived.Test.YtbcmjjcbjojakaaMem2
import Derived.Test.YtbcmjjcbjojakaaGone
namespace Go.Proofs.Ytbcmjjcbjojakaa
open Go.RowKit
set_option linter.unusedVariables false
theorem terms_any (w : World) :
    Calls Try.prog 117 #[] w fun e w' => ∃ v', e = .returned v' ∧ Onto w w' w.heap.size 3 (.slice none 0 0) v' 18 (ci Crc.trm) := by
  go_enter Try.func117, Try.ntmps117
  go_wp2
  go_ret
  exact ⟨_, rfl, onto_lit (ci Crc.trm) (by unfold maxLen; decide)⟩
theorem xor01 : ∀ a, a < 2 → ∀ b, b < 2 → bits .xor .i64 ((a : Nat) : Int) ((b : Nat) : Int) = ((a ^^^ b : Nat) : Int) := by decide
end Go.Proofs.Ytbcmjjcbjojakaa
