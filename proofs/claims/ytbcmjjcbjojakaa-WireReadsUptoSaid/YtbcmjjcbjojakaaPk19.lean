/- The walk of WireReads, with the laws that it stands on. -/
import Derived.Test.YtbcmjjcbjojakaaTurnsW
import Derived.Test.YtbcmjjcbjojakaaThruW
import Derived.Test.YtbcmjjcbjojakaaThruV
namespace Go.Proofs.Ytbcmjjcbjojakaa
open Go.RowKit
set_option linter.unusedVariables false
theorem pairLaw_ask : PairLaw askK := ⟨fun w base vs v0 v1 hd f0 h0 st a b c d e => thru_ask w base vs v0 v1 hd f0 h0 st a b c d e, msgLaw_ask, law12_ask⟩
theorem pairLaw_tel : PairLaw telK := ⟨fun w base vs v0 v1 hd f0 h0 st a b c d e => thru_tel w base vs v0 v1 hd f0 h0 st a b c d e, msgLaw_tel, law12_tel⟩
theorem turns_any (w : World) (A : Option Addr) (n c : Nat) (ts : List Tu) (hl : Lst TuA w w.heap.size 3 A n ts) (hn : n ≤ 140737488351232) (hsum : (ts.map fun t => t.bs.length).sum ≤ 67108864) :
  Calls Try.prog 7 #[.slice A n c] w fun e w' => e = .returned (.bool true) ∧ Below w.heap.size w w' := turns_walk pairLaw_ask pairLaw_tel w A n c ts hl hn hsum
end Go.Proofs.Ytbcmjjcbjojakaa
