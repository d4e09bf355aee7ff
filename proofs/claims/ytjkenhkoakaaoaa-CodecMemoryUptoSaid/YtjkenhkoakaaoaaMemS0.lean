/- Rows of one's own: the blocks beside them are written, new ones come. Plain. -/
import Derived.Test.YtjkenhkoakaaoaaBag
import Derived.Test.YtjkenhkoakaaoaaChg
namespace Go.Proofs.Ytjkenhkoakaaoaa
open Go.RowKit
set_option linter.unusedVariables false
section
variable {W W' : World} {base : Nat} {RL NR : List (Nat × Value × List Value)} {X X' Y : List Nat}
theorem Bag.turn0 (H : Bag W base RL X) (c : Chg Y W W') (hY : ∀ y ∈ Y, y ∈ X) (hX : ∀ x ∈ X', x < W'.heap.size ∧ (x ∈ X ∨ W.heap.size ≤ x)) : Bag W' base RL X' where
  own := fun x hx => c.own (H.own x hx) fun k hk hm => H.off x hx k (hY k hm) hk
  apart := H.apart
  off := fun x hx k hk he => by
    rcases (hX k hk).2 with h | h
    · exact H.off x hx k h he
    · have := ((H.own x hx).lt k he).2; omega
  ltX := fun k hk => (hX k hk).1
theorem List.take_succ_of_get {α : Type} {l : List α} {i : Nat} {a : α} (h : l[i]? = some a) : l.take (i + 1) = l.take i ++ [a] := by rw [List.take_add_one, h]; rfl
end
end Go.Proofs.Ytjkenhkoakaaoaa
