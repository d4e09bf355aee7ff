/- What the laws' awake asks: closed facts. -/
import Derived.Test.YtknpcbekaodlkaaBoardM
import Derived.Test.YtknpcbekaodlkaaHealthTurn
import Derived.Test.YtknpcbekaodlkaaHealthChance
namespace Go.Proofs.Ytknpcbekaodlkaa
open Ieee
set_option linter.unusedVariables false
theorem awake_chance : chanceP [4602678819172646912, 4602678819172646912] 0 = (4604930618986332160, 0) := by kernel_rfl
theorem awake_turn : turnP [4607182418800017408, 4611686018427387904, 4613937818241073152, 4616189618054758400] 1 = (13835058055282163712, 13835058055282163712, 0) := by kernel_rfl
theorem awake_tell : tellT 1056964608 one32 false = 1056964608 := by
  unfold tellT sumT
  rw [if_neg (by decide), up_one, fmul_one (Nat.le_of_lt (up_inf (by decide))), dn_up]
theorem order_unique {ss l : List Nat} (h1 : l.Perm (List.range ss.length)) (h2 : List.Pairwise (fun a b => leO ss a b = true) l) : orderP ss = l :=
  List.Perm.eq_of_pairwise (le := fun a b => leO ss a b = true) (fun a b _ _ h h' => by rw [leO_iff] at h h'; omega) (orderP_sorted ss) h2 ((orderP_perm ss).trans h1.symm)
theorem awake_order : orderP [one32, 1056964608, one32] = [0, 2, 1] := order_unique (by decide) (by decide)
end Go.Proofs.Ytknpcbekaodlkaa
