/- Plain laws for CrcZeros: the masks, the zeros' sums, the round. -/
import Derived.Test.YtofblciodgibdaaJoin
import Derived.Test.YtofblciodgibdaaRef
namespace Go.Proofs.Ytofblciodgibdaa
open Go.RowKit
set_option linter.unusedVariables false
theorem mask61 (N : Int) : bits .and .i64 N 2305843009213693951 = N % 2305843009213693952 := by
  have e : (BitVec.ofInt 64 N &&& BitVec.ofInt 64 2305843009213693951).toNat = (N % 2305843009213693952).toNat := by
    rw [BitVec.toNat_and, show (BitVec.ofInt 64 2305843009213693951).toNat = 2 ^ 61 - 1 from rfl, Nat.and_two_pow_sub_one_eq_mod, BitVec.toNat_ofInt]
    omega
  show IntKind.i64.wrap (((BitVec.ofInt 64 N &&& BitVec.ofInt 64 2305843009213693951 : BitVec 64).toNat : Nat) : Int) = _
  rw [e, IntKind.wrap_i64]; omega
namespace Crc
theorem ov_zeros : ∀ (n r : Nat), ov r (List.replicate n 0) = itT (8 * n) r
  | 0, r => rfl
  | n + 1, r => by rw [List.replicate_succ, ov_cons, ov_zeros n, Nat.xor_zero, ← itT_add]; congr 1; omega
theorem round (r k : Nat) (hr : r < 2 ^ 32) : itT (2147483647 * k) r = r := by
  induction k with
  | zero => rfl
  | succ k ih => rw [Nat.mul_succ, itT_add, ih, order r hr]
end Crc
end Go.Proofs.Ytofblciodgibdaa
