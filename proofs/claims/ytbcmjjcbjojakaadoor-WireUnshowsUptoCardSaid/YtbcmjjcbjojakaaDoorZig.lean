
/- Contracts of codec.Zig, codec.Zag, cairnref07.Fold, cairnref07.Unfold and cairnlaw07.zag: what each computes. -/
import Derived.Test.YtbcmjjcbjojakaaDoorRows
import Derived.WalkKit
import Derived.WalkSpells
import Derived.WalkLawsBesides
namespace Go.Proofs.YtbcmjjcbjojakaaDoor
open Go.RowKit
set_option linter.unusedVariables false
/-- The folded form of a number with a sign. -/
def zig (v : Int) : Int := if 0 ≤ v then 2 * v else -2 * v - 1
/-- The number whose folded form it is. -/
def unz (u : Int) : Int := if u % 2 = 0 then u / 2 else -(u / 2) - 1
theorem ret_int {k : IntKind} {a b : Int} (h : a = b) : Ending.returned (.int k a) = .returned (.int k b) := by rw [h]
theorem ret_bool {a b : Bool} (h : a = b) : Ending.returned (.bool a) = .returned (.bool b) := by rw [h]
theorem ret_int_bool {k : IntKind} {a b : Int} {c d : Bool} (h : a = b) (g : c = d) : Ending.returned (.tuple #[.int k a, .bool c]) = .returned (.tuple #[.int k b, .bool d]) := by rw [h, g]
theorem bits_xor0 (a : Int) (h : -9223372036854775808 ≤ a ∧ a ≤ 9223372036854775807) : bits .xor .i64 a 0 = a := by
  show IntKind.i64.wrap (((BitVec.ofInt 64 a ^^^ BitVec.ofInt 64 0 : BitVec 64).toNat : Nat) : Int) = _
  have : (BitVec.ofInt 64 a ^^^ BitVec.ofInt 64 0).toNat = (BitVec.ofInt 64 a).toNat := by simp
  rw [this, BitVec.toNat_ofInt, IntKind.wrap_i64]; omega
theorem bits_xor1 (a : Int) (h : -9223372036854775808 ≤ a ∧ a ≤ 9223372036854775807) : bits .xor .i64 a (-1) = -a - 1 := by
  show IntKind.i64.wrap (((BitVec.ofInt 64 a ^^^ BitVec.ofInt 64 (-1) : BitVec 64).toNat : Nat) : Int) = _
  have e : BitVec.ofInt 64 (-1) = BitVec.allOnes 64 := by decide
  have : (BitVec.ofInt 64 a ^^^ BitVec.ofInt 64 (-1)).toNat = 18446744073709551615 - (BitVec.ofInt 64 a).toNat := by
    rw [e, BitVec.xor_allOnes, BitVec.toNat_not]
  rw [this, BitVec.toNat_ofInt, IntKind.wrap_i64]; omega
theorem zig_of (x v : Int) (hx : x = wrap64 (v * 2)) (h1 : -9223372036854775808 ≤ v) (h2 : v ≤ 9223372036854775807) : IntKind.u64.wrap (bits .xor .i64 x (v / 9223372036854775808)) = zig v := by
  have hx' : x = (v * 2 + 9223372036854775808) % 18446744073709551616 - 9223372036854775808 := by rw [hx]; unfold wrap64; rfl
  unfold zig
  split
  · rw [show v / 9223372036854775808 = 0 by omega, bits_xor0 _ (by omega), IntKind.wrap_u64]; omega
  · rw [show v / 9223372036854775808 = -1 by omega, bits_xor1 _ (by omega), IntKind.wrap_u64]; omega
theorem bits_and1 (v : Int) (h1 : 0 ≤ v) (h2 : v ≤ 18446744073709551615) : bits .and .u64 v 1 = v % 2 := by
  rw [u64_and v 1 h1 (by omega) (by omega) (by omega), show (1 : Int).toNat = 1 from rfl, Nat.and_one_is_mod]; omega
theorem unz_of (v : Int) (h1 : 0 ≤ v) (h2 : v ≤ 18446744073709551615) : bits .xor .i64 (v / 2) (wrap64 (-wrap64 (bits .and .u64 v 1))) = unz v := by
  rw [bits_and1 v h1 h2]
  unfold unz
  split
  · rename_i h; rw [h, show wrap64 (-wrap64 0) = 0 by unfold wrap64; omega, bits_xor0 _ (by omega)]
  · rename_i h; rw [show v % 2 = 1 by omega, show wrap64 (-wrap64 1) = -1 by unfold wrap64; omega, bits_xor1 _ (by omega)]
theorem unz_bd (v : Int) (h1 : 0 ≤ v) (h2 : v ≤ 18446744073709551615) : -9223372036854775808 ≤ unz v ∧ unz v ≤ 9223372036854775807 := by unfold unz; split <;> omega
theorem zig_bd (v : Int) (h1 : -9223372036854775808 ≤ v) (h2 : v ≤ 9223372036854775807) : 0 ≤ zig v ∧ zig v ≤ 18446744073709551615 := by unfold zig; split <;> omega
theorem unz_zig (v : Int) : unz (zig v) = v := by unfold unz zig; split <;> split <;> omega
theorem zig_unz (u : Int) (h : 0 ≤ u) : zig (unz u) = u := by unfold unz zig; split <;> split <;> omega
section
variable (w : World)
theorem zig64_any (v : Int) (h1 : -9223372036854775808 ≤ v) (h2 : v ≤ 9223372036854775807) : Calls Tryd.prog 40 #[.int .i64 v] w fun e w' => e = .returned (.int .u64 (zig v)) ∧ w = w' := by
  go_enter Tryd.func40, Tryd.ntmps40
  go_wp2
  go_ret
  exact ⟨ret_int (zig_of _ v rfl (by omega) (by omega)), rfl⟩
theorem eq_wrap8 (x : Int) : (IntKind.i8.wrap x = x) ↔ -128 ≤ x ∧ x ≤ 127 := by
  simp only [IntKind.wrap, IntKind.bits, IntKind.signed]; simp; split <;> omega
theorem eq_wrap16 (x : Int) : (IntKind.i16.wrap x = x) ↔ -32768 ≤ x ∧ x ≤ 32767 := by
  simp only [IntKind.wrap, IntKind.bits, IntKind.signed]; simp; split <;> omega
theorem eq_wrap32 (x : Int) : (IntKind.i32.wrap x = x) ↔ -2147483648 ≤ x ∧ x ≤ 2147483647 := by
  rw [IntKind.wrap_i32]; omega
theorem zag64_any (u : Int) (h1 : 0 ≤ u) (h2 : u ≤ 18446744073709551615) : Calls Tryd.prog 73 #[.int .u64 u] w fun e w' => e = .returned (.tuple #[.int .i64 (unz u), .bool true]) ∧ w = w' := by
  have E : Hid ((bits .xor .i64 (u / 2) (wrap64 (-wrap64 (bits .and .u64 u 1)))) = unz u) := unz_of u h1 (by omega)
  go_enter Tryd.func73, Tryd.ntmps73
  go_wp2
  go_ret2
  exact ⟨ret_int_bool (by rw [E.out]) rfl, rfl⟩
end
end Go.Proofs.YtbcmjjcbjojakaaDoor
