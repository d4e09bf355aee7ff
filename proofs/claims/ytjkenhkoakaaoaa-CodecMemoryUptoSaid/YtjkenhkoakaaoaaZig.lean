/- Contracts of codec.Zig, codec.Zag, cairnref07.Fold, cairnref07.Unfold and cairnlaw07.zag: what each computes. -/
import Derived.Test.YtjkenhkoakaaoaaRows
import Derived.WalkKit
import Derived.WalkSpells
import Derived.WalkLawsBesides
namespace Go.Proofs.Ytjkenhkoakaaoaa
open Go.RowKit
set_option linter.unusedVariables false
/-- The folded form of a number with a sign. -/
def zig (v : Int) : Int := if 0 ≤ v then 2 * v else -2 * v - 1
/-- The number whose folded form it is. -/
def unz (u : Int) : Int := if u % 2 = 0 then u / 2 else -(u / 2) - 1
theorem ret_int {k : IntKind} {a b : Int} (h : a = b) : Ending.returned (.int k a) = .returned (.int k b) := by rw [h]
theorem ret_bool {a b : Bool} (h : a = b) : Ending.returned (.bool a) = .returned (.bool b) := by rw [h]
theorem ret_int_bool {k : IntKind} {a b : Int} {c d : Bool} (h : a = b) (g : c = d) : Ending.returned (.tuple #[.int k a, .bool c]) = .returned (.tuple #[.int k b, .bool d]) := by rw [h, g]
theorem bits_xor0 (a : Int) (h : -9223372036854775808 ≤ a ∧ a ≤ 9223372036854775807) : bits .xor .i64 a 0 = a := by
  show IntKind.i64.wrap (((BitVec.ofInt 64 a ^^^ BitVec.ofInt 64 0 : BitVec 64).toNat : Nat) : Int) = _
  have : (BitVec.ofInt 64 a ^^^ BitVec.ofInt 64 0).toNat = (BitVec.ofInt 64 a).toNat := by simp
  rw [this, BitVec.toNat_ofInt, IntKind.wrap_i64]; omega
theorem bits_xor1 (a : Int) (h : -9223372036854775808 ≤ a ∧ a ≤ 9223372036854775807) : bits .xor .i64 a (-1) = -a - 1 := by
  show IntKind.i64.wrap (((BitVec.ofInt 64 a ^^^ BitVec.ofInt 64 (-1) : BitVec 64).toNat : Nat) : Int) = _
  have e : BitVec.ofInt 64 (-1) = BitVec.allOnes 64 := by decide
  have : (BitVec.ofInt 64 a ^^^ BitVec.ofInt 64 (-1)).toNat = 18446744073709551615 - (BitVec.ofInt 64 a).toNat := by
    rw [e, BitVec.xor_allOnes, BitVec.toNat_not]
  rw [this, BitVec.toNat_ofInt, IntKind.wrap_i64]; omega
theorem zig_of (x v : Int) (hx : x = wrap64 (v * 2)) (h1 : -9223372036854775808 ≤ v) (h2 : v ≤ 9223372036854775807) : IntKind.u64.wrap (bits .xor .i64 x (v / 9223372036854775808)) = zig v := by
  have hx' : x = (v * 2 + 9223372036854775808) % 18446744073709551616 - 9223372036854775808 := by rw [hx]; unfold wrap64; rfl
  unfold zig
  split
  · rw [show v / 9223372036854775808 = 0 by omega, bits_xor0 _ (by omega), IntKind.wrap_u64]; omega
  · rw [show v / 9223372036854775808 = -1 by omega, bits_xor1 _ (by omega), IntKind.wrap_u64]; omega
theorem bits_and1 (v : Int) (h1 : 0 ≤ v) (h2 : v ≤ 18446744073709551615) : bits .and .u64 v 1 = v % 2 := by
  rw [u64_and v 1 h1 (by omega) (by omega) (by omega), show (1 : Int).toNat = 1 from rfl, Nat.and_one_is_mod]; omega
theorem unz_of (v : Int) (h1 : 0 ≤ v) (h2 : v ≤ 18446744073709551615) : bits .xor .i64 (v / 2) (wrap64 (-wrap64 (bits .and .u64 v 1))) = unz v := by
  rw [bits_and1 v h1 h2]
  unfold unz
  split
  · rename_i h; rw [h, show wrap64 (-wrap64 0) = 0 by unfold wrap64; omega, bits_xor0 _ (by omega)]
  · rename_i h; rw [show v % 2 = 1 by omega, show wrap64 (-wrap64 1) = -1 by unfold wrap64; omega, bits_xor1 _ (by omega)]
theorem unz_bd (v : Int) (h1 : 0 ≤ v) (h2 : v ≤ 18446744073709551615) : -9223372036854775808 ≤ unz v ∧ unz v ≤ 9223372036854775807 := by unfold unz; split <;> omega
theorem zig_bd (v : Int) (h1 : -9223372036854775808 ≤ v) (h2 : v ≤ 9223372036854775807) : 0 ≤ zig v ∧ zig v ≤ 18446744073709551615 := by unfold zig; split <;> omega
theorem unz_zig (v : Int) : unz (zig v) = v := by unfold unz zig; split <;> split <;> omega
theorem zig_unz (u : Int) (h : 0 ≤ u) : zig (unz u) = u := by unfold unz zig; split <;> split <;> omega
section
variable (w : World)
theorem zig8_any (v : Int) (h1 : -128 ≤ v) (h2 : v ≤ 127) : Calls Try.prog 13 #[.int .i8 v] w fun e w' => e = .returned (.int .u64 (zig v)) ∧ w = w' := by
  go_enter Try.func13, Try.ntmps13
  go_wp2
  go_ret
  exact ⟨ret_int (zig_of _ v (by unfold wrap64; omega) (by omega) (by omega)), rfl⟩
theorem zig16_any (v : Int) (h1 : -32768 ≤ v) (h2 : v ≤ 32767) : Calls Try.prog 15 #[.int .i16 v] w fun e w' => e = .returned (.int .u64 (zig v)) ∧ w = w' := by
  go_enter Try.func15, Try.ntmps15
  go_wp2
  go_ret
  exact ⟨ret_int (zig_of _ v (by unfold wrap64; omega) (by omega) (by omega)), rfl⟩
theorem zig32_any (v : Int) (h1 : -2147483648 ≤ v) (h2 : v ≤ 2147483647) : Calls Try.prog 16 #[.int .i32 v] w fun e w' => e = .returned (.int .u64 (zig v)) ∧ w = w' := by
  go_enter Try.func16, Try.ntmps16
  go_wp2
  go_ret
  exact ⟨ret_int (zig_of _ v (by unfold wrap64; omega) (by omega) (by omega)), rfl⟩
theorem zig64_any (v : Int) (h1 : -9223372036854775808 ≤ v) (h2 : v ≤ 9223372036854775807) : Calls Try.prog 17 #[.int .i64 v] w fun e w' => e = .returned (.int .u64 (zig v)) ∧ w = w' := by
  go_enter Try.func17, Try.ntmps17
  go_wp2
  go_ret
  exact ⟨ret_int (zig_of _ v rfl (by omega) (by omega)), rfl⟩
theorem zigdeep_any (v : Int) (h1 : -32768 ≤ v) (h2 : v ≤ 32767) : Calls Try.prog 18 #[.int .i16 v] w fun e w' => e = .returned (.int .u64 (zig v)) ∧ w = w' := by
  go_enter Try.func18, Try.ntmps18
  go_wp2
  go_ret
  exact ⟨ret_int (zig_of _ v (by unfold wrap64; omega) (by omega) (by omega)), rfl⟩
theorem fold_any (v : Int) (h1 : -9223372036854775808 ≤ v) (h2 : v ≤ 9223372036854775807) : Calls Try.prog 14 #[.int .i64 v] w fun e w' => e = .returned (.int .u64 (zig v)) ∧ w = w' := by
  by_cases h : 0 ≤ v
  all_goals
    go_enter Try.func14, Try.ntmps14
    go_wp2
    go_ret
    refine ⟨ret_int ?_, rfl⟩
    unfold zig
    first | rw [if_pos h] | rw [if_neg (by omega)]
    try simp only [IntKind.wrap_u64]
    try omega
theorem unfold_any (u : Int) (h1 : 0 ≤ u) (h2 : u ≤ 18446744073709551615) : Calls Try.prog 24 #[.int .u64 u] w fun e w' => e = .returned (.int .i64 (unz u)) ∧ w = w' := by
  by_cases h : u % 2 = 0
  · have hb : (u % 2 == 0) = true := by simpa using h
    clear h
    go_enter Try.func24, Try.ntmps24
    go_wp2
    go_ret
    exact ⟨ret_int (by unfold unz; rw [if_pos (by simpa using hb)]), rfl⟩
  · have hb : (u % 2 == 0) = false := by simpa using h
    clear h
    go_enter Try.func24, Try.ntmps24
    go_wp2
    go_ret
    exact ⟨ret_int (by unfold unz; rw [if_neg (by simpa using hb)]), rfl⟩
theorem eq_wrap8 (x : Int) : (IntKind.i8.wrap x = x) ↔ -128 ≤ x ∧ x ≤ 127 := by
  simp only [IntKind.wrap, IntKind.bits, IntKind.signed]; simp; split <;> omega
theorem eq_wrap16 (x : Int) : (IntKind.i16.wrap x = x) ↔ -32768 ≤ x ∧ x ≤ 32767 := by
  simp only [IntKind.wrap, IntKind.bits, IntKind.signed]; simp; split <;> omega
theorem eq_wrap32 (x : Int) : (IntKind.i32.wrap x = x) ↔ -2147483648 ≤ x ∧ x ≤ 2147483647 := by
  rw [IntKind.wrap_i32]; omega
theorem zag8_yes (u : Int) (h1 : 0 ≤ u) (h2 : u < 256) : Calls Try.prog 19 #[.int .u64 u] w fun e w' => e = .returned (.tuple #[.int .i8 (unz u), .bool true]) ∧ w = w' := by
  have E : Hid ((bits .xor .i64 (u / 2) (wrap64 (-wrap64 (bits .and .u64 u 1)))) = unz u) := unz_of u h1 (by omega)
  have B : Hid (IntKind.i8.wrap (unz u) = unz u) := (eq_wrap8 _).2 (by unfold unz; split <;> omega)
  have C : (wrap64 (IntKind.i8.wrap (bits .xor .i64 (u / 2) (wrap64 (-wrap64 (bits .and .u64 u 1))))) != (bits .xor .i64 (u / 2) (wrap64 (-wrap64 (bits .and .u64 u 1))))) = false := by
    rw [E.out, B.out, IntWalk.wrap64_in _ (unz_bd u h1 (by omega))]; simp
  go_enter Try.func19, Try.ntmps19
  go_wp2
  go_ret2
  exact ⟨ret_int_bool (by rw [E.out, B.out]) rfl, rfl⟩
theorem zag8_no (u : Int) (h1 : 256 ≤ u) (h2 : u ≤ 18446744073709551615) : Calls Try.prog 19 #[.int .u64 u] w fun e w' => e = .returned (.tuple #[.int .i8 0, .bool false]) ∧ w = w' := by
  have E : Hid ((bits .xor .i64 (u / 2) (wrap64 (-wrap64 (bits .and .u64 u 1)))) = unz u) := unz_of u (by omega) (by omega)
  have C : (wrap64 (IntKind.i8.wrap (bits .xor .i64 (u / 2) (wrap64 (-wrap64 (bits .and .u64 u 1))))) != (bits .xor .i64 (u / 2) (wrap64 (-wrap64 (bits .and .u64 u 1))))) = true := by
    rw [E.out, bne_iff_ne]
    intro h
    have hb : -9223372036854775808 ≤ IntKind.i8.wrap (unz u) ∧ IntKind.i8.wrap (unz u) ≤ 9223372036854775807 := by simp only [IntKind.wrap, IntKind.bits, IntKind.signed]; simp; split <;> omega
    rw [IntWalk.wrap64_in _ hb, eq_wrap8] at h
    unfold unz at h; split at h <;> omega
  go_enter Try.func19, Try.ntmps19
  go_wp2
  go_ret2
  exact ⟨ret_int_bool rfl rfl, rfl⟩
theorem zag16_yes (u : Int) (h1 : 0 ≤ u) (h2 : u < 65536) : Calls Try.prog 20 #[.int .u64 u] w fun e w' => e = .returned (.tuple #[.int .i16 (unz u), .bool true]) ∧ w = w' := by
  have E : Hid ((bits .xor .i64 (u / 2) (wrap64 (-wrap64 (bits .and .u64 u 1)))) = unz u) := unz_of u h1 (by omega)
  have B : Hid (IntKind.i16.wrap (unz u) = unz u) := (eq_wrap16 _).2 (by unfold unz; split <;> omega)
  have C : (wrap64 (IntKind.i16.wrap (bits .xor .i64 (u / 2) (wrap64 (-wrap64 (bits .and .u64 u 1))))) != (bits .xor .i64 (u / 2) (wrap64 (-wrap64 (bits .and .u64 u 1))))) = false := by
    rw [E.out, B.out, IntWalk.wrap64_in _ (unz_bd u h1 (by omega))]; simp
  go_enter Try.func20, Try.ntmps20
  go_wp2
  go_ret2
  exact ⟨ret_int_bool (by rw [E.out, B.out]) rfl, rfl⟩
theorem zag16_no (u : Int) (h1 : 65536 ≤ u) (h2 : u ≤ 18446744073709551615) : Calls Try.prog 20 #[.int .u64 u] w fun e w' => e = .returned (.tuple #[.int .i16 0, .bool false]) ∧ w = w' := by
  have E : Hid ((bits .xor .i64 (u / 2) (wrap64 (-wrap64 (bits .and .u64 u 1)))) = unz u) := unz_of u (by omega) (by omega)
  have C : (wrap64 (IntKind.i16.wrap (bits .xor .i64 (u / 2) (wrap64 (-wrap64 (bits .and .u64 u 1))))) != (bits .xor .i64 (u / 2) (wrap64 (-wrap64 (bits .and .u64 u 1))))) = true := by
    rw [E.out, bne_iff_ne]
    intro h
    have hb : -9223372036854775808 ≤ IntKind.i16.wrap (unz u) ∧ IntKind.i16.wrap (unz u) ≤ 9223372036854775807 := by simp only [IntKind.wrap, IntKind.bits, IntKind.signed]; simp; split <;> omega
    rw [IntWalk.wrap64_in _ hb, eq_wrap16] at h
    unfold unz at h; split at h <;> omega
  go_enter Try.func20, Try.ntmps20
  go_wp2
  go_ret2
  exact ⟨ret_int_bool rfl rfl, rfl⟩
theorem zag32_yes (u : Int) (h1 : 0 ≤ u) (h2 : u < 4294967296) : Calls Try.prog 21 #[.int .u64 u] w fun e w' => e = .returned (.tuple #[.int .i32 (unz u), .bool true]) ∧ w = w' := by
  have E : Hid ((bits .xor .i64 (u / 2) (wrap64 (-wrap64 (bits .and .u64 u 1)))) = unz u) := unz_of u h1 (by omega)
  have B : Hid (IntKind.i32.wrap (unz u) = unz u) := (eq_wrap32 _).2 (by unfold unz; split <;> omega)
  have C : (wrap64 (wrap32 (bits .xor .i64 (u / 2) (wrap64 (-wrap64 (bits .and .u64 u 1))))) != (bits .xor .i64 (u / 2) (wrap64 (-wrap64 (bits .and .u64 u 1))))) = false := by
    rw [E.out, ← IntWalk.i32_left, B.out, IntWalk.wrap64_in _ (unz_bd u h1 (by omega))]; simp
  go_enter Try.func21, Try.ntmps21
  go_wp2
  go_ret2
  exact ⟨ret_int_bool (by rw [E.out, ← IntWalk.i32_left, B.out]) rfl, rfl⟩
theorem zag32_no (u : Int) (h1 : 4294967296 ≤ u) (h2 : u ≤ 18446744073709551615) : Calls Try.prog 21 #[.int .u64 u] w fun e w' => e = .returned (.tuple #[.int .i32 0, .bool false]) ∧ w = w' := by
  have E : Hid ((bits .xor .i64 (u / 2) (wrap64 (-wrap64 (bits .and .u64 u 1)))) = unz u) := unz_of u (by omega) (by omega)
  have C : (wrap64 (wrap32 (bits .xor .i64 (u / 2) (wrap64 (-wrap64 (bits .and .u64 u 1))))) != (bits .xor .i64 (u / 2) (wrap64 (-wrap64 (bits .and .u64 u 1))))) = true := by
    rw [E.out, ← IntWalk.i32_left, bne_iff_ne]
    intro h
    have hb : -9223372036854775808 ≤ IntKind.i32.wrap (unz u) ∧ IntKind.i32.wrap (unz u) ≤ 9223372036854775807 := by simp only [IntKind.wrap, IntKind.bits, IntKind.signed]; simp; split <;> omega
    rw [IntWalk.wrap64_in _ hb, eq_wrap32] at h
    unfold unz at h; split at h <;> omega
  go_enter Try.func21, Try.ntmps21
  go_wp2
  go_ret2
  exact ⟨ret_int_bool rfl rfl, rfl⟩
theorem zagdeep_yes (u : Int) (h1 : 0 ≤ u) (h2 : u < 65536) : Calls Try.prog 23 #[.int .u64 u] w fun e w' => e = .returned (.tuple #[.int .i16 (unz u), .bool true]) ∧ w = w' := by
  have E : Hid ((bits .xor .i64 (u / 2) (wrap64 (-wrap64 (bits .and .u64 u 1)))) = unz u) := unz_of u h1 (by omega)
  have B : Hid (IntKind.i16.wrap (unz u) = unz u) := (eq_wrap16 _).2 (by unfold unz; split <;> omega)
  have C : (wrap64 (IntKind.i16.wrap (bits .xor .i64 (u / 2) (wrap64 (-wrap64 (bits .and .u64 u 1))))) != (bits .xor .i64 (u / 2) (wrap64 (-wrap64 (bits .and .u64 u 1))))) = false := by
    rw [E.out, B.out, IntWalk.wrap64_in _ (unz_bd u h1 (by omega))]; simp
  go_enter Try.func23, Try.ntmps23
  go_wp2
  go_ret2
  exact ⟨ret_int_bool (by rw [E.out, B.out]) rfl, rfl⟩
theorem zagdeep_no (u : Int) (h1 : 65536 ≤ u) (h2 : u ≤ 18446744073709551615) : Calls Try.prog 23 #[.int .u64 u] w fun e w' => e = .returned (.tuple #[.int .i16 0, .bool false]) ∧ w = w' := by
  have E : Hid ((bits .xor .i64 (u / 2) (wrap64 (-wrap64 (bits .and .u64 u 1)))) = unz u) := unz_of u (by omega) (by omega)
  have C : (wrap64 (IntKind.i16.wrap (bits .xor .i64 (u / 2) (wrap64 (-wrap64 (bits .and .u64 u 1))))) != (bits .xor .i64 (u / 2) (wrap64 (-wrap64 (bits .and .u64 u 1))))) = true := by
    rw [E.out, bne_iff_ne]
    intro h
    have hb : -9223372036854775808 ≤ IntKind.i16.wrap (unz u) ∧ IntKind.i16.wrap (unz u) ≤ 9223372036854775807 := by simp only [IntKind.wrap, IntKind.bits, IntKind.signed]; simp; split <;> omega
    rw [IntWalk.wrap64_in _ hb, eq_wrap16] at h
    unfold unz at h; split at h <;> omega
  go_enter Try.func23, Try.ntmps23
  go_wp2
  go_ret2
  exact ⟨ret_int_bool rfl rfl, rfl⟩
theorem zag64_any (u : Int) (h1 : 0 ≤ u) (h2 : u ≤ 18446744073709551615) : Calls Try.prog 22 #[.int .u64 u] w fun e w' => e = .returned (.tuple #[.int .i64 (unz u), .bool true]) ∧ w = w' := by
  have E : Hid ((bits .xor .i64 (u / 2) (wrap64 (-wrap64 (bits .and .u64 u 1)))) = unz u) := unz_of u h1 (by omega)
  go_enter Try.func22, Try.ntmps22
  go_wp2
  go_ret2
  exact ⟨ret_int_bool (by rw [E.out]) rfl, rfl⟩
theorem zagcmp_yes (v : Int) : Calls Try.prog 25 #[.int .i64 v, .bool true, .int .i64 v, .bool true] w fun e w' => e = .returned (.bool true) ∧ w = w' := by
  go_enter Try.func25, Try.ntmps25
  go_wp2
  go_ret
  exact ⟨ret_bool (by simp), rfl⟩
theorem zagcmp_no (v : Int) : Calls Try.prog 25 #[.int .i64 0, .bool false, .int .i64 v, .bool false] w fun e w' => e = .returned (.bool true) ∧ w = w' := by
  go_enter Try.func25, Try.ntmps25
  go_wp2
  go_ret
  exact ⟨ret_bool (by simp), rfl⟩
end
end Go.Proofs.Ytjkenhkoakaaoaa
