/- The walk of CodecZigs: it returns true for every two numbers. -/
import Derived.Test.YtjkenhkoakaaoaaZig
namespace Go.Proofs.Ytjkenhkoakaaoaa
open Go.RowKit
set_option linter.unusedVariables false
section
variable (w : World)
set_option maxRecDepth 100000 in
set_option maxHeartbeats 1000000 in
theorem zigs_a (v u : Int) (h1 : -9223372036854775808 ≤ v) (h2 : v ≤ 9223372036854775807) (g1 : 0 ≤ u) (g2 : u ≤ 18446744073709551615) (k1 : u < 256) :
    Calls Try.prog 4 #[.int .i64 v, .int .u64 u] w fun e w' => e = .returned (.bool true) ∧ Below w.heap.size w w' := by
  have a1 : -128 ≤ IntKind.i8.wrap v := by simp only [IntKind.wrap, IntKind.bits, IntKind.signed]; simp; split <;> omega
  have a2 : IntKind.i8.wrap v ≤ 127 := by simp only [IntKind.wrap, IntKind.bits, IntKind.signed]; simp; split <;> omega
  have b1 : -32768 ≤ IntKind.i16.wrap v := by simp only [IntKind.wrap, IntKind.bits, IntKind.signed]; simp; split <;> omega
  have b2 : IntKind.i16.wrap v ≤ 32767 := by simp only [IntKind.wrap, IntKind.bits, IntKind.signed]; simp; split <;> omega
  have c1 : -2147483648 ≤ wrap32 v := by unfold wrap32; omega
  have c2 : wrap32 v ≤ 2147483647 := by unfold wrap32; omega
  have d1 := (unz_bd u g1 g2).1
  have d2 := (unz_bd u g1 g2).2
  have e0 : decide (u < 256) = true := by simp; omega
  have e1 : decide (u < 65536) = true := by simp; omega
  have e2 : decide (u < 4294967296) = true := by simp; omega
  go_enter Try.func4, Try.ntmps4
  go_wp2_with (first | (go_at_call 13; refine (zig8_any _ _ (by omega) (by omega)).mono ?_; rintro e w' ⟨rfl, rfl⟩) | (go_at_call 15; refine (zig16_any _ _ (by omega) (by omega)).mono ?_; rintro e w' ⟨rfl, rfl⟩) | (go_at_call 16; refine (zig32_any _ _ (by omega) (by omega)).mono ?_; rintro e w' ⟨rfl, rfl⟩) | (go_at_call 17; refine (zig64_any _ _ (by omega) (by omega)).mono ?_; rintro e w' ⟨rfl, rfl⟩) | (go_at_call 18; refine (zigdeep_any _ _ (by omega) (by omega)).mono ?_; rintro e w' ⟨rfl, rfl⟩) | (go_at_call 14; refine (fold_any _ _ (by omega) (by omega)).mono ?_; rintro e w' ⟨rfl, rfl⟩) | (go_at_call 24; refine (unfold_any _ _ (by omega) (by omega)).mono ?_; rintro e w' ⟨rfl, rfl⟩) | (go_at_call 22; refine (zag64_any _ _ (by omega) (by omega)).mono ?_; rintro e w' ⟨rfl, rfl⟩) | (go_at_call 19; refine (zag8_yes _ _ (by omega) (by omega)).mono ?_; rintro e w' ⟨rfl, rfl⟩) | (go_at_call 20; refine (zag16_yes _ _ (by omega) (by omega)).mono ?_; rintro e w' ⟨rfl, rfl⟩) | (go_at_call 21; refine (zag32_yes _ _ (by omega) (by omega)).mono ?_; rintro e w' ⟨rfl, rfl⟩) | (go_at_call 23; refine (zagdeep_yes _ _ (by omega) (by omega)).mono ?_; rintro e w' ⟨rfl, rfl⟩) | (go_at_call 25; first | ((with_reducible refine (zagcmp_yes _ _).mono ?_); rintro e w' ⟨rfl, rfl⟩) | ((with_reducible refine (zagcmp_no _ _).mono ?_); rintro e w' ⟨rfl, rfl⟩)))
  go_ret
  exact ⟨rfl, Below.refl _ _⟩
set_option maxRecDepth 100000 in
set_option maxHeartbeats 1000000 in
theorem zigs_b (v u : Int) (h1 : -9223372036854775808 ≤ v) (h2 : v ≤ 9223372036854775807) (g1 : 0 ≤ u) (g2 : u ≤ 18446744073709551615) (k1 : 256 ≤ u) (k2 : u < 65536) :
    Calls Try.prog 4 #[.int .i64 v, .int .u64 u] w fun e w' => e = .returned (.bool true) ∧ Below w.heap.size w w' := by
  have a1 : -128 ≤ IntKind.i8.wrap v := by simp only [IntKind.wrap, IntKind.bits, IntKind.signed]; simp; split <;> omega
  have a2 : IntKind.i8.wrap v ≤ 127 := by simp only [IntKind.wrap, IntKind.bits, IntKind.signed]; simp; split <;> omega
  have b1 : -32768 ≤ IntKind.i16.wrap v := by simp only [IntKind.wrap, IntKind.bits, IntKind.signed]; simp; split <;> omega
  have b2 : IntKind.i16.wrap v ≤ 32767 := by simp only [IntKind.wrap, IntKind.bits, IntKind.signed]; simp; split <;> omega
  have c1 : -2147483648 ≤ wrap32 v := by unfold wrap32; omega
  have c2 : wrap32 v ≤ 2147483647 := by unfold wrap32; omega
  have d1 := (unz_bd u g1 g2).1
  have d2 := (unz_bd u g1 g2).2
  have e0 : decide (u < 256) = false := by simp; omega
  have e1 : decide (u < 65536) = true := by simp; omega
  have e2 : decide (u < 4294967296) = true := by simp; omega
  go_enter Try.func4, Try.ntmps4
  go_wp2_with (first | (go_at_call 13; refine (zig8_any _ _ (by omega) (by omega)).mono ?_; rintro e w' ⟨rfl, rfl⟩) | (go_at_call 15; refine (zig16_any _ _ (by omega) (by omega)).mono ?_; rintro e w' ⟨rfl, rfl⟩) | (go_at_call 16; refine (zig32_any _ _ (by omega) (by omega)).mono ?_; rintro e w' ⟨rfl, rfl⟩) | (go_at_call 17; refine (zig64_any _ _ (by omega) (by omega)).mono ?_; rintro e w' ⟨rfl, rfl⟩) | (go_at_call 18; refine (zigdeep_any _ _ (by omega) (by omega)).mono ?_; rintro e w' ⟨rfl, rfl⟩) | (go_at_call 14; refine (fold_any _ _ (by omega) (by omega)).mono ?_; rintro e w' ⟨rfl, rfl⟩) | (go_at_call 24; refine (unfold_any _ _ (by omega) (by omega)).mono ?_; rintro e w' ⟨rfl, rfl⟩) | (go_at_call 22; refine (zag64_any _ _ (by omega) (by omega)).mono ?_; rintro e w' ⟨rfl, rfl⟩) | (go_at_call 19; refine (zag8_no _ _ (by omega) (by omega)).mono ?_; rintro e w' ⟨rfl, rfl⟩) | (go_at_call 20; refine (zag16_yes _ _ (by omega) (by omega)).mono ?_; rintro e w' ⟨rfl, rfl⟩) | (go_at_call 21; refine (zag32_yes _ _ (by omega) (by omega)).mono ?_; rintro e w' ⟨rfl, rfl⟩) | (go_at_call 23; refine (zagdeep_yes _ _ (by omega) (by omega)).mono ?_; rintro e w' ⟨rfl, rfl⟩) | (go_at_call 25; first | ((with_reducible refine (zagcmp_yes _ _).mono ?_); rintro e w' ⟨rfl, rfl⟩) | ((with_reducible refine (zagcmp_no _ _).mono ?_); rintro e w' ⟨rfl, rfl⟩)))
  go_ret
  exact ⟨rfl, Below.refl _ _⟩
set_option maxRecDepth 100000 in
set_option maxHeartbeats 1000000 in
theorem zigs_c (v u : Int) (h1 : -9223372036854775808 ≤ v) (h2 : v ≤ 9223372036854775807) (g1 : 0 ≤ u) (g2 : u ≤ 18446744073709551615) (k1 : 65536 ≤ u) (k2 : u < 4294967296) :
    Calls Try.prog 4 #[.int .i64 v, .int .u64 u] w fun e w' => e = .returned (.bool true) ∧ Below w.heap.size w w' := by
  have a1 : -128 ≤ IntKind.i8.wrap v := by simp only [IntKind.wrap, IntKind.bits, IntKind.signed]; simp; split <;> omega
  have a2 : IntKind.i8.wrap v ≤ 127 := by simp only [IntKind.wrap, IntKind.bits, IntKind.signed]; simp; split <;> omega
  have b1 : -32768 ≤ IntKind.i16.wrap v := by simp only [IntKind.wrap, IntKind.bits, IntKind.signed]; simp; split <;> omega
  have b2 : IntKind.i16.wrap v ≤ 32767 := by simp only [IntKind.wrap, IntKind.bits, IntKind.signed]; simp; split <;> omega
  have c1 : -2147483648 ≤ wrap32 v := by unfold wrap32; omega
  have c2 : wrap32 v ≤ 2147483647 := by unfold wrap32; omega
  have d1 := (unz_bd u g1 g2).1
  have d2 := (unz_bd u g1 g2).2
  have e0 : decide (u < 256) = false := by simp; omega
  have e1 : decide (u < 65536) = false := by simp; omega
  have e2 : decide (u < 4294967296) = true := by simp; omega
  go_enter Try.func4, Try.ntmps4
  go_wp2_with (first | (go_at_call 13; refine (zig8_any _ _ (by omega) (by omega)).mono ?_; rintro e w' ⟨rfl, rfl⟩) | (go_at_call 15; refine (zig16_any _ _ (by omega) (by omega)).mono ?_; rintro e w' ⟨rfl, rfl⟩) | (go_at_call 16; refine (zig32_any _ _ (by omega) (by omega)).mono ?_; rintro e w' ⟨rfl, rfl⟩) | (go_at_call 17; refine (zig64_any _ _ (by omega) (by omega)).mono ?_; rintro e w' ⟨rfl, rfl⟩) | (go_at_call 18; refine (zigdeep_any _ _ (by omega) (by omega)).mono ?_; rintro e w' ⟨rfl, rfl⟩) | (go_at_call 14; refine (fold_any _ _ (by omega) (by omega)).mono ?_; rintro e w' ⟨rfl, rfl⟩) | (go_at_call 24; refine (unfold_any _ _ (by omega) (by omega)).mono ?_; rintro e w' ⟨rfl, rfl⟩) | (go_at_call 22; refine (zag64_any _ _ (by omega) (by omega)).mono ?_; rintro e w' ⟨rfl, rfl⟩) | (go_at_call 19; refine (zag8_no _ _ (by omega) (by omega)).mono ?_; rintro e w' ⟨rfl, rfl⟩) | (go_at_call 20; refine (zag16_no _ _ (by omega) (by omega)).mono ?_; rintro e w' ⟨rfl, rfl⟩) | (go_at_call 21; refine (zag32_yes _ _ (by omega) (by omega)).mono ?_; rintro e w' ⟨rfl, rfl⟩) | (go_at_call 23; refine (zagdeep_no _ _ (by omega) (by omega)).mono ?_; rintro e w' ⟨rfl, rfl⟩) | (go_at_call 25; first | ((with_reducible refine (zagcmp_yes _ _).mono ?_); rintro e w' ⟨rfl, rfl⟩) | ((with_reducible refine (zagcmp_no _ _).mono ?_); rintro e w' ⟨rfl, rfl⟩)))
  go_ret
  exact ⟨rfl, Below.refl _ _⟩
set_option maxRecDepth 100000 in
set_option maxHeartbeats 1000000 in
theorem zigs_d (v u : Int) (h1 : -9223372036854775808 ≤ v) (h2 : v ≤ 9223372036854775807) (g1 : 0 ≤ u) (g2 : u ≤ 18446744073709551615) (k1 : 4294967296 ≤ u) :
    Calls Try.prog 4 #[.int .i64 v, .int .u64 u] w fun e w' => e = .returned (.bool true) ∧ Below w.heap.size w w' := by
  have a1 : -128 ≤ IntKind.i8.wrap v := by simp only [IntKind.wrap, IntKind.bits, IntKind.signed]; simp; split <;> omega
  have a2 : IntKind.i8.wrap v ≤ 127 := by simp only [IntKind.wrap, IntKind.bits, IntKind.signed]; simp; split <;> omega
  have b1 : -32768 ≤ IntKind.i16.wrap v := by simp only [IntKind.wrap, IntKind.bits, IntKind.signed]; simp; split <;> omega
  have b2 : IntKind.i16.wrap v ≤ 32767 := by simp only [IntKind.wrap, IntKind.bits, IntKind.signed]; simp; split <;> omega
  have c1 : -2147483648 ≤ wrap32 v := by unfold wrap32; omega
  have c2 : wrap32 v ≤ 2147483647 := by unfold wrap32; omega
  have d1 := (unz_bd u g1 g2).1
  have d2 := (unz_bd u g1 g2).2
  have e0 : decide (u < 256) = false := by simp; omega
  have e1 : decide (u < 65536) = false := by simp; omega
  have e2 : decide (u < 4294967296) = false := by simp; omega
  go_enter Try.func4, Try.ntmps4
  go_wp2_with (first | (go_at_call 13; refine (zig8_any _ _ (by omega) (by omega)).mono ?_; rintro e w' ⟨rfl, rfl⟩) | (go_at_call 15; refine (zig16_any _ _ (by omega) (by omega)).mono ?_; rintro e w' ⟨rfl, rfl⟩) | (go_at_call 16; refine (zig32_any _ _ (by omega) (by omega)).mono ?_; rintro e w' ⟨rfl, rfl⟩) | (go_at_call 17; refine (zig64_any _ _ (by omega) (by omega)).mono ?_; rintro e w' ⟨rfl, rfl⟩) | (go_at_call 18; refine (zigdeep_any _ _ (by omega) (by omega)).mono ?_; rintro e w' ⟨rfl, rfl⟩) | (go_at_call 14; refine (fold_any _ _ (by omega) (by omega)).mono ?_; rintro e w' ⟨rfl, rfl⟩) | (go_at_call 24; refine (unfold_any _ _ (by omega) (by omega)).mono ?_; rintro e w' ⟨rfl, rfl⟩) | (go_at_call 22; refine (zag64_any _ _ (by omega) (by omega)).mono ?_; rintro e w' ⟨rfl, rfl⟩) | (go_at_call 19; refine (zag8_no _ _ (by omega) (by omega)).mono ?_; rintro e w' ⟨rfl, rfl⟩) | (go_at_call 20; refine (zag16_no _ _ (by omega) (by omega)).mono ?_; rintro e w' ⟨rfl, rfl⟩) | (go_at_call 21; refine (zag32_no _ _ (by omega) (by omega)).mono ?_; rintro e w' ⟨rfl, rfl⟩) | (go_at_call 23; refine (zagdeep_no _ _ (by omega) (by omega)).mono ?_; rintro e w' ⟨rfl, rfl⟩) | (go_at_call 25; first | ((with_reducible refine (zagcmp_yes _ _).mono ?_); rintro e w' ⟨rfl, rfl⟩) | ((with_reducible refine (zagcmp_no _ _).mono ?_); rintro e w' ⟨rfl, rfl⟩)))
  go_ret
  exact ⟨rfl, Below.refl _ _⟩
theorem zigs_walk (v u : Int) (w : World) (wv : (Lit.int .i64 v).wf = true) (wu : (Lit.int .u64 u).wf = true) :
    Calls Try.prog 4 #[.int .i64 v, .int .u64 u] w fun e w' => e = .returned (.bool true) ∧ Below w.heap.size w w' := by
  have hv : -9223372036854775808 ≤ v ∧ v ≤ 9223372036854775807 := by simpa [Lit.wf, IntKind.min, IntKind.max, IntKind.signed, IntKind.bits] using wv
  have hu : 0 ≤ u ∧ u ≤ 18446744073709551615 := by simpa [Lit.wf, IntKind.min, IntKind.max, IntKind.signed, IntKind.bits] using wu
  by_cases c1 : u < 256
  · exact zigs_a w v u hv.1 hv.2 hu.1 hu.2 c1
  by_cases c2 : u < 65536
  · exact zigs_b w v u hv.1 hv.2 hu.1 hu.2 (by omega) c2
  by_cases c3 : u < 4294967296
  · exact zigs_c w v u hv.1 hv.2 hu.1 hu.2 (by omega) c3
  exact zigs_d w v u hv.1 hv.2 hu.1 hu.2 (by omega)
end
end Go.Proofs.Ytjkenhkoakaaoaa
