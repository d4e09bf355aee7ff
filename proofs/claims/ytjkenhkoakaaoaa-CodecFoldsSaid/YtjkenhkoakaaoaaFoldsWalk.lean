/- The walk of CodecFolds. -/
import Derived.Test.YtjkenhkoakaaoaaAwake
namespace Go.Proofs.Ytjkenhkoakaaoaa
open Go.RowKit
set_option linter.unusedVariables false
theorem zig_bd8 (v : Int) (h1 : -128 ≤ v) (h2 : v ≤ 127) : 0 ≤ zig v ∧ zig v < 256 := by unfold zig; split <;> omega
theorem unz_bd8 (u : Int) (h1 : 0 ≤ u) (h2 : u < 256) : -128 ≤ unz u ∧ unz u ≤ 127 := by unfold unz; split <;> omega
theorem unzig_any (w : World) (b : Int) (h1 : -128 ≤ b) (h2 : b ≤ 127) : Calls Try.prog 35 #[.int .u64 (zig b)] w fun e w' => e = .returned (.int .i64 b) ∧ w = w' := by
  have hz := zig_bd8 b h1 h2
  have hu := unz_zig b
  obtain ⟨Z, hZ⟩ : ∃ Z, zig b = Z := ⟨_, rfl⟩
  rw [hZ] at hz hu ⊢
  have HU := Hd.mk hu
  clear hu hZ
  go_enter Try.func35, Try.ntmps35
  go_wp2_with fail
  refine (zag8_yes w Z hz.1 hz.2).mono ?_
  rintro e z ⟨rfl, rfl⟩
  rw [HU.out]
  go_wp2_with fail
  go_ret
  exact ⟨rfl, rfl⟩
set_option maxRecDepth 20000 in
set_option maxHeartbeats 4000000 in
theorem folds_walk (v y u : Int) (w : World) (hv : (Lit.int .i64 v).wf = true) (hy : (Lit.int .i64 y).wf = true) (hu : (Lit.int .u64 u).wf = true) :
    Calls Try.prog 7 #[.int .i64 v, .int .i64 y, .int .u64 u] w fun e w' => e = .returned (.bool true) ∧ Below w.heap.size w w' := by
  have h1 : -9223372036854775808 ≤ v ∧ v ≤ 9223372036854775807 := by simpa [Lit.wf, IntKind.min, IntKind.max, IntKind.signed, IntKind.bits] using hv
  have h2 : -9223372036854775808 ≤ y ∧ y ≤ 9223372036854775807 := by simpa [Lit.wf, IntKind.min, IntKind.max, IntKind.signed, IntKind.bits] using hy
  have h3 : 0 ≤ u ∧ u ≤ 18446744073709551615 := by simpa [Lit.wf, IntKind.min, IntKind.max, IntKind.signed, IntKind.bits] using hu
  clear hv hy hu
  obtain ⟨v1, v2⟩ := h1
  obtain ⟨y1, y2⟩ := h2
  obtain ⟨u1, u2⟩ := h3
  have hz := zig_bd v v1 v2
  have HZ := Hd.mk (unz_zig v)
  obtain ⟨Z, hZ⟩ : ∃ Z, zig v = Z := ⟨_, rfl⟩
  have HZ1 := Hd.mk hZ
  rw [hZ] at hz HZ
  obtain ⟨z1, z2⟩ := hz
  clear hZ
  go_enter Try.func7, Try.ntmps7
  go_wp2_with fail
  refine (zig64_any w v v1 v2).mono ?_
  rw [HZ1.out]
  rintro e z ⟨rfl, rfl⟩
  go_wp2_with fail
  refine (zag64_any w Z z1 z2).mono ?_
  rw [HZ.out]
  rintro e z ⟨rfl, rfl⟩
  go_wp2_with fail
  refine (awake_any w).mono ?_
  rintro e w1 ⟨rfl, hch⟩
  have H1 : Hd (Below w.heap.size w w1) := ⟨hch.below (Nat.le_refl _) (by simp)⟩
  clear hch
  have hfv : wrap64 (-wrap64 (v + 1)) = -(v + 1) := by unfold wrap64; omega
  have hfy : wrap64 (-wrap64 (y + 1)) = -(y + 1) := by unfold wrap64; omega
  go_wp2_with fail
  all_goals first
    | (go_at_call 17
       have hzy : Z < zig y := by have := HZ1.out; unfold zig at this ⊢; split at this <;> split <;> omega
       have hyb := zig_bd y y1 y2
       refine (zig64_any _ y y1 y2).mono ?_
       rintro e z ⟨rfl, rfl⟩
       obtain ⟨Y, hY⟩ : ∃ Y, zig y = Y := ⟨_, rfl⟩
       rw [hY] at hzy hyb ⊢
       obtain ⟨yb1, yb2⟩ := hyb
       clear hY
       go_wp2_with fail)
    | skip
  all_goals
    clear hfv hfy
    have hn := unz_bd u u1 u2
    have HQ := Hd.mk (zig_unz u u1)
    obtain ⟨q, hq⟩ : ∃ q, unz u = q := ⟨_, rfl⟩
    rw [hq] at hn HQ
    obtain ⟨n1, n2⟩ := hn
    have HQ1 := Hd.mk hq
    refine (zag64_any _ u u1 u2).mono ?_
    rw [hq]
    clear hq
    rintro e z ⟨rfl, rfl⟩
    go_wp2_with fail
    refine (zig64_any _ q n1 n2).mono ?_
    rw [HQ.out]
    rintro e z ⟨rfl, rfl⟩
    go_wp2_with fail
    by_cases h8 : u < 256
    · have hb8 := unz_bd8 u u1 h8
      rw [HQ1.out] at hb8
      obtain ⟨b1, b2⟩ := hb8
      refine (zag8_yes _ u u1 h8).mono ?_
      rw [HQ1.out]
      rintro e z ⟨rfl, rfl⟩
      go_wp2_with fail
      refine (zig8_any _ q b1 b2).mono ?_
      rw [HQ.out]
      rintro e z ⟨rfl, rfl⟩
      go_wp2_with fail
      have hb1 : -128 ≤ IntKind.i8.wrap v ∧ IntKind.i8.wrap v ≤ 127 := by rw [show IntKind.i8.wrap v = (v + 128) % 256 - 128 by simp [IntKind.wrap, IntKind.bits, IntKind.signed]; omega]; omega
      obtain ⟨b, hb⟩ : ∃ b, IntKind.i8.wrap v = b := ⟨_, rfl⟩
      rw [hb] at hb1 ⊢
      obtain ⟨c1, c2⟩ := hb1
      clear hb
      refine (zig8_any _ b c1 c2).mono ?_
      rintro e z ⟨rfl, rfl⟩
      go_wp2_with fail
      refine (unzig_any _ b c1 c2).mono ?_
      rintro e z ⟨rfl, rfl⟩
      go_wp2_with fail
      go_ret
      have hw : wrap64 b = b := by unfold wrap64; omega
      exact ⟨by simp [hw] <;> omega, H1.out⟩
    · have h8' : 256 ≤ u := by omega
      refine (zag8_no _ u h8' u2).mono ?_
      rintro e z ⟨rfl, rfl⟩
      go_wp2_with fail
      have hb1 : -128 ≤ IntKind.i8.wrap v ∧ IntKind.i8.wrap v ≤ 127 := by rw [show IntKind.i8.wrap v = (v + 128) % 256 - 128 by simp [IntKind.wrap, IntKind.bits, IntKind.signed]; omega]; omega
      obtain ⟨b, hb⟩ : ∃ b, IntKind.i8.wrap v = b := ⟨_, rfl⟩
      rw [hb] at hb1 ⊢
      obtain ⟨c1, c2⟩ := hb1
      clear hb
      refine (zig8_any _ b c1 c2).mono ?_
      rintro e z ⟨rfl, rfl⟩
      go_wp2_with fail
      refine (unzig_any _ b c1 c2).mono ?_
      rintro e z ⟨rfl, rfl⟩
      go_wp2_with fail
      go_ret
      have hw : wrap64 b = b := by unfold wrap64; omega
      exact ⟨by simp [hw] <;> omega, H1.out⟩
end Go.Proofs.Ytjkenhkoakaaoaa
