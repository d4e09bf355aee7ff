/- Contracts of the laws' back at each kind: what the reading comes to, and that it is the thing if the thing was read. (Printed by tools/backgen.py.) -/
import Derived.Test.YtjkenhkoakaaoaaPutC
import Derived.Test.YtjkenhkoakaaoaaAwake
import Derived.Deep.RegionHeld3
namespace Go.Proofs.Ytjkenhkoakaaoaa
open Go.RowKit
set_option linter.unusedVariables false
set_option linter.unusedSimpArgs false
set_option maxRecDepth 20000
def Backs {α : Type} (w : World) (gr n c : Nat) (A : Option Addr) (bs : List Nat) (r : α × Nat × Int) (a : α) (e : Ending) (w' : World) : Prop :=
  ∃ b, e = .returned (.bool b) ∧ Chg [gr] w w' ∧ Rr w' gr A n c r.2.1 r.2.2 bs ∧ (r.1 = a → b = true)
set_option maxHeartbeats 1000000 in
theorem back_0 (w : World) (gr n c at_ : Nat) (fl : Int) (A : Option Addr) (bs : List Nat) (kind U S : Int) (AB AT : Option Addr) (nB cB nT cT : Nat) (hk : I64 kind) (hU0 : 0 ≤ U) (hU1 : U ≤ 18446744073709551615) (hS0 : -9223372036854775808 ≤ S) (hS1 : S ≤ 9223372036854775807) (hj : kind % 9 = 0) (R : Rr w gr A n c at_ fl bs) :
    Calls Try.prog 61 #[.pointer (some ⟨gr, 0, none⟩), .agg #[.int .i64 kind, .int .u64 U, .int .i64 S, .slice AB nB cB, .slice AT nT cT]] w (Backs w gr n c A bs (redo (fixF bs at_ 1) 0 at_ fl) (U % 256).toNat) := by
  obtain ⟨W1, hW⟩ : ∃ W1, w.alloc (.cells #[.int .i64 kind, .int .u64 U, .int .i64 S, .slice AB nB cB, .slice AT nT cT] 98) = W1 := ⟨_, rfl⟩
  have HW := Hd.mk hW
  have H1 : Hd (Chg [gr] w W1 ∧ Rr W1 gr A n c at_ fl bs ∧ gr < w.heap.size ∧ w.heap.size < W1.heap.size) := by
    rw [← hW]
    exact ⟨(Chg.refl _ _).alloc _, R.keep' ((Chg.refl [] w).alloc _) (by simp), R.lt, by simp⟩
  have HC : Hd (W1.cell? ⟨w.heap.size, 1, none⟩ = some (.int .u64 U) ∧ W1.cell? ⟨w.heap.size, 2, none⟩ = some (.int .i64 S) ∧ W1.cell? ⟨w.heap.size, 3, none⟩ = some (.slice AB nB cB) ∧ W1.cell? ⟨w.heap.size, 4, none⟩ = some (.slice AT nT cT)) := by
    rw [← hW]; exact ⟨⟨by simp, by simp, by simp, by simp⟩⟩
  clear hW R
  go_enter Try.func61, Try.ntmps61
  go_wp2_with fail
  refine (pick_any _ kind 9 hk (by omega) (by omega)).mono ?_
  rw [hj]
  rintro e z ⟨rfl, rfl⟩
  clear hj hk
  go_wp2_with fail
  rw [HW.out]
  have hX0 : (0:Int) ≤ ((redo (fixF bs at_ 1) 0 at_ fl).1 : Int) ∧ ((redo (fixF bs at_ 1) 0 at_ fl).1 : Int) ≤ 255 := by have := fix_bd bs at_ 1 fl H1.out.2.1.lb; omega
  obtain ⟨X, hX⟩ : ∃ X : Int, ((redo (fixF bs at_ 1) 0 at_ fl).1 : Int) = X := ⟨_, rfl⟩
  have HX := Hd.mk hX
  obtain ⟨X0, X1⟩ := hX0
  rw [hX] at X0 X1
  have hc := HC.out.1
  clear hX
  go_region_held3 (fun w' => w'.cell? ⟨w.heap.size, 1, none⟩ = some (.int .u64 U))
    (first | (exact hc2) | (exact hc) | go_keep)
    ((go_at_call 85
      refine (take_uint8_any _ gr n c at_ fl A bs H1.out.2.1.drew).mono ?_
      rintro e w1 ⟨v, rfl, hch, hk, hr⟩
      unfold KT at hk
      rw [HX.out] at hk
      subst hk
      have hc2 : w1.cell? ⟨w.heap.size, 1, none⟩ = some (.int .u64 U) := (hch.cell (p := ⟨w.heap.size, 1, none⟩) H1.out.2.2.2 (by have := H1.out.2.2.1; simp; omega)).trans hc
      have H2 : Hd (Chg [gr] w w1 ∧ Rr w1 gr A n c (redo (fixF bs at_ 1) 0 at_ fl).2.1 (redo (fixF bs at_ 1) 0 at_ fl).2.2 bs) := ⟨H1.out.1.trans hch.of_drew, hr⟩
      clear hch hr))
  go_wp2_with fail
  go_ret
  refine ⟨_, rfl, H2.out.1, H2.out.2, fun h => ?_⟩
  have hx := HX.out
  rw [h] at hx
  first | (simp; done) | (simp; omega) | (simp only [IntKind.wrap_u8, IntKind.wrap_u16, IntKind.wrap_u32', beq_iff_eq]; omega)
set_option maxHeartbeats 1000000 in
theorem back_1 (w : World) (gr n c at_ : Nat) (fl : Int) (A : Option Addr) (bs : List Nat) (kind U S : Int) (AB AT : Option Addr) (nB cB nT cT : Nat) (hk : I64 kind) (hU0 : 0 ≤ U) (hU1 : U ≤ 18446744073709551615) (hS0 : -9223372036854775808 ≤ S) (hS1 : S ≤ 9223372036854775807) (hj : kind % 9 = 1) (R : Rr w gr A n c at_ fl bs) :
    Calls Try.prog 61 #[.pointer (some ⟨gr, 0, none⟩), .agg #[.int .i64 kind, .int .u64 U, .int .i64 S, .slice AB nB cB, .slice AT nT cT]] w (Backs w gr n c A bs (redo (fixF bs at_ 2) 0 at_ fl) (U % 65536).toNat) := by
  obtain ⟨W1, hW⟩ : ∃ W1, w.alloc (.cells #[.int .i64 kind, .int .u64 U, .int .i64 S, .slice AB nB cB, .slice AT nT cT] 98) = W1 := ⟨_, rfl⟩
  have HW := Hd.mk hW
  have H1 : Hd (Chg [gr] w W1 ∧ Rr W1 gr A n c at_ fl bs ∧ gr < w.heap.size ∧ w.heap.size < W1.heap.size) := by
    rw [← hW]
    exact ⟨(Chg.refl _ _).alloc _, R.keep' ((Chg.refl [] w).alloc _) (by simp), R.lt, by simp⟩
  have HC : Hd (W1.cell? ⟨w.heap.size, 1, none⟩ = some (.int .u64 U) ∧ W1.cell? ⟨w.heap.size, 2, none⟩ = some (.int .i64 S) ∧ W1.cell? ⟨w.heap.size, 3, none⟩ = some (.slice AB nB cB) ∧ W1.cell? ⟨w.heap.size, 4, none⟩ = some (.slice AT nT cT)) := by
    rw [← hW]; exact ⟨⟨by simp, by simp, by simp, by simp⟩⟩
  clear hW R
  go_enter Try.func61, Try.ntmps61
  go_wp2_with fail
  refine (pick_any _ kind 9 hk (by omega) (by omega)).mono ?_
  rw [hj]
  rintro e z ⟨rfl, rfl⟩
  clear hj hk
  go_wp2_with fail
  rw [HW.out]
  have hX0 : (0:Int) ≤ ((redo (fixF bs at_ 2) 0 at_ fl).1 : Int) ∧ ((redo (fixF bs at_ 2) 0 at_ fl).1 : Int) ≤ 65535 := by have := fix_bd bs at_ 2 fl H1.out.2.1.lb; omega
  obtain ⟨X, hX⟩ : ∃ X : Int, ((redo (fixF bs at_ 2) 0 at_ fl).1 : Int) = X := ⟨_, rfl⟩
  have HX := Hd.mk hX
  obtain ⟨X0, X1⟩ := hX0
  rw [hX] at X0 X1
  have hc := HC.out.1
  clear hX
  go_region_held3 (fun w' => w'.cell? ⟨w.heap.size, 1, none⟩ = some (.int .u64 U))
    (first | (exact hc2) | (exact hc) | go_keep)
    ((go_at_call 86
      refine (take_uint16_any _ gr n c at_ fl A bs H1.out.2.1.drew).mono ?_
      rintro e w1 ⟨v, rfl, hch, hk, hr⟩
      unfold KT at hk
      rw [HX.out] at hk
      subst hk
      have hc2 : w1.cell? ⟨w.heap.size, 1, none⟩ = some (.int .u64 U) := (hch.cell (p := ⟨w.heap.size, 1, none⟩) H1.out.2.2.2 (by have := H1.out.2.2.1; simp; omega)).trans hc
      have H2 : Hd (Chg [gr] w w1 ∧ Rr w1 gr A n c (redo (fixF bs at_ 2) 0 at_ fl).2.1 (redo (fixF bs at_ 2) 0 at_ fl).2.2 bs) := ⟨H1.out.1.trans hch.of_drew, hr⟩
      clear hch hr))
  go_wp2_with fail
  go_ret
  refine ⟨_, rfl, H2.out.1, H2.out.2, fun h => ?_⟩
  have hx := HX.out
  rw [h] at hx
  first | (simp; done) | (simp; omega) | (simp only [IntKind.wrap_u8, IntKind.wrap_u16, IntKind.wrap_u32', beq_iff_eq]; omega)
set_option maxHeartbeats 1000000 in
theorem back_2 (w : World) (gr n c at_ : Nat) (fl : Int) (A : Option Addr) (bs : List Nat) (kind U S : Int) (AB AT : Option Addr) (nB cB nT cT : Nat) (hk : I64 kind) (hU0 : 0 ≤ U) (hU1 : U ≤ 18446744073709551615) (hS0 : -9223372036854775808 ≤ S) (hS1 : S ≤ 9223372036854775807) (hj : kind % 9 = 2) (R : Rr w gr A n c at_ fl bs) :
    Calls Try.prog 61 #[.pointer (some ⟨gr, 0, none⟩), .agg #[.int .i64 kind, .int .u64 U, .int .i64 S, .slice AB nB cB, .slice AT nT cT]] w (Backs w gr n c A bs (redo (fixF bs at_ 4) 0 at_ fl) (U % 4294967296).toNat) := by
  obtain ⟨W1, hW⟩ : ∃ W1, w.alloc (.cells #[.int .i64 kind, .int .u64 U, .int .i64 S, .slice AB nB cB, .slice AT nT cT] 98) = W1 := ⟨_, rfl⟩
  have HW := Hd.mk hW
  have H1 : Hd (Chg [gr] w W1 ∧ Rr W1 gr A n c at_ fl bs ∧ gr < w.heap.size ∧ w.heap.size < W1.heap.size) := by
    rw [← hW]
    exact ⟨(Chg.refl _ _).alloc _, R.keep' ((Chg.refl [] w).alloc _) (by simp), R.lt, by simp⟩
  have HC : Hd (W1.cell? ⟨w.heap.size, 1, none⟩ = some (.int .u64 U) ∧ W1.cell? ⟨w.heap.size, 2, none⟩ = some (.int .i64 S) ∧ W1.cell? ⟨w.heap.size, 3, none⟩ = some (.slice AB nB cB) ∧ W1.cell? ⟨w.heap.size, 4, none⟩ = some (.slice AT nT cT)) := by
    rw [← hW]; exact ⟨⟨by simp, by simp, by simp, by simp⟩⟩
  clear hW R
  go_enter Try.func61, Try.ntmps61
  go_wp2_with fail
  refine (pick_any _ kind 9 hk (by omega) (by omega)).mono ?_
  rw [hj]
  rintro e z ⟨rfl, rfl⟩
  clear hj hk
  go_wp2_with fail
  rw [HW.out]
  have hX0 : (0:Int) ≤ ((redo (fixF bs at_ 4) 0 at_ fl).1 : Int) ∧ ((redo (fixF bs at_ 4) 0 at_ fl).1 : Int) ≤ 4294967295 := by have := fix_bd bs at_ 4 fl H1.out.2.1.lb; omega
  obtain ⟨X, hX⟩ : ∃ X : Int, ((redo (fixF bs at_ 4) 0 at_ fl).1 : Int) = X := ⟨_, rfl⟩
  have HX := Hd.mk hX
  obtain ⟨X0, X1⟩ := hX0
  rw [hX] at X0 X1
  have hc := HC.out.1
  clear hX
  go_region_held3 (fun w' => w'.cell? ⟨w.heap.size, 1, none⟩ = some (.int .u64 U))
    (first | (exact hc2) | (exact hc) | go_keep)
    ((go_at_call 87
      refine (take_uint32_any _ gr n c at_ fl A bs H1.out.2.1.drew).mono ?_
      rintro e w1 ⟨v, rfl, hch, hk, hr⟩
      unfold KT at hk
      rw [HX.out] at hk
      subst hk
      have hc2 : w1.cell? ⟨w.heap.size, 1, none⟩ = some (.int .u64 U) := (hch.cell (p := ⟨w.heap.size, 1, none⟩) H1.out.2.2.2 (by have := H1.out.2.2.1; simp; omega)).trans hc
      have H2 : Hd (Chg [gr] w w1 ∧ Rr w1 gr A n c (redo (fixF bs at_ 4) 0 at_ fl).2.1 (redo (fixF bs at_ 4) 0 at_ fl).2.2 bs) := ⟨H1.out.1.trans hch.of_drew, hr⟩
      clear hch hr))
  go_wp2_with fail
  go_ret
  refine ⟨_, rfl, H2.out.1, H2.out.2, fun h => ?_⟩
  have hx := HX.out
  rw [h] at hx
  first | (simp; done) | (simp; omega) | (simp only [IntKind.wrap_u8, IntKind.wrap_u16, IntKind.wrap_u32', beq_iff_eq]; omega)
set_option maxHeartbeats 1000000 in
theorem back_3 (w : World) (gr n c at_ : Nat) (fl : Int) (A : Option Addr) (bs : List Nat) (kind U S : Int) (AB AT : Option Addr) (nB cB nT cT : Nat) (hk : I64 kind) (hU0 : 0 ≤ U) (hU1 : U ≤ 18446744073709551615) (hS0 : -9223372036854775808 ≤ S) (hS1 : S ≤ 9223372036854775807) (hj : kind % 9 = 3) (R : Rr w gr A n c at_ fl bs) :
    Calls Try.prog 61 #[.pointer (some ⟨gr, 0, none⟩), .agg #[.int .i64 kind, .int .u64 U, .int .i64 S, .slice AB nB cB, .slice AT nT cT]] w (Backs w gr n c A bs (redo (fixF bs at_ 8) 0 at_ fl) (U % 18446744073709551616).toNat) := by
  obtain ⟨W1, hW⟩ : ∃ W1, w.alloc (.cells #[.int .i64 kind, .int .u64 U, .int .i64 S, .slice AB nB cB, .slice AT nT cT] 98) = W1 := ⟨_, rfl⟩
  have HW := Hd.mk hW
  have H1 : Hd (Chg [gr] w W1 ∧ Rr W1 gr A n c at_ fl bs ∧ gr < w.heap.size ∧ w.heap.size < W1.heap.size) := by
    rw [← hW]
    exact ⟨(Chg.refl _ _).alloc _, R.keep' ((Chg.refl [] w).alloc _) (by simp), R.lt, by simp⟩
  have HC : Hd (W1.cell? ⟨w.heap.size, 1, none⟩ = some (.int .u64 U) ∧ W1.cell? ⟨w.heap.size, 2, none⟩ = some (.int .i64 S) ∧ W1.cell? ⟨w.heap.size, 3, none⟩ = some (.slice AB nB cB) ∧ W1.cell? ⟨w.heap.size, 4, none⟩ = some (.slice AT nT cT)) := by
    rw [← hW]; exact ⟨⟨by simp, by simp, by simp, by simp⟩⟩
  clear hW R
  go_enter Try.func61, Try.ntmps61
  go_wp2_with fail
  refine (pick_any _ kind 9 hk (by omega) (by omega)).mono ?_
  rw [hj]
  rintro e z ⟨rfl, rfl⟩
  clear hj hk
  go_wp2_with fail
  rw [HW.out]
  have hX0 : (0:Int) ≤ ((redo (fixF bs at_ 8) 0 at_ fl).1 : Int) ∧ ((redo (fixF bs at_ 8) 0 at_ fl).1 : Int) ≤ 18446744073709551615 := by have := fix_bd bs at_ 8 fl H1.out.2.1.lb; omega
  obtain ⟨X, hX⟩ : ∃ X : Int, ((redo (fixF bs at_ 8) 0 at_ fl).1 : Int) = X := ⟨_, rfl⟩
  have HX := Hd.mk hX
  obtain ⟨X0, X1⟩ := hX0
  rw [hX] at X0 X1
  have hc := HC.out.1
  clear hX
  go_region_held3 (fun w' => w'.cell? ⟨w.heap.size, 1, none⟩ = some (.int .u64 U))
    (first | (exact hc2) | (exact hc) | go_keep)
    ((go_at_call 88
      refine (take_uint64_any _ gr n c at_ fl A bs H1.out.2.1.drew).mono ?_
      rintro e w1 ⟨v, rfl, hch, hk, hr⟩
      unfold KT at hk
      rw [HX.out] at hk
      subst hk
      have hc2 : w1.cell? ⟨w.heap.size, 1, none⟩ = some (.int .u64 U) := (hch.cell (p := ⟨w.heap.size, 1, none⟩) H1.out.2.2.2 (by have := H1.out.2.2.1; simp; omega)).trans hc
      have H2 : Hd (Chg [gr] w w1 ∧ Rr w1 gr A n c (redo (fixF bs at_ 8) 0 at_ fl).2.1 (redo (fixF bs at_ 8) 0 at_ fl).2.2 bs) := ⟨H1.out.1.trans hch.of_drew, hr⟩
      clear hch hr))
  go_wp2_with fail
  go_ret
  refine ⟨_, rfl, H2.out.1, H2.out.2, fun h => ?_⟩
  have hx := HX.out
  rw [h] at hx
  first | (simp; done) | (simp; omega) | (simp only [IntKind.wrap_u8, IntKind.wrap_u16, IntKind.wrap_u32', beq_iff_eq]; omega)
set_option maxHeartbeats 1000000 in
theorem back_4 (w : World) (gr n c at_ : Nat) (fl : Int) (A : Option Addr) (bs : List Nat) (kind U S : Int) (AB AT : Option Addr) (nB cB nT cT : Nat) (hk : I64 kind) (hU0 : 0 ≤ U) (hU1 : U ≤ 18446744073709551615) (hS0 : -9223372036854775808 ≤ S) (hS1 : S ≤ 9223372036854775807) (hj : kind % 9 = 4) (R : Rr w gr A n c at_ fl bs) :
    Calls Try.prog 61 #[.pointer (some ⟨gr, 0, none⟩), .agg #[.int .i64 kind, .int .u64 U, .int .i64 S, .slice AB nB cB, .slice AT nT cT]] w (Backs w gr n c A bs (redo (fixF bs at_ 2) 0 at_ fl) (U % 65536).toNat) := by
  obtain ⟨W1, hW⟩ : ∃ W1, w.alloc (.cells #[.int .i64 kind, .int .u64 U, .int .i64 S, .slice AB nB cB, .slice AT nT cT] 98) = W1 := ⟨_, rfl⟩
  have HW := Hd.mk hW
  have H1 : Hd (Chg [gr] w W1 ∧ Rr W1 gr A n c at_ fl bs ∧ gr < w.heap.size ∧ w.heap.size < W1.heap.size) := by
    rw [← hW]
    exact ⟨(Chg.refl _ _).alloc _, R.keep' ((Chg.refl [] w).alloc _) (by simp), R.lt, by simp⟩
  have HC : Hd (W1.cell? ⟨w.heap.size, 1, none⟩ = some (.int .u64 U) ∧ W1.cell? ⟨w.heap.size, 2, none⟩ = some (.int .i64 S) ∧ W1.cell? ⟨w.heap.size, 3, none⟩ = some (.slice AB nB cB) ∧ W1.cell? ⟨w.heap.size, 4, none⟩ = some (.slice AT nT cT)) := by
    rw [← hW]; exact ⟨⟨by simp, by simp, by simp, by simp⟩⟩
  clear hW R
  go_enter Try.func61, Try.ntmps61
  go_wp2_with fail
  refine (pick_any _ kind 9 hk (by omega) (by omega)).mono ?_
  rw [hj]
  rintro e z ⟨rfl, rfl⟩
  clear hj hk
  go_wp2_with fail
  rw [HW.out]
  have hX0 : (0:Int) ≤ ((redo (fixF bs at_ 2) 0 at_ fl).1 : Int) ∧ ((redo (fixF bs at_ 2) 0 at_ fl).1 : Int) ≤ 65535 := by have := fix_bd bs at_ 2 fl H1.out.2.1.lb; omega
  obtain ⟨X, hX⟩ : ∃ X : Int, ((redo (fixF bs at_ 2) 0 at_ fl).1 : Int) = X := ⟨_, rfl⟩
  have HX := Hd.mk hX
  obtain ⟨X0, X1⟩ := hX0
  rw [hX] at X0 X1
  have hc := HC.out.1
  clear hX
  go_region_held3 (fun w' => w'.cell? ⟨w.heap.size, 1, none⟩ = some (.int .u64 U))
    (first | (exact hc2) | (exact hc) | go_keep)
    ((go_at_call 89
      refine (take_tall_any _ gr n c at_ fl A bs H1.out.2.1.drew).mono ?_
      rintro e w1 ⟨v, rfl, hch, hk, hr⟩
      unfold KT at hk
      rw [HX.out] at hk
      subst hk
      have hc2 : w1.cell? ⟨w.heap.size, 1, none⟩ = some (.int .u64 U) := (hch.cell (p := ⟨w.heap.size, 1, none⟩) H1.out.2.2.2 (by have := H1.out.2.2.1; simp; omega)).trans hc
      have H2 : Hd (Chg [gr] w w1 ∧ Rr w1 gr A n c (redo (fixF bs at_ 2) 0 at_ fl).2.1 (redo (fixF bs at_ 2) 0 at_ fl).2.2 bs) := ⟨H1.out.1.trans hch.of_drew, hr⟩
      clear hch hr))
  go_wp2_with fail
  go_ret
  refine ⟨_, rfl, H2.out.1, H2.out.2, fun h => ?_⟩
  have hx := HX.out
  rw [h] at hx
  first | (simp; done) | (simp; omega) | (simp only [IntKind.wrap_u8, IntKind.wrap_u16, IntKind.wrap_u32', beq_iff_eq]; omega)
set_option maxHeartbeats 1000000 in
theorem back_5 (w : World) (gr n c at_ : Nat) (fl : Int) (A : Option Addr) (bs : List Nat) (kind U S : Int) (AB AT : Option Addr) (nB cB nT cT : Nat) (hk : I64 kind) (hU0 : 0 ≤ U) (hU1 : U ≤ 18446744073709551615) (hS0 : -9223372036854775808 ≤ S) (hS1 : S ≤ 9223372036854775807) (hj : kind % 9 = 5) (R : Rr w gr A n c at_ fl bs) :
    Calls Try.prog 61 #[.pointer (some ⟨gr, 0, none⟩), .agg #[.int .i64 kind, .int .u64 U, .int .i64 S, .slice AB nB cB, .slice AT nT cT]] w (Backs w gr n c A bs (redo (numF bs at_) 0 at_ fl) U.toNat) := by
  obtain ⟨W1, hW⟩ : ∃ W1, w.alloc (.cells #[.int .i64 kind, .int .u64 U, .int .i64 S, .slice AB nB cB, .slice AT nT cT] 98) = W1 := ⟨_, rfl⟩
  have HW := Hd.mk hW
  have H1 : Hd (Chg [gr] w W1 ∧ Rr W1 gr A n c at_ fl bs ∧ gr < w.heap.size ∧ w.heap.size < W1.heap.size) := by
    rw [← hW]
    exact ⟨(Chg.refl _ _).alloc _, R.keep' ((Chg.refl [] w).alloc _) (by simp), R.lt, by simp⟩
  have HC : Hd (W1.cell? ⟨w.heap.size, 1, none⟩ = some (.int .u64 U) ∧ W1.cell? ⟨w.heap.size, 2, none⟩ = some (.int .i64 S) ∧ W1.cell? ⟨w.heap.size, 3, none⟩ = some (.slice AB nB cB) ∧ W1.cell? ⟨w.heap.size, 4, none⟩ = some (.slice AT nT cT)) := by
    rw [← hW]; exact ⟨⟨by simp, by simp, by simp, by simp⟩⟩
  clear hW R
  go_enter Try.func61, Try.ntmps61
  go_wp2_with fail
  refine (pick_any _ kind 9 hk (by omega) (by omega)).mono ?_
  rw [hj]
  rintro e z ⟨rfl, rfl⟩
  clear hj hk
  go_wp2_with fail
  rw [HW.out]
  have hX0 : (0:Int) ≤ ((redo (numF bs at_) 0 at_ fl).1 : Int) ∧ ((redo (numF bs at_) 0 at_ fl).1 : Int) ≤ 18446744073709551615 := by have := num_bd bs at_ fl H1.out.2.1.lb; omega
  obtain ⟨X, hX⟩ : ∃ X : Int, ((redo (numF bs at_) 0 at_ fl).1 : Int) = X := ⟨_, rfl⟩
  have HX := Hd.mk hX
  obtain ⟨X0, X1⟩ := hX0
  rw [hX] at X0 X1
  have hc := HC.out.1
  clear hX
  go_region_held3 (fun w' => w'.cell? ⟨w.heap.size, 1, none⟩ = some (.int .u64 U))
    (first | (exact hc2) | (exact hc) | go_keep)
    ((go_at_call 49
      refine (uvarint_any _ gr n c at_ fl A bs H1.out.2.1.drew).mono ?_
      rintro e w1 ⟨v, rfl, hch, hk, hr⟩
      unfold KNum at hk
      rw [HX.out] at hk
      subst hk
      have hc2 : w1.cell? ⟨w.heap.size, 1, none⟩ = some (.int .u64 U) := (hch.cell (p := ⟨w.heap.size, 1, none⟩) H1.out.2.2.2 (by have := H1.out.2.2.1; simp; omega)).trans hc
      have H2 : Hd (Chg [gr] w w1 ∧ Rr w1 gr A n c (redo (numF bs at_) 0 at_ fl).2.1 (redo (numF bs at_) 0 at_ fl).2.2 bs) := ⟨H1.out.1.trans hch.of_drew, hr⟩
      clear hch hr))
  go_wp2_with fail
  go_ret
  refine ⟨_, rfl, H2.out.1, H2.out.2, fun h => ?_⟩
  have hx := HX.out
  rw [h] at hx
  first | (simp; done) | (simp; omega) | (simp only [IntKind.wrap_u8, IntKind.wrap_u16, IntKind.wrap_u32', beq_iff_eq]; omega)
set_option maxHeartbeats 1000000 in
theorem back_6 (w : World) (gr n c at_ : Nat) (fl : Int) (A : Option Addr) (bs : List Nat) (kind U S : Int) (AB AT : Option Addr) (nB cB nT cT : Nat) (hk : I64 kind) (hU0 : 0 ≤ U) (hU1 : U ≤ 18446744073709551615) (hS0 : -9223372036854775808 ≤ S) (hS1 : S ≤ 9223372036854775807) (hj : kind % 9 = 6) (R : Rr w gr A n c at_ fl bs) :
    Calls Try.prog 61 #[.pointer (some ⟨gr, 0, none⟩), .agg #[.int .i64 kind, .int .u64 U, .int .i64 S, .slice AB nB cB, .slice AT nT cT]] w (Backs w gr n c A bs (redo (numF bs at_) 0 at_ fl) (zig S).toNat) := by
  obtain ⟨W1, hW⟩ : ∃ W1, w.alloc (.cells #[.int .i64 kind, .int .u64 U, .int .i64 S, .slice AB nB cB, .slice AT nT cT] 98) = W1 := ⟨_, rfl⟩
  have HW := Hd.mk hW
  have H1 : Hd (Chg [gr] w W1 ∧ Rr W1 gr A n c at_ fl bs ∧ gr < w.heap.size ∧ w.heap.size < W1.heap.size) := by
    rw [← hW]
    exact ⟨(Chg.refl _ _).alloc _, R.keep' ((Chg.refl [] w).alloc _) (by simp), R.lt, by simp⟩
  have HC : Hd (W1.cell? ⟨w.heap.size, 1, none⟩ = some (.int .u64 U) ∧ W1.cell? ⟨w.heap.size, 2, none⟩ = some (.int .i64 S) ∧ W1.cell? ⟨w.heap.size, 3, none⟩ = some (.slice AB nB cB) ∧ W1.cell? ⟨w.heap.size, 4, none⟩ = some (.slice AT nT cT)) := by
    rw [← hW]; exact ⟨⟨by simp, by simp, by simp, by simp⟩⟩
  clear hW R
  go_enter Try.func61, Try.ntmps61
  go_wp2_with fail
  refine (pick_any _ kind 9 hk (by omega) (by omega)).mono ?_
  rw [hj]
  rintro e z ⟨rfl, rfl⟩
  clear hj hk
  go_wp2_with fail
  rw [HW.out]
  have hX0 := unz_bd ((redo (numF bs at_) 0 at_ fl).1 : Int) (by omega) (by have := num_bd bs at_ fl H1.out.2.1.lb; omega)
  obtain ⟨X, hX⟩ : ∃ X : Int, unz ((redo (numF bs at_) 0 at_ fl).1 : Int) = X := ⟨_, rfl⟩
  have HX := Hd.mk hX
  obtain ⟨X0, X1⟩ := hX0
  rw [hX] at X0 X1
  have hc := HC.out.2.1
  clear hX
  go_region_held3 (fun w' => w'.cell? ⟨w.heap.size, 2, none⟩ = some (.int .i64 S))
    (first | (exact hc2) | (exact hc) | go_keep)
    ((go_at_call 90
      refine (varint_any _ gr n c at_ fl A bs H1.out.2.1.drew).mono ?_
      rintro e w1 ⟨v, rfl, hch, hk, hr⟩
      unfold KZag at hk
      rw [HX.out] at hk
      subst hk
      have hc2 : w1.cell? ⟨w.heap.size, 2, none⟩ = some (.int .i64 S) := (hch.cell (p := ⟨w.heap.size, 2, none⟩) H1.out.2.2.2 (by have := H1.out.2.2.1; simp; omega)).trans hc
      have H2 : Hd (Chg [gr] w w1 ∧ Rr w1 gr A n c (redo (numF bs at_) 0 at_ fl).2.1 (redo (numF bs at_) 0 at_ fl).2.2 bs) := ⟨H1.out.1.trans hch.of_drew, hr⟩
      clear hch hr))
  go_wp2_with fail
  go_ret
  refine ⟨_, rfl, H2.out.1, H2.out.2, fun h => ?_⟩
  have hx := HX.out
  rw [h] at hx
  rw [Int.toNat_of_nonneg (zig_bd S hS0 hS1).1, unz_zig] at hx
  first | (simp; done) | (simp; omega) | (simp only [IntKind.wrap_u8, IntKind.wrap_u16, IntKind.wrap_u32', beq_iff_eq]; omega)
end Go.Proofs.Ytjkenhkoakaaoaa
