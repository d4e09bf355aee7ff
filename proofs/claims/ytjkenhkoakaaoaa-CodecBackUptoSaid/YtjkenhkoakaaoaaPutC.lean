/- Contracts of the laws' put at each kind. (Printed by tools/putcgen.py.) -/
import Derived.Test.YtjkenhkoakaaoaaAskC
import Derived.Test.YtjkenhkoakaaoaaOneForm
import Derived.Test.YtjkenhkoakaaoaaPutsR
import Derived.Deep.RegionHeld3
import Derived.Test.YtjkenhkoakaaoaaAgainC
namespace Go.Proofs.Ytjkenhkoakaaoaa
open Go.RowKit
set_option linter.unusedVariables false
set_option maxRecDepth 20000
set_option maxHeartbeats 1000000 in
theorem put_0 (w : World) (A AB AT : Option Addr) (n c nB cB nT cT B : Nat) (kind X S : Int) (all lB : List Nat) (lT : List ByteArray) (hr : Rd w B A n (cb all)) (hrB : Rd w B AB nB (cb lB)) (hrT : Rd w B AT nT (cs lT)) (hB : B ≤ w.heap.size) (hn : n + nB + nT + (tx lT).length ≤ 70368744177000) (hk : I64 kind) (hj : kind % 9 = 0) (hX0 : 0 ≤ X) (hX1 : X ≤ 18446744073709551615) :
    Calls Try.prog 60 #[.slice A n c, .agg #[.int .i64 kind, .int .u64 X, .int .i64 S, .slice AB nB cB, .slice AT nT cT]] w (PutsOut w n all (fx 1 (X % 256).toNat)) := by
  obtain ⟨W1, hW⟩ : ∃ W1, (w.alloc (.cells #[.int .i64 kind, .int .u64 X, .int .i64 S, .slice AB nB cB, .slice AT nT cT] 98)) = W1 := ⟨_, rfl⟩
  have H1 : Hd (Rd W1 W1.heap.size A n (cb all) ∧ Rd W1 W1.heap.size AB nB (cb lB) ∧ Rd W1 W1.heap.size AT nT (cs lT) ∧ Below w.heap.size w W1 ∧ n + nB + nT + (tx lT).length ≤ 70368744177000) := by
    rw [← hW]
    have hb : Below w.heap.size w (w.alloc (.cells #[.int .i64 kind, .int .u64 X, .int .i64 S, .slice AB nB cB, .slice AT nT cT] 98)) := ((Below.refl _ w).alloc (Nat.le_refl _) _)
    exact ⟨(hr.below (hb.mono hB)).more (Nat.le_trans hB hb.size), (hrB.below (hb.mono hB)).more (Nat.le_trans hB hb.size), (hrT.below (hb.mono hB)).more (Nat.le_trans hB hb.size), hb, hn⟩
  obtain ⟨v, hv⟩ : ∃ v : Nat, X % 256 = (v : Int) := ⟨(X % 256).toNat, by omega⟩
  have HV : Hd (X % 256 = (v : Int) ∧ v < 256 ∧ (X % 256).toNat = v ∧ IntKind.u8.wrap X = (v : Int)) := ⟨hv, by omega, by omega, by rw [IntKind.wrap_u8]; omega⟩
  clear hv
  have HW := Hd.mk hW
  clear hr hrB hrT hB hn hW
  go_enter Try.func60, Try.ntmps60
  go_wp2_with fail
  refine (pick_any _ kind 9 hk (by omega) (by omega)).mono ?_
  rw [hj]
  rintro e z ⟨rfl, rfl⟩
  clear hj hk
  go_wp2_with fail
  rw [HW.out]
  first | rw [HV.out.2.2.2] | rw [HV.out.1]
  refine (put_uint8 W1 A n c W1.heap.size v all H1.out.1 HV.out.2.1 (by have := H1.out.2.2.2.2; omega) (Nat.le_refl _)).mono ?_
  rintro e w2 ⟨v2, rfl, hO⟩
  have H2 : Hd (Onto w w2 w.heap.size 5 (.slice none 0 0) v2 (n + (fx 1 (X % 256).toNat).length) (cb (all ++ (fx 1 (X % 256).toNat)))) := ⟨by
    have h := onto_fresh w H1.out.2.2.2.1 hO
    rw [HV.out.2.2.1, fx_len]; exact h⟩
  clear hO
  go_wp2_with fail
  go_ret
  exact ⟨v2, rfl, H2.out⟩
set_option maxHeartbeats 1000000 in
theorem put_1 (w : World) (A AB AT : Option Addr) (n c nB cB nT cT B : Nat) (kind X S : Int) (all lB : List Nat) (lT : List ByteArray) (hr : Rd w B A n (cb all)) (hrB : Rd w B AB nB (cb lB)) (hrT : Rd w B AT nT (cs lT)) (hB : B ≤ w.heap.size) (hn : n + nB + nT + (tx lT).length ≤ 70368744177000) (hk : I64 kind) (hj : kind % 9 = 1) (hX0 : 0 ≤ X) (hX1 : X ≤ 18446744073709551615) :
    Calls Try.prog 60 #[.slice A n c, .agg #[.int .i64 kind, .int .u64 X, .int .i64 S, .slice AB nB cB, .slice AT nT cT]] w (PutsOut w n all (fx 2 (X % 65536).toNat)) := by
  obtain ⟨W1, hW⟩ : ∃ W1, (w.alloc (.cells #[.int .i64 kind, .int .u64 X, .int .i64 S, .slice AB nB cB, .slice AT nT cT] 98)) = W1 := ⟨_, rfl⟩
  have H1 : Hd (Rd W1 W1.heap.size A n (cb all) ∧ Rd W1 W1.heap.size AB nB (cb lB) ∧ Rd W1 W1.heap.size AT nT (cs lT) ∧ Below w.heap.size w W1 ∧ n + nB + nT + (tx lT).length ≤ 70368744177000) := by
    rw [← hW]
    have hb : Below w.heap.size w (w.alloc (.cells #[.int .i64 kind, .int .u64 X, .int .i64 S, .slice AB nB cB, .slice AT nT cT] 98)) := ((Below.refl _ w).alloc (Nat.le_refl _) _)
    exact ⟨(hr.below (hb.mono hB)).more (Nat.le_trans hB hb.size), (hrB.below (hb.mono hB)).more (Nat.le_trans hB hb.size), (hrT.below (hb.mono hB)).more (Nat.le_trans hB hb.size), hb, hn⟩
  obtain ⟨v, hv⟩ : ∃ v : Nat, X % 65536 = (v : Int) := ⟨(X % 65536).toNat, by omega⟩
  have HV : Hd (X % 65536 = (v : Int) ∧ v < 65536 ∧ (X % 65536).toNat = v ∧ IntKind.u16.wrap X = (v : Int)) := ⟨hv, by omega, by omega, by rw [IntKind.wrap_u16]; omega⟩
  clear hv
  have HW := Hd.mk hW
  clear hr hrB hrT hB hn hW
  go_enter Try.func60, Try.ntmps60
  go_wp2_with fail
  refine (pick_any _ kind 9 hk (by omega) (by omega)).mono ?_
  rw [hj]
  rintro e z ⟨rfl, rfl⟩
  clear hj hk
  go_wp2_with fail
  rw [HW.out]
  first | rw [HV.out.2.2.2] | rw [HV.out.1]
  refine (put_uint16 W1 A n c W1.heap.size v all H1.out.1 HV.out.2.1 (by have := H1.out.2.2.2.2; omega) (Nat.le_refl _)).mono ?_
  rintro e w2 ⟨v2, rfl, hO⟩
  have H2 : Hd (Onto w w2 w.heap.size 5 (.slice none 0 0) v2 (n + (fx 2 (X % 65536).toNat).length) (cb (all ++ (fx 2 (X % 65536).toNat)))) := ⟨by
    have h := onto_fresh w H1.out.2.2.2.1 hO
    rw [HV.out.2.2.1, fx_len]; exact h⟩
  clear hO
  go_wp2_with fail
  go_ret
  exact ⟨v2, rfl, H2.out⟩
set_option maxHeartbeats 1000000 in
theorem put_2 (w : World) (A AB AT : Option Addr) (n c nB cB nT cT B : Nat) (kind X S : Int) (all lB : List Nat) (lT : List ByteArray) (hr : Rd w B A n (cb all)) (hrB : Rd w B AB nB (cb lB)) (hrT : Rd w B AT nT (cs lT)) (hB : B ≤ w.heap.size) (hn : n + nB + nT + (tx lT).length ≤ 70368744177000) (hk : I64 kind) (hj : kind % 9 = 2) (hX0 : 0 ≤ X) (hX1 : X ≤ 18446744073709551615) :
    Calls Try.prog 60 #[.slice A n c, .agg #[.int .i64 kind, .int .u64 X, .int .i64 S, .slice AB nB cB, .slice AT nT cT]] w (PutsOut w n all (fx 4 (X % 4294967296).toNat)) := by
  obtain ⟨W1, hW⟩ : ∃ W1, (w.alloc (.cells #[.int .i64 kind, .int .u64 X, .int .i64 S, .slice AB nB cB, .slice AT nT cT] 98)) = W1 := ⟨_, rfl⟩
  have H1 : Hd (Rd W1 W1.heap.size A n (cb all) ∧ Rd W1 W1.heap.size AB nB (cb lB) ∧ Rd W1 W1.heap.size AT nT (cs lT) ∧ Below w.heap.size w W1 ∧ n + nB + nT + (tx lT).length ≤ 70368744177000) := by
    rw [← hW]
    have hb : Below w.heap.size w (w.alloc (.cells #[.int .i64 kind, .int .u64 X, .int .i64 S, .slice AB nB cB, .slice AT nT cT] 98)) := ((Below.refl _ w).alloc (Nat.le_refl _) _)
    exact ⟨(hr.below (hb.mono hB)).more (Nat.le_trans hB hb.size), (hrB.below (hb.mono hB)).more (Nat.le_trans hB hb.size), (hrT.below (hb.mono hB)).more (Nat.le_trans hB hb.size), hb, hn⟩
  obtain ⟨v, hv⟩ : ∃ v : Nat, X % 4294967296 = (v : Int) := ⟨(X % 4294967296).toNat, by omega⟩
  have HV : Hd (X % 4294967296 = (v : Int) ∧ v < 4294967296 ∧ (X % 4294967296).toNat = v ∧ IntKind.u32.wrap X = (v : Int)) := ⟨hv, by omega, by omega, by rw [IntKind.wrap_u32]; omega⟩
  clear hv
  have HW := Hd.mk hW
  clear hr hrB hrT hB hn hW
  go_enter Try.func60, Try.ntmps60
  go_wp2_with fail
  refine (pick_any _ kind 9 hk (by omega) (by omega)).mono ?_
  rw [hj]
  rintro e z ⟨rfl, rfl⟩
  clear hj hk
  go_wp2_with fail
  rw [HW.out]
  first | rw [HV.out.2.2.2] | rw [HV.out.1]
  refine (put_uint32 W1 A n c W1.heap.size v all H1.out.1 HV.out.2.1 (by have := H1.out.2.2.2.2; omega) (Nat.le_refl _)).mono ?_
  rintro e w2 ⟨v2, rfl, hO⟩
  have H2 : Hd (Onto w w2 w.heap.size 5 (.slice none 0 0) v2 (n + (fx 4 (X % 4294967296).toNat).length) (cb (all ++ (fx 4 (X % 4294967296).toNat)))) := ⟨by
    have h := onto_fresh w H1.out.2.2.2.1 hO
    rw [HV.out.2.2.1, fx_len]; exact h⟩
  clear hO
  go_wp2_with fail
  go_ret
  exact ⟨v2, rfl, H2.out⟩
set_option maxHeartbeats 1000000 in
theorem put_3 (w : World) (A AB AT : Option Addr) (n c nB cB nT cT B : Nat) (kind X S : Int) (all lB : List Nat) (lT : List ByteArray) (hr : Rd w B A n (cb all)) (hrB : Rd w B AB nB (cb lB)) (hrT : Rd w B AT nT (cs lT)) (hB : B ≤ w.heap.size) (hn : n + nB + nT + (tx lT).length ≤ 70368744177000) (hk : I64 kind) (hj : kind % 9 = 3) (hX0 : 0 ≤ X) (hX1 : X ≤ 18446744073709551615) :
    Calls Try.prog 60 #[.slice A n c, .agg #[.int .i64 kind, .int .u64 X, .int .i64 S, .slice AB nB cB, .slice AT nT cT]] w (PutsOut w n all (fx 8 (X % 18446744073709551616).toNat)) := by
  obtain ⟨W1, hW⟩ : ∃ W1, (w.alloc (.cells #[.int .i64 kind, .int .u64 X, .int .i64 S, .slice AB nB cB, .slice AT nT cT] 98)) = W1 := ⟨_, rfl⟩
  have H1 : Hd (Rd W1 W1.heap.size A n (cb all) ∧ Rd W1 W1.heap.size AB nB (cb lB) ∧ Rd W1 W1.heap.size AT nT (cs lT) ∧ Below w.heap.size w W1 ∧ n + nB + nT + (tx lT).length ≤ 70368744177000) := by
    rw [← hW]
    have hb : Below w.heap.size w (w.alloc (.cells #[.int .i64 kind, .int .u64 X, .int .i64 S, .slice AB nB cB, .slice AT nT cT] 98)) := ((Below.refl _ w).alloc (Nat.le_refl _) _)
    exact ⟨(hr.below (hb.mono hB)).more (Nat.le_trans hB hb.size), (hrB.below (hb.mono hB)).more (Nat.le_trans hB hb.size), (hrT.below (hb.mono hB)).more (Nat.le_trans hB hb.size), hb, hn⟩
  obtain ⟨v, hv⟩ : ∃ v : Nat, X % 18446744073709551616 = (v : Int) := ⟨(X % 18446744073709551616).toNat, by omega⟩
  have HV : Hd (X % 18446744073709551616 = (v : Int) ∧ v < 18446744073709551616 ∧ (X % 18446744073709551616).toNat = v ∧ IntKind.u64.wrap X = (v : Int)) := ⟨hv, by omega, by omega, by rw [IntKind.wrap_u64]; omega⟩
  clear hv
  have HW := Hd.mk hW
  clear hr hrB hrT hB hn hW
  go_enter Try.func60, Try.ntmps60
  go_wp2_with fail
  refine (pick_any _ kind 9 hk (by omega) (by omega)).mono ?_
  rw [hj]
  rintro e z ⟨rfl, rfl⟩
  clear hj hk
  go_wp2_with fail
  rw [HW.out]
  rw [show X = (v : Int) from by have := HV.out.1; omega]
  refine (put_uint64 W1 A n c W1.heap.size v all H1.out.1 HV.out.2.1 (by have := H1.out.2.2.2.2; omega) (Nat.le_refl _)).mono ?_
  rintro e w2 ⟨v2, rfl, hO⟩
  have H2 : Hd (Onto w w2 w.heap.size 5 (.slice none 0 0) v2 (n + (fx 8 (X % 18446744073709551616).toNat).length) (cb (all ++ (fx 8 (X % 18446744073709551616).toNat)))) := ⟨by
    have h := onto_fresh w H1.out.2.2.2.1 hO
    rw [HV.out.2.2.1, fx_len]; exact h⟩
  clear hO
  go_wp2_with fail
  go_ret
  exact ⟨v2, rfl, H2.out⟩
set_option maxHeartbeats 1000000 in
theorem put_4 (w : World) (A AB AT : Option Addr) (n c nB cB nT cT B : Nat) (kind X S : Int) (all lB : List Nat) (lT : List ByteArray) (hr : Rd w B A n (cb all)) (hrB : Rd w B AB nB (cb lB)) (hrT : Rd w B AT nT (cs lT)) (hB : B ≤ w.heap.size) (hn : n + nB + nT + (tx lT).length ≤ 70368744177000) (hk : I64 kind) (hj : kind % 9 = 4) (hX0 : 0 ≤ X) (hX1 : X ≤ 18446744073709551615) :
    Calls Try.prog 60 #[.slice A n c, .agg #[.int .i64 kind, .int .u64 X, .int .i64 S, .slice AB nB cB, .slice AT nT cT]] w (PutsOut w n all (fx 2 (X % 65536).toNat)) := by
  obtain ⟨W1, hW⟩ : ∃ W1, (w.alloc (.cells #[.int .i64 kind, .int .u64 X, .int .i64 S, .slice AB nB cB, .slice AT nT cT] 98)) = W1 := ⟨_, rfl⟩
  have H1 : Hd (Rd W1 W1.heap.size A n (cb all) ∧ Rd W1 W1.heap.size AB nB (cb lB) ∧ Rd W1 W1.heap.size AT nT (cs lT) ∧ Below w.heap.size w W1 ∧ n + nB + nT + (tx lT).length ≤ 70368744177000) := by
    rw [← hW]
    have hb : Below w.heap.size w (w.alloc (.cells #[.int .i64 kind, .int .u64 X, .int .i64 S, .slice AB nB cB, .slice AT nT cT] 98)) := ((Below.refl _ w).alloc (Nat.le_refl _) _)
    exact ⟨(hr.below (hb.mono hB)).more (Nat.le_trans hB hb.size), (hrB.below (hb.mono hB)).more (Nat.le_trans hB hb.size), (hrT.below (hb.mono hB)).more (Nat.le_trans hB hb.size), hb, hn⟩
  obtain ⟨v, hv⟩ : ∃ v : Nat, X % 65536 = (v : Int) := ⟨(X % 65536).toNat, by omega⟩
  have HV : Hd (X % 65536 = (v : Int) ∧ v < 65536 ∧ (X % 65536).toNat = v ∧ IntKind.u16.wrap X = (v : Int)) := ⟨hv, by omega, by omega, by rw [IntKind.wrap_u16]; omega⟩
  clear hv
  have HW := Hd.mk hW
  clear hr hrB hrT hB hn hW
  go_enter Try.func60, Try.ntmps60
  go_wp2_with fail
  refine (pick_any _ kind 9 hk (by omega) (by omega)).mono ?_
  rw [hj]
  rintro e z ⟨rfl, rfl⟩
  clear hj hk
  go_wp2_with fail
  rw [HW.out]
  first | rw [HV.out.2.2.2] | rw [HV.out.1]
  refine (put_tall W1 A n c W1.heap.size v all H1.out.1 HV.out.2.1 (by have := H1.out.2.2.2.2; omega) (Nat.le_refl _)).mono ?_
  rintro e w2 ⟨v2, rfl, hO⟩
  have H2 : Hd (Onto w w2 w.heap.size 5 (.slice none 0 0) v2 (n + (fx 2 (X % 65536).toNat).length) (cb (all ++ (fx 2 (X % 65536).toNat)))) := ⟨by
    have h := onto_fresh w H1.out.2.2.2.1 hO
    rw [HV.out.2.2.1, fx_len]; exact h⟩
  clear hO
  go_wp2_with fail
  go_ret
  exact ⟨v2, rfl, H2.out⟩
set_option maxHeartbeats 1000000 in
theorem put_5 (w : World) (A AB AT : Option Addr) (n c nB cB nT cT B : Nat) (kind X S : Int) (all lB : List Nat) (lT : List ByteArray) (hr : Rd w B A n (cb all)) (hrB : Rd w B AB nB (cb lB)) (hrT : Rd w B AT nT (cs lT)) (hB : B ≤ w.heap.size) (hn : n + nB + nT + (tx lT).length ≤ 70368744177000) (hk : I64 kind) (hj : kind % 9 = 5) (hX0 : 0 ≤ X) (hX1 : X ≤ 18446744073709551615) :
    Calls Try.prog 60 #[.slice A n c, .agg #[.int .i64 kind, .int .u64 X, .int .i64 S, .slice AB nB cB, .slice AT nT cT]] w (PutsOut w n all (uv X.toNat)) := by
  obtain ⟨W1, hW⟩ : ∃ W1, (w.alloc (.cells #[.int .i64 kind, .int .u64 X, .int .i64 S, .slice AB nB cB, .slice AT nT cT] 98)) = W1 := ⟨_, rfl⟩
  have H1 : Hd (Rd W1 W1.heap.size A n (cb all) ∧ Rd W1 W1.heap.size AB nB (cb lB) ∧ Rd W1 W1.heap.size AT nT (cs lT) ∧ Below w.heap.size w W1 ∧ n + nB + nT + (tx lT).length ≤ 70368744177000) := by
    rw [← hW]
    have hb : Below w.heap.size w (w.alloc (.cells #[.int .i64 kind, .int .u64 X, .int .i64 S, .slice AB nB cB, .slice AT nT cT] 98)) := ((Below.refl _ w).alloc (Nat.le_refl _) _)
    exact ⟨(hr.below (hb.mono hB)).more (Nat.le_trans hB hb.size), (hrB.below (hb.mono hB)).more (Nat.le_trans hB hb.size), (hrT.below (hb.mono hB)).more (Nat.le_trans hB hb.size), hb, hn⟩
  obtain ⟨v, hv⟩ : ∃ v : Nat, X = (v : Int) := ⟨X.toNat, by omega⟩
  have HV : Hd (X = (v : Int) ∧ v < 2 ^ 64 ∧ X.toNat = v) := ⟨hv, by omega, by omega⟩
  clear hv
  have HW := Hd.mk hW
  clear hr hrB hrT hB hn hW
  go_enter Try.func60, Try.ntmps60
  go_wp2_with fail
  refine (pick_any _ kind 9 hk (by omega) (by omega)).mono ?_
  rw [hj]
  rintro e z ⟨rfl, rfl⟩
  clear hj hk
  go_wp2_with fail
  rw [HW.out]
  rw [HV.out.1]
  refine (putUvarint_any W1 A n c W1.heap.size v all H1.out.1 HV.out.2.1 (by have := H1.out.2.2.2.2; omega) (Nat.le_refl _)).mono ?_
  rintro e w2 ⟨v2, rfl, hO⟩
  have H2 : Hd (Onto w w2 w.heap.size 5 (.slice none 0 0) v2 (n + (uv X.toNat).length) (cb (all ++ (uv X.toNat)))) := ⟨by
    have h := onto_fresh w H1.out.2.2.2.1 hO
    rw [HV.out.2.2]; exact h⟩
  clear hO
  go_wp2_with fail
  go_ret
  exact ⟨v2, rfl, H2.out⟩
set_option maxHeartbeats 1000000 in
theorem put_6 (w : World) (A AB AT : Option Addr) (n c nB cB nT cT B : Nat) (kind X S : Int) (all lB : List Nat) (lT : List ByteArray) (hr : Rd w B A n (cb all)) (hrB : Rd w B AB nB (cb lB)) (hrT : Rd w B AT nT (cs lT)) (hB : B ≤ w.heap.size) (hn : n + nB + nT + (tx lT).length ≤ 70368744177000) (hk : I64 kind) (hj : kind % 9 = 6) (hV0 : -9223372036854775808 ≤ S) (hV1 : S ≤ 9223372036854775807) :
    Calls Try.prog 60 #[.slice A n c, .agg #[.int .i64 kind, .int .u64 X, .int .i64 S, .slice AB nB cB, .slice AT nT cT]] w (PutsOut w n all (uv (zig S).toNat)) := by
  obtain ⟨W1, hW⟩ : ∃ W1, (w.alloc (.cells #[.int .i64 kind, .int .u64 X, .int .i64 S, .slice AB nB cB, .slice AT nT cT] 98)) = W1 := ⟨_, rfl⟩
  have H1 : Hd (Rd W1 W1.heap.size A n (cb all) ∧ Rd W1 W1.heap.size AB nB (cb lB) ∧ Rd W1 W1.heap.size AT nT (cs lT) ∧ Below w.heap.size w W1 ∧ n + nB + nT + (tx lT).length ≤ 70368744177000) := by
    rw [← hW]
    have hb : Below w.heap.size w (w.alloc (.cells #[.int .i64 kind, .int .u64 X, .int .i64 S, .slice AB nB cB, .slice AT nT cT] 98)) := ((Below.refl _ w).alloc (Nat.le_refl _) _)
    exact ⟨(hr.below (hb.mono hB)).more (Nat.le_trans hB hb.size), (hrB.below (hb.mono hB)).more (Nat.le_trans hB hb.size), (hrT.below (hb.mono hB)).more (Nat.le_trans hB hb.size), hb, hn⟩
  have hzz := zig_bd S hV0 hV1
  have HV : Hd (zig S = (((zig S).toNat : Nat) : Int) ∧ (zig S).toNat < 2 ^ 64) := ⟨by omega, by omega⟩
  clear hzz
  have HW := Hd.mk hW
  clear hr hrB hrT hB hn hW
  go_enter Try.func60, Try.ntmps60
  go_wp2_with fail
  refine (pick_any _ kind 9 hk (by omega) (by omega)).mono ?_
  rw [hj]
  rintro e z ⟨rfl, rfl⟩
  clear hj hk
  go_wp2_with fail
  rw [HW.out]
  refine (putVarint_any W1 A n c W1.heap.size (zig S).toNat S all H1.out.1 hV0 hV1 (by have := H1.out.2.2.2.2; omega) (Nat.le_refl _) HV.out.1 HV.out.2).mono ?_
  rintro e w2 ⟨v2, rfl, hO⟩
  have H2 : Hd (Onto w w2 w.heap.size 5 (.slice none 0 0) v2 (n + (uv (zig S).toNat).length) (cb (all ++ (uv (zig S).toNat)))) := ⟨by
    have h := onto_fresh w H1.out.2.2.2.1 hO
    exact h⟩
  clear hO
  go_wp2_with fail
  go_ret
  exact ⟨v2, rfl, H2.out⟩
set_option maxHeartbeats 1000000 in
theorem put_7 (w : World) (A AB AT : Option Addr) (n c nB cB nT cT B : Nat) (kind X S : Int) (all lB : List Nat) (lT : List ByteArray) (hr : Rd w B A n (cb all)) (hrB : Rd w B AB nB (cb lB)) (hrT : Rd w B AT nT (cs lT)) (hB : B ≤ w.heap.size) (hn : n + nB + nT + (tx lT).length ≤ 70368744177000) (hk : I64 kind) (hj : kind % 9 = 7)  :
    Calls Try.prog 60 #[.slice A n c, .agg #[.int .i64 kind, .int .u64 X, .int .i64 S, .slice AB nB cB, .slice AT nT cT]] w (PutsOut w n all (uv nB ++ lB)) := by
  obtain ⟨W1, hW⟩ : ∃ W1, (w.alloc (.cells #[.int .i64 kind, .int .u64 X, .int .i64 S, .slice AB nB cB, .slice AT nT cT] 98)) = W1 := ⟨_, rfl⟩
  have H1 : Hd (Rd W1 W1.heap.size A n (cb all) ∧ Rd W1 W1.heap.size AB nB (cb lB) ∧ Rd W1 W1.heap.size AT nT (cs lT) ∧ Below w.heap.size w W1 ∧ n + nB + nT + (tx lT).length ≤ 70368744177000) := by
    rw [← hW]
    have hb : Below w.heap.size w (w.alloc (.cells #[.int .i64 kind, .int .u64 X, .int .i64 S, .slice AB nB cB, .slice AT nT cT] 98)) := ((Below.refl _ w).alloc (Nat.le_refl _) _)
    exact ⟨(hr.below (hb.mono hB)).more (Nat.le_trans hB hb.size), (hrB.below (hb.mono hB)).more (Nat.le_trans hB hb.size), (hrT.below (hb.mono hB)).more (Nat.le_trans hB hb.size), hb, hn⟩
  have HL : Hd (lB.length = nB) := ⟨by have := hrB.1; rwa [cb_length] at this⟩
  have HW := Hd.mk hW
  clear hr hrB hrT hB hn hW
  go_enter Try.func60, Try.ntmps60
  go_wp2_with fail
  refine (pick_any _ kind 9 hk (by omega) (by omega)).mono ?_
  rw [hj]
  rintro e z ⟨rfl, rfl⟩
  clear hj hk
  go_wp2_with fail
  rw [HW.out]
  refine (putBytes_any W1 A AB n c nB cB W1.heap.size all lB H1.out.1 H1.out.2.1 (by have := H1.out.2.2.2.2; omega) (Nat.le_refl _)).mono ?_
  rintro e w2 ⟨v2, rfl, hO⟩
  have H2 : Hd (Onto w w2 w.heap.size 5 (.slice none 0 0) v2 (n + (uv nB ++ lB).length) (cb (all ++ (uv nB ++ lB)))) := ⟨by
    have h := onto_fresh w H1.out.2.2.2.1 hO
    rw [List.length_append, HL.out, ← Nat.add_assoc, ← List.append_assoc]; exact h⟩
  clear hO
  go_wp2_with fail
  go_ret
  exact ⟨v2, rfl, H2.out⟩
set_option maxHeartbeats 1000000 in
theorem put_8 (w : World) (A AB AT : Option Addr) (n c nB cB nT cT B : Nat) (kind X S : Int) (all lB : List Nat) (lT : List ByteArray) (hr : Rd w B A n (cb all)) (hrB : Rd w B AB nB (cb lB)) (hrT : Rd w B AT nT (cs lT)) (hB : B ≤ w.heap.size) (hn : n + nB + nT + (tx lT).length ≤ 70368744177000) (hk : I64 kind) (hj : kind % 9 = 8)  :
    Calls Try.prog 60 #[.slice A n c, .agg #[.int .i64 kind, .int .u64 X, .int .i64 S, .slice AB nB cB, .slice AT nT cT]] w (PutsOut w n all (uv nT ++ tx lT)) := by
  obtain ⟨W1, hW⟩ : ∃ W1, (w.alloc (.cells #[.int .i64 kind, .int .u64 X, .int .i64 S, .slice AB nB cB, .slice AT nT cT] 98)) = W1 := ⟨_, rfl⟩
  have H1 : Hd (Rd W1 W1.heap.size A n (cb all) ∧ Rd W1 W1.heap.size AB nB (cb lB) ∧ Rd W1 W1.heap.size AT nT (cs lT) ∧ Below w.heap.size w W1 ∧ n + nB + nT + (tx lT).length ≤ 70368744177000) := by
    rw [← hW]
    have hb : Below w.heap.size w (w.alloc (.cells #[.int .i64 kind, .int .u64 X, .int .i64 S, .slice AB nB cB, .slice AT nT cT] 98)) := ((Below.refl _ w).alloc (Nat.le_refl _) _)
    exact ⟨(hr.below (hb.mono hB)).more (Nat.le_trans hB hb.size), (hrB.below (hb.mono hB)).more (Nat.le_trans hB hb.size), (hrT.below (hb.mono hB)).more (Nat.le_trans hB hb.size), hb, hn⟩
  have HW := Hd.mk hW
  clear hr hrB hrT hB hn hW
  go_enter Try.func60, Try.ntmps60
  go_wp2_with fail
  refine (pick_any _ kind 9 hk (by omega) (by omega)).mono ?_
  rw [hj]
  rintro e z ⟨rfl, rfl⟩
  clear hj hk
  go_wp2_with fail
  rw [HW.out]
  refine (putTexts_any W1 A AT n c nT cT W1.heap.size all lT H1.out.1 H1.out.2.2.1 (by have := H1.out.2.2.2.2; omega) (by have := H1.out.2.2.2.2; omega) (Nat.le_refl _)).mono ?_
  rintro e w2 ⟨v2, rfl, hO⟩
  have H2 : Hd (Onto w w2 w.heap.size 5 (.slice none 0 0) v2 (n + (uv nT ++ tx lT).length) (cb (all ++ (uv nT ++ tx lT)))) := ⟨by
    have h := onto_fresh w H1.out.2.2.2.1 hO
    rw [List.length_append, ← Nat.add_assoc, ← List.append_assoc]; exact h⟩
  clear hO
  go_wp2_with fail
  go_ret
  exact ⟨v2, rfl, H2.out⟩
end Go.Proofs.Ytjkenhkoakaaoaa
