/- Contracts of the laws' again at each kind. (Printed by tools/putcgen.py.) -/
import Derived.Test.YtjkenhkoakaaoaaAskC
import Derived.Test.YtjkenhkoakaaoaaOneForm
import Derived.Test.YtjkenhkoakaaoaaPutsR
import Derived.Deep.RegionHeld3
namespace Go.Proofs.Ytjkenhkoakaaoaa
open Go.RowKit
set_option linter.unusedVariables false
set_option maxRecDepth 20000
/-- What is put behind bytes. -/
def PutsOut (w : World) (n : Nat) (all out : List Nat) (e : Ending) (w' : World) : Prop := ∃ v', e = .returned v' ∧ Onto w w' w.heap.size 5 (.slice none 0 0) v' (n + out.length) (cb (all ++ out))
set_option maxHeartbeats 1000000 in
theorem again_0 (w : World) (A AB AT : Option Addr) (n c nB cB nT cT B : Nat) (who kind N E X : Int) (all lB : List Nat) (lT : List ByteArray) (hr : Rd w B A n (cb all)) (hrB : Rd w B AB nB (cb lB)) (hrT : Rd w B AT nT (cs lT)) (hB : B ≤ w.heap.size) (hn : n + nB + nT + (tx lT).length ≤ 70368744177000) (hk : I64 kind) (hj : kind % 10 = 0) (hX0 : 0 ≤ X) (hX1 : X ≤ 255) :
    Calls Try.prog 62 #[.slice A n c, .agg #[.int .i64 who, .int .i64 kind, .int .i64 N, .int .i64 E], .agg #[.int .u64 X, .slice AB nB cB, .slice AT nT cT]] w (PutsOut w n all (fx 1 X.toNat)) := by
  obtain ⟨W1, hW⟩ : ∃ W1, ((w.alloc (.cells #[.int .i64 who, .int .i64 kind, .int .i64 N, .int .i64 E] 70)).alloc (.cells #[.int .u64 X, .slice AB nB cB, .slice AT nT cT] 72)) = W1 := ⟨_, rfl⟩
  have H1 : Hd (Rd W1 W1.heap.size A n (cb all) ∧ Rd W1 W1.heap.size AB nB (cb lB) ∧ Rd W1 W1.heap.size AT nT (cs lT) ∧ Below w.heap.size w W1 ∧ n + nB + nT + (tx lT).length ≤ 70368744177000) := by
    rw [← hW]
    have hb : Below w.heap.size w ((w.alloc (.cells #[.int .i64 who, .int .i64 kind, .int .i64 N, .int .i64 E] 70)).alloc (.cells #[.int .u64 X, .slice AB nB cB, .slice AT nT cT] 72)) := (((Below.refl _ w).alloc (Nat.le_refl _) _).alloc (by simp) _)
    exact ⟨(hr.below (hb.mono hB)).more (Nat.le_trans hB hb.size), (hrB.below (hb.mono hB)).more (Nat.le_trans hB hb.size), (hrT.below (hb.mono hB)).more (Nat.le_trans hB hb.size), hb, hn⟩
  obtain ⟨v, hv⟩ : ∃ v : Nat, X = (v : Int) := ⟨X.toNat, by omega⟩
  have HV : Hd (X = (v : Int) ∧ v < 256 ∧ X.toNat = v) := ⟨hv, by omega, by omega⟩
  clear hv
  have HW := Hd.mk hW
  clear hr hrB hrT hB hn hW
  go_enter Try.func62, Try.ntmps62
  go_wp2_with fail
  refine (pick_any _ kind 10 hk (by omega) (by omega)).mono ?_
  rw [hj]
  rintro e z ⟨rfl, rfl⟩
  clear hj hk
  go_wp2_with fail
  rw [HW.out]
  rw [HV.out.1]
  refine (put_uint8 W1 A n c W1.heap.size v all H1.out.1 HV.out.2.1 (by have := H1.out.2.2.2.2; omega) (Nat.le_refl _)).mono ?_
  rintro e w2 ⟨v2, rfl, hO⟩
  have H2 : Hd (Onto w w2 w.heap.size 5 (.slice none 0 0) v2 (n + (fx 1 X.toNat).length) (cb (all ++ (fx 1 X.toNat)))) := ⟨by
    have h := onto_fresh w H1.out.2.2.2.1 hO
    rw [HV.out.2.2, fx_len]; exact h⟩
  clear hO
  go_wp2_with fail
  go_ret
  exact ⟨v2, rfl, H2.out⟩
set_option maxHeartbeats 1000000 in
theorem again_1 (w : World) (A AB AT : Option Addr) (n c nB cB nT cT B : Nat) (who kind N E X : Int) (all lB : List Nat) (lT : List ByteArray) (hr : Rd w B A n (cb all)) (hrB : Rd w B AB nB (cb lB)) (hrT : Rd w B AT nT (cs lT)) (hB : B ≤ w.heap.size) (hn : n + nB + nT + (tx lT).length ≤ 70368744177000) (hk : I64 kind) (hj : kind % 10 = 1) (hX0 : 0 ≤ X) (hX1 : X ≤ 65535) :
    Calls Try.prog 62 #[.slice A n c, .agg #[.int .i64 who, .int .i64 kind, .int .i64 N, .int .i64 E], .agg #[.int .u64 X, .slice AB nB cB, .slice AT nT cT]] w (PutsOut w n all (fx 2 X.toNat)) := by
  obtain ⟨W1, hW⟩ : ∃ W1, ((w.alloc (.cells #[.int .i64 who, .int .i64 kind, .int .i64 N, .int .i64 E] 70)).alloc (.cells #[.int .u64 X, .slice AB nB cB, .slice AT nT cT] 72)) = W1 := ⟨_, rfl⟩
  have H1 : Hd (Rd W1 W1.heap.size A n (cb all) ∧ Rd W1 W1.heap.size AB nB (cb lB) ∧ Rd W1 W1.heap.size AT nT (cs lT) ∧ Below w.heap.size w W1 ∧ n + nB + nT + (tx lT).length ≤ 70368744177000) := by
    rw [← hW]
    have hb : Below w.heap.size w ((w.alloc (.cells #[.int .i64 who, .int .i64 kind, .int .i64 N, .int .i64 E] 70)).alloc (.cells #[.int .u64 X, .slice AB nB cB, .slice AT nT cT] 72)) := (((Below.refl _ w).alloc (Nat.le_refl _) _).alloc (by simp) _)
    exact ⟨(hr.below (hb.mono hB)).more (Nat.le_trans hB hb.size), (hrB.below (hb.mono hB)).more (Nat.le_trans hB hb.size), (hrT.below (hb.mono hB)).more (Nat.le_trans hB hb.size), hb, hn⟩
  obtain ⟨v, hv⟩ : ∃ v : Nat, X = (v : Int) := ⟨X.toNat, by omega⟩
  have HV : Hd (X = (v : Int) ∧ v < 65536 ∧ X.toNat = v) := ⟨hv, by omega, by omega⟩
  clear hv
  have HW := Hd.mk hW
  clear hr hrB hrT hB hn hW
  go_enter Try.func62, Try.ntmps62
  go_wp2_with fail
  refine (pick_any _ kind 10 hk (by omega) (by omega)).mono ?_
  rw [hj]
  rintro e z ⟨rfl, rfl⟩
  clear hj hk
  go_wp2_with fail
  rw [HW.out]
  rw [HV.out.1]
  refine (put_uint16 W1 A n c W1.heap.size v all H1.out.1 HV.out.2.1 (by have := H1.out.2.2.2.2; omega) (Nat.le_refl _)).mono ?_
  rintro e w2 ⟨v2, rfl, hO⟩
  have H2 : Hd (Onto w w2 w.heap.size 5 (.slice none 0 0) v2 (n + (fx 2 X.toNat).length) (cb (all ++ (fx 2 X.toNat)))) := ⟨by
    have h := onto_fresh w H1.out.2.2.2.1 hO
    rw [HV.out.2.2, fx_len]; exact h⟩
  clear hO
  go_wp2_with fail
  go_ret
  exact ⟨v2, rfl, H2.out⟩
set_option maxHeartbeats 1000000 in
theorem again_2 (w : World) (A AB AT : Option Addr) (n c nB cB nT cT B : Nat) (who kind N E X : Int) (all lB : List Nat) (lT : List ByteArray) (hr : Rd w B A n (cb all)) (hrB : Rd w B AB nB (cb lB)) (hrT : Rd w B AT nT (cs lT)) (hB : B ≤ w.heap.size) (hn : n + nB + nT + (tx lT).length ≤ 70368744177000) (hk : I64 kind) (hj : kind % 10 = 2) (hX0 : 0 ≤ X) (hX1 : X ≤ 4294967295) :
    Calls Try.prog 62 #[.slice A n c, .agg #[.int .i64 who, .int .i64 kind, .int .i64 N, .int .i64 E], .agg #[.int .u64 X, .slice AB nB cB, .slice AT nT cT]] w (PutsOut w n all (fx 4 X.toNat)) := by
  obtain ⟨W1, hW⟩ : ∃ W1, ((w.alloc (.cells #[.int .i64 who, .int .i64 kind, .int .i64 N, .int .i64 E] 70)).alloc (.cells #[.int .u64 X, .slice AB nB cB, .slice AT nT cT] 72)) = W1 := ⟨_, rfl⟩
  have H1 : Hd (Rd W1 W1.heap.size A n (cb all) ∧ Rd W1 W1.heap.size AB nB (cb lB) ∧ Rd W1 W1.heap.size AT nT (cs lT) ∧ Below w.heap.size w W1 ∧ n + nB + nT + (tx lT).length ≤ 70368744177000) := by
    rw [← hW]
    have hb : Below w.heap.size w ((w.alloc (.cells #[.int .i64 who, .int .i64 kind, .int .i64 N, .int .i64 E] 70)).alloc (.cells #[.int .u64 X, .slice AB nB cB, .slice AT nT cT] 72)) := (((Below.refl _ w).alloc (Nat.le_refl _) _).alloc (by simp) _)
    exact ⟨(hr.below (hb.mono hB)).more (Nat.le_trans hB hb.size), (hrB.below (hb.mono hB)).more (Nat.le_trans hB hb.size), (hrT.below (hb.mono hB)).more (Nat.le_trans hB hb.size), hb, hn⟩
  obtain ⟨v, hv⟩ : ∃ v : Nat, X = (v : Int) := ⟨X.toNat, by omega⟩
  have HV : Hd (X = (v : Int) ∧ v < 4294967296 ∧ X.toNat = v) := ⟨hv, by omega, by omega⟩
  clear hv
  have HW := Hd.mk hW
  clear hr hrB hrT hB hn hW
  go_enter Try.func62, Try.ntmps62
  go_wp2_with fail
  refine (pick_any _ kind 10 hk (by omega) (by omega)).mono ?_
  rw [hj]
  rintro e z ⟨rfl, rfl⟩
  clear hj hk
  go_wp2_with fail
  rw [HW.out]
  rw [HV.out.1]
  refine (put_uint32 W1 A n c W1.heap.size v all H1.out.1 HV.out.2.1 (by have := H1.out.2.2.2.2; omega) (Nat.le_refl _)).mono ?_
  rintro e w2 ⟨v2, rfl, hO⟩
  have H2 : Hd (Onto w w2 w.heap.size 5 (.slice none 0 0) v2 (n + (fx 4 X.toNat).length) (cb (all ++ (fx 4 X.toNat)))) := ⟨by
    have h := onto_fresh w H1.out.2.2.2.1 hO
    rw [HV.out.2.2, fx_len]; exact h⟩
  clear hO
  go_wp2_with fail
  go_ret
  exact ⟨v2, rfl, H2.out⟩
set_option maxHeartbeats 1000000 in
theorem again_3 (w : World) (A AB AT : Option Addr) (n c nB cB nT cT B : Nat) (who kind N E X : Int) (all lB : List Nat) (lT : List ByteArray) (hr : Rd w B A n (cb all)) (hrB : Rd w B AB nB (cb lB)) (hrT : Rd w B AT nT (cs lT)) (hB : B ≤ w.heap.size) (hn : n + nB + nT + (tx lT).length ≤ 70368744177000) (hk : I64 kind) (hj : kind % 10 = 3) (hX0 : 0 ≤ X) (hX1 : X ≤ 18446744073709551615) :
    Calls Try.prog 62 #[.slice A n c, .agg #[.int .i64 who, .int .i64 kind, .int .i64 N, .int .i64 E], .agg #[.int .u64 X, .slice AB nB cB, .slice AT nT cT]] w (PutsOut w n all (fx 8 X.toNat)) := by
  obtain ⟨W1, hW⟩ : ∃ W1, ((w.alloc (.cells #[.int .i64 who, .int .i64 kind, .int .i64 N, .int .i64 E] 70)).alloc (.cells #[.int .u64 X, .slice AB nB cB, .slice AT nT cT] 72)) = W1 := ⟨_, rfl⟩
  have H1 : Hd (Rd W1 W1.heap.size A n (cb all) ∧ Rd W1 W1.heap.size AB nB (cb lB) ∧ Rd W1 W1.heap.size AT nT (cs lT) ∧ Below w.heap.size w W1 ∧ n + nB + nT + (tx lT).length ≤ 70368744177000) := by
    rw [← hW]
    have hb : Below w.heap.size w ((w.alloc (.cells #[.int .i64 who, .int .i64 kind, .int .i64 N, .int .i64 E] 70)).alloc (.cells #[.int .u64 X, .slice AB nB cB, .slice AT nT cT] 72)) := (((Below.refl _ w).alloc (Nat.le_refl _) _).alloc (by simp) _)
    exact ⟨(hr.below (hb.mono hB)).more (Nat.le_trans hB hb.size), (hrB.below (hb.mono hB)).more (Nat.le_trans hB hb.size), (hrT.below (hb.mono hB)).more (Nat.le_trans hB hb.size), hb, hn⟩
  obtain ⟨v, hv⟩ : ∃ v : Nat, X = (v : Int) := ⟨X.toNat, by omega⟩
  have HV : Hd (X = (v : Int) ∧ v < 18446744073709551616 ∧ X.toNat = v) := ⟨hv, by omega, by omega⟩
  clear hv
  have HW := Hd.mk hW
  clear hr hrB hrT hB hn hW
  go_enter Try.func62, Try.ntmps62
  go_wp2_with fail
  refine (pick_any _ kind 10 hk (by omega) (by omega)).mono ?_
  rw [hj]
  rintro e z ⟨rfl, rfl⟩
  clear hj hk
  go_wp2_with fail
  rw [HW.out]
  rw [HV.out.1]
  refine (put_uint64 W1 A n c W1.heap.size v all H1.out.1 HV.out.2.1 (by have := H1.out.2.2.2.2; omega) (Nat.le_refl _)).mono ?_
  rintro e w2 ⟨v2, rfl, hO⟩
  have H2 : Hd (Onto w w2 w.heap.size 5 (.slice none 0 0) v2 (n + (fx 8 X.toNat).length) (cb (all ++ (fx 8 X.toNat)))) := ⟨by
    have h := onto_fresh w H1.out.2.2.2.1 hO
    rw [HV.out.2.2, fx_len]; exact h⟩
  clear hO
  go_wp2_with fail
  go_ret
  exact ⟨v2, rfl, H2.out⟩
set_option maxHeartbeats 1000000 in
theorem again_4 (w : World) (A AB AT : Option Addr) (n c nB cB nT cT B : Nat) (who kind N E X : Int) (all lB : List Nat) (lT : List ByteArray) (hr : Rd w B A n (cb all)) (hrB : Rd w B AB nB (cb lB)) (hrT : Rd w B AT nT (cs lT)) (hB : B ≤ w.heap.size) (hn : n + nB + nT + (tx lT).length ≤ 70368744177000) (hk : I64 kind) (hj : kind % 10 = 4) (hX0 : 0 ≤ X) (hX1 : X ≤ 65535) :
    Calls Try.prog 62 #[.slice A n c, .agg #[.int .i64 who, .int .i64 kind, .int .i64 N, .int .i64 E], .agg #[.int .u64 X, .slice AB nB cB, .slice AT nT cT]] w (PutsOut w n all (fx 2 X.toNat)) := by
  obtain ⟨W1, hW⟩ : ∃ W1, ((w.alloc (.cells #[.int .i64 who, .int .i64 kind, .int .i64 N, .int .i64 E] 70)).alloc (.cells #[.int .u64 X, .slice AB nB cB, .slice AT nT cT] 72)) = W1 := ⟨_, rfl⟩
  have H1 : Hd (Rd W1 W1.heap.size A n (cb all) ∧ Rd W1 W1.heap.size AB nB (cb lB) ∧ Rd W1 W1.heap.size AT nT (cs lT) ∧ Below w.heap.size w W1 ∧ n + nB + nT + (tx lT).length ≤ 70368744177000) := by
    rw [← hW]
    have hb : Below w.heap.size w ((w.alloc (.cells #[.int .i64 who, .int .i64 kind, .int .i64 N, .int .i64 E] 70)).alloc (.cells #[.int .u64 X, .slice AB nB cB, .slice AT nT cT] 72)) := (((Below.refl _ w).alloc (Nat.le_refl _) _).alloc (by simp) _)
    exact ⟨(hr.below (hb.mono hB)).more (Nat.le_trans hB hb.size), (hrB.below (hb.mono hB)).more (Nat.le_trans hB hb.size), (hrT.below (hb.mono hB)).more (Nat.le_trans hB hb.size), hb, hn⟩
  obtain ⟨v, hv⟩ : ∃ v : Nat, X = (v : Int) := ⟨X.toNat, by omega⟩
  have HV : Hd (X = (v : Int) ∧ v < 65536 ∧ X.toNat = v) := ⟨hv, by omega, by omega⟩
  clear hv
  have HW := Hd.mk hW
  clear hr hrB hrT hB hn hW
  go_enter Try.func62, Try.ntmps62
  go_wp2_with fail
  refine (pick_any _ kind 10 hk (by omega) (by omega)).mono ?_
  rw [hj]
  rintro e z ⟨rfl, rfl⟩
  clear hj hk
  go_wp2_with fail
  rw [HW.out]
  rw [HV.out.1]
  refine (put_tall W1 A n c W1.heap.size v all H1.out.1 HV.out.2.1 (by have := H1.out.2.2.2.2; omega) (Nat.le_refl _)).mono ?_
  rintro e w2 ⟨v2, rfl, hO⟩
  have H2 : Hd (Onto w w2 w.heap.size 5 (.slice none 0 0) v2 (n + (fx 2 X.toNat).length) (cb (all ++ (fx 2 X.toNat)))) := ⟨by
    have h := onto_fresh w H1.out.2.2.2.1 hO
    rw [HV.out.2.2, fx_len]; exact h⟩
  clear hO
  go_wp2_with fail
  go_ret
  exact ⟨v2, rfl, H2.out⟩
set_option maxHeartbeats 1000000 in
theorem again_5 (w : World) (A AB AT : Option Addr) (n c nB cB nT cT B : Nat) (who kind N E X : Int) (all lB : List Nat) (lT : List ByteArray) (hr : Rd w B A n (cb all)) (hrB : Rd w B AB nB (cb lB)) (hrT : Rd w B AT nT (cs lT)) (hB : B ≤ w.heap.size) (hn : n + nB + nT + (tx lT).length ≤ 70368744177000) (hk : I64 kind) (hj : kind % 10 = 5) (hX0 : 0 ≤ X) (hX1 : X ≤ 18446744073709551615) :
    Calls Try.prog 62 #[.slice A n c, .agg #[.int .i64 who, .int .i64 kind, .int .i64 N, .int .i64 E], .agg #[.int .u64 X, .slice AB nB cB, .slice AT nT cT]] w (PutsOut w n all (uv X.toNat)) := by
  obtain ⟨W1, hW⟩ : ∃ W1, ((w.alloc (.cells #[.int .i64 who, .int .i64 kind, .int .i64 N, .int .i64 E] 70)).alloc (.cells #[.int .u64 X, .slice AB nB cB, .slice AT nT cT] 72)) = W1 := ⟨_, rfl⟩
  have H1 : Hd (Rd W1 W1.heap.size A n (cb all) ∧ Rd W1 W1.heap.size AB nB (cb lB) ∧ Rd W1 W1.heap.size AT nT (cs lT) ∧ Below w.heap.size w W1 ∧ n + nB + nT + (tx lT).length ≤ 70368744177000) := by
    rw [← hW]
    have hb : Below w.heap.size w ((w.alloc (.cells #[.int .i64 who, .int .i64 kind, .int .i64 N, .int .i64 E] 70)).alloc (.cells #[.int .u64 X, .slice AB nB cB, .slice AT nT cT] 72)) := (((Below.refl _ w).alloc (Nat.le_refl _) _).alloc (by simp) _)
    exact ⟨(hr.below (hb.mono hB)).more (Nat.le_trans hB hb.size), (hrB.below (hb.mono hB)).more (Nat.le_trans hB hb.size), (hrT.below (hb.mono hB)).more (Nat.le_trans hB hb.size), hb, hn⟩
  obtain ⟨v, hv⟩ : ∃ v : Nat, X = (v : Int) := ⟨X.toNat, by omega⟩
  have HV : Hd (X = (v : Int) ∧ v < 2 ^ 64 ∧ X.toNat = v) := ⟨hv, by omega, by omega⟩
  clear hv
  have HW := Hd.mk hW
  clear hr hrB hrT hB hn hW
  go_enter Try.func62, Try.ntmps62
  go_wp2_with fail
  refine (pick_any _ kind 10 hk (by omega) (by omega)).mono ?_
  rw [hj]
  rintro e z ⟨rfl, rfl⟩
  clear hj hk
  go_wp2_with fail
  rw [HW.out]
  rw [HV.out.1]
  refine (putUvarint_any W1 A n c W1.heap.size v all H1.out.1 HV.out.2.1 (by have := H1.out.2.2.2.2; omega) (Nat.le_refl _)).mono ?_
  rintro e w2 ⟨v2, rfl, hO⟩
  have H2 : Hd (Onto w w2 w.heap.size 5 (.slice none 0 0) v2 (n + (uv X.toNat).length) (cb (all ++ (uv X.toNat)))) := ⟨by
    have h := onto_fresh w H1.out.2.2.2.1 hO
    rw [HV.out.2.2]; exact h⟩
  clear hO
  go_wp2_with fail
  go_ret
  exact ⟨v2, rfl, H2.out⟩
set_option maxHeartbeats 1000000 in
theorem again_6 (w : World) (A AB AT : Option Addr) (n c nB cB nT cT B : Nat) (who kind N E X : Int) (all lB : List Nat) (lT : List ByteArray) (hr : Rd w B A n (cb all)) (hrB : Rd w B AB nB (cb lB)) (hrT : Rd w B AT nT (cs lT)) (hB : B ≤ w.heap.size) (hn : n + nB + nT + (tx lT).length ≤ 70368744177000) (hk : I64 kind) (hj : kind % 10 = 6) (V : Int) (hV0 : -9223372036854775808 ≤ V) (hV1 : V ≤ 9223372036854775807) (hXV : X = IntKind.u64.wrap V) :
    Calls Try.prog 62 #[.slice A n c, .agg #[.int .i64 who, .int .i64 kind, .int .i64 N, .int .i64 E], .agg #[.int .u64 X, .slice AB nB cB, .slice AT nT cT]] w (PutsOut w n all (uv (zig V).toNat)) := by
  obtain ⟨W1, hW⟩ : ∃ W1, ((w.alloc (.cells #[.int .i64 who, .int .i64 kind, .int .i64 N, .int .i64 E] 70)).alloc (.cells #[.int .u64 X, .slice AB nB cB, .slice AT nT cT] 72)) = W1 := ⟨_, rfl⟩
  have H1 : Hd (Rd W1 W1.heap.size A n (cb all) ∧ Rd W1 W1.heap.size AB nB (cb lB) ∧ Rd W1 W1.heap.size AT nT (cs lT) ∧ Below w.heap.size w W1 ∧ n + nB + nT + (tx lT).length ≤ 70368744177000) := by
    rw [← hW]
    have hb : Below w.heap.size w ((w.alloc (.cells #[.int .i64 who, .int .i64 kind, .int .i64 N, .int .i64 E] 70)).alloc (.cells #[.int .u64 X, .slice AB nB cB, .slice AT nT cT] 72)) := (((Below.refl _ w).alloc (Nat.le_refl _) _).alloc (by simp) _)
    exact ⟨(hr.below (hb.mono hB)).more (Nat.le_trans hB hb.size), (hrB.below (hb.mono hB)).more (Nat.le_trans hB hb.size), (hrT.below (hb.mono hB)).more (Nat.le_trans hB hb.size), hb, hn⟩
  have hzz := zig_bd V hV0 hV1
  have HV : Hd (zig V = (((zig V).toNat : Nat) : Int) ∧ (zig V).toNat < 2 ^ 64 ∧ IntKind.i64.wrap X = V) := ⟨by omega, by omega, by rw [hXV, IntKind.wrap_u64, IntKind.wrap_i64]; omega⟩
  have HX0 : 0 ≤ X := by rw [hXV, IntKind.wrap_u64]; omega
  have HX1 : X ≤ 18446744073709551615 := by rw [hXV, IntKind.wrap_u64]; omega
  clear hXV hzz
  have HW := Hd.mk hW
  clear hr hrB hrT hB hn hW
  go_enter Try.func62, Try.ntmps62
  go_wp2_with fail
  refine (pick_any _ kind 10 hk (by omega) (by omega)).mono ?_
  rw [hj]
  rintro e z ⟨rfl, rfl⟩
  clear hj hk
  go_wp2_with fail
  rw [HW.out]
  first | rw [HV.out.2.2] | (rw [show wrap64 X = V from by have := HV.out.2.2; rw [IntKind.wrap_i64] at this; unfold wrap64; omega])
  refine (putVarint_any W1 A n c W1.heap.size (zig V).toNat V all H1.out.1 hV0 hV1 (by have := H1.out.2.2.2.2; omega) (Nat.le_refl _) HV.out.1 HV.out.2.1).mono ?_
  rintro e w2 ⟨v2, rfl, hO⟩
  have H2 : Hd (Onto w w2 w.heap.size 5 (.slice none 0 0) v2 (n + (uv (zig V).toNat).length) (cb (all ++ (uv (zig V).toNat)))) := ⟨by
    have h := onto_fresh w H1.out.2.2.2.1 hO
    exact h⟩
  clear hO
  go_wp2_with fail
  go_ret
  exact ⟨v2, rfl, H2.out⟩
set_option maxHeartbeats 1000000 in
theorem again_8 (w : World) (A AB AT : Option Addr) (n c nB cB nT cT B : Nat) (who kind N E X : Int) (all lB : List Nat) (lT : List ByteArray) (hr : Rd w B A n (cb all)) (hrB : Rd w B AB nB (cb lB)) (hrT : Rd w B AT nT (cs lT)) (hB : B ≤ w.heap.size) (hn : n + nB + nT + (tx lT).length ≤ 70368744177000) (hk : I64 kind) (hj : kind % 10 = 8)  :
    Calls Try.prog 62 #[.slice A n c, .agg #[.int .i64 who, .int .i64 kind, .int .i64 N, .int .i64 E], .agg #[.int .u64 X, .slice AB nB cB, .slice AT nT cT]] w (PutsOut w n all (uv nB ++ lB)) := by
  obtain ⟨W1, hW⟩ : ∃ W1, ((w.alloc (.cells #[.int .i64 who, .int .i64 kind, .int .i64 N, .int .i64 E] 70)).alloc (.cells #[.int .u64 X, .slice AB nB cB, .slice AT nT cT] 72)) = W1 := ⟨_, rfl⟩
  have H1 : Hd (Rd W1 W1.heap.size A n (cb all) ∧ Rd W1 W1.heap.size AB nB (cb lB) ∧ Rd W1 W1.heap.size AT nT (cs lT) ∧ Below w.heap.size w W1 ∧ n + nB + nT + (tx lT).length ≤ 70368744177000) := by
    rw [← hW]
    have hb : Below w.heap.size w ((w.alloc (.cells #[.int .i64 who, .int .i64 kind, .int .i64 N, .int .i64 E] 70)).alloc (.cells #[.int .u64 X, .slice AB nB cB, .slice AT nT cT] 72)) := (((Below.refl _ w).alloc (Nat.le_refl _) _).alloc (by simp) _)
    exact ⟨(hr.below (hb.mono hB)).more (Nat.le_trans hB hb.size), (hrB.below (hb.mono hB)).more (Nat.le_trans hB hb.size), (hrT.below (hb.mono hB)).more (Nat.le_trans hB hb.size), hb, hn⟩
  have HL : Hd (lB.length = nB) := ⟨by have := hrB.1; rwa [cb_length] at this⟩
  have HW := Hd.mk hW
  clear hr hrB hrT hB hn hW
  go_enter Try.func62, Try.ntmps62
  go_wp2_with fail
  refine (pick_any _ kind 10 hk (by omega) (by omega)).mono ?_
  rw [hj]
  rintro e z ⟨rfl, rfl⟩
  clear hj hk
  go_wp2_with fail
  rw [HW.out]
  refine (putBytes_any W1 A AB n c nB cB W1.heap.size all lB H1.out.1 H1.out.2.1 (by have := H1.out.2.2.2.2; omega) (Nat.le_refl _)).mono ?_
  rintro e w2 ⟨v2, rfl, hO⟩
  have H2 : Hd (Onto w w2 w.heap.size 5 (.slice none 0 0) v2 (n + (uv nB ++ lB).length) (cb (all ++ (uv nB ++ lB)))) := ⟨by
    have h := onto_fresh w H1.out.2.2.2.1 hO
    rw [List.length_append, HL.out, ← Nat.add_assoc, ← List.append_assoc]; exact h⟩
  clear hO
  go_wp2_with fail
  go_ret
  exact ⟨v2, rfl, H2.out⟩
set_option maxHeartbeats 1000000 in
theorem again_9 (w : World) (A AB AT : Option Addr) (n c nB cB nT cT B : Nat) (who kind N E X : Int) (all lB : List Nat) (lT : List ByteArray) (hr : Rd w B A n (cb all)) (hrB : Rd w B AB nB (cb lB)) (hrT : Rd w B AT nT (cs lT)) (hB : B ≤ w.heap.size) (hn : n + nB + nT + (tx lT).length ≤ 70368744177000) (hk : I64 kind) (hj : kind % 10 = 9)  :
    Calls Try.prog 62 #[.slice A n c, .agg #[.int .i64 who, .int .i64 kind, .int .i64 N, .int .i64 E], .agg #[.int .u64 X, .slice AB nB cB, .slice AT nT cT]] w (PutsOut w n all (uv nT ++ tx lT)) := by
  obtain ⟨W1, hW⟩ : ∃ W1, ((w.alloc (.cells #[.int .i64 who, .int .i64 kind, .int .i64 N, .int .i64 E] 70)).alloc (.cells #[.int .u64 X, .slice AB nB cB, .slice AT nT cT] 72)) = W1 := ⟨_, rfl⟩
  have H1 : Hd (Rd W1 W1.heap.size A n (cb all) ∧ Rd W1 W1.heap.size AB nB (cb lB) ∧ Rd W1 W1.heap.size AT nT (cs lT) ∧ Below w.heap.size w W1 ∧ n + nB + nT + (tx lT).length ≤ 70368744177000) := by
    rw [← hW]
    have hb : Below w.heap.size w ((w.alloc (.cells #[.int .i64 who, .int .i64 kind, .int .i64 N, .int .i64 E] 70)).alloc (.cells #[.int .u64 X, .slice AB nB cB, .slice AT nT cT] 72)) := (((Below.refl _ w).alloc (Nat.le_refl _) _).alloc (by simp) _)
    exact ⟨(hr.below (hb.mono hB)).more (Nat.le_trans hB hb.size), (hrB.below (hb.mono hB)).more (Nat.le_trans hB hb.size), (hrT.below (hb.mono hB)).more (Nat.le_trans hB hb.size), hb, hn⟩
  have HW := Hd.mk hW
  clear hr hrB hrT hB hn hW
  go_enter Try.func62, Try.ntmps62
  go_wp2_with fail
  refine (pick_any _ kind 10 hk (by omega) (by omega)).mono ?_
  rw [hj]
  rintro e z ⟨rfl, rfl⟩
  clear hj hk
  go_wp2_with fail
  rw [HW.out]
  refine (putTexts_any W1 A AT n c nT cT W1.heap.size all lT H1.out.1 H1.out.2.2.1 (by have := H1.out.2.2.2.2; omega) (by have := H1.out.2.2.2.2; omega) (Nat.le_refl _)).mono ?_
  rintro e w2 ⟨v2, rfl, hO⟩
  have H2 : Hd (Onto w w2 w.heap.size 5 (.slice none 0 0) v2 (n + (uv nT ++ tx lT).length) (cb (all ++ (uv nT ++ tx lT)))) := ⟨by
    have h := onto_fresh w H1.out.2.2.2.1 hO
    rw [List.length_append, ← Nat.add_assoc, ← List.append_assoc]; exact h⟩
  clear hO
  go_wp2_with fail
  go_ret
  exact ⟨v2, rfl, H2.out⟩
end Go.Proofs.Ytjkenhkoakaaoaa
