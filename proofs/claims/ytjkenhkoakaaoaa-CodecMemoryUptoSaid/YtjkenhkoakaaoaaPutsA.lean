/- Contracts of codec.width and codec.Put at the five kinds. (Printed by tools/putsgen.py.) -/
import Derived.Test.YtjkenhkoakaaoaaShort
import Derived.Test.YtjkenhkoakaaoaaMem2
namespace Go.Proofs.Ytjkenhkoakaaoaa
open Go.RowKit
set_option linter.unusedVariables false
/-- The lowest k bytes of a number. -/
def fx (k v : Nat) : List Nat := (List.range k).map fun i => v / 2 ^ (8 * i) % 256
theorem fx_len (k v : Nat) : (fx k v).length = k := by simp [fx]
theorem fx_succ (k v : Nat) : fx (k + 1) v = fx k v ++ [v / 2 ^ (8 * k) % 256] := by unfold fx; rw [List.range_succ, List.map_append]; rfl
theorem fx_lt (k v : Nat) : ∀ x ∈ fx k v, x < 256 := by
  intro x hx
  obtain ⟨i, _, rfl⟩ := List.mem_map.1 hx
  exact Nat.mod_lt _ (by omega)
theorem shr_cell (v i : Nat) : (v : Int) / 2 ^ (8 * i) % 256 = ((v / 2 ^ (8 * i) % 256 : Nat) : Int) := by
  have : ((2 ^ (8 * i) : Nat) : Int) = (2 : Int) ^ (8 * i) := by push_cast; rfl
  rw [← this, Int.natCast_emod, Int.natCast_ediv]; rfl
set_option maxRecDepth 10000000 in
theorem len_1 (w : World) : Calls Try.prog 113 #[.int .u64 255] w fun e w' => e = .returned (.int .i64 8) ∧ w = w' := by
  go_enter Try.func113, Try.ntmps113
  go_wp2_with fail
  go_ret
  exact ⟨by kernel_rfl, rfl⟩
set_option maxRecDepth 10000000 in
theorem len_2 (w : World) : Calls Try.prog 113 #[.int .u64 65535] w fun e w' => e = .returned (.int .i64 16) ∧ w = w' := by
  go_enter Try.func113, Try.ntmps113
  go_wp2_with fail
  go_ret
  exact ⟨by kernel_rfl, rfl⟩
set_option maxRecDepth 10000000 in
theorem len_4 (w : World) : Calls Try.prog 113 #[.int .u64 4294967295] w fun e w' => e = .returned (.int .i64 32) ∧ w = w' := by
  go_enter Try.func113, Try.ntmps113
  go_wp2_with fail
  go_ret
  exact ⟨by kernel_rfl, rfl⟩
set_option maxRecDepth 10000000 in
theorem len_8 (w : World) : Calls Try.prog 113 #[.int .u64 18446744073709551615] w fun e w' => e = .returned (.int .i64 64) ∧ w = w' := by
  go_enter Try.func113, Try.ntmps113
  go_wp2_with fail
  go_ret
  exact ⟨by kernel_rfl, rfl⟩
theorem width_uint8 (w : World) : Calls Try.prog 100 #[] w fun e w' => e = .returned (.int .i64 1) ∧ w = w' := by
  go_enter Try.func100, Try.ntmps100
  go_wp2_with fail
  refine (len_1 w).mono ?_
  rintro e z ⟨rfl, rfl⟩
  go_wp2_with fail
  go_ret
  exact ⟨rfl, rfl⟩
theorem width_uint16 (w : World) : Calls Try.prog 101 #[] w fun e w' => e = .returned (.int .i64 2) ∧ w = w' := by
  go_enter Try.func101, Try.ntmps101
  go_wp2_with fail
  refine (len_2 w).mono ?_
  rintro e z ⟨rfl, rfl⟩
  go_wp2_with fail
  go_ret
  exact ⟨rfl, rfl⟩
theorem width_uint32 (w : World) : Calls Try.prog 102 #[] w fun e w' => e = .returned (.int .i64 4) ∧ w = w' := by
  go_enter Try.func102, Try.ntmps102
  go_wp2_with fail
  refine (len_4 w).mono ?_
  rintro e z ⟨rfl, rfl⟩
  go_wp2_with fail
  go_ret
  exact ⟨rfl, rfl⟩
theorem width_uint64 (w : World) : Calls Try.prog 103 #[] w fun e w' => e = .returned (.int .i64 8) ∧ w = w' := by
  go_enter Try.func103, Try.ntmps103
  go_wp2_with fail
  refine (len_8 w).mono ?_
  rintro e z ⟨rfl, rfl⟩
  go_wp2_with fail
  go_ret
  exact ⟨rfl, rfl⟩
theorem width_tall (w : World) : Calls Try.prog 104 #[] w fun e w' => e = .returned (.int .i64 2) ∧ w = w' := by
  go_enter Try.func104, Try.ntmps104
  go_wp2_with fail
  refine (len_2 w).mono ?_
  rintro e z ⟨rfl, rfl⟩
  go_wp2_with fail
  go_ret
  exact ⟨rfl, rfl⟩
set_option maxHeartbeats 1000000 in
theorem put_uint8 (w : World) (A : Option Addr) (m c B v : Nat) (bs : List Nat) (hr : Rd w B A m (cb bs)) (hv : v < 256) (hm : m + 10 ≤ 140737488355328) (hB : B ≤ w.heap.size) :
    Calls Try.prog 69 #[.slice A m c, .int .u8 (v : Int)] w fun e w' => ∃ v', e = .returned v' ∧ Onto w w' w.heap.size 5 (.slice none 0 0) v' (m + 1) (cb (bs ++ fx 1 v)) := by
  have HH : Hd (Rd w B A m (cb bs) ∧ B ≤ w.heap.size) := ⟨hr, hB⟩
  obtain ⟨V, hV⟩ : ∃ V : Int, (v : Int) = V := ⟨_, rfl⟩
  have hV1 : 0 ≤ V := by omega
  have hV2 : V ≤ 255 := by omega
  have HV : Hd (∀ k, V / 2 ^ (8 * k) % 256 = ((v / 2 ^ (8 * k) % 256 : Nat) : Int)) := ⟨fun k => by rw [← hV]; exact shr_cell v k⟩
  rw [hV]
  clear hr hB hv hV
  go_enter Try.func69, Try.ntmps69
  go_wp2_with fail
  refine (clone_any w A m c B bs HH.out.1 (by omega) HH.out.2).mono ?_
  rintro e w1 ⟨v1, rfl, hO⟩
  have HO := Hd.mk hO
  clear hO
  go_wp2_with fail
  refine (width_uint8 w1).mono ?_
  rintro e z ⟨rfl, rfl⟩
  go_wp2_with fail
  go_loopw [5, 10] (fun s i wr => ∃ k : Nat, k ≤ 1 ∧ i = .int .i64 k ∧ Onto w wr w.heap.size 5 (.slice none 0 0) s (m + k) (cb (bs ++ fx k v))) (fun _ i _ => 1 - (intOf i).toNat)
  case atStart => exact ⟨0, by omega, rfl, by simpa [fx] using HO.out⟩
  case round =>
    obtain ⟨k, hk, rfl, hO⟩ := hrel
    have H1 := Hd.mk hO
    clear hO
    by_cases hlt : k < 1
    · have h63 : Hd (m + k + 1 ≤ maxLen) := ⟨by unfold maxLen; omega⟩
      have hby : Hd ((m + k + 1) * 1 ≤ 140737488355328) := ⟨by omega⟩
      go_wp2_with (refine wpList_push elB rfl rfl (.tmp 13) (.tmp 19) 20 rfl rfl rfl w.heap.size u5 _ _ _ rfl rfl rfl rfl H1.out.own h63.out hby.out H1.out.size ?_; intro v2 w2 hO2)
      go_roundw
      case rel =>
        refine ⟨k + 1, by omega, by go_num, ?_⟩
        rw [fx_succ, ← List.append_assoc, cb_append]
        have := H1.out.trans (show Onto wr w2 w.heap.size 5 u5 v2 (m + k + 1) (cb (bs ++ fx k v) ++ [.int .u8 (V / 2 ^ (8 * k) % 256)]) from hO2)
        rw [HV.out] at this
        exact this
      case measure => simp [intOf]; omega
    · have hk8 : k = 1 := by omega
      subst hk8
      go_wp2_with fail
      go_ret
      exact ⟨_, rfl, H1.out⟩
set_option maxHeartbeats 1000000 in
theorem put_uint16 (w : World) (A : Option Addr) (m c B v : Nat) (bs : List Nat) (hr : Rd w B A m (cb bs)) (hv : v < 65536) (hm : m + 10 ≤ 140737488355328) (hB : B ≤ w.heap.size) :
    Calls Try.prog 70 #[.slice A m c, .int .u16 (v : Int)] w fun e w' => ∃ v', e = .returned v' ∧ Onto w w' w.heap.size 5 (.slice none 0 0) v' (m + 2) (cb (bs ++ fx 2 v)) := by
  have HH : Hd (Rd w B A m (cb bs) ∧ B ≤ w.heap.size) := ⟨hr, hB⟩
  obtain ⟨V, hV⟩ : ∃ V : Int, (v : Int) = V := ⟨_, rfl⟩
  have hV1 : 0 ≤ V := by omega
  have hV2 : V ≤ 65535 := by omega
  have HV : Hd (∀ k, V / 2 ^ (8 * k) % 256 = ((v / 2 ^ (8 * k) % 256 : Nat) : Int)) := ⟨fun k => by rw [← hV]; exact shr_cell v k⟩
  rw [hV]
  clear hr hB hv hV
  go_enter Try.func70, Try.ntmps70
  go_wp2_with fail
  refine (clone_any w A m c B bs HH.out.1 (by omega) HH.out.2).mono ?_
  rintro e w1 ⟨v1, rfl, hO⟩
  have HO := Hd.mk hO
  clear hO
  go_wp2_with fail
  refine (width_uint16 w1).mono ?_
  rintro e z ⟨rfl, rfl⟩
  go_wp2_with fail
  go_loopw [5, 10] (fun s i wr => ∃ k : Nat, k ≤ 2 ∧ i = .int .i64 k ∧ Onto w wr w.heap.size 5 (.slice none 0 0) s (m + k) (cb (bs ++ fx k v))) (fun _ i _ => 2 - (intOf i).toNat)
  case atStart => exact ⟨0, by omega, rfl, by simpa [fx] using HO.out⟩
  case round =>
    obtain ⟨k, hk, rfl, hO⟩ := hrel
    have H1 := Hd.mk hO
    clear hO
    by_cases hlt : k < 2
    · have h63 : Hd (m + k + 1 ≤ maxLen) := ⟨by unfold maxLen; omega⟩
      have hby : Hd ((m + k + 1) * 1 ≤ 140737488355328) := ⟨by omega⟩
      go_wp2_with (refine wpList_push elB rfl rfl (.tmp 13) (.tmp 19) 20 rfl rfl rfl w.heap.size u5 _ _ _ rfl rfl rfl rfl H1.out.own h63.out hby.out H1.out.size ?_; intro v2 w2 hO2)
      go_roundw
      case rel =>
        refine ⟨k + 1, by omega, by go_num, ?_⟩
        rw [fx_succ, ← List.append_assoc, cb_append]
        have := H1.out.trans (show Onto wr w2 w.heap.size 5 u5 v2 (m + k + 1) (cb (bs ++ fx k v) ++ [.int .u8 (V / 2 ^ (8 * k) % 256)]) from hO2)
        rw [HV.out] at this
        exact this
      case measure => simp [intOf]; omega
    · have hk8 : k = 2 := by omega
      subst hk8
      go_wp2_with fail
      go_ret
      exact ⟨_, rfl, H1.out⟩
set_option maxHeartbeats 1000000 in
theorem put_uint32 (w : World) (A : Option Addr) (m c B v : Nat) (bs : List Nat) (hr : Rd w B A m (cb bs)) (hv : v < 4294967296) (hm : m + 10 ≤ 140737488355328) (hB : B ≤ w.heap.size) :
    Calls Try.prog 71 #[.slice A m c, .int .u32 (v : Int)] w fun e w' => ∃ v', e = .returned v' ∧ Onto w w' w.heap.size 5 (.slice none 0 0) v' (m + 4) (cb (bs ++ fx 4 v)) := by
  have HH : Hd (Rd w B A m (cb bs) ∧ B ≤ w.heap.size) := ⟨hr, hB⟩
  obtain ⟨V, hV⟩ : ∃ V : Int, (v : Int) = V := ⟨_, rfl⟩
  have hV1 : 0 ≤ V := by omega
  have hV2 : V ≤ 4294967295 := by omega
  have HV : Hd (∀ k, V / 2 ^ (8 * k) % 256 = ((v / 2 ^ (8 * k) % 256 : Nat) : Int)) := ⟨fun k => by rw [← hV]; exact shr_cell v k⟩
  rw [hV]
  clear hr hB hv hV
  go_enter Try.func71, Try.ntmps71
  go_wp2_with fail
  refine (clone_any w A m c B bs HH.out.1 (by omega) HH.out.2).mono ?_
  rintro e w1 ⟨v1, rfl, hO⟩
  have HO := Hd.mk hO
  clear hO
  go_wp2_with fail
  refine (width_uint32 w1).mono ?_
  rintro e z ⟨rfl, rfl⟩
  go_wp2_with fail
  go_loopw [5, 10] (fun s i wr => ∃ k : Nat, k ≤ 4 ∧ i = .int .i64 k ∧ Onto w wr w.heap.size 5 (.slice none 0 0) s (m + k) (cb (bs ++ fx k v))) (fun _ i _ => 4 - (intOf i).toNat)
  case atStart => exact ⟨0, by omega, rfl, by simpa [fx] using HO.out⟩
  case round =>
    obtain ⟨k, hk, rfl, hO⟩ := hrel
    have H1 := Hd.mk hO
    clear hO
    by_cases hlt : k < 4
    · have h63 : Hd (m + k + 1 ≤ maxLen) := ⟨by unfold maxLen; omega⟩
      have hby : Hd ((m + k + 1) * 1 ≤ 140737488355328) := ⟨by omega⟩
      go_wp2_with (refine wpList_push elB rfl rfl (.tmp 13) (.tmp 19) 20 rfl rfl rfl w.heap.size u5 _ _ _ rfl rfl rfl rfl H1.out.own h63.out hby.out H1.out.size ?_; intro v2 w2 hO2)
      go_roundw
      case rel =>
        refine ⟨k + 1, by omega, by go_num, ?_⟩
        rw [fx_succ, ← List.append_assoc, cb_append]
        have := H1.out.trans (show Onto wr w2 w.heap.size 5 u5 v2 (m + k + 1) (cb (bs ++ fx k v) ++ [.int .u8 (V / 2 ^ (8 * k) % 256)]) from hO2)
        rw [HV.out] at this
        exact this
      case measure => simp [intOf]; omega
    · have hk8 : k = 4 := by omega
      subst hk8
      go_wp2_with fail
      go_ret
      exact ⟨_, rfl, H1.out⟩
set_option maxHeartbeats 1000000 in
theorem put_uint64 (w : World) (A : Option Addr) (m c B v : Nat) (bs : List Nat) (hr : Rd w B A m (cb bs)) (hv : v < 18446744073709551616) (hm : m + 10 ≤ 140737488355328) (hB : B ≤ w.heap.size) :
    Calls Try.prog 72 #[.slice A m c, .int .u64 (v : Int)] w fun e w' => ∃ v', e = .returned v' ∧ Onto w w' w.heap.size 5 (.slice none 0 0) v' (m + 8) (cb (bs ++ fx 8 v)) := by
  have HH : Hd (Rd w B A m (cb bs) ∧ B ≤ w.heap.size) := ⟨hr, hB⟩
  obtain ⟨V, hV⟩ : ∃ V : Int, (v : Int) = V := ⟨_, rfl⟩
  have hV1 : 0 ≤ V := by omega
  have hV2 : V ≤ 18446744073709551615 := by omega
  have HV : Hd (∀ k, V / 2 ^ (8 * k) % 256 = ((v / 2 ^ (8 * k) % 256 : Nat) : Int)) := ⟨fun k => by rw [← hV]; exact shr_cell v k⟩
  rw [hV]
  clear hr hB hv hV
  go_enter Try.func72, Try.ntmps72
  go_wp2_with fail
  refine (clone_any w A m c B bs HH.out.1 (by omega) HH.out.2).mono ?_
  rintro e w1 ⟨v1, rfl, hO⟩
  have HO := Hd.mk hO
  clear hO
  go_wp2_with fail
  refine (width_uint64 w1).mono ?_
  rintro e z ⟨rfl, rfl⟩
  go_wp2_with fail
  go_loopw [5, 10] (fun s i wr => ∃ k : Nat, k ≤ 8 ∧ i = .int .i64 k ∧ Onto w wr w.heap.size 5 (.slice none 0 0) s (m + k) (cb (bs ++ fx k v))) (fun _ i _ => 8 - (intOf i).toNat)
  case atStart => exact ⟨0, by omega, rfl, by simpa [fx] using HO.out⟩
  case round =>
    obtain ⟨k, hk, rfl, hO⟩ := hrel
    have H1 := Hd.mk hO
    clear hO
    by_cases hlt : k < 8
    · have h63 : Hd (m + k + 1 ≤ maxLen) := ⟨by unfold maxLen; omega⟩
      have hby : Hd ((m + k + 1) * 1 ≤ 140737488355328) := ⟨by omega⟩
      go_wp2_with (refine wpList_push elB rfl rfl (.tmp 13) (.tmp 18) 19 rfl rfl rfl w.heap.size u5 _ _ _ rfl rfl rfl rfl H1.out.own h63.out hby.out H1.out.size ?_; intro v2 w2 hO2)
      go_roundw
      case rel =>
        refine ⟨k + 1, by omega, by go_num, ?_⟩
        rw [fx_succ, ← List.append_assoc, cb_append]
        have := H1.out.trans (show Onto wr w2 w.heap.size 5 u5 v2 (m + k + 1) (cb (bs ++ fx k v) ++ [.int .u8 (V / 2 ^ (8 * k) % 256)]) from hO2)
        rw [HV.out] at this
        exact this
      case measure => simp [intOf]; omega
    · have hk8 : k = 8 := by omega
      subst hk8
      go_wp2_with fail
      go_ret
      exact ⟨_, rfl, H1.out⟩
set_option maxHeartbeats 1000000 in
theorem put_tall (w : World) (A : Option Addr) (m c B v : Nat) (bs : List Nat) (hr : Rd w B A m (cb bs)) (hv : v < 65536) (hm : m + 10 ≤ 140737488355328) (hB : B ≤ w.heap.size) :
    Calls Try.prog 73 #[.slice A m c, .int .u16 (v : Int)] w fun e w' => ∃ v', e = .returned v' ∧ Onto w w' w.heap.size 5 (.slice none 0 0) v' (m + 2) (cb (bs ++ fx 2 v)) := by
  have HH : Hd (Rd w B A m (cb bs) ∧ B ≤ w.heap.size) := ⟨hr, hB⟩
  obtain ⟨V, hV⟩ : ∃ V : Int, (v : Int) = V := ⟨_, rfl⟩
  have hV1 : 0 ≤ V := by omega
  have hV2 : V ≤ 65535 := by omega
  have HV : Hd (∀ k, V / 2 ^ (8 * k) % 256 = ((v / 2 ^ (8 * k) % 256 : Nat) : Int)) := ⟨fun k => by rw [← hV]; exact shr_cell v k⟩
  rw [hV]
  clear hr hB hv hV
  go_enter Try.func73, Try.ntmps73
  go_wp2_with fail
  refine (clone_any w A m c B bs HH.out.1 (by omega) HH.out.2).mono ?_
  rintro e w1 ⟨v1, rfl, hO⟩
  have HO := Hd.mk hO
  clear hO
  go_wp2_with fail
  refine (width_tall w1).mono ?_
  rintro e z ⟨rfl, rfl⟩
  go_wp2_with fail
  go_loopw [5, 10] (fun s i wr => ∃ k : Nat, k ≤ 2 ∧ i = .int .i64 k ∧ Onto w wr w.heap.size 5 (.slice none 0 0) s (m + k) (cb (bs ++ fx k v))) (fun _ i _ => 2 - (intOf i).toNat)
  case atStart => exact ⟨0, by omega, rfl, by simpa [fx] using HO.out⟩
  case round =>
    obtain ⟨k, hk, rfl, hO⟩ := hrel
    have H1 := Hd.mk hO
    clear hO
    by_cases hlt : k < 2
    · have h63 : Hd (m + k + 1 ≤ maxLen) := ⟨by unfold maxLen; omega⟩
      have hby : Hd ((m + k + 1) * 1 ≤ 140737488355328) := ⟨by omega⟩
      go_wp2_with (refine wpList_push elB rfl rfl (.tmp 13) (.tmp 19) 20 rfl rfl rfl w.heap.size u5 _ _ _ rfl rfl rfl rfl H1.out.own h63.out hby.out H1.out.size ?_; intro v2 w2 hO2)
      go_roundw
      case rel =>
        refine ⟨k + 1, by omega, by go_num, ?_⟩
        rw [fx_succ, ← List.append_assoc, cb_append]
        have := H1.out.trans (show Onto wr w2 w.heap.size 5 u5 v2 (m + k + 1) (cb (bs ++ fx k v) ++ [.int .u8 (V / 2 ^ (8 * k) % 256)]) from hO2)
        rw [HV.out] at this
        exact this
      case measure => simp [intOf]; omega
    · have hk8 : k = 2 := by omega
      subst hk8
      go_wp2_with fail
      go_ret
      exact ⟨_, rfl, H1.out⟩
end Go.Proofs.Ytjkenhkoakaaoaa
