
/- Contracts of codec.PutVarint, PutBytes, PutTexts. -/
import Derived.Test.YtbcmjjcbjojakaaDoorPutsA
import Derived.Lib.AppendStr
namespace Go.Proofs.YtbcmjjcbjojakaaDoor
open Go.RowKit
set_option linter.unusedVariables false
/-- A string's bytes. -/
def sb (s : ByteArray) : List Nat := s.data.toList.map UInt8.toNat
theorem sb_len (s : ByteArray) : (sb s).length = s.size := by unfold sb; rw [List.length_map, Array.length_toList]; rfl
theorem sb_lt (s : ByteArray) : ∀ x ∈ sb s, x < 256 := by
  intro x hx
  obtain ⟨b, _, rfl⟩ := List.mem_map.1 hx
  exact b.toNat_lt
theorem sb_cells (s : ByteArray) : Lib.strCells s = cb (sb s) := by unfold Lib.strCells cb sb; rw [List.map_map]; rfl
def cs (ts : List ByteArray) : List Value := ts.map .string
theorem cs_len (ts : List ByteArray) : (cs ts).length = ts.length := List.length_map _
theorem cs_get (ts : List ByteArray) (k : Nat) (h : k < ts.length) : (cs ts)[k]? = some (.string (ts.getD k ByteArray.empty)) := by
  unfold cs; rw [List.getElem?_map, List.getElem?_eq_getElem h, List.getD_eq_getElem?_getD, List.getElem?_eq_getElem h]; rfl
theorem cs_one (ts : List ByteArray) : ∀ u ∈ cs ts, u.oneCell' = true := by
  intro u hu; obtain ⟨x, _, rfl⟩ := List.mem_map.1 hu; rfl
/-- What texts write, one behind the other. -/
def tx (ts : List ByteArray) : List Nat := ts.flatMap fun t => uv t.size ++ sb t
theorem tx_take (ts : List ByteArray) (k : Nat) (h : k < ts.length) : tx (ts.take (k + 1)) = tx (ts.take k) ++ (uv (ts.getD k ByteArray.empty).size ++ sb (ts.getD k ByteArray.empty)) := by
  unfold tx
  rw [List.take_succ_eq_append_getElem h, List.flatMap_append, List.getD_eq_getElem?_getD, List.getElem?_eq_getElem h]
  simp
theorem tx_take_le (ts : List ByteArray) (k : Nat) : (tx (ts.take k)).length ≤ (tx ts).length := by
  conv => rhs; rw [← List.take_append_drop k ts]
  unfold tx; rw [List.flatMap_append, List.length_append]; omega
theorem infoStr : Tryd.prog.underlying 9 = some .string := by kernel_rfl
set_option maxHeartbeats 400000 in
theorem putVarint_any (w : World) (A : Option Addr) (n c B zn : Nat) (v : Int) (bs : List Nat) (hr : Rd w B A n (cb bs)) (h1 : -9223372036854775808 ≤ v) (h2 : v ≤ 9223372036854775807) (hn : n + 10 ≤ 140737488355328) (hB : B ≤ w.heap.size) (hz : zig v = (zn : Int)) (hz2 : zn < 2 ^ 64) :
    Calls Tryd.prog 27 #[.slice A n c, .int .i64 v] w fun e w' => ∃ v', e = .returned v' ∧ Onto w w' w.heap.size 5 (.slice none 0 0) v' (n + (uv zn).length) (cb (bs ++ uv zn)) := by
  have HH : Hd (Rd w B A n (cb bs) ∧ n + 10 ≤ 140737488355328 ∧ B ≤ w.heap.size ∧ zn < 2 ^ 64) := ⟨hr, hn, hB, hz2⟩
  have HZ := Hd.mk hz
  clear hr hn hB hz hz2
  go_enter Tryd.func27, Tryd.ntmps27
  go_wp2_with fail
  refine (zig64_any w v h1 h2).mono ?_
  rw [HZ.out]
  rintro e z ⟨rfl, rfl⟩
  go_wp2_with fail
  refine (putUvarint_any w A n c B zn bs HH.out.1 HH.out.2.2.2 HH.out.2.1 HH.out.2.2.1).mono ?_
  rintro e w1 ⟨v1, rfl, hO⟩
  have HO := Hd.mk hO
  clear hO
  go_wp2_with fail
  go_ret
  exact ⟨v1, rfl, HO.out⟩
set_option maxHeartbeats 400000 in
theorem putBytes_any (w : World) (A A2 : Option Addr) (n c m c2 B : Nat) (bs ps : List Nat) (hr : Rd w B A n (cb bs)) (hp : Rd w B A2 m (cb ps)) (hn : n + 10 + m ≤ 140737488355328) (hB : B ≤ w.heap.size) :
    Calls Tryd.prog 26 #[.slice A n c, .slice A2 m c2] w fun e w' => ∃ v', e = .returned v' ∧ Onto w w' w.heap.size 5 (.slice none 0 0) v' (n + (uv m).length + m) (cb (bs ++ uv m ++ ps)) := by
  have hu := uv_len m
  have HH : Hd (Rd w B A n (cb bs) ∧ Rd w B A2 m (cb ps) ∧ B ≤ w.heap.size ∧ m < 2 ^ 64) := ⟨hr, hp, hB, by omega⟩
  have h63 : Hd (n + (uv m).length + m ≤ maxLen) := ⟨by unfold maxLen; omega⟩
  have hby : Hd ((n + (uv m).length + m) * 1 ≤ 140737488355328) := ⟨by omega⟩
  have hn1 : n + 10 ≤ 140737488355328 := by omega
  clear hr hp hB hu
  go_enter Tryd.func26, Tryd.ntmps26
  go_wp2_with fail
  refine (putUvarint_any w A n c B m bs HH.out.1 HH.out.2.2.2 hn1 HH.out.2.2.1).mono ?_
  rintro e w1 ⟨v1, rfl, hO⟩
  have HO := Hd.mk hO
  have hbl := Hd.mk (hO.below (B := B) (fun k h => by cases h) HH.out.2.2.1)
  clear hO
  go_wp2_with (refine wpList_app elB rfl (.tmp 9) (.tmp 10) rfl w.heap.size v1 _ (cb (bs ++ uv m)) rfl HO.out.own B A2 m c2 (cb ps) rfl (HH.out.2.1.below hbl.out) (cb_one ps) h63.out hby.out HO.out.size ?_; intro v2 w2 hO2)
  go_ret
  exact ⟨v2, rfl, by rw [cb_append (bs ++ uv m)]; exact HO.out.trans hO2⟩
end Go.Proofs.YtbcmjjcbjojakaaDoor
