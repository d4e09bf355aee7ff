/- Contracts of codec.PutVarint, PutBytes, PutTexts. -/
import Derived.Test.YtjkenhkoakaaoaaPutsA
import Derived.Lib.AppendStr
namespace Go.Proofs.Ytjkenhkoakaaoaa
open Go.RowKit
set_option linter.unusedVariables false
/-- A string's bytes. -/
def sb (s : ByteArray) : List Nat := s.data.toList.map UInt8.toNat
theorem sb_len (s : ByteArray) : (sb s).length = s.size := by unfold sb; rw [List.length_map, Array.length_toList]; rfl
theorem sb_lt (s : ByteArray) : ∀ x ∈ sb s, x < 256 := by
  intro x hx
  obtain ⟨b, _, rfl⟩ := List.mem_map.1 hx
  exact b.toNat_lt
theorem sb_cells (s : ByteArray) : Lib.strCells s = cb (sb s) := by unfold Lib.strCells cb sb; rw [List.map_map]; rfl
def cs (ts : List ByteArray) : List Value := ts.map .string
theorem cs_len (ts : List ByteArray) : (cs ts).length = ts.length := List.length_map _
theorem cs_get (ts : List ByteArray) (k : Nat) (h : k < ts.length) : (cs ts)[k]? = some (.string (ts.getD k ByteArray.empty)) := by
  unfold cs; rw [List.getElem?_map, List.getElem?_eq_getElem h, List.getD_eq_getElem?_getD, List.getElem?_eq_getElem h]; rfl
theorem cs_one (ts : List ByteArray) : ∀ u ∈ cs ts, u.oneCell' = true := by
  intro u hu; obtain ⟨x, _, rfl⟩ := List.mem_map.1 hu; rfl
/-- What texts write, one behind the other. -/
def tx (ts : List ByteArray) : List Nat := ts.flatMap fun t => uv t.size ++ sb t
theorem tx_take (ts : List ByteArray) (k : Nat) (h : k < ts.length) : tx (ts.take (k + 1)) = tx (ts.take k) ++ (uv (ts.getD k ByteArray.empty).size ++ sb (ts.getD k ByteArray.empty)) := by
  unfold tx
  rw [List.take_succ_eq_append_getElem h, List.flatMap_append, List.getD_eq_getElem?_getD, List.getElem?_eq_getElem h]
  simp
theorem tx_take_le (ts : List ByteArray) (k : Nat) : (tx (ts.take k)).length ≤ (tx ts).length := by
  conv => rhs; rw [← List.take_append_drop k ts]
  unfold tx; rw [List.flatMap_append, List.length_append]; omega
theorem infoStr : Try.prog.underlying 9 = some .string := by kernel_rfl
set_option maxHeartbeats 400000 in
theorem putVarint_any (w : World) (A : Option Addr) (n c B zn : Nat) (v : Int) (bs : List Nat) (hr : Rd w B A n (cb bs)) (h1 : -9223372036854775808 ≤ v) (h2 : v ≤ 9223372036854775807) (hn : n + 10 ≤ 140737488355328) (hB : B ≤ w.heap.size) (hz : zig v = (zn : Int)) (hz2 : zn < 2 ^ 64) :
    Calls Try.prog 74 #[.slice A n c, .int .i64 v] w fun e w' => ∃ v', e = .returned v' ∧ Onto w w' w.heap.size 5 (.slice none 0 0) v' (n + (uv zn).length) (cb (bs ++ uv zn)) := by
  have HH : Hd (Rd w B A n (cb bs) ∧ n + 10 ≤ 140737488355328 ∧ B ≤ w.heap.size ∧ zn < 2 ^ 64) := ⟨hr, hn, hB, hz2⟩
  have HZ := Hd.mk hz
  clear hr hn hB hz hz2
  go_enter Try.func74, Try.ntmps74
  go_wp2_with fail
  refine (zig64_any w v h1 h2).mono ?_
  rw [HZ.out]
  rintro e z ⟨rfl, rfl⟩
  go_wp2_with fail
  refine (putUvarint_any w A n c B zn bs HH.out.1 HH.out.2.2.2 HH.out.2.1 HH.out.2.2.1).mono ?_
  rintro e w1 ⟨v1, rfl, hO⟩
  have HO := Hd.mk hO
  clear hO
  go_wp2_with fail
  go_ret
  exact ⟨v1, rfl, HO.out⟩
set_option maxHeartbeats 400000 in
theorem putBytes_any (w : World) (A A2 : Option Addr) (n c m c2 B : Nat) (bs ps : List Nat) (hr : Rd w B A n (cb bs)) (hp : Rd w B A2 m (cb ps)) (hn : n + 10 + m ≤ 140737488355328) (hB : B ≤ w.heap.size) :
    Calls Try.prog 47 #[.slice A n c, .slice A2 m c2] w fun e w' => ∃ v', e = .returned v' ∧ Onto w w' w.heap.size 5 (.slice none 0 0) v' (n + (uv m).length + m) (cb (bs ++ uv m ++ ps)) := by
  have hu := uv_len m
  have HH : Hd (Rd w B A n (cb bs) ∧ Rd w B A2 m (cb ps) ∧ B ≤ w.heap.size ∧ m < 2 ^ 64) := ⟨hr, hp, hB, by omega⟩
  have h63 : Hd (n + (uv m).length + m ≤ maxLen) := ⟨by unfold maxLen; omega⟩
  have hby : Hd ((n + (uv m).length + m) * 1 ≤ 140737488355328) := ⟨by omega⟩
  have hn1 : n + 10 ≤ 140737488355328 := by omega
  clear hr hp hB hu
  go_enter Try.func47, Try.ntmps47
  go_wp2_with fail
  refine (putUvarint_any w A n c B m bs HH.out.1 HH.out.2.2.2 hn1 HH.out.2.2.1).mono ?_
  rintro e w1 ⟨v1, rfl, hO⟩
  have HO := Hd.mk hO
  have hbl := Hd.mk (hO.below (B := B) (fun k h => by cases h) HH.out.2.2.1)
  clear hO
  go_wp2_with (refine wpList_app elB rfl (.tmp 9) (.tmp 10) rfl w.heap.size v1 _ (cb (bs ++ uv m)) rfl HO.out.own B A2 m c2 (cb ps) rfl (HH.out.2.1.below hbl.out) (cb_one ps) h63.out hby.out HO.out.size ?_; intro v2 w2 hO2)
  go_ret
  exact ⟨v2, rfl, by rw [cb_append (bs ++ uv m)]; exact HO.out.trans hO2⟩
set_option maxHeartbeats 1000000 in
theorem putTexts_any (w : World) (A A2 : Option Addr) (n c m c2 B : Nat) (bs : List Nat) (ts : List ByteArray) (hr : Rd w B A n (cb bs)) (hp : Rd w B A2 m (cs ts)) (hn : n + 10 + (tx ts).length ≤ 140737488355000) (hm : m ≤ 140737488355000) (hB : B ≤ w.heap.size) :
    Calls Try.prog 46 #[.slice A n c, .slice A2 m c2] w fun e w' => ∃ v', e = .returned v' ∧ Onto w w' w.heap.size 5 (.slice none 0 0) v' (n + (uv m).length + (tx ts).length) (cb (bs ++ uv m ++ tx ts)) := by
  have hu := uv_len m
  have hml : ts.length = m := by have := hp.1; rw [cs_len] at this; exact this
  have HH : Hd (Rd w B A n (cb bs) ∧ Rd w B A2 m (cs ts) ∧ B ≤ w.heap.size ∧ m < 2 ^ 64 ∧ ts.length = m) := ⟨hr, hp, hB, by omega, hml⟩
  have hn1 : n + 10 ≤ 140737488355328 := by omega
  clear hr hp hB hml
  go_enter Try.func46, Try.ntmps46
  go_wp2_with fail
  refine (putUvarint_any w A n c B m bs HH.out.1 HH.out.2.2.2.1 hn1 HH.out.2.2.1).mono ?_
  rintro e w1 ⟨v1, rfl, hO⟩
  have HO := Hd.mk hO
  clear hO
  go_wp2_with fail
  go_loopw [5, 15] (fun s i wr => ∃ k : Nat, k ≤ m ∧ i = .int .i64 k ∧ wr.ownsRow w.heap.size 5 1 s (n + (uv m).length + (tx (ts.take k)).length) (cb (bs ++ uv m ++ tx (ts.take k))) ∧ Below w.heap.size w wr) (fun _ i _ => m - (intOf i).toNat)
  case atStart => exact ⟨0, by omega, rfl, by simpa [tx] using HO.out.own, HO.out.below (fun k h => by cases h) (Nat.le_refl _)⟩
  case round =>
    obtain ⟨k, hk, rfl, ho, hbl⟩ := hrel
    have H1 : Hd (wr.ownsRow w.heap.size 5 1 u5 (n + (uv m).length + (tx (ts.take k)).length) (cb (bs ++ uv m ++ tx (ts.take k))) ∧ Below w.heap.size w wr) := ⟨ho, hbl⟩
    clear ho hbl
    by_cases hlt : k < m
    · obtain ⟨g, off, u, hA, _, hx, hc⟩ := (HH.out.2.1.below (H1.out.2.mono HH.out.2.2.1)).at_ hlt
      rw [cs_get _ _ (by rw [HH.out.2.2.2.2]; exact hlt)] at hx
      injection hx with hx
      subst hx hA
      have htk := tx_take ts k (by rw [HH.out.2.2.2.2]; exact hlt)
      have hle := tx_take_le ts (k + 1)
      rw [htk, List.length_append, List.length_append] at hle
      have hsz := sb_len (ts.getD k ByteArray.empty)
      obtain ⟨t, ht⟩ : ∃ t, ts.getD k ByteArray.empty = t := ⟨_, rfl⟩
      rw [ht] at hc hle hsz htk
      have HT := Hd.mk htk
      have hu2 := uv_len t.size
      obtain ⟨N, hN⟩ : ∃ N, n + (uv m).length + (tx (ts.take k)).length = N := ⟨_, rfl⟩
      rw [hN] at H1
      have HN := Hd.mk hN
      have HS : Hd (t.size < 2 ^ 64 ∧ N + 10 ≤ 140737488355328 ∧ N + (uv t.size).length + t.size ≤ maxLen ∧ N + (uv t.size).length + t.size ≤ 140737488355328 ∧ (sb t).length = t.size) :=
        ⟨by omega, by omega, by unfold maxLen; omega, by omega, hsz⟩
      have hki : (k : Int) < (m : Int) := by omega
      have hts : (t.size : Int) ≤ 140737488355000 := by omega
      clear hle hsz htk ht hu2 hN
      go_wp2_with fail
      refine (short_any wr w.heap.size N t.size u5 (bs ++ uv m ++ tx (ts.take k)) H1.out.1 HS.out.1 HS.out.2.1 H1.out.2.size).mono ?_
      rintro e w2 ⟨v2, rfl, hO2⟩
      have H2 : Hd (w2.ownsRow w.heap.size 5 1 v2 (N + (uv t.size).length) (cb (bs ++ uv m ++ tx (ts.take k) ++ uv t.size)) ∧ Below w.heap.size w w2) := ⟨hO2.own, H1.out.2.trans (hO2.below (fun k hk => (H1.out.1.lt k hk).1) H1.out.2.size)⟩
      clear hO2
      obtain ⟨i8, q1, q2, q3, q4⟩ := elB.hi
      have HQ : Hd (Try.prog.info? 5 = some i8 ∧ i8.zero = some (.int .u8 0) ∧ i8.size = 1 ∧ i8.bytes = 1) := ⟨q1, q2, q3, q4⟩
      clear q1 q2 q3 q4
      go_wp2_with (at_builtin; go_loud (refine Lib.wpList_append_own_string _ rfl (.tmp 23) (.tmp 24) 45 9 rfl w.heap.size 5 i8 Try.underlying45 infoStr HQ.out.1 HQ.out.2.1 HQ.out.2.2.1 HQ.out.2.2.2 v2 (N + (uv t.size).length) _ rfl H2.out.1 t rfl HS.out.2.2.1 HS.out.2.2.2.1 H2.out.2.size ?_); intro v3 w3 ho3 hg3 hn3)
      go_roundw
      case rel =>
        refine ⟨k + 1, by omega, by go_num, ?_, H2.out.2.grown hg3 H2.out.2.size (fun k hk => (H2.out.1.lt k hk).1)⟩
        rw [HT.out, List.length_append, List.length_append, HS.out.2.2.2.2, ← Nat.add_assoc, ← Nat.add_assoc, HN.out, ← List.append_assoc, ← List.append_assoc, cb_append _ (sb t), ← sb_cells]
        exact ho3
      case measure => simp [intOf]; omega
    · have hkm : m = k := by omega
      have HF : Hd (ts.take m = ts) := ⟨List.take_of_length_le (by rw [HH.out.2.2.2.2]; exact Nat.le_refl _)⟩
      subst hkm
      rw [HF.out] at H1
      go_wp2_with fail
      go_ret
      exact ⟨_, rfl, H1.out.1, ⟨H1.out.2.os, H1.out.2.tape, H1.out.2.output, H1.out.2.size, fun k hk _ => H1.out.2.block k hk⟩, fun k hk => .inr (H1.out.1.lt k hk).1⟩
end Go.Proofs.Ytjkenhkoakaaoaa
