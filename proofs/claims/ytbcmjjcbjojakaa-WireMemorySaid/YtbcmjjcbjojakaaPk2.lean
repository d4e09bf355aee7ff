/- Put together of: PutsB PutsR Args ArgRows PutsL Crc Halves Over Sums Stream Gone Bits GoneA GoneB GoneLaw Ref FormP. -/
import Derived.Test.YtbcmjjcbjojakaaPk1
import Derived.Lib.AppendStr
import Derived.Laws.IdiomStrings
import Derived.Test.YtbcmjjcbjojakaaRows
import Derived.ProofKit
import Derived.OpenShut
import Derived.SizedLaws
import Derived.Deep.Matrix
import Derived.BigQuiet
import Derived.WalkSmall
import Derived.Below
import Derived.Outline
import Derived.WalkSpells
import Derived.WalkLawsBesides
import Derived.Handy
import Derived.StillTailTactics
import Derived.Deep.QuietTactic
import Derived.Laws.BitsAllLaws
section
namespace Go.Proofs.Ytbcmjjcbjojakaa
open Go.RowKit
set_option linter.unusedVariables false
/-- A string's bytes. -/
def sb (s : ByteArray) : List Nat := s.data.toList.map UInt8.toNat
theorem sb_len (s : ByteArray) : (sb s).length = s.size := by unfold sb; rw [List.length_map, Array.length_toList]; rfl
theorem sb_lt (s : ByteArray) : ∀ x ∈ sb s, x < 256 := by
 intro x hx
 obtain ⟨b, _, rfl⟩ := List.mem_map.1 hx
 exact b.toNat_lt
theorem sb_cells (s : ByteArray) : Lib.strCells s = cb (sb s) := by unfold Lib.strCells cb sb; rw [List.map_map]; rfl
def cs (ts : List ByteArray) : List Value := ts.map .string
theorem cs_len (ts : List ByteArray) : (cs ts).length = ts.length := List.length_map _
theorem cs_get (ts : List ByteArray) (k : Nat) (h : k < ts.length) : (cs ts)[k]? = some (.string (ts.getD k ByteArray.empty)) := by
 unfold cs; rw [List.getElem?_map, List.getElem?_eq_getElem h, List.getD_eq_getElem?_getD, List.getElem?_eq_getElem h]; rfl
/-- What texts write, one behind the other. -/
def tx (ts : List ByteArray) : List Nat := ts.flatMap fun t => uv t.size ++ sb t
theorem tx_take (ts : List ByteArray) (k : Nat) (h : k < ts.length) : tx (ts.take (k + 1)) = tx (ts.take k) ++ (uv (ts.getD k ByteArray.empty).size ++ sb (ts.getD k ByteArray.empty)) := by
 unfold tx
 rw [List.take_succ_eq_append_getElem h, List.flatMap_append, List.getD_eq_getElem?_getD, List.getElem?_eq_getElem h]
 simp
theorem tx_take_le (ts : List ByteArray) (k : Nat) : (tx (ts.take k)).length ≤ (tx ts).length := by
 conv => rhs; rw [← List.take_append_drop k ts]
 unfold tx; rw [List.flatMap_append, List.length_append]; omega
theorem infoStr : Try.prog.underlying 9 = some .string := by kernel_rfl
set_option maxHeartbeats 400000 in
theorem putVarint_any (w : World) (A : Option Addr) (n c B zn : Nat) (v : Int) (bs : List Nat) (hr : Rd w B A n (cb bs)) (h1 : -9223372036854775808 ≤ v) (h2 : v ≤ 9223372036854775807) (hn : n + 10 ≤ 140737488355328) (hB : B ≤ w.heap.size) (hz : zig v = (zn : Int)) (hz2 : zn < 2 ^ 64) :
  Calls Try.prog 59 #[.slice A n c, .int .i64 v] w fun e w' => ∃ v', e = .returned v' ∧ Onto w w' w.heap.size 5 (.slice none 0 0) v' (n + (uv zn).length) (cb (bs ++ uv zn)) := by
 have HH : Hd (Rd w B A n (cb bs) ∧ n + 10 ≤ 140737488355328 ∧ B ≤ w.heap.size ∧ zn < 2 ^ 64) := ⟨hr, hn, hB, hz2⟩
 have HZ := Hd.mk hz
 clear hr hn hB hz hz2
 go_enter Try.func59, Try.ntmps59
 go_wp2_with fail
 refine (zig64_any w v h1 h2).mono ?_
 rw [HZ.out]
 rintro e z ⟨rfl, rfl⟩
 go_wp2_with fail
 refine (putUvarint_any w A n c B zn bs HH.out.1 HH.out.2.2.2 HH.out.2.1 HH.out.2.2.1).mono ?_
 rintro e w1 ⟨v1, rfl, hO⟩
 have HO := Hd.mk hO
 clear hO
 go_wp2_with fail
 go_ret
 exact ⟨v1, rfl, HO.out⟩
set_option maxHeartbeats 400000 in
theorem putBytes_any (w : World) (A A2 : Option Addr) (n c m c2 B : Nat) (bs ps : List Nat) (hr : Rd w B A n (cb bs)) (hp : Rd w B A2 m (cb ps)) (hn : n + 10 + m ≤ 140737488355328) (hB : B ≤ w.heap.size) :
  Calls Try.prog 58 #[.slice A n c, .slice A2 m c2] w fun e w' => ∃ v', e = .returned v' ∧ Onto w w' w.heap.size 5 (.slice none 0 0) v' (n + (uv m).length + m) (cb (bs ++ uv m ++ ps)) := by
 have hu := uv_len m
 have HH : Hd (Rd w B A n (cb bs) ∧ Rd w B A2 m (cb ps) ∧ B ≤ w.heap.size ∧ m < 2 ^ 64) := ⟨hr, hp, hB, by omega⟩
 have h63 : Hd (n + (uv m).length + m ≤ maxLen) := ⟨by unfold maxLen; omega⟩
 have hby : Hd ((n + (uv m).length + m) * 1 ≤ 140737488355328) := ⟨by omega⟩
 have hn1 : n + 10 ≤ 140737488355328 := by omega
 clear hr hp hB hu
 go_enter Try.func58, Try.ntmps58
 go_wp2_with fail
 refine (putUvarint_any w A n c B m bs HH.out.1 HH.out.2.2.2 hn1 HH.out.2.2.1).mono ?_
 rintro e w1 ⟨v1, rfl, hO⟩
 have HO := Hd.mk hO
 have hbl := Hd.mk (hO.below (B := B) (fun k h => by cases h) HH.out.2.2.1)
 clear hO
 go_wp2_with (refine wpList_app elB rfl (.tmp 9) (.tmp 10) rfl w.heap.size v1 _ (cb (bs ++ uv m)) rfl HO.out.own B A2 m c2 (cb ps) rfl (HH.out.2.1.below hbl.out) (cb_one ps) h63.out hby.out HO.out.size ?_; intro v2 w2 hO2)
 go_ret
 exact ⟨v2, rfl, by rw [cb_append (bs ++ uv m)]; exact HO.out.trans hO2⟩
set_option maxHeartbeats 1000000 in
theorem putTexts_any (w : World) (A A2 : Option Addr) (n c m c2 B : Nat) (bs : List Nat) (ts : List ByteArray) (hr : Rd w B A n (cb bs)) (hp : Rd w B A2 m (cs ts)) (hn : n + 10 + (tx ts).length ≤ 140737488355000) (hm : m ≤ 140737488355000) (hB : B ≤ w.heap.size) :
  Calls Try.prog 68 #[.slice A n c, .slice A2 m c2] w fun e w' => ∃ v', e = .returned v' ∧ Onto w w' w.heap.size 5 (.slice none 0 0) v' (n + (uv m).length + (tx ts).length) (cb (bs ++ uv m ++ tx ts)) := by
 have hu := uv_len m
 have hml : ts.length = m := by have := hp.1; rw [cs_len] at this; exact this
 have HH : Hd (Rd w B A n (cb bs) ∧ Rd w B A2 m (cs ts) ∧ B ≤ w.heap.size ∧ m < 2 ^ 64 ∧ ts.length = m) := ⟨hr, hp, hB, by omega, hml⟩
 have hn1 : n + 10 ≤ 140737488355328 := by omega
 clear hr hp hB hml
 go_enter Try.func68, Try.ntmps68
 go_wp2_with fail
 refine (putUvarint_any w A n c B m bs HH.out.1 HH.out.2.2.2.1 hn1 HH.out.2.2.1).mono ?_
 rintro e w1 ⟨v1, rfl, hO⟩
 have HO := Hd.mk hO
 clear hO
 go_wp2_with fail
 go_loopw [5, 15] (fun s i wr => ∃ k : Nat, k ≤ m ∧ i = .int .i64 k ∧ wr.ownsRow w.heap.size 5 1 s (n + (uv m).length + (tx (ts.take k)).length) (cb (bs ++ uv m ++ tx (ts.take k))) ∧ Below w.heap.size w wr) (fun _ i _ => m - (intOf i).toNat)
 case atStart => exact ⟨0, by omega, rfl, by simpa [tx] using HO.out.own, HO.out.below (fun k h => by cases h) (Nat.le_refl _)⟩
 case round =>
  obtain ⟨k, hk, rfl, ho, hbl⟩ := hrel
  have H1 : Hd (wr.ownsRow w.heap.size 5 1 u5 (n + (uv m).length + (tx (ts.take k)).length) (cb (bs ++ uv m ++ tx (ts.take k))) ∧ Below w.heap.size w wr) := ⟨ho, hbl⟩
  clear ho hbl
  by_cases hlt : k < m
  ·obtain ⟨g, off, u, hA, _, hx, hc⟩ := (HH.out.2.1.below (H1.out.2.mono HH.out.2.2.1)).at_ hlt
   rw [cs_get _ _ (by rw [HH.out.2.2.2.2]; exact hlt)] at hx
   injection hx with hx
   subst hx hA
   have htk := tx_take ts k (by rw [HH.out.2.2.2.2]; exact hlt)
   have hle := tx_take_le ts (k + 1)
   rw [htk, List.length_append, List.length_append] at hle
   have hsz := sb_len (ts.getD k ByteArray.empty)
   obtain ⟨t, ht⟩ : ∃ t, ts.getD k ByteArray.empty = t := ⟨_, rfl⟩
   rw [ht] at hc hle hsz htk
   have HT := Hd.mk htk
   have hu2 := uv_len t.size
   obtain ⟨N, hN⟩ : ∃ N, n + (uv m).length + (tx (ts.take k)).length = N := ⟨_, rfl⟩
   rw [hN] at H1
   have HN := Hd.mk hN
   have HS : Hd (t.size < 2 ^ 64 ∧ N + 10 ≤ 140737488355328 ∧ N + (uv t.size).length + t.size ≤ maxLen ∧ N + (uv t.size).length + t.size ≤ 140737488355328 ∧ (sb t).length = t.size) :=
    ⟨by omega, by omega, by unfold maxLen; omega, by omega, hsz⟩
   have hki : (k : Int) < (m : Int) := by omega
   have hts : (t.size : Int) ≤ 140737488355000 := by omega
   clear hle hsz htk ht hu2 hN
   go_wp2_with fail
   refine (short_any wr w.heap.size N t.size u5 (bs ++ uv m ++ tx (ts.take k)) H1.out.1 HS.out.1 HS.out.2.1 H1.out.2.size).mono ?_
   rintro e w2 ⟨v2, rfl, hO2⟩
   have H2 : Hd (w2.ownsRow w.heap.size 5 1 v2 (N + (uv t.size).length) (cb (bs ++ uv m ++ tx (ts.take k) ++ uv t.size)) ∧ Below w.heap.size w w2) := ⟨hO2.own, H1.out.2.trans (hO2.below (fun k hk => (H1.out.1.lt k hk).1) H1.out.2.size)⟩
   clear hO2
   obtain ⟨i8, q1, q2, q3, q4⟩ := elB.hi
   have HQ : Hd (Try.prog.info? 5 = some i8 ∧ i8.zero = some (.int .u8 0) ∧ i8.size = 1 ∧ i8.bytes = 1) := ⟨q1, q2, q3, q4⟩
   clear q1 q2 q3 q4
   go_wp2_with (at_builtin; go_loud (refine Lib.wpList_append_own_string _ rfl (.tmp 23) (.tmp 24) 26 9 rfl w.heap.size 5 i8 Try.underlying26 infoStr HQ.out.1 HQ.out.2.1 HQ.out.2.2.1 HQ.out.2.2.2 v2 (N + (uv t.size).length) _ rfl H2.out.1 t rfl HS.out.2.2.1 HS.out.2.2.2.1 H2.out.2.size ?_); intro v3 w3 ho3 hg3 hn3)
   go_roundw
   case rel =>
    refine ⟨k + 1, by omega, by go_num, ?_, H2.out.2.grown hg3 H2.out.2.size (fun k hk => (H2.out.1.lt k hk).1)⟩
    rw [HT.out, List.length_append, List.length_append, HS.out.2.2.2.2, ← Nat.add_assoc, ← Nat.add_assoc, HN.out, ← List.append_assoc, ← List.append_assoc, cb_append _ (sb t), ← sb_cells]
    exact ho3
   case measure => simp [intOf]; omega
  ·have hkm : m = k := by omega
   have HF : Hd (ts.take m = ts) := ⟨List.take_of_length_le (by rw [HH.out.2.2.2.2]; exact Nat.le_refl _)⟩
   subst hkm
   rw [HF.out] at H1
   go_wp2_with fail
   go_ret
   exact ⟨_, rfl, H1.out.1, ⟨H1.out.2.os, H1.out.2.tape, H1.out.2.output, H1.out.2.size, fun k hk _ => H1.out.2.block k hk⟩, fun k hk => .inr (H1.out.1.lt k hk).1⟩
end Go.Proofs.Ytbcmjjcbjojakaa
end
section
namespace Go.Proofs.Ytbcmjjcbjojakaa
open Go.RowKit
set_option linter.unusedVariables false
section
variable (w : World) (A A2 : Option Addr) (n c m c2 B : Nat)
theorem onto_fresh {w1 w2 : World} {n : Nat} {v : Value} {xs : List Value} (b : Below w.heap.size w w1) (hO : Onto w1 w2 w1.heap.size 5 (.slice none 0 0) v n xs) : Onto w w2 w.heap.size 5 (.slice none 0 0) v n xs :=
 have b2 := b.trans (hO.below (B := w.heap.size) (fun k h => by cases h) b.size)
 ⟨hO.base_ (fun k h => by cases h) b.size, ⟨b2.os, b2.tape, b2.output, b2.size, fun k hk _ => b2.block k hk⟩, fun k hk => .inr (Nat.le_trans b.size ((hO.own.lt k hk).1))⟩
end
end Go.Proofs.Ytbcmjjcbjojakaa
end
section
namespace Go.Proofs.Ytbcmjjcbjojakaa
open Go.ChangeShapes Go.WideShapes Go.ChangeAt Go.RowKit
set_option linter.unusedVariables false
/-- A slice of integers that came in: nil, or a row of 'cap' cells, the numbers zs, the first 'len' its elements. -/
def IsRow (k : IntKind) (w : World) (a : Option Addr) (len cap : Nat) (zs : List Int) : Prop :=
 (a = none ∧ len = 0 ∧ cap = 0 ∧ zs = []) ∨
 ∃ x, a = some x ∧ len ≤ cap ∧ cap ≤ maxLen ∧ zs.length = cap ∧ (∀ i, i < zs.length → w.cell? (x.add i) = some (.int k (zs.getD i 0))) ∧ ∀ n ∈ zs, (Lit.int k n).wf = true
section
variable {k : IntKind} {w : World} {a : Option Addr} {len cap : Nat} {zs : List Int}
theorem IsRow.len_le (h : IsRow k w a len cap zs) : len ≤ cap := by
 rcases h with ⟨_, rfl, rfl, _⟩ | ⟨_, _, h, _⟩
 ·exact Nat.le_refl _
 ·exact h
theorem IsRow.rdAll (h : IsRow k w a len cap zs) : Rd w w.heap.size a cap (zs.map (.int k)) := by
 rcases h with ⟨rfl, rfl, rfl, rfl⟩ | ⟨x, rfl, hl, hm, hz, hc, hw⟩
 ·exact Rd.nil
 ·refine ⟨by simpa using hz, fun hp => ?_⟩
  obtain ⟨g, off, spot⟩ := x
  have h0 := hc 0 (by omega)
  have hs : spot = none := by simpa [Addr.add] using World.cell?_spot h0
  subst hs
  refine ⟨g, off, rfl, ?_, fun i hi => ?_⟩
  ·have := World.block_lt_of_cell? w _ h0; simpa [Addr.add] using this
  ·have h1 := hc i (by omega)
   have e : (⟨g, off, none⟩ : Addr).add i = ⟨g, off + i, none⟩ := by unfold Addr.add; split <;> simp_all
   rw [e] at h1
   rw [h1, List.getElem?_map, List.getD_eq_getElem?_getD, List.getElem?_eq_getElem (by omega)]; rfl
theorem IsRow.wf (h : IsRow k w a len cap zs) : ∀ n ∈ zs, (Lit.int k n).wf = true := by
 rcases h with ⟨_, _, _, rfl⟩ | ⟨_, _, _, _, _, _, h⟩
 ·intro n hn; cases hn
 ·exact h
end
/-- The bytes of a slice that came in. -/
theorem IsRow.bytes {w : World} {a : Option Addr} {len cap : Nat} {zs : List Int} (h : IsRow .u8 w a len cap zs) :
  ∃ l : List Nat, Rd w w.heap.size a cap (cb l) ∧ (∀ x ∈ l, x < 256) ∧ l.length = cap ∧ len ≤ cap := by
 have hw : ∀ n ∈ zs, 0 ≤ n ∧ n ≤ 255 := fun n hn => by simpa [Lit.wf, IntKind.min, IntKind.max, IntKind.signed, IntKind.bits] using h.wf n hn
 have e : zs.map (.int .u8) = cb (zs.map Int.toNat) := by
  unfold cb; rw [List.map_map]
  refine List.map_congr_left fun z hz => ?_
  simp only [Function.comp, bv]
  have := hw z hz
  rw [Int.toNat_of_nonneg this.1]
 refine ⟨zs.map Int.toNat, by rw [← e]; exact h.rdAll, fun x hx => ?_, ?_, h.len_le⟩
 ·obtain ⟨z, hz, rfl⟩ := List.mem_map.1 hx
  have := hw z hz
  omega
 ·have := h.rdAll.1
  simpa using this
end Go.Proofs.Ytbcmjjcbjojakaa
end
section
namespace Go.Proofs.Ytbcmjjcbjojakaa
open Go.ChangeShapes Go.WideShapes Go.ChangeAt Go.RowKit
set_option linter.unusedVariables false
/-- A slice of slices of bytes that came in: its rows' bytes. -/
def Rws (w : World) (A : Option Addr) (n : Nat) (ps : List (List Nat)) : Prop :=
 ps.length = n ∧ ∀ r, r < n → ∃ g off Ar Cr, A = some ⟨g, off, none⟩ ∧ g < w.heap.size ∧ w.cell? ⟨g, off + r, none⟩ = some (.slice Ar (ps.getD r []).length Cr) ∧ Rd w w.heap.size Ar (ps.getD r []).length (cb (ps.getD r [])) ∧ ∀ x ∈ ps.getD r [], x < 256
end Go.Proofs.Ytbcmjjcbjojakaa
end
section
namespace Go.Proofs.Ytbcmjjcbjojakaa
open Go.RowKit
set_option linter.unusedVariables false
theorem rd_bytes {w : World} {e cap : Nat} (t : ByteArray) (fr : Nat × Nat) : Rd (w.alloc (.cells (bytesRow t cap) e fr)) (w.heap.size + 1) (some ⟨w.heap.size, 0, none⟩) t.size (cb (sb t)) :=
 ⟨by rw [cb_length, sb_len], fun _ => ⟨w.heap.size, 0, rfl, by omega, fun i hi => by
  rw [cell_of_row _ w.heap.size (0 + i) _ e fr (heap_alloc_new w _), Nat.zero_add, bytesRow_at t cap i hi]
  unfold cb sb
  rw [List.getElem?_map, List.getElem?_map, List.getElem?_eq_getElem (by rw [Array.length_toList]; exact hi)]
  simp [bv]⟩⟩
/-- The marks of the law. -/
def marks : List Nat := (List.range 64).map fun i => 201 + i % 7
theorem infoT : (Try.prog.info? 9).map (fun i => (i.zero, i.size, i.bytes)) = some (some (.string ⟨#[]⟩), 1, 16) := by kernel_rfl
theorem elS : El Try.prog 37 9 16 (.string ⟨#[]⟩) := ⟨Try.underlying37, info_parts infoT, rfl⟩
theorem cs_append (a b : List ByteArray) : cs (a ++ b) = cs a ++ cs b := List.map_append
def markS : ByteArray := ⟨#[109, 97, 114, 107]⟩
set_option maxHeartbeats 1000000 in
theorem sameTexts_any (w : World) (A1 A2 : Option Addr) (n c1 c2 B : Nat) (ts : List ByteArray) (h1 : Rd w B A1 n (cs ts)) (h2 : Rd w B A2 n (cs ts)) (hn : n ≤ 8796093022000) :
  Calls Try.prog 69 #[.slice A1 n c1, .slice A2 n c2] w fun e w' => e = .returned (.bool true) ∧ Below w.heap.size w w' := by
 have hl : ts.length = n := by have := h1.1; rw [cs_len] at this; exact this
 have HH : Hd (Rd w B A1 n (cs ts) ∧ Rd w B A2 n (cs ts) ∧ ts.length = n) := ⟨h1, h2, hl⟩
 clear h1 h2 hl
 have e0 : ((n : Int) != (n : Int)) = false := by simp
 go_enter Try.func69, Try.ntmps69
 go_wp2_with fail
 go_loopw [5] (fun i wr => ∃ k : Nat, k ≤ n ∧ i = .int .i64 k ∧ w.heap = wr.heap ∧ Below w.heap.size w wr) (fun i _ => n - (intOf i).toNat)
 case atStart => exact ⟨0, by omega, rfl, rfl, Below.refl _ _⟩
 case round =>
  obtain ⟨k, hk, rfl, hh, hb⟩ := hrel
  have HB : Hd (w.heap = wr.heap ∧ Below w.heap.size w wr) := ⟨hh, hb⟩
  have hcell : ∀ p : Addr, wr.cell? p = w.cell? p := fun p => by simp [World.cell?, hh]
  by_cases hlt : k < n
  ·obtain ⟨g1, o1, v1, hA1, _, hx1, hc1⟩ := (HH.out.1.keep (fun p _ => hcell p)).at_ hlt
   obtain ⟨g2, o2, v2, hA2, _, hx2, hc2⟩ := (HH.out.2.1.keep (fun p _ => hcell p)).at_ hlt
   rw [cs_get _ _ (by rw [HH.out.2.2]; exact hlt)] at hx1 hx2
   injection hx1 with hx1
   injection hx2 with hx2
   obtain ⟨t, ht⟩ : ∃ t, ts.getD k ByteArray.empty = t := ⟨_, rfl⟩
   rw [ht] at hx1 hx2
   subst hx1 hx2 hA1 hA2
   have hki : (k : Int) < (n : Int) := by omega
   clear hcell hh hb ht
   go_wp2_with fail
   go_quiet (fail)
   go_wp2_with fail
   go_roundw
   case rel => exact ⟨k + 1, by omega, by go_num, HB.out.1, below_drewN HB.out.2 _⟩
   case measure => simp [intOf]; omega
  ·have hkn : n = k := by omega
   subst hkn
   clear hcell hh hb
   go_wp2_with fail
   go_ret
   exact ⟨rfl, HB.out.2⟩
end Go.Proofs.Ytbcmjjcbjojakaa
end
section
namespace Go.Proofs.Ytbcmjjcbjojakaa
namespace Crc
def M : Nat := 2197175160
/-- One step of the register. -/
def T (r : Nat) : Nat := if r % 2 = 1 then r / 2 ^^^ M else r / 2
def itT : Nat → Nat → Nat
 | 0, r => r
 | n + 1, r => itT n (T r)
/-- The register gone over bytes. -/
def ov (r : Nat) (l : List Nat) : Nat := l.foldl (fun r x => itT 8 (r ^^^ x)) r
theorem xor_half (a b : Nat) : (a ^^^ b) / 2 = a / 2 ^^^ b / 2 := by
 apply Nat.eq_of_testBit_eq; intro i
 simp [Nat.testBit_div_two, Nat.testBit_xor]
theorem xor_odd (a b : Nat) : (a ^^^ b) % 2 = (a % 2 + b % 2) % 2 := by
 have h := Nat.testBit_xor (x := a) (y := b) (i := 0)
 rw [Nat.testBit_zero, Nat.testBit_zero, Nat.testBit_zero] at h
 rcases Nat.mod_two_eq_zero_or_one a with ha | ha <;> rcases Nat.mod_two_eq_zero_or_one b with hb | hb <;> rcases Nat.mod_two_eq_zero_or_one (a ^^^ b) with hc | hc <;> rw [ha, hb, hc] at h <;> rw [ha, hb, hc] <;> simp at h
theorem T_xor (a b : Nat) : T (a ^^^ b) = T a ^^^ T b := by
 unfold T
 rw [xor_half, xor_odd]
 by_cases ha : a % 2 = 1 <;> by_cases hb : b % 2 = 1
 ·rw [if_neg (by omega), if_pos ha, if_pos hb]
  rw [Nat.xor_comm (b / 2) M, Nat.xor_assoc, ← Nat.xor_assoc M M, Nat.xor_self, Nat.zero_xor]
 ·rw [if_pos (by omega), if_pos ha, if_neg hb]
  rw [Nat.xor_assoc, Nat.xor_comm (b / 2) M, ← Nat.xor_assoc]
 ·rw [if_pos (by omega), if_neg ha, if_pos hb, Nat.xor_assoc]
 ·rw [if_neg (by omega), if_neg ha, if_neg hb]
theorem T_double (a : Nat) : T (2 * a) = a := by unfold T; rw [if_neg (by omega)]; omega
theorem itT_xor : ∀ (n a b : Nat), itT n (a ^^^ b) = itT n a ^^^ itT n b
 | 0, _, _ => rfl
 | n + 1, a, b => by simp only [itT]; rw [T_xor, itT_xor n]
theorem itT_shift : ∀ (n a : Nat), itT n (2 ^ n * a) = a
 | 0, a => by simp [itT]
 | n + 1, a => by
  simp only [itT]
  rw [show 2 ^ (n + 1) * a = 2 * (2 ^ n * a) by rw [Nat.pow_succ]; ac_rfl, T_double, itT_shift n]
theorem itT_add : ∀ (m n a : Nat), itT (m + n) a = itT n (itT m a)
 | 0, n, a => by simp [itT]
 | m + 1, n, a => by rw [show m + 1 + n = (m + n) + 1 by omega]; simp only [itT]; exact itT_add m n (T a)
theorem xor_split (n r : Nat) : r = 2 ^ n * (r / 2 ^ n) ^^^ r % 2 ^ n := by
 apply Nat.eq_of_testBit_eq; intro i
 rw [Nat.testBit_xor, Nat.testBit_two_pow_mul, Nat.testBit_mod_two_pow, Nat.testBit_div_two_pow]
 by_cases h : n ≤ i
 ·have h2 : ¬ i < n := by omega
  simp [h, h2, Nat.sub_add_cancel h]
 ·have h2 : i < n := by omega
  simp [h, h2]
theorem nib (r : Nat) : r / 16 ^^^ itT 4 (r % 16) = itT 4 r := by
 have h := xor_split 4 r
 have e : itT 4 r = itT 4 (2 ^ 4 * (r / 2 ^ 4) ^^^ r % 2 ^ 4) := by rw [← h]
 rw [e, itT_xor, itT_shift]
theorem two_nibs (r : Nat) : itT 4 (itT 4 r) = itT 8 r := (itT_add 4 4 r).symm
theorem M_lt : M < 2 ^ 32 := by decide
theorem T_lt (r : Nat) (h : r < 2 ^ 32) : T r < 2 ^ 32 := by
 unfold T; split
 ·exact Nat.xor_lt_two_pow (by omega) M_lt
 ·omega
theorem itT_lt : ∀ (n r : Nat), r < 2 ^ 32 → itT n r < 2 ^ 32
 | 0, _, h => h
 | n + 1, r, h => itT_lt n _ (T_lt r h)
theorem ov_lt : ∀ (l : List Nat) (r : Nat), r < 2 ^ 32 → (∀ x ∈ l, x < 256) → ov r l < 2 ^ 32
 | [], _, h, _ => h
 | x :: l, r, h, hl => by
  have hx : x < 256 := hl x (List.mem_cons_self ..)
  exact ov_lt l _ (itT_lt 8 _ (Nat.xor_lt_two_pow h (by omega))) (fun y hy => hl y (List.mem_cons_of_mem _ hy))
theorem ov_append (r : Nat) (a b : List Nat) : ov r (a ++ b) = ov (ov r a) b := List.foldl_append
theorem ov_cons (r x : Nat) (l : List Nat) : ov r (x :: l) = ov (itT 8 (r ^^^ x)) l := rfl
theorem ov_nil (r : Nat) : ov r [] = r := rfl
/-- The sum that goes on from another. -/
def more (s : Nat) (l : List Nat) : Nat := 4294967295 - ov (4294967295 - s) l
theorem more_int (r n : Nat) (l : List Nat) (h : n = 4294967295 - r) (hv : ov n l < 2 ^ 32) : (4294967295 : Int) - (ov n l : Nat) = ((more r l : Nat) : Int) := by
 subst h; unfold more; omega
theorem more_lt (r : Nat) (l : List Nat) : more r l < 2 ^ 32 := by unfold more; omega
end Crc
end Go.Proofs.Ytbcmjjcbjojakaa
end
section
namespace Go.Proofs.Ytbcmjjcbjojakaa
open Go.RowKit
set_option linter.unusedVariables false
theorem and1_u32 (R : Int) (h1 : 0 ≤ R) (h2 : R ≤ 4294967295) : bits .and .u32 R 1 = R % 2 := by
 rw [u32_and R 1 h1 (by omega) (by omega) (by omega), show (1 : Int).toNat = 1 from rfl, Nat.and_one_is_mod]; omega
theorem and15_u32 (R : Int) (h1 : 0 ≤ R) (h2 : R ≤ 4294967295) : bits .and .u32 R 15 = R % 16 := by
 rw [u32_and R 15 h1 (by omega) (by omega) (by omega), show (15 : Int).toNat = 15 from rfl, nat_mask4]; omega
theorem xor_u32 (a b : Nat) (ha : a < 4294967296) (hb : b < 4294967296) (A B : Int) (hA : A = a) (hB : B = b) : bits .xor .u32 A B = ((a ^^^ b : Nat) : Int) := by
 subst hA hB; exact u32_xor_nat a b ha hb
set_option maxHeartbeats 400000 in
theorem step_any (w : World) (R : Int) (h1 : 0 ≤ R) (h2 : R ≤ 4294967295) :
  Calls Try.prog 151 #[.int .u32 R] w fun e w' => e = .returned (.int .u32 ((Crc.T R.toNat : Nat) : Int)) ∧ w = w' := by
 have ha := and1_u32 R h1 h2
 by_cases h : R % 2 = 1
 ·have e : (bits .and .u32 R 1 == 1) = true := by rw [ha, h]; rfl
  have HR : Hid (R % 2 = 1) := h
  clear ha h
  go_enter Try.func151, Try.ntmps151
  go_wp2
  go_ret
  refine ⟨ret_int ?_, rfl⟩
  have := HR.out
  unfold Crc.T
  rw [if_pos (by omega)]
  exact xor_u32 (R.toNat / 2) Crc.M (by omega) (by decide) _ _ (by omega) rfl
 ·have e : (bits .and .u32 R 1 == 1) = false := by rw [ha, beq_eq_false_iff_ne]; exact h
  have HR : Hid (¬ R % 2 = 1) := h
  clear ha h
  go_enter Try.func151, Try.ntmps151
  go_wp2
  go_ret
  refine ⟨ret_int ?_, rfl⟩
  have := HR.out
  unfold Crc.T
  rw [if_neg (by omega)]
  omega
theorem step_nat (w : World) (r : Nat) (h : r < 4294967296) :
  Calls Try.prog 151 #[.int .u32 (r : Int)] w fun e w' => e = .returned (.int .u32 ((Crc.T r : Nat) : Int)) ∧ w = w' := by
 have := step_any w (r : Int) (by omega) (by omega)
 rw [Int.toNat_natCast] at this
 exact this
/-- The table of crc.halves. -/
def tbl : Array Value := ((List.range 16).map fun i => Value.int .u32 ((Crc.itT 4 i : Nat) : Int)).toArray
set_option maxRecDepth 100000 in
set_option maxHeartbeats 2000000 in
theorem halves_any (w : World) :
  Calls Try.prog 133 #[] w fun e w' => e = .returned (.agg tbl) ∧ Below w.heap.size w w' := by
 go_enter Try.func133, Try.ntmps133
 go_wp2_with fail
 refine wp_loop_rounds 17 ?_
 iterate 17 (rw [rounds_succ]; go_wp2_with (go_at_call 151; first | ((with_reducible refine (step_nat _ _ (by decide)).mono ?_); rintro e w' ⟨rfl, rfl⟩) | (refine (step_any _ _ (by omega) (by omega)).mono ?_; rintro e w' ⟨rfl, rfl⟩)))
 refine bodyPost_ret (v := .agg tbl) ?_ rfl ⟨rfl, ?_⟩
 ·simp [results, Try.results133, go_sem]
  rfl
 ·go_grown
end Go.Proofs.Ytbcmjjcbjojakaa
end
section
namespace Go.Proofs.Ytbcmjjcbjojakaa
open Go.RowKit
set_option linter.unusedVariables false
theorem tbl_lit : tbl = #[.int .u32 ((Crc.itT 4 0 : Nat) : Int), .int .u32 ((Crc.itT 4 1 : Nat) : Int), .int .u32 ((Crc.itT 4 2 : Nat) : Int), .int .u32 ((Crc.itT 4 3 : Nat) : Int), .int .u32 ((Crc.itT 4 4 : Nat) : Int), .int .u32 ((Crc.itT 4 5 : Nat) : Int), .int .u32 ((Crc.itT 4 6 : Nat) : Int), .int .u32 ((Crc.itT 4 7 : Nat) : Int), .int .u32 ((Crc.itT 4 8 : Nat) : Int), .int .u32 ((Crc.itT 4 9 : Nat) : Int), .int .u32 ((Crc.itT 4 10 : Nat) : Int), .int .u32 ((Crc.itT 4 11 : Nat) : Int), .int .u32 ((Crc.itT 4 12 : Nat) : Int), .int .u32 ((Crc.itT 4 13 : Nat) : Int), .int .u32 ((Crc.itT 4 14 : Nat) : Int), .int .u32 ((Crc.itT 4 15 : Nat) : Int)] := rfl
set_option maxRecDepth 100000 in
set_option maxHeartbeats 400000 in
theorem over_any (w : World) (R : Int) (h1 : 0 ≤ R) (h2 : R ≤ 4294967295) (A : Option Addr) (n c B : Nat) (l : List Nat) (hr : Rd w B A n (cb l)) (hB : B ≤ w.heap.size) (hl : ∀ x ∈ l, x < 256) (hn : n ≤ 140737488355328) :
  Calls Try.prog 118 #[.int .u32 R, .slice A n c] w fun e w' => e = .returned (.int .u32 ((Crc.ov R.toNat l : Nat) : Int)) ∧ Below w.heap.size w w' := by
 have HH : Hid (Rd w B A n (cb l) ∧ B ≤ w.heap.size ∧ (∀ x ∈ l, x < 256) ∧ n ≤ 140737488355328) := ⟨hr, hB, hl, hn⟩
 clear hr hB hl hn
 go_enter Try.func118, Try.ntmps118
 go_wp2_with (go_at_call 133; refine (halves_any _).mono ?_; rw [tbl_lit]; rintro e w1 ⟨rfl, hb1⟩)
 rw [← tbl_lit]
 have HW : Hid (Below w.heap.size w (w1.alloc (.cells tbl 173)) ∧ ∀ k, k < 16 → (w1.alloc (.cells tbl 173)).cell? ⟨w1.heap.size, k, none⟩ = some (.int .u32 ((Crc.itT 4 k : Nat) : Int))) := by
  refine ⟨hb1.alloc hb1.size _, fun k hk => ?_⟩
  rw [cell_of_row _ w1.heap.size k tbl 173 (0, 0) (heap_alloc_new w1 _)]
  unfold tbl
  simp [hk]
 obtain ⟨W2, hW2⟩ : ∃ W2, w1.alloc (.cells tbl 173) = W2 := ⟨_, rfl⟩
 rw [hW2] at HW ⊢
 clear hW2 hb1
 have hR : Hid (Rd W2 B A n (cb l)) := HH.out.1.below (HW.out.1.mono HH.out.2.1)
 have hnn : n ≤ 140737488355328 := HH.out.2.2.2
 go_loop [0, 11] (fun r i => ∃ k : Nat, k ≤ n ∧ i = .int .i64 k ∧ r = .int .u32 ((Crc.ov R.toNat (l.take k) : Nat) : Int)) (fun _ i => n - (intOf i).toNat)
 case atStart => exact ⟨0, by omega, rfl, by simp [Crc.ov]; omega⟩
 case round =>
  obtain ⟨k, hk, rfl, rfl⟩ := hrel
  have hll : l.length = n := by have := hR.out.1; rw [cb_length] at this; exact this
  have hp : Crc.ov R.toNat (l.take k) < 2 ^ 32 := Crc.ov_lt _ _ (by omega) (fun x hx => HH.out.2.2.1 x (List.mem_of_mem_take hx))
  by_cases hlt : k < n
  ·obtain ⟨g, off, v, hA, _, hx, hc⟩ := hR.out.at_ hlt
   rw [cb_get _ _ (by omega)] at hx
   injection hx with hx
   have hxb : l.getD k 0 < 256 := by
    rw [List.getD_eq_getElem?_getD, List.getElem?_eq_getElem (by omega)]
    exact HH.out.2.2.1 _ (List.getElem_mem _)
   have hstep : Crc.ov R.toNat (l.take (k + 1)) = Crc.itT 8 (Crc.ov R.toNat (l.take k) ^^^ l.getD k 0) := by
    rw [List.take_succ_eq_append_getElem (by omega), Crc.ov_append, Crc.ov_cons, Crc.ov_nil, List.getD_eq_getElem?_getD, List.getElem?_eq_getElem (by omega)]; rfl
   have HS := hid hstep
   clear hstep
   generalize Crc.ov R.toNat (l.take k) = p at *
   generalize l.getD k 0 = x at *
   have q1 : p ^^^ x < 2 ^ 32 := Nat.xor_lt_two_pow hp (by omega)
   have hn1 := Crc.nib (p ^^^ x)
   have q2 : Crc.itT 4 (p ^^^ x) < 2 ^ 32 := Crc.itT_lt 4 _ q1
   have hn2 := Crc.nib (Crc.itT 4 (p ^^^ x))
   rw [Crc.two_nibs] at hn2
   have E1 := u32_xor_nat p x (by omega) (by omega)
   have E2 := and15_u32 ((p ^^^ x : Nat) : Int) (by omega) (by omega)
   have C1 := HW.out.2 ((p ^^^ x) % 16) (by omega)
   have i1 : Crc.itT 4 ((p ^^^ x) % 16) < 2 ^ 32 := Crc.itT_lt 4 _ (by omega)
   have E3 := xor_u32 ((p ^^^ x) / 16) (Crc.itT 4 ((p ^^^ x) % 16)) (by omega) (by omega) (((p ^^^ x : Nat) : Int) / 16) _ (by omega) rfl
   rw [hn1] at E3
   have E4 := and15_u32 ((Crc.itT 4 (p ^^^ x) : Nat) : Int) (by omega) (by omega)
   have C2 := HW.out.2 (Crc.itT 4 (p ^^^ x) % 16) (by omega)
   have i2 : Crc.itT 4 (Crc.itT 4 (p ^^^ x) % 16) < 2 ^ 32 := Crc.itT_lt 4 _ (by omega)
   have E5 := xor_u32 (Crc.itT 4 (p ^^^ x) / 16) (Crc.itT 4 (Crc.itT 4 (p ^^^ x) % 16)) (by omega) (by omega) (((Crc.itT 4 (p ^^^ x) : Nat) : Int) / 16) _ (by omega) rfl
   rw [hn2, ← HS.out] at E5
   generalize Crc.itT 4 ((p ^^^ x) % 16) = v1 at *
   generalize Crc.itT 4 (Crc.itT 4 (p ^^^ x) % 16) = v2 at *
   obtain ⟨z, hz⟩ : ∃ z, Crc.ov R.toNat (l.take (k + 1)) = z := ⟨_, rfl⟩
   rw [hz] at E5
   have HZ := hid hz
   clear hz
   clear hn1 hn2 HS
   generalize Crc.itT 4 (p ^^^ x) = y at *
   generalize p ^^^ x = q at *
   have b1 : (0 : Int) ≤ (q : Int) ∧ (q : Int) ≤ 4294967295 := by omega
   have b2 : (0 : Int) ≤ (y : Int) ∧ (y : Int) ≤ 4294967295 := by omega
   have b0 : (0 : Int) ≤ (x : Int) ∧ (x : Int) ≤ 255 := by omega
   have e2 : (q : Int) % 16 = ((q % 16 : Nat) : Int) := by omega
   have e4 : (y : Int) % 16 = ((y % 16 : Nat) : Int) := by omega
   rw [e2] at E2
   rw [e4] at E4
   have m1 : q % 16 < 16 := by omega
   have m2 : y % 16 < 16 := by omega
   generalize q % 16 = j1 at *
   generalize y % 16 = j2 at *
   clear e2 e4 hp hxb q1 q2 i1 i2
   obtain ⟨Q, hQ⟩ : ∃ Q : Int, (q : Int) = Q := ⟨_, rfl⟩
   obtain ⟨Y, hY⟩ : ∃ Y : Int, (y : Int) = Y := ⟨_, rfl⟩
   obtain ⟨X, hX⟩ : ∃ X : Int, (x : Int) = X := ⟨_, rfl⟩
   obtain ⟨PP, hP⟩ : ∃ X : Int, (p : Int) = X := ⟨_, rfl⟩
   rw [hX] at E1 hx b0
   rw [hP] at E1 ⊢
   obtain ⟨b5, b6⟩ := b0
   rw [hQ] at E1 E2 E3 b1
   rw [hY] at E3 E4 E5 b2
   obtain ⟨b1, b3⟩ := b1
   obtain ⟨b2, b4⟩ := b2
   clear hQ hY hX hP
   subst hx
   subst hA
   go_wp2
   go_round
   case rel => exact ⟨k + 1, by omega, by go_num, by rw [HZ.out]⟩
   case measure => simp [intOf]; omega
  ·have hkn : k = n := by omega
   subst hkn
   have hfin : Crc.ov R.toNat (l.take k) = Crc.ov R.toNat l := by rw [← hll, List.take_length]
   rw [hfin]
   have HF := hid hfin
   clear hfin hp hll
   go_wp2
   go_ret
   exact ⟨rfl, HW.out.1⟩
end Go.Proofs.Ytbcmjjcbjojakaa
end
section
namespace Go.Proofs.Ytbcmjjcbjojakaa
open Go.RowKit
set_option linter.unusedVariables false
theorem not_u32 (R : Int) (h1 : 0 ≤ R) (h2 : R ≤ 4294967295) : bits .xor .u32 4294967295 R = 4294967295 - R := by
 obtain ⟨r, rfl⟩ := Int.eq_ofNat_of_zero_le h1
 have h := u32_xor_nat 4294967295 r (by omega) (by omega)
 rw [show ((4294967295 : Nat) : Int) = 4294967295 from rfl] at h
 rw [h]
 have e : 4294967295 ^^^ r = 4294967295 - r := by
  apply Nat.eq_of_testBit_eq; intro i
  have := Nat.testBit_two_pow_sub_succ (n := 32) (x := r) (by omega) i
  rw [Nat.testBit_xor, show 4294967295 - r = 2 ^ 32 - (r + 1) by omega, this, show 4294967295 = 2 ^ 32 - 1 from rfl, Nat.testBit_two_pow_sub_one]
  by_cases hi : i < 32
  ·simp [hi]
  ·have : r.testBit i = false := Nat.testBit_lt_two_pow (Nat.lt_of_lt_of_le (by omega : r < 2 ^ 32) (Nat.pow_le_pow_right (by omega) (by omega)))
   simp [hi, this]
 rw [e]; omega
theorem max_u32 : IntKind.u32.max = 4294967295 := rfl
section
variable (w : World) (A : Option Addr) (n c B : Nat) (l : List Nat)
set_option maxHeartbeats 400000 in
theorem more_any (R : Int) (h1 : 0 ≤ R) (h2 : R ≤ 4294967295) (hr : Rd w B A n (cb l)) (hB : B ≤ w.heap.size) (hl : ∀ x ∈ l, x < 256) (hn : n ≤ 140737488355328) :
  Calls Try.prog 108 #[.int .u32 R, .slice A n c] w fun e w' => e = .returned (.int .u32 ((Crc.more R.toNat l : Nat) : Int)) ∧ Below w.heap.size w w' := by
 have HH : Hid (Rd w B A n (cb l) ∧ B ≤ w.heap.size ∧ (∀ x ∈ l, x < 256) ∧ n ≤ 140737488355328) := ⟨hr, hB, hl, hn⟩
 clear hr hB hl hn
 have e1 : bits .xor .u32 IntKind.u32.max R = 4294967295 - R := by rw [max_u32]; exact not_u32 R h1 h2
 obtain ⟨N, hN⟩ : ∃ N : Int, 4294967295 - R = N := ⟨_, rfl⟩
 rw [hN] at e1
 have n1 : 0 ≤ N := by omega
 have n2 : N ≤ 4294967295 := by omega
 have HN := hid hN
 clear hN
 have hv := Crc.ov_lt l N.toNat (by omega) HH.out.2.2.1
 have e2 : bits .xor .u32 IntKind.u32.max ((Crc.ov N.toNat l : Nat) : Int) = 4294967295 - ((Crc.ov N.toNat l : Nat) : Int) := by rw [max_u32]; exact not_u32 _ (by omega) (by omega)
 have HV := hid hv
 clear hv
 go_enter Try.func108, Try.ntmps108
 go_wp2_with fail
 refine (over_any w N n1 n2 A n c B l HH.out.1 HH.out.2.1 HH.out.2.2.1 HH.out.2.2.2).mono ?_
 rintro e w1 ⟨rfl, hb1⟩
 go_wp2_with fail
 go_ret
 have hx := Crc.more_int R.toNat N.toNat l (by have := HN.out; omega) HV.out
 refine ⟨?_, hb1⟩
 show Ending.returned (.int .u32 (4294967295 - ((Crc.ov N.toNat l : Nat) : Int))) = _
 rw [hx]
set_option maxHeartbeats 400000 in
theorem sum_any (hr : Rd w B A n (cb l)) (hB : B ≤ w.heap.size) (hl : ∀ x ∈ l, x < 256) (hn : n ≤ 140737488355328) :
  Calls Try.prog 93 #[.slice A n c] w fun e w' => e = .returned (.int .u32 ((Crc.more 0 l : Nat) : Int)) ∧ Below w.heap.size w w' := by
 have HH : Hid (Rd w B A n (cb l) ∧ B ≤ w.heap.size ∧ (∀ x ∈ l, x < 256) ∧ n ≤ 140737488355328) := ⟨hr, hB, hl, hn⟩
 clear hr hB hl hn
 go_enter Try.func93, Try.ntmps93
 go_wp2_with fail
 refine (more_any w A n c B l 0 (by omega) (by omega) HH.out.1 HH.out.2.1 HH.out.2.2.1 HH.out.2.2.2).mono ?_
 rintro e w1 ⟨rfl, hb1⟩
 go_wp2_with fail
 go_ret
 exact ⟨rfl, hb1⟩
end
end Go.Proofs.Ytbcmjjcbjojakaa
end
section
namespace Go.Proofs.Ytbcmjjcbjojakaa
open Go.RowKit
set_option linter.unusedVariables false
/-- A stream in block g, at place o of the cells xs: its sum, its count. -/
structure Strm (w : World) (g o : Nat) (xs : Array Value) (t S C : Nat) : Prop where
 heap : w.heap[g]? = some (.cells xs t)
 x0 : xs[o]? = some (.int .u32 (S : Int))
 x1 : xs[o + 1]? = some (.int .u64 (C : Int))
 s : S < 4294967296
 c : C < 18446744073709551616
/-- The cells with another stream at place o. -/
def put2 (xs : Array Value) (o S C : Nat) : Array Value := (xs.setIfInBounds o (.int .u32 (S : Int))).setIfInBounds (o + 1) (.int .u64 (C : Int))
section
variable {w w' : World} {g o t S C : Nat} {xs : Array Value}
theorem Strm.lt (h : Strm w g o xs t S C) : g < w.heap.size := (Array.getElem?_eq_some_iff.1 h.heap).1
theorem Strm.below {B : Nat} (h : Strm w g o xs t S C) (b : Below B w w') (hg : g < B) : Strm w' g o xs t S C := ⟨by rw [b.block g hg]; exact h.heap, h.x0, h.x1, h.s, h.c⟩
theorem Strm.cell0 (h : Strm w g o xs t S C) : w.cell? ⟨g, o, none⟩ = some (.int .u32 (S : Int)) := by rw [cell_of_row w g o _ _ (0, 0) h.heap]; exact h.x0
theorem Strm.cell1 (h : Strm w g o xs t S C) : w.cell? ⟨g, o + 1, none⟩ = some (.int .u64 (C : Int)) := by rw [cell_of_row w g (o + 1) _ _ (0, 0) h.heap]; exact h.x1
theorem Strm.free (h : Strm w g o xs t S C) (i : Nat) : w.frozen? ⟨g, i, none⟩ = false := by simp [World.frozen?, h.heap]
theorem Strm.in0 (h : Strm w g o xs t S C) : o < xs.size := (Array.getElem?_eq_some_iff.1 h.x0).1
theorem Strm.in1 (h : Strm w g o xs t S C) : o + 1 < xs.size := (Array.getElem?_eq_some_iff.1 h.x1).1
theorem heap_set (w : World) (g i : Nat) (u : Value) (xs : Array Value) (t : Nat) (h : w.heap[g]? = some (.cells xs t)) : (w.setCell ⟨g, i, none⟩ u).heap[g]? = some (.cells (xs.setIfInBounds i u) t) := by
 simp only [World.setCell]
 rw [Array.getElem?_modify, if_pos rfl, h]
 rfl
theorem grown_set (w : World) (g i : Nat) (u : Value) : w.grownBy (w.setCell ⟨g, i, none⟩ u) (some g) :=
 ⟨rfl, rfl, rfl, by simp [World.setCell], fun k hk hne => Below.heap_setCell _ _ _ _ (fun e => hne (by rw [e]))⟩
theorem Strm.set0 (h : Strm w g o xs t S C) {S' : Nat} (hs : S' < 4294967296) : Strm (w.setCell ⟨g, o, none⟩ (.int .u32 (S' : Int))) g o (xs.setIfInBounds o (.int .u32 (S' : Int))) t S' C := by
 refine ⟨heap_set w g o _ xs t h.heap, ?_, ?_, hs, h.c⟩
 ·rw [Array.getElem?_setIfInBounds, if_pos rfl, if_pos h.in0]
 ·rw [Array.getElem?_setIfInBounds, if_neg (by omega)]; exact h.x1
theorem Strm.set1 (h : Strm w g o xs t S C) {C' : Nat} (hs : C' < 18446744073709551616) : Strm (w.setCell ⟨g, o + 1, none⟩ (.int .u64 (C' : Int))) g o (xs.setIfInBounds (o + 1) (.int .u64 (C' : Int))) t S C' := by
 refine ⟨heap_set w g (o + 1) _ xs t h.heap, ?_, ?_, h.s, hs⟩
 ·rw [Array.getElem?_setIfInBounds, if_neg (by omega)]; exact h.x0
 ·rw [Array.getElem?_setIfInBounds, if_pos rfl, if_pos h.in1]
theorem below_own {B : Nat} (h : Below B w w') (hB : B = w.heap.size) (row : Option Nat) : w.grownBy w' row := ⟨h.os, h.tape, h.output, h.size, fun k hk _ => h.block k (by omega)⟩
theorem wrap_u64 (x : Nat) : IntKind.u64.wrap (x : Int) = ((x % 18446744073709551616 : Nat) : Int) := by
 simp [IntKind.wrap, IntKind.bits, IntKind.signed]
end
theorem ssum_any (w : World) (g o t S C : Nat) (xs : Array Value) (h : Strm w g o xs t S C) :
  Calls Try.prog 94 #[.pointer (some ⟨g, o, none⟩)] w fun e w' => e = .returned (.int .u32 (S : Int)) ∧ w = w' := by
 have h0 := h.cell0
 have HH := Hd.mk h
 clear h
 go_enter Try.func94, Try.ntmps94
 go_wp2_with fail
 go_ret
 exact ⟨rfl, rfl⟩
set_option maxHeartbeats 400000 in
theorem write_any (w : World) (g o t S C : Nat) (xs : Array Value) (A : Option Addr) (n c B : Nat) (l : List Nat) (h : Strm w g o xs t S C) (hr : Rd w B A n (cb l)) (hB : B ≤ w.heap.size) (hl : ∀ x ∈ l, x < 256) (hn : n ≤ 140737488355328) :
  Calls Try.prog 91 #[.pointer (some ⟨g, o, none⟩), .slice A n c] w fun e w' => e = .returned (.tuple #[]) ∧ Strm w' g o (put2 xs o (Crc.more S l) ((C + n) % 18446744073709551616)) t (Crc.more S l) ((C + n) % 18446744073709551616) ∧ w.grownBy w' (some g) := by
 have c0 := h.cell0
 have HH := Hd.mk h
 have HR : Hd (Rd w B A n (cb l) ∧ (∀ x ∈ l, x < 256)) := ⟨hr, hl⟩
 have hs := h.s
 clear h hr hl
 go_enter Try.func91, Try.ntmps91
 go_wp2_with fail
 refine (more_any w A n c B l (S : Int) (by omega) (by omega) HR.out.1 hB HR.out.2 hn).mono ?_
 rw [Int.toNat_natCast]
 rintro e w1 ⟨rfl, hb⟩
 have H1 : Hd (Strm w1 g o xs t S C ∧ Below w.heap.size w w1) := ⟨HH.out.below hb HH.out.lt, hb⟩
 have hml := Crc.more_lt S l
 obtain ⟨M, hM⟩ : ∃ M, Crc.more S l = M := ⟨_, rfl⟩
 have HM := Hd.mk hM
 rw [hM] at hml ⊢
 clear hM
 have H2 : Hd (Strm (w1.setCell ⟨g, o, none⟩ (.int .u32 (M : Int))) g o (xs.setIfInBounds o (.int .u32 (M : Int))) t M C) := ⟨H1.out.1.set0 (by omega)⟩
 have d0 := H1.out.1.cell0
 have f0 := H1.out.1.free o
 have d1 := H2.out.cell1
 have f1 := H2.out.free (o + 1)
 have hc := H2.out.c
 clear hb c0
 go_wp2_with fail
 go_end0
 rw [HM.out, show (C : Int) + (n : Int) = ((C + n : Nat) : Int) by omega, wrap_u64]
 exact ⟨rfl, H2.out.set1 (Nat.mod_lt _ (by omega)), ((below_own H1.out.2 rfl _).trans (grown_set ..)).trans (grown_set ..)⟩
theorem sreset_any (w : World) (g o t S C : Nat) (xs : Array Value) (h : Strm w g o xs t S C) :
  Calls Try.prog 113 #[.pointer (some ⟨g, o, none⟩)] w fun e w' => e = .returned (.tuple #[]) ∧ Strm w' g o (put2 xs o 0 0) t 0 0 ∧ w.grownBy w' (some g) := by
 have h0 := h.cell0
 have h1 := h.cell1
 have f0 := h.free o
 have f1 := h.free (o + 1)
 have HH := Hd.mk h
 clear h
 go_enter Try.func113, Try.ntmps113
 go_wp2_with fail
 go_end0
 exact ⟨rfl, (HH.out.set0 (S' := 0) (by omega)).set1 (C' := 0) (by omega), (grown_set ..).trans (grown_set ..)⟩
end Go.Proofs.Ytbcmjjcbjojakaa
end
section
namespace Go.Proofs.Ytbcmjjcbjojakaa
namespace Crc
def trm : List Nat := [0, 4, 5, 6, 7, 9, 10, 12, 13, 14, 18, 19, 21, 22, 23, 24, 26, 32]
def rx (r : Nat) (L : List Nat) : Nat → List Nat
 | 0 => L
 | j + 1 => (rx r L j).set j ((rx r L j).getD j 0 ^^^ r / 2 ^ j % 2)
def tog (L : List Nat) (p : Nat) : List Nat := L.set p (L.getD p 0 ^^^ 1)
def tg (L : List Nat) (i : Nat) : Nat → List Nat
 | 0 => L
 | k + 1 => tog (tg L i k) (i + trm.getD k 0)
def gl (L : List Nat) : Nat → List Nat
 | 0 => L
 | i + 1 => if (gl L i).getD i 0 = 1 then tg (gl L i) i 18 else gl L i
def rs (L : List Nat) (n : Nat) : Nat → Nat
 | 0 => 0
 | j + 1 => rs L n j ||| L.getD (n + j) 0 * 2 ^ j
def Bin (L : List Nat) : Prop := ∀ j, L.getD j 0 < 2
/-- The bits of a byte in order; of bytes. -/
def b8 (x : Nat) : List Nat := (List.range 8).map fun k => x / 2 ^ k % 2
def bts (l : List Nat) : List Nat := l.flatMap b8
/-- What the reference's gone computes. -/
def gn (r : Nat) (l : List Nat) : Nat := rs (gl (rx r (bts l ++ List.replicate 32 0) 32) (8 * l.length)) (8 * l.length) 32
end Crc
end Go.Proofs.Ytbcmjjcbjojakaa
end
section
namespace Go.Proofs.Ytbcmjjcbjojakaa
open Go.RowKit
set_option linter.unusedVariables false
/-- The cells of numbers. -/
def ci (l : List Nat) : List Value := l.map fun x : Nat => .int .i64 (x : Int)
end Go.Proofs.Ytbcmjjcbjojakaa
end
section
namespace Go.Proofs.Ytbcmjjcbjojakaa
open Go.RowKit
set_option linter.unusedVariables false
end Go.Proofs.Ytbcmjjcbjojakaa
end
section
namespace Go.Proofs.Ytbcmjjcbjojakaa
open Go.RowKit
set_option linter.unusedVariables false
end Go.Proofs.Ytbcmjjcbjojakaa
end
section
namespace Go.Proofs.Ytbcmjjcbjojakaa
namespace Crc
/-- Bit q of x. -/
def bt (x q : Nat) : Nat := x / 2 ^ q % 2
/-- The register gone over bits. -/
def sbq (r : Nat) (l : List Nat) : Nat := l.foldl (fun r m => T (r ^^^ m)) r
def bk (k x : Nat) : List Nat := (List.range k).map fun j => x / 2 ^ j % 2
end Crc
end Go.Proofs.Ytbcmjjcbjojakaa
end
section
namespace Go.Proofs.Ytbcmjjcbjojakaa
open Go.RowKit
set_option linter.unusedVariables false
section
variable (w : World) (A : Option Addr) (n c B : Nat) (l : List Nat)
end
end Go.Proofs.Ytbcmjjcbjojakaa
end
section
namespace Go.Proofs.Ytbcmjjcbjojakaa
open Go.RowKit
set_option linter.unusedVariables false
/-- A chunk's head: its kind and how many bytes follow. -/
def hd3 (c : List Nat) : List Nat := fx 1 (if c.length ≤ 16384 then 2 else 1) ++ fx 2 (min c.length 16384)
/-- One chunk, where s is the sum of those ahead. -/
def chk (s : Nat) (c : List Nat) : List Nat := hd3 c ++ fx 4 (Crc.more 0 (hd3 c)) ++ c.take (min c.length 16384) ++ fx 4 (Crc.more s (c.take (min c.length 16384)))
def fmF : Nat → Nat → List Nat → List Nat
 | 0, _, _ => []
 | f + 1, s, c => if c = [] then [] else chk s c ++ fmF f (Crc.more s (c.take (min c.length 16384))) (c.drop (min c.length 16384))
def formP (c : List Nat) : List Nat := fmF c.length 0 c
theorem fmF_nil (f s : Nat) : fmF f s [] = [] := by cases f <;> simp [fmF]
theorem fmF_step (f s : Nat) (c : List Nat) (h : 0 < c.length) : fmF (f + 1) s c = chk s c ++ fmF f (Crc.more s (c.take (min c.length 16384))) (c.drop (min c.length 16384)) := by
 have : c ≠ [] := by intro e; subst e; simp at h
 simp [fmF, this]
theorem chk_len (s : Nat) (c : List Nat) : (chk s c).length = min c.length 16384 + 11 := by
 unfold chk hd3; simp only [List.length_append, fx_len, List.length_take]; omega
/-- How many elements a slice has. -/
def sliceLen : Value → Nat
 | .slice _ n _ => n
 | _ => 0
theorem cb_take (bs : List Nat) (k : Nat) : (cb bs).take k = cb (bs.take k) := by unfold cb; rw [List.map_take]
theorem cb_drop (bs : List Nat) (k : Nat) : (cb bs).drop k = cb (bs.drop k) := by unfold cb; rw [List.map_drop]
theorem own_keepBlock {w w' : World} {base e n g : Nat} {v : Value} {xs : List Value} (h : w.ownsRow base e 1 v n xs) (hg : w.grownBy w' (some g)) (hne : v.ownBlock ≠ some g) : w'.ownsRow base e 1 v n xs :=
 h.kept hg (by
  cases hv : v.ownBlock with
  | none => exact .inl rfl
  | some k => exact .inr fun e => hne (by rw [hv, e]))
theorem own_below' {w w' : World} {base e n : Nat} {v : Value} {xs : List Value} (h : w.ownsRow base e 1 v n xs) (b : Below w.heap.size w w') : w'.ownsRow base e 1 v n xs :=
 ⟨h.1, h.2.imp id fun ⟨g, cap, cur, hv, hg, hh, r⟩ => ⟨g, cap, cur, hv, hg, by rw [b.block g (Array.getElem?_eq_some_iff.1 hh).1]; exact hh, r⟩⟩
theorem own_base {w : World} {base base' e n : Nat} {v : Value} {xs : List Value} (h : w.ownsRow base e 1 v n xs) (hb : base' ≤ base) : w.ownsRow base' e 1 v n xs :=
 ⟨h.1, h.2.imp id fun ⟨g, cap, cur, hv, hg, r⟩ => ⟨g, cap, cur, hv, Nat.le_trans hb hg, r⟩⟩
/-- What may still be cut from its beginning. -/
theorem rd_from {w : World} {B n c p : Nat} {A : Option Addr} {bs : List Nat} (h : Rd w B A n (cb bs)) (hp : p ≤ n) (hn : n ≤ c) : Rd w B (cutA A c p) (n - p) (cb (bs.drop p)) := by
 have := h.cut (l := p) (h := n) hp (Nat.le_refl _) hn
 rw [cb_drop, cb_take, List.take_of_length_le (by have := h.1; rw [cb_length] at this; rw [List.length_drop]; omega)] at this
 exact this
end Go.Proofs.Ytbcmjjcbjojakaa
end
