/- Contracts of the reference's PutTexts and of the laws' lent, unmarked, lentTexts, unmarkedTexts, sameTexts, same. -/
import Derived.Test.YtjkenhkoakaaoaaPutsR
import Derived.Test.YtjkenhkoakaaoaaArgRows
import Derived.BigQuiet
import Derived.WalkSmall
namespace Go.Proofs.Ytjkenhkoakaaoaa
open Go.RowKit
set_option linter.unusedVariables false
theorem rd_bytes {w : World} {e cap : Nat} (t : ByteArray) (fr : Nat × Nat) : Rd (w.alloc (.cells (bytesRow t cap) e fr)) (w.heap.size + 1) (some ⟨w.heap.size, 0, none⟩) t.size (cb (sb t)) :=
  ⟨by rw [cb_length, sb_len], fun _ => ⟨w.heap.size, 0, rfl, by omega, fun i hi => by
    rw [cell_of_row _ w.heap.size (0 + i) _ e fr (heap_alloc_new w _), Nat.zero_add, bytesRow_at t cap i hi]
    unfold cb sb
    rw [List.getElem?_map, List.getElem?_map, List.getElem?_eq_getElem (by rw [Array.length_toList]; exact hi)]
    simp [bv]⟩⟩
set_option maxHeartbeats 1000000 in
theorem refPutTexts_any (w : World) (A A2 : Option Addr) (n c m c2 B : Nat) (bs : List Nat) (ts : List ByteArray) (hr : Rd w B A n (cb bs)) (hp : Rd w B A2 m (cs ts)) (hn : n + 20 + (tx ts).length ≤ 140737488355000) (hm : m ≤ 140737488355000) (hB : B ≤ w.heap.size) :
    Calls Try.prog 68 #[.slice A n c, .slice A2 m c2] w fun e w' => ∃ v', e = .returned v' ∧ Onto w w' w.heap.size 5 (.slice none 0 0) v' (n + (uv m).length + (tx ts).length) (cb (bs ++ uv m ++ tx ts)) := by
  have hu := uv_len m
  have hml : ts.length = m := by have := hp.1; rw [cs_len] at this; exact this
  have HH : Hd (Rd w B A n (cb bs) ∧ Rd w B A2 m (cs ts) ∧ B ≤ w.heap.size ∧ m < 2 ^ 64 ∧ ts.length = m) := ⟨hr, hp, hB, by omega, hml⟩
  have hn1 : n + 10 ≤ 140737488355328 := by omega
  clear hr hp hB hml
  go_enter Try.func68, Try.ntmps68
  go_wp2_with fail
  refine (refPutUvarint_any w A n c B m bs HH.out.1 HH.out.2.2.2.1 hn1 HH.out.2.2.1).mono ?_
  rintro e w1 ⟨v1, rfl, hO⟩
  have HO := Hd.mk hO
  clear hO
  go_wp2_with fail
  go_loopw [5, 6] (fun s i wr => ∃ k : Nat, k ≤ m ∧ i = .int .i64 k ∧ Onto w wr w.heap.size 5 (.slice none 0 0) s (n + (uv m).length + (tx (ts.take k)).length) (cb (bs ++ uv m ++ tx (ts.take k)))) (fun _ i _ => m - (intOf i).toNat)
  case atStart => exact ⟨0, by omega, rfl, by simpa [tx] using HO.out⟩
  case round =>
    obtain ⟨k, hk, rfl, hO⟩ := hrel
    by_cases hlt : k < m
    · obtain ⟨A3, c3, hv3, _, _⟩ := own_form hO.own
      subst hv3
      have hbw := hO.below (B := w.heap.size) (fun k h => by cases h) (Nat.le_refl _)
      have H1 : Hd (Rd wr wr.heap.size A3 (n + (uv m).length + (tx (ts.take k)).length) (cb (bs ++ uv m ++ tx (ts.take k))) ∧ Below w.heap.size w wr) := ⟨Rd.of_own hO.own, hbw⟩
      clear hO
      obtain ⟨g, off, u, hA, _, hx, hc⟩ := (HH.out.2.1.below (hbw.mono HH.out.2.2.1)).at_ hlt
      rw [cs_get _ _ (by rw [HH.out.2.2.2.2]; exact hlt)] at hx
      injection hx with hx
      subst hx hA
      have htk := tx_take ts k (by rw [HH.out.2.2.2.2]; exact hlt)
      have hle := tx_take_le ts (k + 1)
      rw [htk, List.length_append, List.length_append] at hle
      have hsz := sb_len (ts.getD k ByteArray.empty)
      obtain ⟨t, ht⟩ : ∃ t, ts.getD k ByteArray.empty = t := ⟨_, rfl⟩
      rw [ht] at hc hle hsz htk
      have HT := Hd.mk htk
      have hu2 := uv_len t.size
      obtain ⟨N, hN⟩ : ∃ N, n + (uv m).length + (tx (ts.take k)).length = N := ⟨_, rfl⟩
      rw [hN] at H1 ⊢
      have HN := Hd.mk hN
      have HS : Hd (N + 10 + t.size ≤ 140737488355328 ∧ (sb t).length = t.size) := ⟨by omega, hsz⟩
      have hki : (k : Int) < (m : Int) := by omega
      have hcv := fun w => run_bytes_of_string (P := Try.prog) w 9 45 5 t infoStr Try.underlying45 Try.underlying5
      generalize hcap : grownCap = GC at hcv
      clear hle hsz htk ht hu2 hN hbw
      go_wp2_with fail
      obtain ⟨G, hG⟩ : ∃ G, GC wr t.size 0 5 = G := ⟨_, rfl⟩
      rw [hG]
      refine (refPutBytes_any (wr.alloc (.cells (bytesRow t G) 5 ((bytesRow t G).size, (bytesRow t G).size + 1))).drew A3 (some ⟨wr.heap.size, 0, none⟩) N c3 t.size G (wr.heap.size + 1) (bs ++ uv m ++ tx (ts.take k)) (sb t)
        (((H1.out.1.alloc (Nat.le_refl _) (.cells (bytesRow t G) 5 ((bytesRow t G).size, (bytesRow t G).size + 1))).more (Nat.le_succ _)).keep (fun _ _ => rfl)) ((rd_bytes (w := wr) (e := 5) (cap := G) t ((bytesRow t G).size, (bytesRow t G).size + 1)).keep (fun _ _ => rfl)) HS.out.1 (by show wr.heap.size + 1 ≤ (wr.alloc _).heap.size; simp)).mono ?_
      rintro e w2 ⟨v2, rfl, hO2⟩
      have H2 := Hd.mk (onto_fresh w ((H1.out.2.alloc H1.out.2.size _).drew) hO2)
      clear hO2 hG hcv hcap
      go_wp2_with fail
      go_roundw
      case rel =>
        refine ⟨k + 1, by omega, by go_num, ?_⟩
        rw [HT.out, List.length_append, List.length_append, HS.out.2, ← Nat.add_assoc, ← Nat.add_assoc, HN.out, ← List.append_assoc, ← List.append_assoc]
        exact H2.out
      case measure => simp [intOf]; omega
    · have hkm : m = k := by omega
      have HF : Hd (ts.take m = ts) := ⟨List.take_of_length_le (by rw [HH.out.2.2.2.2]; exact Nat.le_refl _)⟩
      subst hkm
      rw [HF.out] at hO
      have H1 := Hd.mk hO
      clear hO
      go_wp2_with fail
      go_ret
      exact ⟨_, rfl, H1.out⟩
/-- The marks of the law. -/
def marks : List Nat := (List.range 64).map fun i => 201 + i % 7
theorem marks_len : marks.length = 64 := by simp [marks]
theorem marks_get (k : Nat) (h : k < 64) : marks.getD k 0 = 201 + k % 7 := by
  unfold marks; rw [List.getD_eq_getElem?_getD, List.getElem?_map, List.getElem?_range h]; rfl
theorem marks_take (k : Nat) (h : k < 64) : marks.take (k + 1) = marks.take k ++ [201 + k % 7] := by
  rw [List.take_succ_eq_append_getElem (by rw [marks_len]; exact h)]
  have := marks_get k h
  rw [List.getD_eq_getElem?_getD, List.getElem?_eq_getElem (by rw [marks_len]; exact h)] at this
  simp only [Option.getD_some] at this
  rw [this]
set_option maxHeartbeats 1000000 in
theorem lent_any (w : World) (A : Option Addr) (n c B : Nat) (bs : List Nat) (hr : Rd w B A n (cb bs)) (hn : n ≤ 140737488355000) (hB : B ≤ w.heap.size) :
    Calls Try.prog 27 #[.slice A n c] w fun e w' => ∃ g cap, e = .returned (.slice (some ⟨g, 0, none⟩) n cap) ∧ w'.ownsRow w.heap.size 5 1 (.slice (some ⟨g, 0, none⟩) (n + 64) cap) (n + 64) (cb (bs ++ marks)) ∧ Below w.heap.size w w' ∧ w.heap.size ≤ g ∧ g < w'.heap.size ∧ n + 64 ≤ cap := by
  have HH : Hd (Rd w B A n (cb bs) ∧ B ≤ w.heap.size) := ⟨hr, hB⟩
  have h63 : Hd (0 + n ≤ maxLen) := ⟨by unfold maxLen; omega⟩
  have hby : Hd ((0 + n) * 1 ≤ 140737488355328) := ⟨by omega⟩
  clear hr hB
  go_enter Try.func27, Try.ntmps27
  go_wp2_with (refine wpList_app elB rfl (.tmp 5) (.tmp 6) rfl w.heap.size (.slice none 0 0) 0 [] rfl (World.ownsRow_nil ..) B A n c (cb bs) rfl HH.out.1 (cb_one bs) h63.out hby.out (Nat.le_refl _) ?_; intro v1 w1 hO1; have H1 : Hd (Onto w w1 w.heap.size 5 (.slice none 0 0) v1 n (cb bs)) := ⟨by simpa using hO1⟩; clear hO1)
  go_loopw [3, 4] (fun s i wr => ∃ k : Nat, k ≤ 64 ∧ i = .int .i64 k ∧ Onto w wr w.heap.size 5 (.slice none 0 0) s (n + k) (cb (bs ++ marks.take k))) (fun _ i _ => 64 - (intOf i).toNat)
  case atStart => exact ⟨0, by omega, rfl, by simpa using H1.out⟩
  case round =>
    obtain ⟨k, hk, rfl, hO⟩ := hrel
    have H2 := Hd.mk hO
    clear hO H1
    by_cases hlt : k < 64
    · have h63 : Hd (n + k + 1 ≤ maxLen) := ⟨by unfold maxLen; omega⟩
      have hby : Hd ((n + k + 1) * 1 ≤ 140737488355328) := ⟨by omega⟩
      have hd := Int.tmod_eq_emod_of_nonneg (a := (k : Int)) (b := 7) (by omega)
      go_wp2_with (refine wpList_push elB rfl rfl (.tmp 12) (.tmp 16) 17 rfl rfl rfl w.heap.size u3 _ _ _ rfl rfl rfl rfl H2.out.own h63.out hby.out H2.out.size ?_; intro v2 w2 hO2)
      go_roundw
      case rel =>
        refine ⟨k + 1, by omega, by go_num, ?_⟩
        have h3 : Onto wr w2 w.heap.size 5 u3 v2 (n + k + 1) (cb (bs ++ marks.take k) ++ [.int .u8 (201 + (k : Int) % 7)]) := hO2
        rw [show 201 + (k : Int) % 7 = ((201 + k % 7 : Nat) : Int) by omega] at h3
        rw [marks_take k hlt, ← List.append_assoc, cb_append]
        exact H2.out.trans h3
      case measure => simp [intOf]; omega
    · have hk8 : k = 64 := by omega
      subst hk8
      have HM : Hd (marks.take 64 = marks) := ⟨List.take_of_length_le (by rw [marks_len]; exact Nat.le_refl _)⟩
      rw [HM.out] at H2
      obtain ⟨g, cap, hv, hg1, hg2⟩ := own_pos H2.out.own (by omega)
      obtain ⟨_, _, hv2, hc2, _⟩ := own_form H2.out.own
      subst hv
      cases hv2
      have sB := fun w => run_cut_to (P := Try.prog) (w := w) elB (some ⟨g, 0, none⟩) (n + 64) cap n (by omega)
      have HG : Hd (w.heap.size ≤ g ∧ g < wr.heap.size ∧ n + 64 ≤ cap) := ⟨hg1, hg2, hc2⟩
      clear hg1 hg2 hc2
      go_wp2_with fail
      go_ret
      exact ⟨g, cap, rfl, H2.out.own, H2.out.below (fun k h => by cases h) (Nat.le_refl _), HG.out.1, HG.out.2.1, HG.out.2.2⟩
set_option maxRecDepth 20000 in
set_option maxHeartbeats 1000000 in
theorem unmarked_any (w : World) (base g n cap B : Nat) (A2 : Option Addr) (c2 : Nat) (bs : List Nat) (ho : w.ownsRow base 5 1 (.slice (some ⟨g, 0, none⟩) (n + 64) cap) (n + 64) (cb (bs ++ marks))) (hr : Rd w B A2 n (cb bs)) (hn : n ≤ 140737488355000) (hc : n + 64 ≤ cap) :
    Calls Try.prog 32 #[.slice (some ⟨g, 0, none⟩) n cap, .slice A2 n c2] w fun e w' => e = .returned (.bool true) ∧ w = w' := by
  have hbl : bs.length = n := by have := hr.1; rw [cb_length] at this; exact this
  have f1 : (convert 45 9 (.slice (some ⟨g, 0, none⟩) n cap)).run Try.prog w = .ok (.string (bstr bs)) w := by
    have h := (Rd.of_own ho).take (h := n) (by omega)
    rw [cb, ← List.map_take, List.take_left' hbl] at h
    rw [← cb, cb_ints] at h
    exact run_conv_str _ _ 5 Try.underlying45 Try.underlying5 infoStr cap h
  have f2 : (convert 45 9 (.slice A2 n c2)).run Try.prog w = .ok (.string (bstr bs)) w := by
    have h := hr
    rw [cb_ints] at h
    exact run_conv_str _ _ 5 Try.underlying45 Try.underlying5 infoStr c2 h
  have sB := run_cut_to (P := Try.prog) (w := w) elB (some ⟨g, 0, none⟩) n cap (n + 64) (by omega)
  have HO : Hd (w.ownsRow base 5 1 (.slice (some ⟨g, 0, none⟩) (n + 64) cap) (n + 64) (cb (bs ++ marks)) ∧ bs.length = n) := ⟨ho, hbl⟩
  have e1 : ((bstr bs).toList != (bstr bs).toList) = false := by simp
  generalize bstr bs = S at *
  clear ho hr hbl
  go_enter Try.func32, Try.ntmps32
  go_wp2_with fail
  go_loop [6] (fun i => ∃ k : Nat, k ≤ 64 ∧ i = .int .i64 ((n : Int) + (k : Int))) (fun i => n + 64 - (intOf i).toNat)
  case atStart => exact ⟨0, by omega, by simp⟩
  case round =>
    obtain ⟨k, hk, rfl⟩ := hrel
    by_cases hlt : k < 64
    · have hcc := HO.out.1.cellAt (n + k) (by omega)
      rw [cb_append, List.getElem?_append_right (by rw [cb_length, HO.out.2]; omega), cb_length, HO.out.2, Nat.add_sub_cancel_left, cb_get _ _ (by rw [marks_len]; exact hlt), marks_get k hlt] at hcc
      have hd := Int.tmod_eq_emod_of_nonneg (a := (k : Int)) (b := 7) (by omega)
      have e2 : ((201 + k % 7 : Nat) : Int) = 201 + (k : Int) % 7 := by omega
      rw [e2] at hcc
      have e3 : (n : Int) + (k : Int) - (n : Int) = (k : Int) := by omega
      have e4 : (201 + (k : Int) % 7 != 201 + (k : Int) % 7) = false := by simp
      have e5 : ((n : Int) + (k : Int)).toNat = n + k := by omega
      clear e2
      go_wp2_with fail
      go_round
      case rel => exact ⟨k + 1, by omega, by congr 1⟩
      case measure => simp [intOf]; omega
    · have hk64 : k = 64 := by omega
      subst hk64
      go_wp2_with fail
      go_ret
      exact ⟨rfl, rfl⟩
theorem infoT : (Try.prog.info? 9).map (fun i => (i.zero, i.size, i.bytes)) = some (some (.string ⟨#[]⟩), 1, 16) := by kernel_rfl
theorem elS : El Try.prog 49 9 16 (.string ⟨#[]⟩) := ⟨Try.underlying49, info_parts infoT, rfl⟩
theorem cs_append (a b : List ByteArray) : cs (a ++ b) = cs a ++ cs b := List.map_append
def markS : ByteArray := ⟨#[109, 97, 114, 107]⟩
set_option maxHeartbeats 1000000 in
theorem lentTexts_any (w : World) (A : Option Addr) (n c B : Nat) (ts : List ByteArray) (hr : Rd w B A n (cs ts)) (hn : n ≤ 4398046511104) (hB : B ≤ w.heap.size) :
    Calls Try.prog 28 #[.slice A n c] w fun e w' => ∃ g cap, e = .returned (.slice (some ⟨g, 0, none⟩) n cap) ∧ w'.ownsRow w.heap.size 9 1 (.slice (some ⟨g, 0, none⟩) (n + 64) cap) (n + 64) (cs (ts ++ List.replicate 64 markS)) ∧ Below w.heap.size w w' ∧ w.heap.size ≤ g ∧ g < w'.heap.size ∧ n + 64 ≤ cap := by
  have HH : Hd (Rd w B A n (cs ts) ∧ B ≤ w.heap.size) := ⟨hr, hB⟩
  have h63 : Hd (0 + n ≤ maxLen) := ⟨by unfold maxLen; omega⟩
  have hby : Hd ((0 + n) * 16 ≤ 140737488355328) := ⟨by omega⟩
  clear hr hB
  go_enter Try.func28, Try.ntmps28
  go_wp2_with (refine wpList_app elS rfl (.tmp 5) (.tmp 6) rfl w.heap.size (.slice none 0 0) 0 [] rfl (World.ownsRow_nil ..) B A n c (cs ts) rfl HH.out.1 (cs_one ts) h63.out hby.out (Nat.le_refl _) ?_; intro v1 w1 hO1; have H1 : Hd (Onto w w1 w.heap.size 9 (.slice none 0 0) v1 n (cs ts)) := ⟨by simpa using hO1⟩; clear hO1)
  go_loopw [3, 4] (fun s i wr => ∃ k : Nat, k ≤ 64 ∧ i = .int .i64 k ∧ Onto w wr w.heap.size 9 (.slice none 0 0) s (n + k) (cs (ts ++ List.replicate k markS))) (fun _ i _ => 64 - (intOf i).toNat)
  case atStart => exact ⟨0, by omega, rfl, by simpa using H1.out⟩
  case round =>
    obtain ⟨k, hk, rfl, hO⟩ := hrel
    have H2 := Hd.mk hO
    clear hO H1
    by_cases hlt : k < 64
    · have h63 : Hd (n + k + 1 ≤ maxLen) := ⟨by unfold maxLen; omega⟩
      have hby : Hd ((n + k + 1) * 16 ≤ 140737488355328) := ⟨by omega⟩
      go_wp2_with (refine wpList_push elS rfl rfl (.tmp 12) (.const (.string markS)) 13 rfl rfl rfl w.heap.size u3 _ _ _ rfl rfl rfl rfl H2.out.own h63.out hby.out H2.out.size ?_; intro v2 w2 hO2)
      go_roundw
      case rel =>
        refine ⟨k + 1, by omega, by go_num, ?_⟩
        have h3 : Onto wr w2 w.heap.size 9 u3 v2 (n + k + 1) (cs (ts ++ List.replicate k markS) ++ [.string markS]) := hO2
        rw [List.replicate_succ', ← List.append_assoc, cs_append]
        exact H2.out.trans h3
      case measure => simp [intOf]; omega
    · have hk8 : k = 64 := by omega
      subst hk8
      obtain ⟨g, cap, hv, hg1, hg2⟩ := own_pos H2.out.own (by omega)
      obtain ⟨_, _, hv2, hc2, _⟩ := own_form H2.out.own
      subst hv
      cases hv2
      have sB := fun w => run_cut_to (P := Try.prog) (w := w) elS (some ⟨g, 0, none⟩) (n + 64) cap n (by omega)
      have HG : Hd (w.heap.size ≤ g ∧ g < wr.heap.size ∧ n + 64 ≤ cap) := ⟨hg1, hg2, hc2⟩
      clear hg1 hg2 hc2
      go_wp2_with fail
      go_ret
      exact ⟨g, cap, rfl, H2.out.own, H2.out.below (fun k h => by cases h) (Nat.le_refl _), HG.out.1, HG.out.2.1, HG.out.2.2⟩
set_option maxHeartbeats 1000000 in
theorem sameTexts_any (w : World) (A1 A2 : Option Addr) (n c1 c2 B : Nat) (ts : List ByteArray) (h1 : Rd w B A1 n (cs ts)) (h2 : Rd w B A2 n (cs ts)) (hn : n ≤ 4398046511104) :
    Calls Try.prog 54 #[.slice A1 n c1, .slice A2 n c2] w fun e w' => e = .returned (.bool true) ∧ Below w.heap.size w w' := by
  have hl : ts.length = n := by have := h1.1; rw [cs_len] at this; exact this
  have HH : Hd (Rd w B A1 n (cs ts) ∧ Rd w B A2 n (cs ts) ∧ ts.length = n) := ⟨h1, h2, hl⟩
  clear h1 h2 hl
  have e0 : ((n : Int) != (n : Int)) = false := by simp
  go_enter Try.func54, Try.ntmps54
  go_wp2_with fail
  go_loopw [5] (fun i wr => ∃ k : Nat, k ≤ n ∧ i = .int .i64 k ∧ w.heap = wr.heap ∧ Below w.heap.size w wr) (fun i _ => n - (intOf i).toNat)
  case atStart => exact ⟨0, by omega, rfl, rfl, Below.refl _ _⟩
  case round =>
    obtain ⟨k, hk, rfl, hh, hb⟩ := hrel
    have HB : Hd (w.heap = wr.heap ∧ Below w.heap.size w wr) := ⟨hh, hb⟩
    have hcell : ∀ p : Addr, wr.cell? p = w.cell? p := fun p => by simp [World.cell?, hh]
    by_cases hlt : k < n
    · obtain ⟨g1, o1, v1, hA1, _, hx1, hc1⟩ := (HH.out.1.keep (fun p _ => hcell p)).at_ hlt
      obtain ⟨g2, o2, v2, hA2, _, hx2, hc2⟩ := (HH.out.2.1.keep (fun p _ => hcell p)).at_ hlt
      rw [cs_get _ _ (by rw [HH.out.2.2]; exact hlt)] at hx1 hx2
      injection hx1 with hx1
      injection hx2 with hx2
      obtain ⟨t, ht⟩ : ∃ t, ts.getD k ByteArray.empty = t := ⟨_, rfl⟩
      rw [ht] at hx1 hx2
      subst hx1 hx2 hA1 hA2
      have hki : (k : Int) < (n : Int) := by omega
      clear hcell hh hb ht
      go_wp2_with fail
      go_quiet (fail)
      go_wp2_with fail
      go_roundw
      case rel => exact ⟨k + 1, by omega, by go_num, HB.out.1, below_drewN HB.out.2 _⟩
      case measure => simp [intOf]; omega
    · have hkn : n = k := by omega
      subst hkn
      clear hcell hh hb
      go_wp2_with fail
      go_ret
      exact ⟨rfl, HB.out.2⟩
set_option maxRecDepth 20000 in
set_option maxHeartbeats 1000000 in
theorem unmarkedTexts_any (w : World) (base g n cap B : Nat) (A2 : Option Addr) (c2 : Nat) (ts : List ByteArray) (ho : w.ownsRow base 9 1 (.slice (some ⟨g, 0, none⟩) (n + 64) cap) (n + 64) (cs (ts ++ List.replicate 64 markS))) (hr : Rd w B A2 n (cs ts)) (hB : B ≤ w.heap.size) (hn : n ≤ 4398046511104) (hc : n + 64 ≤ cap) :
    Calls Try.prog 33 #[.slice (some ⟨g, 0, none⟩) n cap, .slice A2 n c2] w fun e w' => e = .returned (.bool true) ∧ Below w.heap.size w w' := by
  have hbl : ts.length = n := by have := hr.1; rw [cs_len] at this; exact this
  have sB := fun w => run_cut_to (P := Try.prog) (w := w) elS (some ⟨g, 0, none⟩) n cap (n + 64) (by omega)
  have hgl := (ho.lt g rfl).2
  have hR1 : Rd w w.heap.size (some ⟨g, 0, none⟩) n (cs ts) := by
    have h := (Rd.of_own ho).take (h := n) (by omega)
    rw [cs, ← List.map_take, List.take_left' hbl] at h
    exact h
  have HO : Hd (w.ownsRow base 9 1 (.slice (some ⟨g, 0, none⟩) (n + 64) cap) (n + 64) (cs (ts ++ List.replicate 64 markS)) ∧ ts.length = n ∧ Rd w w.heap.size (some ⟨g, 0, none⟩) n (cs ts) ∧ Rd w w.heap.size A2 n (cs ts) ∧ g < w.heap.size) := ⟨ho, hbl, hR1, hr.more hB, hgl⟩
  clear ho hr hbl hR1 hgl
  go_enter Try.func33, Try.ntmps33
  go_wp2_with fail
  refine (sameTexts_any w (some ⟨g, 0, none⟩) A2 n cap c2 w.heap.size ts HO.out.2.2.1 HO.out.2.2.2.1 hn).mono ?_
  rintro e w1 ⟨rfl, hb⟩
  have HB := Hd.mk hb
  have HC : Hd (∀ i, i < n + 64 → w1.cell? ⟨g, i, none⟩ = (cs (ts ++ List.replicate 64 markS))[i]?) := ⟨fun i hi => by rw [hb.cell (p := ⟨g, i, none⟩) HO.out.2.2.2.2]; exact HO.out.1.cellAt i (by omega)⟩
  clear hb
  go_wp2_with fail
  go_loop [6] (fun i => ∃ k : Nat, k ≤ 64 ∧ i = .int .i64 ((n : Int) + (k : Int))) (fun i => n + 64 - (intOf i).toNat)
  case atStart => exact ⟨0, by omega, by simp⟩
  case round =>
    obtain ⟨k, hk, rfl⟩ := hrel
    by_cases hlt : k < 64
    · have hcc := HC.out (n + k) (by omega)
      rw [cs_append, List.getElem?_append_right (by rw [cs_len, HO.out.2.1]; omega), cs_len, HO.out.2.1, Nat.add_sub_cancel_left, show (cs (List.replicate 64 markS))[k]? = some (.string markS) by unfold cs; rw [List.getElem?_map, List.getElem?_replicate, if_pos hlt]; rfl] at hcc
      have e5 : ((n : Int) + (k : Int)).toNat = n + k := by omega
      have hmk : markS = ⟨#[109, 97, 114, 107]⟩ := rfl
      rw [hmk] at hcc
      go_wp2_with fail
      go_round
      case rel => exact ⟨k + 1, by omega, by congr 1⟩
      case measure => simp [intOf]; omega
    · have hk64 : k = 64 := by omega
      subst hk64
      go_wp2_with fail
      go_ret
      exact ⟨rfl, HB.out⟩
set_option maxHeartbeats 1000000 in
theorem same_any (w : World) (A1 A2 : Option Addr) (n c1 c2 : Nat) (ps : List (List Nat)) (h1 : Rws w A1 n ps) (h2 : Rws w A2 n ps) (hn : n ≤ 4398046511104) :
    Calls Try.prog 30 #[.slice A1 n c1, .slice A2 n c2] w fun e w' => e = .returned (.bool true) ∧ Below w.heap.size w w' := by
  have HH : Hd (Rws w A1 n ps ∧ Rws w A2 n ps) := ⟨h1, h2⟩
  clear h1 h2
  have e0 : ((n : Int) != (n : Int)) = false := by simp
  go_enter Try.func30, Try.ntmps30
  go_wp2_with fail
  go_loopw [5] (fun i wr => ∃ k : Nat, k ≤ n ∧ i = .int .i64 k ∧ w.heap = wr.heap ∧ Below w.heap.size w wr) (fun i _ => n - (intOf i).toNat)
  case atStart => exact ⟨0, by omega, rfl, rfl, Below.refl _ _⟩
  case round =>
    obtain ⟨k, hk, rfl, hh, hb⟩ := hrel
    have HB : Hd (w.heap = wr.heap ∧ Below w.heap.size w wr) := ⟨hh, hb⟩
    by_cases hlt : k < n
    · obtain ⟨g1, o1, a1, q1, hA1, _, hc1, hr1, hx⟩ := HH.out.1.2 k hlt
      obtain ⟨g2, o2, a2, q2, hA2, _, hc2, hr2, _⟩ := HH.out.2.2 k hlt
      have hcell : ∀ p : Addr, wr.cell? p = w.cell? p := fun p => by simp [World.cell?, hh]
      have hd1 : wr.cell? ⟨g1, o1 + k, none⟩ = _ := (hcell _).trans hc1
      have hd2 : wr.cell? ⟨g2, o2 + k, none⟩ = _ := (hcell _).trans hc2
      have f1 : ∀ q, (convert 45 9 (.slice a1 (ps.getD k []).length q1)).run Try.prog (wr.drewN q) = .ok (.string (bstr (ps.getD k []))) (wr.drewN q) := fun q => by
        have h := hr1.keep (w' := wr.drewN q) (fun p _ => hcell p)
        rw [cb_ints] at h
        exact run_conv_str _ _ 5 Try.underlying45 Try.underlying5 infoStr q1 h
      have f2 : ∀ q, (convert 45 9 (.slice a2 (ps.getD k []).length q2)).run Try.prog (wr.drewN q) = .ok (.string (bstr (ps.getD k []))) (wr.drewN q) := fun q => by
        have h := hr2.keep (w' := wr.drewN q) (fun p _ => hcell p)
        rw [cb_ints] at h
        exact run_conv_str _ _ 5 Try.underlying45 Try.underlying5 infoStr q2 h
      obtain ⟨S, hS⟩ : ∃ S, bstr (ps.getD k []) = S := ⟨_, rfl⟩
      obtain ⟨m, hm⟩ : ∃ m, (ps.getD k []).length = m := ⟨_, rfl⟩
      rw [hS, hm] at f1 f2
      rw [hm] at hd1 hd2
      subst hA1 hA2
      have hki : (k : Int) < (n : Int) := by omega
      clear hcell hh hb hc1 hc2 hr1 hr2 hx hS hm
      go_wp2_with fail
      go_quiet (fail)
      go_wp2_with fail
      go_roundw
      case rel => exact ⟨k + 1, by omega, by go_num, HB.out.1, below_drewN HB.out.2 _⟩
      case measure => simp [intOf]; omega
    · have hkn : n = k := by omega
      subst hkn
      clear hh hb
      go_wp2_with fail
      go_ret
      exact ⟨rfl, HB.out.2⟩
end Go.Proofs.Ytjkenhkoakaaoaa
