/- The marks of the law: bytes that were lent, and what lies behind them. -/
import Derived.Test.YtknpcbekaodlkaaLoadS
namespace Go.Proofs.Ytknpcbekaodlkaa
open Go.RowKit
set_option linter.unusedVariables false
theorem infoStr : Try.prog.underlying 9 = some .string := by rw [Try.underlying9]
theorem conv_bytes {w : World} {B n c : Nat} {A : Option Addr} {bs : List Nat} (h : Rd w B A n (cb bs)) : (convert 45 9 (.slice A n c)).run Try.prog w = .ok (.string (bstr bs)) w := by
  rw [cb_ints] at h
  exact run_conv_str _ _ 5 Try.underlying45 Try.underlying5 infoStr c h
/-- The marks of the law. -/
def marks : List Nat := (List.range 64).map fun i => 201 + i % 7
theorem marks_len : marks.length = 64 := by simp [marks]
theorem marks_get (k : Nat) (h : k < 64) : marks.getD k 0 = 201 + k % 7 := by
  unfold marks; rw [List.getD_eq_getElem?_getD, List.getElem?_map, List.getElem?_range h]; rfl
theorem marks_take (k : Nat) (h : k < 64) : marks.take (k + 1) = marks.take k ++ [201 + k % 7] := by
  rw [List.take_succ_eq_append_getElem (by rw [marks_len]; exact h)]
  have := marks_get k h
  rw [List.getD_eq_getElem?_getD, List.getElem?_eq_getElem (by rw [marks_len]; exact h)] at this
  simp only [Option.getD_some] at this
  rw [this]
set_option maxHeartbeats 1000000 in
theorem lent_any (w : World) (A : Option Addr) (n c B : Nat) (bs : List Nat) (hr : Rd w B A n (cb bs)) (hn : n ≤ 140737488355000) (hB : B ≤ w.heap.size) :
    Calls Try.prog 33 #[.slice A n c] w fun e w' => ∃ g cap, e = .returned (.slice (some ⟨g, 0, none⟩) n cap) ∧ w'.ownsRow w.heap.size 5 1 (.slice (some ⟨g, 0, none⟩) (n + 64) cap) (n + 64) (cb (bs ++ marks)) ∧ Below w.heap.size w w' ∧ w.heap.size ≤ g ∧ g < w'.heap.size ∧ n + 64 ≤ cap := by
  have HH : Hd (Rd w B A n (cb bs) ∧ B ≤ w.heap.size) := ⟨hr, hB⟩
  have h63 : Hd (0 + n ≤ maxLen) := ⟨by unfold maxLen; omega⟩
  have hby : Hd ((0 + n) * 1 ≤ 140737488355328) := ⟨by omega⟩
  clear hr hB
  go_enter Try.func33, Try.ntmps33
  go_wp2_with (refine wpList_app elB rfl (.tmp 5) (.tmp 6) rfl w.heap.size (.slice none 0 0) 0 [] rfl (World.ownsRow_nil ..) B A n c (cb bs) rfl HH.out.1 (cb_one bs) h63.out hby.out (Nat.le_refl _) ?_; intro v1 w1 hO1; have H1 : Hd (Onto w w1 w.heap.size 5 (.slice none 0 0) v1 n (cb bs)) := ⟨by simpa using hO1⟩; clear hO1)
  go_loopw [3, 4] (fun s i wr => ∃ k : Nat, k ≤ 64 ∧ i = .int .i64 k ∧ Onto w wr w.heap.size 5 (.slice none 0 0) s (n + k) (cb (bs ++ marks.take k))) (fun _ i _ => 64 - (intOf i).toNat)
  case atStart => exact ⟨0, by omega, rfl, by simpa using H1.out⟩
  case round =>
    obtain ⟨k, hk, rfl, hO⟩ := hrel
    have H2 := Hd.mk hO
    clear hO H1
    by_cases hlt : k < 64
    · have h63 : Hd (n + k + 1 ≤ maxLen) := ⟨by unfold maxLen; omega⟩
      have hby : Hd ((n + k + 1) * 1 ≤ 140737488355328) := ⟨by omega⟩
      have hd := Int.tmod_eq_emod_of_nonneg (a := (k : Int)) (b := 7) (by omega)
      go_wp2_with (refine wpList_push elB rfl rfl (.tmp 12) (.tmp 16) 17 rfl rfl rfl w.heap.size u3 _ _ _ rfl rfl rfl rfl H2.out.own h63.out hby.out H2.out.size ?_; intro v2 w2 hO2)
      go_roundw
      case rel =>
        refine ⟨k + 1, by omega, by go_num, ?_⟩
        have h3 : Onto wr w2 w.heap.size 5 u3 v2 (n + k + 1) (cb (bs ++ marks.take k) ++ [.int .u8 (201 + (k : Int) % 7)]) := hO2
        rw [show 201 + (k : Int) % 7 = ((201 + k % 7 : Nat) : Int) by omega] at h3
        rw [marks_take k hlt, ← List.append_assoc, cb_append]
        exact H2.out.trans h3
      case measure => simp [intOf]; omega
    · have hk8 : k = 64 := by omega
      subst hk8
      have HM : Hd (marks.take 64 = marks) := ⟨List.take_of_length_le (by rw [marks_len]; exact Nat.le_refl _)⟩
      rw [HM.out] at H2
      obtain ⟨g, cap, hv, hg1, hg2⟩ := own_pos H2.out.own (by omega)
      obtain ⟨_, _, hv2, hc2, _⟩ := own_form H2.out.own
      subst hv
      cases hv2
      have sB := fun w => run_cut_to (P := Try.prog) (w := w) elB (some ⟨g, 0, none⟩) (n + 64) cap n (by omega)
      have HG : Hd (w.heap.size ≤ g ∧ g < wr.heap.size ∧ n + 64 ≤ cap) := ⟨hg1, hg2, hc2⟩
      clear hg1 hg2 hc2
      go_wp2_with fail
      go_ret
      exact ⟨g, cap, rfl, H2.out.own, H2.out.below (fun k h => by cases h) (Nat.le_refl _), HG.out.1, HG.out.2.1, HG.out.2.2⟩
set_option maxRecDepth 20000 in
set_option maxHeartbeats 1000000 in
theorem unmarked_any (w : World) (base g n cap B : Nat) (A2 : Option Addr) (c2 : Nat) (bs : List Nat) (ho : w.ownsRow base 5 1 (.slice (some ⟨g, 0, none⟩) (n + 64) cap) (n + 64) (cb (bs ++ marks))) (hr : Rd w B A2 n (cb bs)) (hn : n ≤ 140737488355000) (hc : n + 64 ≤ cap) :
    Calls Try.prog 35 #[.slice (some ⟨g, 0, none⟩) n cap, .slice A2 n c2] w fun e w' => e = .returned (.bool true) ∧ w = w' := by
  have hbl : bs.length = n := by have := hr.1; rw [cb_length] at this; exact this
  have f1 : (convert 45 9 (.slice (some ⟨g, 0, none⟩) n cap)).run Try.prog w = .ok (.string (bstr bs)) w := by
    have h := (Rd.of_own ho).take (h := n) (by omega)
    rw [cb, ← List.map_take, List.take_left' hbl] at h
    rw [← cb, cb_ints] at h
    exact run_conv_str _ _ 5 Try.underlying45 Try.underlying5 infoStr cap h
  have f2 : (convert 45 9 (.slice A2 n c2)).run Try.prog w = .ok (.string (bstr bs)) w := by
    have h := hr
    rw [cb_ints] at h
    exact run_conv_str _ _ 5 Try.underlying45 Try.underlying5 infoStr c2 h
  have sB := run_cut_to (P := Try.prog) (w := w) elB (some ⟨g, 0, none⟩) n cap (n + 64) (by omega)
  have HO : Hd (w.ownsRow base 5 1 (.slice (some ⟨g, 0, none⟩) (n + 64) cap) (n + 64) (cb (bs ++ marks)) ∧ bs.length = n) := ⟨ho, hbl⟩
  have e1 : ((bstr bs).toList != (bstr bs).toList) = false := by simp
  generalize bstr bs = S at *
  clear ho hr hbl
  go_enter Try.func35, Try.ntmps35
  go_wp2_with fail
  go_loop [6] (fun i => ∃ k : Nat, k ≤ 64 ∧ i = .int .i64 ((n : Int) + (k : Int))) (fun i => n + 64 - (intOf i).toNat)
  case atStart => exact ⟨0, by omega, by simp⟩
  case round =>
    obtain ⟨k, hk, rfl⟩ := hrel
    by_cases hlt : k < 64
    · have hcc := HO.out.1.cellAt (n + k) (by omega)
      rw [cb_append, List.getElem?_append_right (by rw [cb_length, HO.out.2]; omega), cb_length, HO.out.2, Nat.add_sub_cancel_left, cb_get _ _ (by rw [marks_len]; exact hlt), marks_get k hlt] at hcc
      have hd := Int.tmod_eq_emod_of_nonneg (a := (k : Int)) (b := 7) (by omega)
      have e2 : ((201 + k % 7 : Nat) : Int) = 201 + (k : Int) % 7 := by omega
      rw [e2] at hcc
      have e3 : (n : Int) + (k : Int) - (n : Int) = (k : Int) := by omega
      have e4 : (201 + (k : Int) % 7 != 201 + (k : Int) % 7) = false := by simp
      have e5 : ((n : Int) + (k : Int)).toNat = n + k := by omega
      clear e2
      go_wp2_with fail
      go_round
      case rel => exact ⟨k + 1, by omega, by congr 1⟩
      case measure => simp [intOf]; omega
    · have hk64 : k = 64 := by omega
      subst hk64
      go_wp2_with fail
      go_ret
      exact ⟨rfl, rfl⟩
end Go.Proofs.Ytknpcbekaodlkaa
