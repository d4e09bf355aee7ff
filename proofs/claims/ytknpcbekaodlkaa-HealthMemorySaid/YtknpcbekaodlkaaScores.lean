/- Contract of the laws' scores. -/
import Derived.Test.YtknpcbekaodlkaaAwake
namespace Go.Proofs.Ytknpcbekaodlkaa
open Go.RowKit
set_option linter.unusedVariables false
/-- The scores as floats of 64 bits. -/
noncomputable def ups (ss : List Nat) : List Nat := ss.map up
theorem ups_len (ss : List Nat) : (ups ss).length = ss.length := List.length_map _
theorem ups_get (ss : List Nat) (i : Nat) (h : i < ss.length) : (ups ss).getD i 0 = up (ss.getD i 0) := by
  unfold ups; rw [List.getD_eq_getElem?_getD, List.getElem?_map, List.getElem?_eq_getElem h, List.getD_eq_getElem?_getD, List.getElem?_eq_getElem h]; rfl
theorem ups_take (ss : List Nat) (k : Nat) (h : k < ss.length) : (ups ss).take (k + 1) = (ups ss).take k ++ [up (ss.getD k 0)] := by
  rw [List.take_succ_eq_append_getElem (by rw [ups_len]; exact h)]
  congr 2
  have := ups_get ss k h
  rwa [List.getD_eq_getElem?_getD, List.getElem?_eq_getElem (by rw [ups_len]; exact h), Option.getD_some] at this
set_option maxRecDepth 20000 in
set_option maxHeartbeats 1000000 in
theorem scores_any (w : World) (B b h cap K : Nat) (ss : List Nat) (H : Brd w B b h cap K ss) (L : Law K ss) (hn1 : 1 ≤ ss.length) (hn2 : ss.length ≤ 255) :
    Calls Try.prog 40 #[.pointer (some ⟨b, 0, none⟩), .int .i64 (ss.length : Int)] w fun e w' => ∃ g c, e = .returned (.slice (some ⟨g, 0, none⟩) ss.length c) ∧
      w'.ownsRow w.heap.size 24 1 (.slice (some ⟨g, 0, none⟩) ss.length c) ss.length (fv (ups ss)) ∧ Below w.heap.size w w' := by
  obtain ⟨n, hn⟩ : ∃ n, ss.length = n := ⟨_, rfl⟩
  have HH : Hd (Brd w B b h cap K ss ∧ Law K ss ∧ ss.length = n) := ⟨H, L, hn⟩
  rw [hn] at hn1 hn2 ⊢
  clear H L hn
  go_enter Try.func40, Try.ntmps40
  go_wp2_with fail
  go_loopw [5, 6] (fun s i wr => ∃ k : Nat, k ≤ n ∧ i = .int .i64 (k : Int) ∧ Onto w wr w.heap.size 24 (.slice none 0 0) s k (fv ((ups ss).take k))) (fun _ i _ => n - (intOf i).toNat)
  case atStart => exact ⟨0, by omega, rfl, Onto.nil _ _ _⟩
  case round =>
    obtain ⟨k, hk, rfl, hO⟩ := hrel
    have H2 := Hd.mk hO
    clear hO
    by_cases hlt : k < n
    · have hki : (k : Int) < (n : Int) := by omega
      have h63 : Hd (k + 1 ≤ maxLen) := ⟨by unfold maxLen; omega⟩
      have hby : Hd ((k + 1) * 8 ≤ 140737488355328) := ⟨by omega⟩
      go_wp2_with fail
      refine (score_in wr B b h cap K ss (HH.out.1.keep (H2.out.below (fun k h => by cases h) (Nat.le_refl _))) HH.out.2.1 k (by rw [HH.out.2.2]; exact hlt)).mono ?_
      rintro e w1 ⟨rfl, rfl⟩
      go_wp2_with (refine wpList_push elF rfl rfl (.tmp 20) (.tmp 21) 22 rfl rfl rfl w.heap.size u5 _ _ _ rfl rfl rfl rfl H2.out.own h63.out hby.out H2.out.size ?_; intro v2 w2 hO2)
      go_roundw
      case rel =>
        refine ⟨k + 1, by omega, by go_num, ?_⟩
        have h3 : Onto wr w2 w.heap.size 24 u5 v2 (k + 1) (fv ((ups ss).take k) ++ [.float .f64 (up (ss.getD k 0))]) := hO2
        rw [ups_take ss k (by rw [HH.out.2.2]; exact hlt), fv_append]
        exact H2.out.trans h3
      case measure => simp [intOf]; omega
    · have hkn : k = n := by omega
      subst hkn
      have HT : Hd ((ups ss).take k = ups ss) := ⟨List.take_of_length_le (by rw [ups_len, HH.out.2.2]; exact Nat.le_refl _)⟩
      rw [HT.out] at H2
      obtain ⟨g, c, hv, _, _⟩ := own_pos H2.out.own (by omega)
      subst hv
      go_wp2_with fail
      go_ret
      exact ⟨g, c, rfl, H2.out.own, H2.out.below (fun k h => by cases h) (Nat.le_refl _)⟩
end Go.Proofs.Ytknpcbekaodlkaa
