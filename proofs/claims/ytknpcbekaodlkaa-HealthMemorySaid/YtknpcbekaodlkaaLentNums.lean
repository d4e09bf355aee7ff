/- Contracts of the laws' lentNumbers and unmarkedNumbers. -/
import Derived.Test.YtknpcbekaodlkaaRefChance
import Derived.BigQuiet
namespace Go.Proofs.Ytknpcbekaodlkaa
open Go.RowKit
set_option linter.unusedVariables false
def mkF (i : Nat) : Nat := (FloatKind.f64.format.add (floatOfInt .f64 (i : Int)) 4598175219545276416).getD 0
theorem mkF_all : ∀ i : _root_.Fin 64, FloatKind.f64.format.add (floatOfInt .f64 ((i.val : Nat) : Int)) 4598175219545276416 = some (mkF i.val) ∧ FloatKind.f64.format.order (mkF i.val) (mkF i.val) = some .eq := of_decide_eq_true (by kernel_rfl)
theorem mkF_add (i : Nat) (h : i < 64) : FloatKind.f64.format.add (floatOfInt .f64 (i : Int)) 4598175219545276416 = some (mkF i) := (mkF_all ⟨i, h⟩).1
theorem mkF_self (i : Nat) (h : i < 64) : FloatKind.f64.format.order (mkF i) (mkF i) = some .eq := (mkF_all ⟨i, h⟩).2
theorem run_mkF {P : Program} (w : World) (t : TypeId) (i : Nat) (h : i < 64) : (binOp .add t (.float .f64 (floatOfInt .f64 (i : Int))) (.float .f64 4598175219545276416)).run P w = .ok (.float .f64 (mkF i)) w :=
  run_float_arith w .add t .f64 _ _ _ (mkF_add i h)
def marksF : List Nat := (List.range 64).map mkF
theorem marksF_len : marksF.length = 64 := by simp [marksF]
theorem marksF_get (k : Nat) (h : k < 64) : marksF.getD k 0 = mkF k := by
  unfold marksF; rw [List.getD_eq_getElem?_getD, List.getElem?_map, List.getElem?_range h, Option.map_some, Option.getD_some]
theorem marksF_take (k : Nat) (h : k < 64) : marksF.take (k + 1) = marksF.take k ++ [mkF k] := by
  rw [List.take_succ_eq_append_getElem (by rw [marksF_len]; exact h)]
  congr 2
  have := marksF_get k h
  rwa [List.getD_eq_getElem?_getD, List.getElem?_eq_getElem (by rw [marksF_len]; exact h), Option.getD_some] at this
set_option maxRecDepth 20000 in
set_option maxHeartbeats 1000000 in
theorem lentNumbers_any (w : World) (A : Option Addr) (n c B : Nat) (ps : List Nat) (hr : Rd w B A n (fv ps)) (hn : n * 8 ≤ 140737488351232) (hB : B ≤ w.heap.size) :
    Calls Try.prog 16 #[.slice A n c] w fun e w' => ∃ g cap, e = .returned (.slice (some ⟨g, 0, none⟩) n cap) ∧ w'.ownsRow w.heap.size 24 1 (.slice (some ⟨g, 0, none⟩) (n + 64) cap) (n + 64) (fv (ps ++ marksF)) ∧ Below w.heap.size w w' ∧ w.heap.size ≤ g ∧ g < w'.heap.size ∧ n + 64 ≤ cap := by
  have HH : Hd (Rd w B A n (fv ps) ∧ B ≤ w.heap.size) := ⟨hr, hB⟩
  have h63 : Hd (0 + n ≤ maxLen) := ⟨by unfold maxLen; omega⟩
  have hby : Hd ((0 + n) * 8 ≤ 140737488355328) := ⟨by omega⟩
  clear hr hB
  go_enter Try.func16, Try.ntmps16
  go_wp2_with (refine wpList_app elF rfl (.tmp 5) (.tmp 6) rfl w.heap.size (.slice none 0 0) 0 [] rfl (World.ownsRow_nil ..) B A n c (fv ps) rfl HH.out.1 (fv_one ps) h63.out hby.out (Nat.le_refl _) ?_; intro v1 w1 hO1; have H1 : Hd (Onto w w1 w.heap.size 24 (.slice none 0 0) v1 n (fv ps)) := ⟨by simpa using hO1⟩; clear hO1)
  go_loopw [3, 4] (fun s i wr => ∃ k : Nat, k ≤ 64 ∧ i = .int .i64 k ∧ Onto w wr w.heap.size 24 (.slice none 0 0) s (n + k) (fv (ps ++ marksF.take k))) (fun _ i _ => 64 - (intOf i).toNat)
  case atStart => exact ⟨0, by omega, rfl, by simpa using H1.out⟩
  case round =>
    obtain ⟨k, hk, rfl, hO⟩ := hrel
    have H2 := Hd.mk hO
    clear hO H1
    by_cases hlt : k < 64
    · have h63 : Hd (n + k + 1 ≤ maxLen) := ⟨by unfold maxLen; omega⟩
      have hby : Hd ((n + k + 1) * 8 ≤ 140737488355328) := ⟨by omega⟩
      have hmk := fun w => run_mkF (P := Try.prog) w 24 k hlt
      go_wp2_with (refine wpList_push elF rfl rfl (.tmp 12) (.tmp 15) 16 rfl rfl rfl w.heap.size u3 _ _ _ rfl rfl rfl rfl H2.out.own h63.out hby.out H2.out.size ?_; intro v2 w2 hO2)
      go_roundw
      case rel =>
        refine ⟨k + 1, by omega, by go_num, ?_⟩
        have h3 : Onto wr w2 w.heap.size 24 u3 v2 (n + k + 1) (fv (ps ++ marksF.take k) ++ [.float .f64 (mkF k)]) := hO2
        rw [marksF_take k hlt, ← List.append_assoc, fv_append]
        exact H2.out.trans h3
      case measure => simp [intOf]; omega
    · have hk8 : k = 64 := by omega
      subst hk8
      have HM : Hd (marksF.take 64 = marksF) := ⟨List.take_of_length_le (by rw [marksF_len]; exact Nat.le_refl _)⟩
      rw [HM.out] at H2
      obtain ⟨g, cap, hv, hg1, hg2⟩ := own_pos H2.out.own (by omega)
      obtain ⟨_, _, hv2, hc2, _⟩ := own_form H2.out.own
      subst hv
      cases hv2
      have sB := fun w => run_cut_to (P := Try.prog) (w := w) elF (some ⟨g, 0, none⟩) (n + 64) cap n (by omega)
      have HG : Hd (w.heap.size ≤ g ∧ g < wr.heap.size ∧ n + 64 ≤ cap) := ⟨hg1, hg2, hc2⟩
      clear hg1 hg2 hc2
      go_wp2_with fail
      go_ret
      exact ⟨g, cap, rfl, H2.out.own, H2.out.below (fun k h => by cases h) (Nat.le_refl _), HG.out.1, HG.out.2.1, HG.out.2.2⟩
theorem below_drewN {B : Nat} {w w' : World} (h : Below B w w') (n : Nat) : Below B w (w'.drewN n) := ⟨h.os, h.tape, h.output, h.size, h.block⟩
theorem order_self (x : Nat) : FloatKind.f64.format.order x x = some .eq ∨ FloatKind.f64.format.order x x = none := by
  show Ieee.Datum.order _ _ = _ ∨ Ieee.Datum.order _ _ = _
  cases FloatKind.f64.format.read x with
  | number s m p => left; simp [Ieee.Datum.order]
  | infinity s => left; simp [Ieee.Datum.order]
  | nan s f => right; rfl
set_option maxRecDepth 20000 in
set_option maxHeartbeats 1000000 in
theorem unmarkedNumbers_any (w : World) (base g n cap B : Nat) (A2 : Option Addr) (c2 : Nat) (ps : List Nat) (ho : w.ownsRow base 24 1 (.slice (some ⟨g, 0, none⟩) (n + 64) cap) (n + 64) (fv (ps ++ marksF))) (hr : Rd w B A2 n (fv ps)) (hB : B ≤ w.heap.size) (hn : n ≤ 140737488355000) (hc : n + 64 ≤ cap) :
    Calls Try.prog 19 #[.slice (some ⟨g, 0, none⟩) n cap, .slice A2 n c2] w fun e w' => e = .returned (.bool true) ∧ Below w.heap.size w w' := by
  have hbl : ps.length = n := by have := hr.1; rw [fv_len] at this; exact this
  have sB := fun w => run_cut_to (P := Try.prog) (w := w) elF (some ⟨g, 0, none⟩) n cap (n + 64) (by omega)
  have hgl := (ho.lt g rfl).2
  have HO : Hd (w.ownsRow base 24 1 (.slice (some ⟨g, 0, none⟩) (n + 64) cap) (n + 64) (fv (ps ++ marksF)) ∧ ps.length = n ∧ Rd w w.heap.size A2 n (fv ps) ∧ g < w.heap.size) := ⟨ho, hbl, hr.more hB, hgl⟩
  clear ho hr hbl hgl hB
  go_enter Try.func19, Try.ntmps19
  go_wp2_with fail
  go_loopw [5] (fun i wr => ∃ k : Nat, k ≤ n ∧ i = .int .i64 (k : Int) ∧ Below w.heap.size w wr) (fun i _ => n - (intOf i).toNat)
  case atStart => exact ⟨0, by omega, rfl, Below.refl _ _⟩
  case round =>
    obtain ⟨k, hk, rfl, hb⟩ := hrel
    have HB := Hd.mk hb
    clear hb
    by_cases hlt : k < n
    · have hki : (k : Int) < (n : Int) := by omega
      obtain ⟨g2, o2, u, hA, _, hx, hc2'⟩ := (HO.out.2.2.1.below HB.out).at_ hlt
      rw [fv_get _ _ (by rw [HO.out.2.1]; exact hlt)] at hx
      injection hx with hx
      subst hx hA
      have hc1 : wr.cell? ⟨g, k, none⟩ = some (.float .f64 (ps.getD k 0)) := by
        rw [HB.out.cell (p := ⟨g, k, none⟩) HO.out.2.2.2, HO.out.1.cellAt k (by omega), fv_append, List.getElem?_append_left (by rw [fv_len, HO.out.2.1]; exact hlt), fv_get _ _ (by rw [HO.out.2.1]; exact hlt)]
      obtain ⟨x, hx⟩ : ∃ x, ps.getD k 0 = x := ⟨_, rfl⟩
      rw [hx] at hc1 hc2'
      clear hx
      rcases order_self x with h | h
      · have q1 : (FloatKind.f64.format.order x x != some .eq) = false := by rw [h]; rfl
        have q2 : (FloatKind.f64.format.order x x == some .eq) = true := by rw [h]; rfl
        clear h
        go_wp2_with fail
        go_quiet (fail)
        go_wp2_with fail
        go_roundw
        case rel => exact ⟨k + 1, by omega, by go_num, below_drewN HB.out _⟩
        case measure => simp [intOf]; omega
      · have q1 : (FloatKind.f64.format.order x x != some .eq) = true := by rw [h]; rfl
        have q2 : (FloatKind.f64.format.order x x == some .eq) = false := by rw [h]; rfl
        clear h
        go_wp2_with fail
        go_quiet (fail)
        go_wp2_with fail
        go_roundw
        case rel => exact ⟨k + 1, by omega, by go_num, below_drewN HB.out _⟩
        case measure => simp [intOf]; omega
    · have hkn : k = n := by omega
      subst hkn
      have HC : Hd (∀ i, i < k + 64 → wr.cell? ⟨g, i, none⟩ = (fv (ps ++ marksF))[i]?) := ⟨fun i hi => by rw [HB.out.cell (p := ⟨g, i, none⟩) HO.out.2.2.2]; exact HO.out.1.cellAt i (by omega)⟩
      go_wp2_with fail
      go_loop [7] (fun i => ∃ j : Nat, j ≤ 64 ∧ i = .int .i64 ((k : Int) + (j : Int))) (fun i => k + 64 - (intOf i).toNat)
      case atStart => exact ⟨0, by omega, by simp⟩
      case round =>
        obtain ⟨j, hj, rfl⟩ := hrel
        by_cases hlt2 : j < 64
        · have hcc := HC.out (k + j) (by omega)
          rw [fv_append, List.getElem?_append_right (by rw [fv_len, HO.out.2.1]; omega), fv_len, HO.out.2.1, Nat.add_sub_cancel_left, fv_get _ _ (by rw [marksF_len]; exact hlt2), marksF_get j hlt2] at hcc
          have e3 : (k : Int) + (j : Int) - (k : Int) = (j : Int) := by omega
          have e5 : ((k : Int) + (j : Int)).toNat = k + j := by omega
          have hmk := fun w => run_mkF (P := Try.prog) w 24 j hlt2
          have hself : (FloatKind.f64.format.order (mkF j) (mkF j) != some .eq) = false := by rw [mkF_self j hlt2]; rfl
          go_wp2_with fail
          go_round
          case rel => exact ⟨j + 1, by omega, by congr 1⟩
          case measure => simp [intOf]; omega
        · have hk64 : j = 64 := by omega
          subst hk64
          go_wp2_with fail
          go_ret
          exact ⟨rfl, HB.out⟩
end Go.Proofs.Ytknpcbekaodlkaa
