/- Contracts of the program's hidden and Judge. -/
import Derived.Test.YtplpaipmkpjgfaaJudgeA
import Derived.BigQuiet
namespace Go.Proofs.Ytplpaipmkpjgfaa
open Go.RowKit
set_option linter.unusedVariables false
set_option linter.unusedSimpArgs false
set_option maxRecDepth 20000 in
set_option maxHeartbeats 4000000 in
theorem hidden_any (w : World) (Q n c : Nat) (A : Option Addr) (S : Nat → Sn) (hv : View w Q A n S) (hQ : Q ≤ w.heap.size) (hn : n * 120 ≤ 140737488351232) :
    Calls Try.prog 36 #[.slice A n c] w fun e w' => e = .returned (.int .i64 (hidN S n : Int)) ∧ Below w.heap.size w w' := by
  have HH : Hd (View w Q A n S ∧ Q ≤ w.heap.size) := ⟨hv, hQ⟩
  clear hv hQ
  go_enter Try.func36, Try.ntmps36
  go_wp2_with fail
  go_loopw [3, 8] (fun h i wr => ∃ k : Nat, k ≤ n ∧ i = .int .i64 (k : Int) ∧ h = .int .i64 (hidN S k : Int) ∧ Below w.heap.size w wr) (fun _ i _ => n - (intOf i).toNat)
  case atStart => exact ⟨0, by omega, rfl, rfl, Below.refl _ _⟩
  case round =>
    obtain ⟨k, hk, rfl, rfl, hO⟩ := hrel
    have H2 := Hd.mk hO
    clear hO
    by_cases hlt : k < n
    · have hki : (k : Int) < (n : Int) := by omega
      obtain ⟨g, off, hA, hg, _, _, _, _, _, hrg, hok⟩ := (HH.out.1.below (H2.out.mono HH.out.2)).at_ hlt
      subst hA
      have HR := Hd.mk hrg
      have HON := Hd.mk (all_oneCell_toArray (Sn.one (S k) hok))
      clear hrg hok
      obtain ⟨kd, hkd⟩ : ∃ z, (S k).kind = z := ⟨_, rfl⟩
      have hnx := hidN_next S k
      have hle := hidN_le S k
      have hkb : hidB (S k) = ((kd != 1) && (kd != 2)) := by rw [← hkd]; rfl
      have HKD := Hd.mk hkd
      clear hkd
      generalize hidN S k = hd at *
      have HN := Hd.mk (And.intro hnx hkb)
      clear hnx hkb
      rcases q1 : (kd != 1) with _ | _
      · have HQ : Hd (hidN S (k + 1) = hd) := ⟨by rw [HN.out.1, HN.out.2, q1]; rfl⟩
        go_wp2_with (first
          | (refine wpList_load_mid rfl 58 (.tmp 10) rfl g (off + k * 19) rfl (S k).cells _ HR.out Try.underlying58 rfl infoS ?_)
          | (refine at_store ?_; refine wpList_boxed rfl 58 (.tmp 5) (.tmp 11) rfl wr.heap.size rfl (S k).cells.toArray rfl rfl infoS rfl HON.out ?_; intro w2 HW2; have c0 : w2.cell? ⟨wr.heap.size, 0, none⟩ = some (.int .i64 kd) := by rw [cell_of_row _ _ _ _ _ _ HW2.out.1, ← HKD.out]; rfl))
        go_roundw
        case rel => exact ⟨k + 1, by omega, by go_num, by rw [HQ.out], H2.out.trans (HW2.out.2.1.mono H2.out.size)⟩
        case measure => simp [intOf]; omega
      · rcases q2 : (kd != 2) with _ | _
        · have HQ : Hd (hidN S (k + 1) = hd) := ⟨by rw [HN.out.1, HN.out.2, q1, q2]; rfl⟩
          go_wp2_with (first
            | (refine wpList_load_mid rfl 58 (.tmp 10) rfl g (off + k * 19) rfl (S k).cells _ HR.out Try.underlying58 rfl infoS ?_)
            | (refine at_store ?_; refine wpList_boxed rfl 58 (.tmp 5) (.tmp 11) rfl wr.heap.size rfl (S k).cells.toArray rfl rfl infoS rfl HON.out ?_; intro w2 HW2; have c0 : w2.cell? ⟨wr.heap.size, 0, none⟩ = some (.int .i64 kd) := by rw [cell_of_row _ _ _ _ _ _ HW2.out.1, ← HKD.out]; rfl))
          go_roundw
          case rel => exact ⟨k + 1, by omega, by go_num, by rw [HQ.out], H2.out.trans (HW2.out.2.1.mono H2.out.size)⟩
          case measure => simp [intOf]; omega
        · have HQ : Hd (hidN S (k + 1) = hd + 1) := ⟨by rw [HN.out.1, HN.out.2, q1, q2]; rfl⟩
          go_wp2_with (first
            | (refine wpList_load_mid rfl 58 (.tmp 10) rfl g (off + k * 19) rfl (S k).cells _ HR.out Try.underlying58 rfl infoS ?_)
            | (refine at_store ?_; refine wpList_boxed rfl 58 (.tmp 5) (.tmp 11) rfl wr.heap.size rfl (S k).cells.toArray rfl rfl infoS rfl HON.out ?_; intro w2 HW2; have c0 : w2.cell? ⟨wr.heap.size, 0, none⟩ = some (.int .i64 kd) := by rw [cell_of_row _ _ _ _ _ _ HW2.out.1, ← HKD.out]; rfl))
          go_roundw
          case rel => exact ⟨k + 1, by omega, by go_num, by rw [HQ.out]; go_num, H2.out.trans (HW2.out.2.1.mono H2.out.size)⟩
          case measure => simp [intOf]; omega
    · have hkn : k = n := by omega
      subst hkn
      go_wp2_with fail
      go_ret
      exact ⟨rfl, H2.out⟩
end Go.Proofs.Ytplpaipmkpjgfaa
