/- Contracts of the reference's Fits, Older, Hidden. -/
import Derived.Test.YtplpaipmkpjgfaaPossC
namespace Go.Proofs.Ytplpaipmkpjgfaa
open Go.RowKit
set_option linter.unusedVariables false
set_option linter.unusedSimpArgs false
set_option maxRecDepth 20000 in
set_option maxHeartbeats 4000000 in
theorem reffits_any (w : World) (k m b : Int) :
    Calls Try.prog 24 #[.agg #[.int .i64 k, .int .i64 m, .int .i64 b]] w fun e w' => e = .returned (.bool (fitsR k m b)) ∧ Below w.heap.size w w' := by
  have HF : Hd (∀ r, r = fitsR k m b → Ending.returned (Value.bool r) = .returned (.bool (fitsR k m b))) := ⟨fun r h => by rw [h]⟩
  have HB : Hd (Below w.heap.size w (w.alloc (.cells #[.int .i64 k, .int .i64 m, .int .i64 b] 34))) := ⟨(Below.refl _ _).alloc (Nat.le_refl _) _⟩
  have HD : Hd (∀ r : Bool, (r = true ↔ (1 ≤ m ∧ m ≤ k ∧ k ≤ 255 ∧ k + m ≤ 255 ∧ 1 ≤ b ∧ b ≤ 65536)) → r = fitsR k m b) := ⟨fun r h => by
    have : fitsR k m b = true ↔ (1 ≤ m ∧ m ≤ k ∧ k ≤ 255 ∧ k + m ≤ 255 ∧ 1 ≤ b ∧ b ≤ 65536) := by
      unfold fitsR; simp
    exact Bool.eq_iff_iff.2 (h.trans this.symm)⟩
  go_enter Try.func24, Try.ntmps24
  by_cases h1 : 1 ≤ m
  · by_cases h2 : m ≤ k
    · by_cases h3 : k ≤ 255
      · by_cases h6 : k + m ≤ 255
        · by_cases h4 : 1 ≤ b
          · by_cases h5 : b ≤ 65536
            · go_wp2
              go_ret
              exact ⟨HF.out _ (HD.out _ (by simp; omega)), HB.out⟩
            · go_wp2
              go_ret
              exact ⟨HF.out _ (HD.out _ (by simp; omega)), HB.out⟩
          · go_wp2
            go_ret
            exact ⟨HF.out _ (HD.out _ (by simp; omega)), HB.out⟩
        · go_wp2
          go_ret
          exact ⟨HF.out _ (HD.out _ (by simp; omega)), HB.out⟩
      · go_wp2
        go_ret
        exact ⟨HF.out _ (HD.out _ (by simp; omega)), HB.out⟩
    · go_wp2
      go_ret
      exact ⟨HF.out _ (HD.out _ (by simp; omega)), HB.out⟩
  · go_wp2
    go_ret
    exact ⟨HF.out _ (HD.out _ (by simp; omega)), HB.out⟩
set_option maxRecDepth 20000 in
set_option maxHeartbeats 4000000 in
theorem older_any (w : World) (a b c d e f : Int) :
    Calls Try.prog 27 #[.agg #[.int .i64 a, .int .i64 b], .int .i64 c, .agg #[.int .i64 d, .int .i64 e], .int .i64 f] w fun r w' => r = .returned (.bool (decide (olderW (a, b, c) (d, e, f)))) ∧ Below w.heap.size w w' := by
  have HB : Hd (Below w.heap.size w ((w.alloc (.cells #[.int .i64 a, .int .i64 b] 24)).alloc (.cells #[.int .i64 d, .int .i64 e] 24))) := ⟨((Below.refl _ _).alloc (Nat.le_refl _) _).alloc (by simp) _⟩
  have HD : Hd (∀ r : Bool, (r = true ↔ (a < d ∨ (a = d ∧ (b < e ∨ (b = e ∧ c < f))))) → Ending.returned (Value.bool r) = .returned (.bool (decide (olderW (a, b, c) (d, e, f))))) := ⟨fun r h => by
    have : r = decide (olderW (a, b, c) (d, e, f)) := by
      rw [Bool.eq_iff_iff, h, decide_eq_true_eq]; rfl
    rw [this]⟩
  rcases q1 : (a != d) with _ | _
  · have e1 : a = d := by simpa using q1
    subst e1
    clear q1
    have q1 : (a != a) = false := by simp
    rcases q2 : (b != e) with _ | _
    · have e2 : b = e := by simpa using q2
      subst e2
      clear q2
      have q2 : (b != b) = false := by simp
      go_enter Try.func27, Try.ntmps27
      go_wp2
      go_ret
      exact ⟨HD.out _ (by simp), HB.out⟩
    · have HQ : Hd (b ≠ e) := ⟨by simpa using q2⟩
      go_enter Try.func27, Try.ntmps27
      go_wp2
      go_ret
      exact ⟨HD.out _ (by have := HQ.out; simp [this]), HB.out⟩
  · have HQ : Hd (a ≠ d) := ⟨by simpa using q1⟩
    go_enter Try.func27, Try.ntmps27
    go_wp2
    go_ret
    exact ⟨HD.out _ (by have := HQ.out; simp [this]), HB.out⟩
set_option maxRecDepth 20000 in
set_option maxHeartbeats 4000000 in
theorem refhidden_any (w : World) (Q n c : Nat) (A : Option Addr) (S : Nat → Sn) (hv : View w Q A n S) (hQ : Q ≤ w.heap.size) (hn : n * 120 ≤ 140737488351232) :
    Calls Try.prog 34 #[.slice A n c] w fun e w' => e = .returned (.int .i64 (hidN S n : Int)) ∧ Below w.heap.size w w' := by
  have HH : Hd (View w Q A n S ∧ Q ≤ w.heap.size) := ⟨hv, hQ⟩
  clear hv hQ
  go_enter Try.func34, Try.ntmps34
  go_wp2_with fail
  go_loopw [3, 4] (fun h i wr => ∃ k : Nat, k ≤ n ∧ i = .int .i64 (k : Int) ∧ h = .int .i64 (hidN S k : Int) ∧ Below w.heap.size w wr) (fun _ i _ => n - (intOf i).toNat)
  case atStart => exact ⟨0, by omega, rfl, rfl, Below.refl _ _⟩
  case round =>
    obtain ⟨k, hk, rfl, rfl, hO⟩ := hrel
    have H2 := Hd.mk hO
    clear hO
    by_cases hlt : k < n
    · have hki : (k : Int) < (n : Int) := by omega
      obtain ⟨g, off, hA, hg, c0, _, _, _, _, _, _⟩ := (HH.out.1.below (H2.out.mono HH.out.2)).at_ hlt
      subst hA
      have hnx := hidN_next S k
      have hle := hidN_le S k
      have hkb : hidB (S k) = (((S k).kind != 1) && ((S k).kind != 2)) := rfl
      generalize (S k).kind = kd at *
      generalize hidN S k = hd at *
      have HN := Hd.mk (And.intro hnx hkb)
      clear hnx hkb
      rcases q1 : (kd != 1) with _ | _
      · have HQ : Hd (hidN S (k + 1) = hd) := ⟨by rw [HN.out.1, HN.out.2, q1]; rfl⟩
        go_wp2_with fail
        go_roundw
        case rel => exact ⟨k + 1, by omega, by go_num, by rw [HQ.out], H2.out⟩
        case measure => simp [intOf]; omega
      · rcases q2 : (kd != 2) with _ | _
        · have HQ : Hd (hidN S (k + 1) = hd) := ⟨by rw [HN.out.1, HN.out.2, q1, q2]; rfl⟩
          go_wp2_with fail
          go_roundw
          case rel => exact ⟨k + 1, by omega, by go_num, by rw [HQ.out], H2.out⟩
          case measure => simp [intOf]; omega
        · have HQ : Hd (hidN S (k + 1) = hd + 1) := ⟨by rw [HN.out.1, HN.out.2, q1, q2]; rfl⟩
          go_wp2_with fail
          go_roundw
          case rel => exact ⟨k + 1, by omega, by go_num, by rw [HQ.out]; go_num, H2.out⟩
          case measure => simp [intOf]; omega
    · have hkn : k = n := by omega
      subst hkn
      go_wp2_with fail
      go_ret
      exact ⟨rfl, H2.out⟩
end Go.Proofs.Ytplpaipmkpjgfaa
