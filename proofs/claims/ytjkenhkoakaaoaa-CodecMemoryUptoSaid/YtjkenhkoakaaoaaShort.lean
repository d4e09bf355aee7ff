/- Contracts of codec.short, bytes.Clone, codec.PutUvarint: what they write, and that nothing that was there has turned. -/
import Derived.Test.YtjkenhkoakaaoaaZig
import Derived.Test.YtjkenhkoakaaoaaMem
import Derived.Test.YtjkenhkoakaaoaaUv
import Derived.Outline
import Derived.WalkSpells
namespace Go.Proofs.Ytjkenhkoakaaoaa
open Go.RowKit
set_option linter.unusedVariables false
theorem infoB : (Try.prog.info? 5).map (fun i => (i.zero, i.size, i.bytes)) = some (some (.int .u8 0), 1, 1) := by kernel_rfl
theorem elB : El Try.prog 45 5 1 (.int .u8 0) := ⟨Try.underlying45, info_parts infoB, rfl⟩
theorem uvf_small (k m : Nat) (h : m < 128) : uvf k m = [m] := by cases k <;> simp [uvf, h]
theorem pow_step (k m : Nat) (h : m < 2 ^ (7 * (k + 1) + 1)) : m / 128 < 2 ^ (7 * k + 1) := by
  rw [show 7 * (k + 1) + 1 = (7 * k + 1) + 7 by omega, Nat.pow_add] at h
  omega
theorem pow_64 (k m : Nat) (hk : k ≤ 9) (h : m < 2 ^ (7 * k + 1)) : (m : Int) ≤ 18446744073709551615 := by
  have : 2 ^ (7 * k + 1) ≤ 2 ^ 64 := Nat.pow_le_pow_right (by omega) (by omega)
  omega
set_option maxHeartbeats 400000 in
theorem short_any (w : World) (base n v : Nat) (sv : Value) (xs : List Nat) (hown : w.ownsRow base 5 1 sv n (cb xs)) (hv : v < 2 ^ 64) (hn : n + 10 ≤ 140737488355328) (hbase : base ≤ w.heap.size) :
    Calls Try.prog 63 #[sv, .int .u64 v] w fun e w' => ∃ v', e = .returned v' ∧ Onto w w' base 5 sv v' (n + (uv v).length) (cb (xs ++ uv v)) := by
  go_enter Try.func63, Try.ntmps63
  go_wp2
  go_loopw [0, 1] (fun s x wr => ∃ (k m : Nat) (ys : List Nat), x = .int .u64 m ∧ m < 2 ^ (7 * k + 1) ∧ uv v = ys ++ uvf k m ∧ k ≤ 9 ∧ ys.length + k = 9 ∧ Onto w wr base 5 sv s (n + ys.length) (cb (xs ++ ys)))
    (fun _ x _ => (intOf x).toNat)
  case atStart => exact ⟨9, v, [], rfl, hv, rfl, by omega, rfl, by simpa using Onto.refl hown⟩
  case round =>
    obtain ⟨k, m, ys, rfl, hm, hu, hk, hl, hO⟩ := hrel
    have hm64 := pow_64 k m hk hm
    have H0 : (0 : Int) ≤ (m : Int) := by omega
    have hB : Hid (base ≤ wr.heap.size) := Nat.le_trans hbase hO.size
    have h63 : Hid (n + ys.length + 1 ≤ maxLen) := by show _ ≤ _; unfold maxLen; omega
    have hby : Hid ((n + ys.length + 1) * 1 ≤ 140737488355328) := by show _ ≤ _; omega
    generalize hX : (m : Int) = X at *
    have HH : Hid ((m : Int) = X ∧ m < 2 ^ (7 * k + 1) ∧ uv v = ys ++ uvf k m ∧ k ≤ 9 ∧ ys.length + k = 9 ∧ Onto w wr base 5 sv u0 (n + ys.length) (cb (xs ++ ys))) := ⟨hX, hm, hu, hk, hl, hO⟩
    clear hm hu hl hk hO hX hn hv hown hbase
    by_cases h : X < 128
    · go_wp2_with (refine wpList_push elB rfl rfl (.tmp 15) (.tmp 17) 18 rfl rfl rfl base u0 _ _ _ rfl rfl rfl rfl HH.out.2.2.2.2.2.own h63.out hby.out hB.out ?_; intro v1 w1 hO1)
      go_ret
      obtain ⟨hX, hm, hu, hk, hl, hO⟩ := HH
      have h2 : Onto wr w1 base 5 u0 v1 (n + ys.length + 1) (cb (xs ++ ys) ++ [.int .u8 X]) := hO1
      refine ⟨v1, rfl, ?_⟩
      rw [hu, uvf_small k m (by omega), ← List.append_assoc, cb_append, List.length_append]
      rw [← hX] at h2
      exact hO.trans h2
    · go_wp2_with (refine wpList_push elB rfl rfl (.tmp 9) (.tmp 12) 13 rfl rfl rfl base u0 _ _ _ rfl rfl rfl rfl HH.out.2.2.2.2.2.own h63.out hby.out hB.out ?_; intro v1 w1 hO1)
      obtain ⟨hX, hm, hu, hk, hl, hO⟩ := HH
      have h2 : Onto wr w1 base 5 u0 v1 (n + ys.length + 1) (cb (xs ++ ys) ++ [.int .u8 (bits .or .u8 (IntKind.u8.wrap X) 128)]) := hO1
      rw [← hX, or128_mod] at h2
      obtain ⟨k, rfl⟩ : ∃ q, k = q + 1 := by
        cases k with
        | zero => omega
        | succ q => exact ⟨q, rfl⟩
      go_roundw
      case rel =>
        refine ⟨k, m / 128, ys ++ [m % 128 + 128], ?_, pow_step k m hm, ?_, by omega, by simp; omega, ?_⟩
        · rw [← hX]; rfl
        · rw [hu]; simp only [uvf]; rw [if_neg (by omega)]; simp
        · rw [← List.append_assoc, cb_append, List.length_append]
          exact hO.trans h2
      case measure => simp [intOf]; omega
set_option maxHeartbeats 400000 in
theorem clone_any (w : World) (A : Option Addr) (n c B : Nat) (bs : List Nat) (hr : Rd w B A n (cb bs)) (hn : n ≤ 140737488355328) (hB : B ≤ w.heap.size) :
    Calls Try.prog 64 #[.slice A n c] w fun e w' => ∃ v', e = .returned v' ∧ Onto w w' w.heap.size 5 (.slice none 0 0) v' n (cb bs) := by
  have hq := fun w a l c => Lib.run_eql_slice_nil (P := Try.prog) w 45 5 a l c 0 0 Try.underlying45
  have HR : Hid (Rd w B A n (cb bs)) := hr
  have h63 : Hid (0 + n ≤ maxLen) := by show _ ≤ _; unfold maxLen; omega
  have hby : Hid ((0 + n) * 1 ≤ 140737488355328) := by show _ ≤ _; omega
  have HB : Hid (B ≤ w.heap.size) := hB
  clear hr hn hB
  cases A with
  | none =>
    go_enter Try.func64, Try.ntmps64
    go_wp2
    go_ret
    have h0 : n = 0 := by
      rcases Nat.eq_zero_or_pos n with h | h
      · exact h
      · obtain ⟨_, _, h, _⟩ := HR.out.2 h; cases h
    subst h0
    have hb : cb bs = [] := List.eq_nil_of_length_eq_zero HR.out.1
    rw [hb]
    exact ⟨_, rfl, Onto.nil w _ _⟩
  | some ad =>
    go_enter Try.func64, Try.ntmps64
    go_wp2_with (first
      | (refine wpList_build0 elB rfl rfl w.heap.size (Nat.le_refl _) ?_; intro v1 w1 hO1)
      | (refine wpList_app elB rfl (.tmp 5) (.tmp 6) rfl w.heap.size v1 0 [] rfl hO1.own B (some ad) n c (cb bs) rfl (HR.out.below (hO1.below (fun k h => by cases h) HB.out)) (cb_one bs) h63.out hby.out hO1.size ?_; intro v2 w2 hO2))
    go_ret
    exact ⟨v2, rfl, by have := hO1.trans hO2; simpa using this⟩
set_option maxHeartbeats 400000 in
theorem putUvarint_any (w : World) (A : Option Addr) (n c B v : Nat) (bs : List Nat) (hr : Rd w B A n (cb bs)) (hv : v < 2 ^ 64) (hn : n + 10 ≤ 140737488355328) (hB : B ≤ w.heap.size) :
    Calls Try.prog 26 #[.slice A n c, .int .u64 v] w fun e w' => ∃ v', e = .returned v' ∧ Onto w w' w.heap.size 5 (.slice none 0 0) v' (n + (uv v).length) (cb (bs ++ uv v)) := by
  have HH : Hid (Rd w B A n (cb bs) ∧ v < 2 ^ 64 ∧ n + 10 ≤ 140737488355328 ∧ B ≤ w.heap.size) := ⟨hr, hv, hn, hB⟩
  clear hr hv hn hB
  go_enter Try.func26, Try.ntmps26
  go_wp2_with (first
    | (go_at_call 64; refine (clone_any w A n c B bs HH.out.1 (by have := HH.out.2.2.1; omega) HH.out.2.2.2).mono ?_; rintro e w1 ⟨v1, rfl, hO1⟩)
    | (go_at_call 63; refine (short_any w1 w.heap.size n v v1 bs hO1.own HH.out.2.1 HH.out.2.2.1 hO1.size).mono ?_; rintro e w2 ⟨v2, rfl, hO2⟩))
  go_ret
  exact ⟨v2, rfl, hO1.trans hO2⟩
end Go.Proofs.Ytjkenhkoakaaoaa
