/- Contracts of take, math.Signbit and lawful. -/
import Derived.Test.YtknpcbekaodlkaaBoardS
namespace Go.Proofs.Ytknpcbekaodlkaa
open Go.RowKit
set_option linter.unusedVariables false
theorem or_step (V X : Nat) (hV : V < 16777216) (hX : X < 256) : bits .or .u32 ((V : Int) * 256) (X : Int) = ((V * 256 + X : Nat) : Int) := by
  have h := u32_or_nat (V * 256) X (by omega) (by omega)
  rw [show ((V : Int) * 256) = ((V * 256 : Nat) : Int) by omega, h]
  congr 1
  have : V * 256 = V <<< 8 := by rw [Nat.shiftLeft_eq]
  rw [this, ← Nat.shiftLeft_add_eq_or_of_lt (by omega : X < 2 ^ 8)]
/-- The number of the last k of the four bytes. -/
def partP (bs : List Nat) : Nat → Nat
  | 0 => 0
  | k + 1 => partP bs k * 256 + bs.getD (3 - k) 0
theorem getD_lt {bs : List Nat} (h : ∀ y ∈ bs, y < 256) (i : Nat) : bs.getD i 0 < 256 := by
  rw [List.getD_eq_getElem?_getD]
  by_cases hi : i < bs.length
  · rw [List.getElem?_eq_getElem hi]; exact h _ (List.getElem_mem hi)
  · rw [List.getElem?_eq_none (by omega)]; decide
theorem part_take (bs : List Nat) : partP bs 4 = takeP bs := by
  show (((0 * 256 + bs.getD 3 0) * 256 + bs.getD 2 0) * 256 + bs.getD 1 0) * 256 + bs.getD 0 0 = _
  unfold takeP; omega
theorem part_lt {bs : List Nat} (h : ∀ y ∈ bs, y < 256) (k : Nat) (hk : k < 4) : partP bs k < 16777216 := by
  have := getD_lt h 3; have := getD_lt h 2; have := getD_lt h 1
  rcases (by omega : k = 0 ∨ k = 1 ∨ k = 2 ∨ k = 3) with rfl | rfl | rfl | rfl
  · show 0 < 16777216; omega
  · show 0 * 256 + bs.getD 3 0 < _; omega
  · show (0 * 256 + bs.getD 3 0) * 256 + bs.getD 2 0 < _; omega
  · show ((0 * 256 + bs.getD 3 0) * 256 + bs.getD 2 0) * 256 + bs.getD 1 0 < _; omega
set_option maxRecDepth 20000 in
set_option maxHeartbeats 1000000 in
theorem take_any (w : World) (B n c : Nat) (A : Option Addr) (bs : List Nat) (hr : Rd w B A n (cb bs)) (hb : ∀ y ∈ bs, y < 256) (hn : 4 ≤ n) :
    Calls Try.prog 47 #[.slice A n c] w fun e w' => e = .returned (.float .f32 (takeP bs)) ∧ w' = w := by
  obtain ⟨g, off, rfl, _, hc⟩ := hr.2 (by omega)
  have hl : n = bs.length := by have := hr.1; rw [cb_length] at this; exact this.symm
  have hcc : ∀ i, i < n → w.cell? ⟨g, off + i, none⟩ = some (.int .u8 ((bs.getD i 0 : Nat) : Int)) := fun i hi => by
    rw [hc i hi]; exact cb_get bs i (by omega)
  have HB : Hd ((∀ y ∈ bs, y < 256) ∧ partP bs 4 = takeP bs) := ⟨hb, part_take bs⟩
  have hf := fun w => run_f32from (takeP bs) w
  obtain ⟨T, hT⟩ : ∃ T : Int, ((takeP bs : Nat) : Int) = T := ⟨_, rfl⟩
  rw [hT] at hf
  have HT := Hd.mk hT
  clear hT hc hr hb hl
  have HC := Hd.mk hcc
  clear hcc
  go_enter Try.func47, Try.ntmps47
  go_wp2_with fail
  go_loop [3, 4] (fun v i => ∃ k : Nat, k ≤ 4 ∧ i = .int .i64 (3 - (k : Int)) ∧ v = .int .u32 ((partP bs k : Nat) : Int)) (fun _ i => (1 + match i with | .int _ j => j | _ => 0).toNat)
  case atStart => exact ⟨0, by omega, by simp, rfl⟩
  case round =>
    obtain ⟨k, hk, rfl, rfl⟩ := hrel
    by_cases hlt : k < 4
    · have e1 := or_step (partP bs k) (bs.getD (3 - k) 0) (part_lt HB.out.1 k hlt) (getD_lt HB.out.1 _)
      have c1 := HC.out (3 - k) (by omega)
      have v1 := part_lt HB.out.1 k hlt
      have x1 := getD_lt HB.out.1 (3 - k)
      have HP : Hd (partP bs (k + 1) = partP bs k * 256 + bs.getD (3 - k) 0) := ⟨rfl⟩
      have hw : IntKind.u32.wrap ((partP bs k : Int) * 256) = (partP bs k : Int) * 256 := by exact IntWalk.u32_in _ (by omega)
      generalize bs.getD (3 - k) 0 = x at *
      generalize partP bs k = v at *
      have e3 : (3 - (k : Int)).toNat = 3 - k := by omega
      have ev : ((v * 256 + x : Nat) : Int) = ((partP bs (k + 1) : Nat) : Int) := by rw [HP.out]
      rw [ev] at e1
      have HE := Hd.mk e1
      clear ev
      have x0 : (0 : Int) ≤ (x : Int) := by omega
      have x2 : (x : Int) ≤ 255 := by omega
      have v0 : (0 : Int) ≤ (v : Int) := by omega
      have v2 : (v : Int) ≤ 16777215 := by omega
      clear v1 x1
      generalize ((x : Nat) : Int) = X at *
      generalize ((v : Nat) : Int) = V at *
      clear HP HC
      go_wp2_with fail
      go_round
      case rel => exact ⟨k + 1, by omega, by go_num, by first | rfl | (congr 1)⟩
      case measure => simp; omega
    · have hk4 : k = 4 := by omega
      subst hk4
      have e4 : ((partP bs 4 : Nat) : Int) = T := by rw [HB.out.2]; exact HT.out
      rw [e4]
      go_wp2_with fail
      go_ret
      exact ⟨rfl, rfl⟩

theorem good32 {p : Nat} (hp : p < 2 ^ 32) (h1 : (Ieee.single.order p 0 == some .gt || Ieee.single.order p 0 == some .eq) = true) (h2 : (Ieee.single.order p one32 == some .lt || Ieee.single.order p one32 == some .eq) = true) : p ≤ one32 ∨ p = ms32 := by
  have hsplit : p = Ieee.single.word (decide (ms32 ≤ p)) (p % ms32) := by
    unfold Ieee.Format.word
    rw [sw32_eq]
    by_cases hm : ms32 ≤ p
    · rw [if_pos (decide_eq_true hm)]
      have : p % ms32 = p - ms32 := by rw [Nat.mod_eq_sub_mod hm, Nat.mod_eq_of_lt]; unfold ms32 at *; omega
      omega
    · rw [if_neg (by simp [hm]), Nat.mod_eq_of_lt (by omega)]
  rcases Nat.lt_or_ge (p % ms32) inf32 with hf | hf
  · have hF : Fin Ieee.single p (decide (ms32 ≤ p)) (p % ms32) := ⟨hsplit, hf⟩
    rw [order_fin hF (fin32 (by decide))] at h1
    rw [order_fin hF (fin32 one_inf32)] at h2
    rw [fb32_eq] at h1 h2
    by_cases hm : ms32 ≤ p
    · right
      simp only [svs, decide_eq_true hm, if_true, sv_zero, Bool.false_eq_true, if_false] at h1
      have h0 : sv 23 (p % ms32) = 0 := by
        rcases Nat.eq_zero_or_pos (sv 23 (p % ms32)) with h | h
        · exact h
        · exfalso
          have hc : compare (-(sv 23 (p % ms32) : Int)) (((0 : Nat) : Int)) = .lt := by
            simp only [compare, compareOfLessAndEq]; rw [if_pos (by omega)]
          rw [hc] at h1; exact absurd h1 (by decide)
      have : p % ms32 = 0 := by
        rcases Nat.eq_zero_or_pos (p % ms32) with h | h
        · exact h
        · have := sv_pos 23 h; omega
      rw [Nat.mod_eq_sub_mod hm, Nat.mod_eq_of_lt (by unfold ms32 at *; omega)] at this
      omega
    · left
      have hpm : p % ms32 = p := Nat.mod_eq_of_lt (by omega)
      rw [hpm] at h2
      simp only [svs, decide_eq_false hm, Bool.false_eq_true, if_false] at h2
      rcases Nat.lt_or_ge one32 p with h | h
      · exfalso
        have := sv_mono 23 h
        have hc : compare ((sv 23 p : Int)) ((sv 23 one32 : Int)) = .gt := by
          simp only [compare, compareOfLessAndEq]; rw [if_neg (by omega), if_neg (by omega)]
        rw [hc] at h2; exact absurd h2 (by decide)
      · exact h
  · exfalso
    have hrd : Ieee.single.read p = if p % ms32 = inf32 then .infinity (p / ms32 % 2 == 1) else .nan (p / ms32 % 2 == 1) (p % ms32 - inf32) := by
      unfold Ieee.Format.read
      rw [sw32_eq, inf32_eq]
      simp only
      rw [if_neg (by show ¬ p % ms32 < 2 ^ 23; unfold inf32 at hf; omega), if_neg (by omega)]
    obtain ⟨m, k, r1, _⟩ := (fin32 one_inf32).read
    obtain ⟨m0, k0, r0, _⟩ := (fin32 (r := 0) (by decide)).read
    unfold Ieee.Format.order at h1 h2
    rw [hrd] at h1 h2
    rw [r1] at h2
    rw [r0] at h1
    split at h1
    · cases hb : (p / ms32 % 2 == 1)
      · rw [hb] at h2; rename_i he; rw [if_pos he] at h2; simp [Ieee.Datum.order] at h2
      · rw [hb] at h1; simp [Ieee.Datum.order] at h1
    · simp [Ieee.Datum.order] at h1
theorem ge32 {p : Nat} (h : p ≤ one32) : (Ieee.single.order p 0 == some .gt || Ieee.single.order p 0 == some .eq) = true := by
  rw [order32 (Nat.lt_of_le_of_lt h one_inf32) (by decide), if_neg (by omega)]
  by_cases h0 : p = 0
  · rw [if_pos h0]; rfl
  · rw [if_neg h0]; rfl
theorem le32 {p : Nat} (h : p ≤ one32) : (Ieee.single.order p one32 == some .lt || Ieee.single.order p one32 == some .eq) = true := by
  rw [order32 (Nat.lt_of_le_of_lt h one_inf32) one_inf32]
  by_cases h0 : p < one32
  · rw [if_pos h0]; rfl
  · rw [if_neg h0, if_pos (by omega)]; rfl
theorem ms32_fin : Fin Ieee.single ms32 true 0 := ⟨rfl, by decide⟩
theorem ge32m : (Ieee.single.order ms32 0 == some .gt || Ieee.single.order ms32 0 == some .eq) = true := by
  rw [order_fin ms32_fin (fin32 (by decide)), fb32_eq]
  simp only [svs, if_true, sv_zero, Bool.false_eq_true, if_false]
  decide
theorem le32m : (Ieee.single.order ms32 one32 == some .lt || Ieee.single.order ms32 one32 == some .eq) = true := by
  rw [order_fin ms32_fin (fin32 one_inf32), fb32_eq]
  simp only [svs, if_true, sv_zero, Bool.false_eq_true, if_false]
  have h := sv_pos 23 (show 0 < one32 by decide)
  generalize sv 23 one32 = v at *
  have hc : compare (-((0 : Nat) : Int)) (v : Int) = .lt := by
    simp only [compare, compareOfLessAndEq]; rw [if_pos (by omega)]
  rw [hc]; rfl
theorem run_widen_m {P : Program} (w : World) (src dst : TypeId) (hs : (P.underlying src).isSome = true) (hd : P.underlying dst = some (.float .f64)) :
    (convert src dst (.float .f32 ms32)).run P w = .ok (.float .f64 (ms64 + up 0)) w := by
  rw [run_convert_float_float w src dst .f32 .f64 ms32 _ hs hd (widen_bits ms32_fin), word_neg]
set_option maxHeartbeats 400000 in
theorem signbit_any (w : World) (x : Nat) (hx : x < 2 ^ 64) (b : Bool) (hb : b = decide (ms64 ≤ x)) :
    Calls Try.prog 48 #[.float .f64 x] w fun e w' => e = .returned (.bool b) ∧ w' = w := by
  have hf := fun w => run_f64bits x w
  obtain ⟨X, hX⟩ : ∃ X : Int, (x : Int) = X := ⟨_, rfl⟩
  rw [hX] at hf
  have h0 : 0 ≤ X := by omega
  have h1 : X ≤ 18446744073709551615 := by omega
  cases b
  · have hm : X < 9223372036854775808 := by have := of_decide_eq_false hb.symm; unfold ms64 at this; omega
    have hw : IntKind.i64.wrap X = X := Go.IntWalk.i64_in _ (by omega)
    have hlt : ¬ X < 0 := by omega
    clear hb hX hx
    go_enter Try.func48, Try.ntmps48
    go_wp2_with fail
    go_ret
    exact ⟨rfl, rfl⟩
  · have hm : 9223372036854775808 ≤ X := by have := of_decide_eq_true hb.symm; unfold ms64 at this; omega
    have hw : IntKind.i64.wrap X = X - 18446744073709551616 := by rw [IntKind.wrap_i64]; omega
    have hlt : X - 18446744073709551616 < 0 := by omega
    clear hb hX hx
    go_enter Try.func48, Try.ntmps48
    go_wp2_with fail
    go_ret
    exact ⟨rfl, rfl⟩
set_option maxHeartbeats 400000 in
theorem lawful_gen (w : World) (b K : Nat) (hK : K < 2 ^ 32) (hc : w.cell? ⟨b, 0, none⟩ = some (.float .f32 K)) :
    Calls Try.prog 49 #[.pointer (some ⟨b, 0, none⟩)] w fun e w' => e = .returned (.bool (keepOk K)) ∧ w' = w := by
  rcases h1 : (FloatKind.f32.format.order K 0 == some .gt) with _ | _
  · have hk : keepOk K = false := by
      rcases h : keepOk K
      · rfl
      · unfold keepOk at h
        rw [Bool.and_eq_true, decide_eq_true_iff, decide_eq_true_iff] at h
        have := ord32 (Nat.lt_trans h.2 one_inf32) (b := 0) (by decide)
        rw [if_neg (by omega), if_neg (by omega)] at this
        rw [show FloatKind.f32.format.order K 0 = some .gt from this] at h1
        exact absurd h1 (by decide)
    rw [hk]
    clear hK
    go_enter Try.func49, Try.ntmps49
    go_wp2
    go_ret
    exact ⟨rfl, rfl⟩
  · rcases h2 : (FloatKind.f32.format.order K 1065353216 == some .lt) with _ | _
    · have hk : keepOk K = false := by
        rcases h : keepOk K
        · rfl
        · unfold keepOk at h
          rw [Bool.and_eq_true, decide_eq_true_iff, decide_eq_true_iff] at h
          have := ord32 (Nat.lt_trans h.2 one_inf32) one_inf32
          rw [if_pos h.2] at this
          rw [show FloatKind.f32.format.order K 1065353216 = some .lt from this] at h2
          exact absurd h2 (by decide)
      rw [hk]
      clear hK
      go_enter Try.func49, Try.ntmps49
      go_wp2
      go_ret
      exact ⟨rfl, rfl⟩
    · have hb := between32 hK h1 h2
      have hk : keepOk K = true := by unfold keepOk; rw [decide_eq_true hb.1, decide_eq_true hb.2]; rfl
      rw [hk]
      refine (lawful_any w b K hb.1 hb.2 hc).mono ?_
      rintro e w' ⟨rfl, rfl⟩
      exact ⟨rfl, rfl⟩
end Go.Proofs.Ytknpcbekaodlkaa
