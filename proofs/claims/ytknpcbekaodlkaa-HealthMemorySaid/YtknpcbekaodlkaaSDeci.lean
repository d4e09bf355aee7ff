/- Sums and differences of finite floats of 64 bits with their signs, as the rounding of whole numbers of the least unit. -/
import Derived.Test.YtknpcbekaodlkaaDeci
namespace Go.Proofs.Ytknpcbekaodlkaa
open Ieee
set_option linter.unusedVariables false
/-- What a finite word counts, in least units. -/
def vl (x : Nat) : Int := svs 52 (decide (ms64 ≤ x)) (x % ms64)
structure FinS (x : Nat) : Prop where
  lt : x < 2 * ms64
  fin : x % ms64 < inf64
/-- The word nearest to v units; nought is the positive one. -/
def wd (v : Int) : Nat := double.word (decide (v < 0)) (min (rg 52 v.natAbs 0) inf64)
theorem FinS.word {x : Nat} (h : FinS x) : Fin double x (decide (ms64 ≤ x)) (x % ms64) := by
  refine ⟨?_, h.fin⟩
  have h1 := h.lt
  by_cases hm : ms64 ≤ x
  · rw [decide_eq_true hm, word_neg]
    have h2 : x % ms64 = x - ms64 := by rw [Nat.mod_eq_sub_mod hm, Nat.mod_eq_of_lt (by omega)]
    omega
  · rw [decide_eq_false hm, word_pos, Nat.mod_eq_of_lt (by omega)]
theorem add_vl {x y : Nat} (hx : FinS x) (hy : FinS y) (h : ¬ (ms64 ≤ x ∧ ms64 ≤ y ∧ vl x + vl y = 0)) : double.add x y = some (wd (vl x + vl y)) := by
  rw [add_fin hx.word hy.word, fb64_eq, inf64_eq]
  show some (double.word (if vl x + vl y = 0 then _ else decide (vl x + vl y < 0)) _) = _
  unfold wd
  by_cases h0 : vl x + vl y = 0
  · have h2 : (decide (ms64 ≤ x) && decide (ms64 ≤ y)) = false := by
      by_cases a : ms64 ≤ x
      · by_cases b : ms64 ≤ y
        · exact absurd ⟨a, b, h0⟩ h
        · rw [decide_eq_false b, Bool.and_false]
      · rw [decide_eq_false a, Bool.false_and]
    have h3 : decide (vl x + vl y < 0) = false := decide_eq_false (by omega)
    rw [if_pos h0, h2, h3]
    rfl
  · rw [if_neg h0]
    rfl
theorem wd_fin {v : Int} (h : rg 52 v.natAbs 0 < inf64) : FinS (wd v) := by
  unfold wd
  rw [Nat.min_eq_left (Nat.le_of_lt h)]
  have hi : inf64 < ms64 := by decide
  cases decide (v < 0)
  · rw [word_pos]; exact ⟨by omega, by rw [Nat.mod_eq_of_lt (by omega)]; exact h⟩
  · rw [word_neg]; exact ⟨by omega, by rw [Nat.add_mod_left, Nat.mod_eq_of_lt (by omega)]; exact h⟩
/-- A number with a significand of at most 53 digits is one of the floats' numbers. -/
theorem sv_has (m e : Nat) (h : m < 2 ^ 53) : ∃ q, sv 52 q = m * 2 ^ e := by
  rcases Nat.eq_zero_or_pos m with h0 | h0
  · exact ⟨0, by rw [h0, Nat.zero_mul, sv_zero]⟩
  have l1 := Nat.log2_self_le (n := m) (by omega)
  have l2 := log2_lt_pow m
  have l3 : m.log2 ≤ 52 := by
    rcases Nat.lt_or_ge 52 m.log2 with h | h
    · have : 2 ^ 53 ≤ 2 ^ m.log2 := Nat.pow_le_pow_right (by omega) h
      omega
    · exact h
  generalize m.log2 = l at *
  rcases Nat.lt_or_ge (l + e) 52 with hs | hs
  · refine ⟨m * 2 ^ e, ?_⟩
    unfold sv
    rw [if_pos]
    calc m * 2 ^ e < 2 ^ (l + 1) * 2 ^ e := Nat.mul_lt_mul_of_pos_right l2 (Nat.two_pow_pos _)
      _ = 2 ^ (l + 1 + e) := (Nat.pow_add ..).symm
      _ ≤ 2 ^ 52 := Nat.pow_le_pow_right (by omega) (by omega)
  · obtain ⟨d, hd⟩ : ∃ d, l + d = 52 := ⟨52 - l, by omega⟩
    obtain ⟨t, ht⟩ : ∃ t, e = d + t := ⟨e - d, by omega⟩
    have f1 : 2 ^ 52 ≤ m * 2 ^ d := by
      rw [← hd, Nat.pow_add]; exact Nat.mul_le_mul_right _ l1
    have f2 : m * 2 ^ d < 2 ^ 53 := by
      calc m * 2 ^ d < 2 ^ (l + 1) * 2 ^ d := Nat.mul_lt_mul_of_pos_right l2 (Nat.two_pow_pos _)
        _ = 2 ^ (l + 1 + d) := (Nat.pow_add ..).symm
        _ ≤ 2 ^ 53 := Nat.pow_le_pow_right (by omega) (by omega)
    have f3 : (2 : Nat) ^ 53 = 2 ^ 52 + 2 ^ 52 := by decide
    obtain ⟨f, hf⟩ : ∃ f, m * 2 ^ d = 2 ^ 52 + f := ⟨m * 2 ^ d - 2 ^ 52, by omega⟩
    have f4 : f < 2 ^ 52 := by omega
    refine ⟨(t + 1) * 2 ^ 52 + f, ?_⟩
    rw [ht, Nat.pow_add, ← Nat.mul_assoc, hf]
    unfold sv
    rw [if_neg (by rw [Nat.add_mul]; omega), Nat.mul_comm (t + 1), Nat.mul_add_mod, Nat.mod_eq_of_lt f4, Nat.mul_add_div (Nat.two_pow_pos _), Nat.div_eq_of_lt f4, Nat.add_zero, Nat.add_sub_cancel]
end Go.Proofs.Ytknpcbekaodlkaa
