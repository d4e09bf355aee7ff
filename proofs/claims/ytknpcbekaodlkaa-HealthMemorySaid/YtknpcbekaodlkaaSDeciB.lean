/- Signed floats: how far a rounded sum lies, that a sum that is not of two negative zeros is no negative zero, products with 1, -1 and 0. -/
import Derived.Test.YtknpcbekaodlkaaSDeci
namespace Go.Proofs.Ytknpcbekaodlkaa
open Ieee
set_option linter.unusedVariables false
theorem vl_word (s : Bool) (r : Nat) (h : r < inf64) : vl (double.word s r) = svs 52 s r := by
  have hi : inf64 < ms64 := by decide
  unfold vl
  cases s
  · rw [word_pos, decide_eq_false (by omega), Nat.mod_eq_of_lt (by omega)]
  · rw [word_neg, decide_eq_true (by omega), Nat.add_mod_left, Nat.mod_eq_of_lt (by omega)]
theorem svs_abs (s : Bool) (r : Nat) : (svs 52 s r).natAbs = sv 52 r := by unfold svs; split <;> omega
theorem vl_abs (x : Nat) : (vl x).natAbs = sv 52 (x % ms64) := svs_abs _ _
theorem vl_wd {v : Int} (h : rg 52 v.natAbs 0 < inf64) : (vl (wd v)).natAbs = sv 52 (rg 52 v.natAbs 0) := by
  unfold wd
  rw [Nat.min_eq_left (Nat.le_of_lt h), vl_word _ _ h, svs_abs]
theorem rg_pos {M : Nat} (h : 0 < M) : 0 < rg 52 M 0 := by
  have h1 := rg_mono 52 0 (show sv 52 1 ≤ M by rw [show sv 52 1 = 1 by unfold sv; rw [if_pos (by decide)]]; exact h)
  rw [rg_of_sv] at h1
  exact h1
theorem wd_not (v : Int) (h : rg 52 v.natAbs 0 < inf64) : wd v ≠ ms64 := by
  have hi : inf64 < ms64 := by decide
  unfold wd
  rw [Nat.min_eq_left (Nat.le_of_lt h)]
  by_cases hv : v < 0
  · rw [decide_eq_true hv, word_neg]
    have := rg_pos (M := v.natAbs) (by omega)
    omega
  · rw [decide_eq_false hv, word_pos]; omega
/-- The reach of a sum of j terms of at most 2^e units each. -/
theorem wd_reach {v : Int} {j e : Nat} (hj : j < 2 ^ 53) (he : e ≤ 2000) (h : v.natAbs ≤ j * 2 ^ e) : rg 52 v.natAbs 0 < inf64 ∧ (vl (wd v)).natAbs ≤ j * 2 ^ e := by
  obtain ⟨q, hq⟩ := sv_has j e hj
  have h1 := rg_mono 52 0 (show v.natAbs ≤ sv 52 q by rw [hq]; exact h)
  rw [rg_of_sv] at h1
  have hi := sv_bin 52 2046
  have e1 : (2046 + 1) * 2 ^ 52 = inf64 := by decide
  rw [e1] at hi
  have h2 : q < inf64 := by
    refine (sv_lt_iff 52 q inf64).1 ?_
    rw [hq, hi]
    calc j * 2 ^ e < 2 ^ 53 * 2 ^ e := Nat.mul_lt_mul_of_pos_right hj (Nat.two_pow_pos _)
      _ = 2 ^ (53 + e) := (Nat.pow_add ..).symm
      _ ≤ 2 ^ (52 + 2046) := Nat.pow_le_pow_right (by omega) (by omega)
  have h3 : rg 52 v.natAbs 0 < inf64 := Nat.lt_of_le_of_lt h1 h2
  refine ⟨h3, ?_⟩
  rw [vl_wd h3, ← hq]
  exact sv_le 52 h1
theorem sub_vl {x y : Nat} (hx : FinS x) (hy : FinS y) (h : ¬ (ms64 ≤ x ∧ y < ms64 ∧ vl x - vl y = 0)) : double.sub x y = some (wd (vl x - vl y)) := by
  have hi : inf64 < ms64 := by decide
  rw [sub_fin hy.word]
  have hlt := hy.lt
  have hfin := hy.fin
  have hy2 : FinS (double.word (!decide (ms64 ≤ y)) (y % ms64)) := by
    cases decide (ms64 ≤ y)
    · rw [Bool.not_false, word_neg]; exact ⟨by omega, by rw [Nat.add_mod_left, Nat.mod_eq_of_lt (by omega)]; exact hfin⟩
    · rw [Bool.not_true, word_pos]; exact ⟨by omega, by rw [Nat.mod_eq_of_lt (by omega)]; exact hfin⟩
  have hv : vl (double.word (!decide (ms64 ≤ y)) (y % ms64)) = - vl y := by
    rw [vl_word _ _ hfin]
    unfold vl svs
    cases decide (ms64 ≤ y) <;> simp
  have hw := add_vl hx hy2 (by
    rw [hv]
    rintro ⟨h1, h2, h3⟩
    refine h ⟨h1, ?_, by omega⟩
    by_cases hm : ms64 ≤ y
    · rw [decide_eq_true hm, Bool.not_true, word_pos] at h2; omega
    · omega)
  rw [hv] at hw
  rw [Int.sub_eq_add_neg]
  exact hw
end Go.Proofs.Ytknpcbekaodlkaa
