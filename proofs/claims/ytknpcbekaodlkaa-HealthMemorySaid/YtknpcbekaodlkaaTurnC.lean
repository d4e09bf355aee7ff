/- Products of a finite float with 1, i, -1, -i as complex numbers, and what they add to a sum. Plain. -/
import Derived.Test.YtknpcbekaodlkaaTurnR
import Derived.Laws.ComplexArith
namespace Go.Proofs.Ytknpcbekaodlkaa
open Ieee
set_option linter.unusedVariables false
def un (t : Bool) (q : Nat) : Int := if q = 0 then 0 else if t then -1 else 1
theorem finS_word (s : Bool) {r : Nat} (h : r < inf64) : FinS (double.word s r) := by
  have hi : inf64 < ms64 := by decide
  cases s
  · rw [word_pos]; exact ⟨by omega, by rw [Nat.mod_eq_of_lt (by omega)]; exact h⟩
  · rw [word_neg]; exact ⟨by omega, by rw [Nat.add_mod_left, Nat.mod_eq_of_lt (by omega)]; exact h⟩
theorem svs_zero (s : Bool) : svs 52 s 0 = 0 := by unfold svs; rw [sv_zero]; cases s <;> rfl
theorem mul_unit {x : Nat} (hx : FinS x) (t : Bool) (q : Nat) (hq : q = one64 ∨ q = 0) : ∃ p, double.mul x (double.word t q) = some p ∧ FinS p ∧ vl p = un t q * vl x := by
  have hqi : q < inf64 := by rcases hq with rfl | rfl <;> decide
  have hm := mul_fin 1074 (by decide) hx.word (⟨rfl, hqi⟩ : Fin double (double.word t q) t q)
  rw [fb64_eq, inf64_eq] at hm
  refine ⟨_, hm, ?_⟩
  have hfin := hx.fin
  rcases hq with rfl | rfl
  · rw [rg_eq_one _ _ rfl, Nat.min_eq_left (Nat.le_of_lt hfin)]
    refine ⟨finS_word _ hfin, ?_⟩
    rw [vl_word _ _ hfin]
    have hne : ¬ one64 = 0 := by decide
    unfold vl un svs
    rw [if_neg hne]
    cases decide (ms64 ≤ x) <;> cases t <;> simp
  · rw [sv_zero, Nat.mul_zero, rg_null, Nat.zero_min]
    refine ⟨finS_word _ (by decide), ?_⟩
    rw [vl_word _ _ (by decide), svs_zero]
    unfold un; rw [if_pos rfl, Int.zero_mul]
theorem vl_sign {z : Nat} (hz : FinS z) (s : Bool) (hs : s = decide (vl z < 0) ∨ vl z = 0) : vl (double.word s (min (rg 52 (vl z).natAbs 0) inf64)) = vl z := by
  have hfin := hz.fin
  rw [vl_abs, rg_of_sv, Nat.min_eq_left (Nat.le_of_lt hfin), vl_word _ _ hfin]
  have habs := vl_abs z
  rcases hs with rfl | h0
  · unfold svs
    by_cases hn : vl z < 0
    · rw [decide_eq_true hn, if_pos rfl]; omega
    · rw [decide_eq_false hn, if_neg (by decide)]; omega
  · rw [h0] at habs ⊢
    unfold svs
    split <;> omega
theorem add_has {x y z : Nat} (hx : FinS x) (hy : FinS y) (hz : FinS z) (h : vl x + vl y = vl z) : ∃ p, double.add x y = some p ∧ FinS p ∧ vl p = vl z := by
  have ha := add_fin hx.word hy.word
  rw [fb64_eq, inf64_eq] at ha
  have e : svs 52 (decide (ms64 ≤ x)) (x % ms64) + svs 52 (decide (ms64 ≤ y)) (y % ms64) = vl z := h
  rw [e] at ha
  have hr : min (rg 52 (vl z).natAbs 0) inf64 < inf64 := by
    rw [vl_abs, rg_of_sv, Nat.min_eq_left (Nat.le_of_lt hz.fin)]; exact hz.fin
  refine ⟨_, ha, finS_word _ hr, vl_sign hz _ ?_⟩
  by_cases h0 : vl z = 0
  · exact .inr h0
  · left; rw [if_neg h0]
theorem neg_word {y : Nat} (hy : FinS y) : FinS (double.word (!decide (ms64 ≤ y)) (y % ms64)) ∧ vl (double.word (!decide (ms64 ≤ y)) (y % ms64)) = - vl y := by
  refine ⟨finS_word _ hy.fin, ?_⟩
  rw [vl_word _ _ hy.fin]
  unfold vl svs
  cases decide (ms64 ≤ y) <;> simp
theorem sub_has {x y z : Nat} (hx : FinS x) (hy : FinS y) (hz : FinS z) (h : vl x - vl y = vl z) : ∃ p, double.sub x y = some p ∧ FinS p ∧ vl p = vl z := by
  obtain ⟨h1, h2⟩ := neg_word hy
  rw [sub_fin hy.word]
  exact add_has hx h1 hz (by rw [h2]; omega)
theorem fin_zero : FinS 0 := ⟨by decide, by decide⟩
theorem vl_zero : vl 0 = 0 := by unfold vl; rw [Nat.zero_mod, svs_zero]
/-- The product with a unit. -/
theorem cmul_unit {s : Nat} (hs : FinS s) (t1 t2 : Bool) (q1 q2 : Nat) (h1 : q1 = one64 ∨ q1 = 0) (h2 : q2 = one64 ∨ q2 = 0) :
    ∃ p q, cMulBits s 0 (double.word t1 q1) (double.word t2 q2) = some (p, q) ∧ FinS p ∧ FinS q ∧ vl p = un t1 q1 * vl s ∧ vl q = un t2 q2 * vl s := by
  obtain ⟨ac, e1, f1, v1⟩ := mul_unit hs t1 q1 h1
  obtain ⟨bd, e2, f2, v2⟩ := mul_unit fin_zero t2 q2 h2
  obtain ⟨ad, e3, f3, v3⟩ := mul_unit hs t2 q2 h2
  obtain ⟨bc, e4, f4, v4⟩ := mul_unit fin_zero t1 q1 h1
  rw [vl_zero, Int.mul_zero] at v2 v4
  obtain ⟨re, e5, f5, v5⟩ := sub_has f1 f2 f1 (by rw [v2]; omega)
  obtain ⟨im, e6, f6, v6⟩ := add_has f3 f4 f3 (by rw [v4]; omega)
  refine ⟨re, im, ?_, f5, f6, by rw [v5, v1], by rw [v6, v3]⟩
  unfold cMulBits
  show (double.mul s _).bind _ = _
  rw [e1]
  show (double.mul 0 _).bind _ = _
  rw [e2]
  show (double.sub ac bd).bind _ = _
  rw [e5]
  show (double.mul s _).bind _ = _
  rw [e3]
  show (double.mul 0 _).bind _ = _
  rw [e4]
  show (double.add ad bc).bind _ = _
  rw [e6]
  rfl
/-- Added to a sum. -/
theorem csum_add {e t x y p q : Nat} (hx : Sum e t x) (hy : Sum e t y) (hp : FinS p) (hq : FinS q) : cSumBits .add .f64 x y p q = some (wd (vl x + vl p), wd (vl y + vl q)) := by
  unfold cSumBits
  show (double.add x p).bind _ = _
  rw [bits_add_sum hx hp]
  show (double.add y q).bind _ = _
  rw [bits_add_sum hy hq]
  rfl
end Go.Proofs.Ytknpcbekaodlkaa
