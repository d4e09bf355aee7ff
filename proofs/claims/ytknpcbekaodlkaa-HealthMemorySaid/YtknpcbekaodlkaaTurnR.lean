/- Run equations of the turned sum. -/
import Derived.Test.YtknpcbekaodlkaaTurnP
namespace Go.Proofs.Ytknpcbekaodlkaa
open Ieee
set_option linter.unusedVariables false
theorem vl_neg {x : Nat} (h : ms64 ≤ x) : vl x ≤ 0 := by
  unfold vl; rw [decide_eq_true h]; unfold svs; rw [if_pos rfl]; omega
theorem vl_nneg {x : Nat} (h : x < ms64) : 0 ≤ vl x := by
  unfold vl; rw [decide_eq_false (by omega)]; unfold svs; simp
theorem vl_low {x : Nat} (hx : FinS x) (h : ms64 ≤ x) (hn : x ≠ ms64) : vl x < 0 := by
  have h1 := hx.lt
  have h2 : x % ms64 = x - ms64 := by rw [Nat.mod_eq_sub_mod h, Nat.mod_eq_of_lt (by omega)]
  have h3 := sv_pos 52 (r := x % ms64) (by omega)
  unfold vl; rw [decide_eq_true h]; unfold svs; rw [if_pos rfl]; omega
section
variable {P : Program} (w : World) (T : TypeId)
theorem bits_add_sum {e t x s : Nat} (h : Sum e t x) (hs : FinS s) : double.add x s = some (wd (vl x + vl s)) :=
  add_vl h.fin hs (by
    rintro ⟨h1, h2, h3⟩
    have a := vl_low h.fin h1 h.not
    have b := vl_neg h2
    omega)
theorem bits_sub_sum {e t x s : Nat} (h : Sum e t x) (hs : FinS s) : double.sub x s = some (wd (vl x - vl s)) :=
  sub_vl h.fin hs (by
    rintro ⟨h1, h2, h3⟩
    have a := vl_low h.fin h1 h.not
    have b := vl_nneg h2
    omega)
theorem run_tadd {e t x s : Nat} (h : Sum e t x) (hs : FinS s) : (binOp .add T (.float .f64 x) (.float .f64 s)).run P w = .ok (.float .f64 (wd (vl x + vl s))) w :=
  run_float_arith w .add T .f64 x s _ (bits_add_sum h hs)
theorem run_tsub {e t x s : Nat} (h : Sum e t x) (hs : FinS s) : (binOp .sub T (.float .f64 x) (.float .f64 s)).run P w = .ok (.float .f64 (wd (vl x - vl s))) w :=
  run_float_arith w .sub T .f64 x s _ (bits_sub_sum h hs)
end
/-- A sum plus nothing is the sum. -/
theorem wd_self {e t x : Nat} (h : Sum e t x) : wd (vl x) = x := by
  have h1 := h.fin.lt
  have hf := h.fin.fin
  have hr : rg 52 (vl x).natAbs 0 = x % ms64 := by rw [vl_abs, rg_of_sv]
  unfold wd
  rw [hr, Nat.min_eq_left (Nat.le_of_lt hf)]
  by_cases hm : ms64 ≤ x
  · have h2 : x % ms64 = x - ms64 := by rw [Nat.mod_eq_sub_mod hm, Nat.mod_eq_of_lt (by omega)]
    rw [decide_eq_true (vl_low h.fin hm h.not), word_neg]; omega
  · rw [decide_eq_false (by have := vl_nneg (x := x) (by omega); omega), word_pos, Nat.mod_eq_of_lt (by omega)]
end Go.Proofs.Ytknpcbekaodlkaa
