/- The turned sum as a plain function on the numbers' bits; that it stays finite and is never the negative zero. -/
import Derived.Test.YtknpcbekaodlkaaSDeciB
namespace Go.Proofs.Ytknpcbekaodlkaa
open Ieee
set_option linter.unusedVariables false
theorem cmp_ge {a b : Int} (h : (compare a b == .gt || compare a b == .eq) = true) : b ≤ a := by
  simp only [compare, compareOfLessAndEq] at h
  by_cases h1 : a < b
  · rw [if_pos h1] at h; cases h
  · omega
theorem cmp_le {a b : Int} (h : (compare a b == .lt || compare a b == .eq) = true) : a ≤ b := by
  simp only [compare, compareOfLessAndEq] at h
  by_cases h1 : a < b
  · omega
  · rw [if_neg h1] at h
    by_cases h2 : a = b
    · omega
    · rw [if_neg h2] at h; cases h
/-- A word that is in order with two finite ones, between them, is finite. -/
theorem order_between {p a b : Nat} (hp : p < 2 ^ 64) (ha : FinS a) (hb : FinS b) (h1 : (double.order p a == some .gt || double.order p a == some .eq) = true) (h2 : (double.order p b == some .lt || double.order p b == some .eq) = true) :
    FinS p ∧ vl a ≤ vl p ∧ vl p ≤ vl b := by
  have hlt : p < 2 * ms64 := by unfold ms64; omega
  rcases Nat.lt_or_ge (p % ms64) inf64 with hf | hf
  · have hF : FinS p := ⟨hlt, hf⟩
    have o1 := order_fin hF.word ha.word
    have o2 := order_fin hF.word hb.word
    rw [fb64_eq] at o1 o2
    rw [o1] at h1
    rw [o2] at h2
    exact ⟨hF, cmp_ge (by unfold vl; simpa using h1), cmp_le (by unfold vl; simpa using h2)⟩
  · exfalso
    have hrd : double.read p = if p % ms64 = inf64 then .infinity (p / ms64 % 2 == 1) else .nan (p / ms64 % 2 == 1) (p % ms64 - inf64) := by
      unfold Format.read
      rw [sw64_eq, inf64_eq]
      simp only
      rw [if_neg (by show ¬ p % ms64 < 2 ^ 52; unfold inf64 at hf; omega), if_neg (by omega)]
    obtain ⟨m, k, r1, _⟩ := hb.word.read
    obtain ⟨m0, k0, r0, _⟩ := ha.word.read
    unfold Format.order at h1 h2
    rw [hrd] at h1 h2
    rw [r1] at h2
    rw [r0] at h1
    split at h1
    · cases hb : (p / ms64 % 2 == 1)
      · rw [hb] at h2; rename_i he; rw [if_pos he] at h2; simp [Datum.order] at h2
      · rw [hb] at h1; simp [Datum.order] at h1
    · simp [Datum.order] at h1
/-- The way of step t. -/
def way4 (st t : Nat) : Nat := st * (t % 4) % 4
def tRe (ps : List Nat) (st : Nat) : Nat → Nat
  | 0 => 0
  | t + 1 => if way4 st t = 0 then wd (vl (tRe ps st t) + vl (ps.getD t 0)) else if way4 st t = 2 then wd (vl (tRe ps st t) - vl (ps.getD t 0)) else tRe ps st t
def tIm (ps : List Nat) (st : Nat) : Nat → Nat
  | 0 => 0
  | t + 1 => if way4 st t = 1 then wd (vl (tIm ps st t) + vl (ps.getD t 0)) else if way4 st t = 3 then wd (vl (tIm ps st t) - vl (ps.getD t 0)) else tIm ps st t
/-- What holds of a sum of t terms. -/
structure Sum (e t x : Nat) : Prop where
  fin : FinS x
  not : x ≠ ms64
  abs : (vl x).natAbs ≤ t * 2 ^ e
theorem Sum.zero (e : Nat) : Sum e 0 0 := ⟨⟨by decide, by decide⟩, by decide, by rw [show vl 0 = svs 52 false 0 from rfl, svs_abs, sv_zero]; exact Nat.zero_le _⟩
theorem Sum.more {e t x : Nat} (h : Sum e t x) : Sum e (t + 1) x := ⟨h.fin, h.not, by rw [Nat.add_mul]; have := h.abs; omega⟩
theorem Sum.next {e t : Nat} {v : Int} (ht : t + 1 < 2 ^ 53) (he : e ≤ 2000) (h : v.natAbs ≤ (t + 1) * 2 ^ e) : Sum e (t + 1) (wd v) := by
  have := wd_reach ht he h
  exact ⟨wd_fin this.1, wd_not v this.1, this.2⟩
theorem Sum.add {e t x s : Nat} (h : Sum e t x) (hs : (vl s).natAbs ≤ 2 ^ e) (ht : t + 1 < 2 ^ 53) (he : e ≤ 2000) : Sum e (t + 1) (wd (vl x + vl s)) :=
  .next ht he (by have := h.abs; rw [Nat.add_mul]; omega)
theorem Sum.sub {e t x s : Nat} (h : Sum e t x) (hs : (vl s).natAbs ≤ 2 ^ e) (ht : t + 1 < 2 ^ 53) (he : e ≤ 2000) : Sum e (t + 1) (wd (vl x - vl s)) :=
  .next ht he (by have := h.abs; rw [Nat.add_mul]; omega)
theorem tRe_sum {ps : List Nat} {e st : Nat} (he : e ≤ 2000) (h : ∀ k, (vl (ps.getD k 0)).natAbs ≤ 2 ^ e) (t : Nat) (ht : t < 2 ^ 53) : Sum e t (tRe ps st t) := by
  induction t with
  | zero => exact Sum.zero e
  | succ t ih =>
    have := ih (by omega)
    unfold tRe
    split
    · exact this.add (h t) ht he
    · split
      · exact this.sub (h t) ht he
      · exact this.more
theorem tIm_sum {ps : List Nat} {e st : Nat} (he : e ≤ 2000) (h : ∀ k, (vl (ps.getD k 0)).natAbs ≤ 2 ^ e) (t : Nat) (ht : t < 2 ^ 53) : Sum e t (tIm ps st t) := by
  induction t with
  | zero => exact Sum.zero e
  | succ t ih =>
    have := ih (by omega)
    unfold tIm
    split
    · exact this.add (h t) ht he
    · split
      · exact this.sub (h t) ht he
      · exact this.more
end Go.Proofs.Ytknpcbekaodlkaa
