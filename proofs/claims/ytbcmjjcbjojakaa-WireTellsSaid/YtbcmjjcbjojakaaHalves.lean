
/- Contracts of crc.step and crc.halves. -/
import Derived.Test.YtbcmjjcbjojakaaRows
import Derived.Test.YtbcmjjcbjojakaaCrc
import Derived.Test.YtbcmjjcbjojakaaByt

import Derived.Outline
import Derived.WalkSpells
import Derived.WalkLawsBesides
import Derived.Handy
namespace Go.Proofs.Ytbcmjjcbjojakaa
open Go.RowKit
set_option linter.unusedVariables false
theorem ret_int {k : IntKind} {a b : Int} (h : a = b) : Ending.returned (.int k a) = .returned (.int k b) := by rw [h]
theorem ret_bool {a b : Bool} (h : a = b) : Ending.returned (.bool a) = .returned (.bool b) := by rw [h]
theorem and1_u32 (R : Int) (h1 : 0 ≤ R) (h2 : R ≤ 4294967295) : bits .and .u32 R 1 = R % 2 := by
  rw [u32_and R 1 h1 (by omega) (by omega) (by omega), show (1 : Int).toNat = 1 from rfl, Nat.and_one_is_mod]; omega
theorem and15_u32 (R : Int) (h1 : 0 ≤ R) (h2 : R ≤ 4294967295) : bits .and .u32 R 15 = R % 16 := by
  rw [u32_and R 15 h1 (by omega) (by omega) (by omega), show (15 : Int).toNat = 15 from rfl, nat_mask4]; omega
theorem xor_u32 (a b : Nat) (ha : a < 4294967296) (hb : b < 4294967296) (A B : Int) (hA : A = a) (hB : B = b) : bits .xor .u32 A B = ((a ^^^ b : Nat) : Int) := by
  subst hA hB; exact u32_xor_nat a b ha hb
set_option maxHeartbeats 400000 in
theorem step_any (w : World) (R : Int) (h1 : 0 ≤ R) (h2 : R ≤ 4294967295) :
    Calls Try.prog 151 #[.int .u32 R] w fun e w' => e = .returned (.int .u32 ((Crc.T R.toNat : Nat) : Int)) ∧ w = w' := by
  have ha := and1_u32 R h1 h2
  by_cases h : R % 2 = 1
  · have e : (bits .and .u32 R 1 == 1) = true := by rw [ha, h]; rfl
    have HR : Hid (R % 2 = 1) := h
    clear ha h
    go_enter Try.func151, Try.ntmps151
    go_wp2
    go_ret
    refine ⟨ret_int ?_, rfl⟩
    have := HR.out
    unfold Crc.T
    rw [if_pos (by omega)]
    exact xor_u32 (R.toNat / 2) Crc.M (by omega) (by decide) _ _ (by omega) rfl
  · have e : (bits .and .u32 R 1 == 1) = false := by rw [ha, beq_eq_false_iff_ne]; exact h
    have HR : Hid (¬ R % 2 = 1) := h
    clear ha h
    go_enter Try.func151, Try.ntmps151
    go_wp2
    go_ret
    refine ⟨ret_int ?_, rfl⟩
    have := HR.out
    unfold Crc.T
    rw [if_neg (by omega)]
    omega
theorem step_nat (w : World) (r : Nat) (h : r < 4294967296) :
    Calls Try.prog 151 #[.int .u32 (r : Int)] w fun e w' => e = .returned (.int .u32 ((Crc.T r : Nat) : Int)) ∧ w = w' := by
  have := step_any w (r : Int) (by omega) (by omega)
  rw [Int.toNat_natCast] at this
  exact this
theorem cell_nat (n : Nat) : (.int .u32 (n : Int) : Value) = .int .u32 (n : Int) := rfl
/-- The table of crc.halves. -/
def tbl : Array Value := ((List.range 16).map fun i => Value.int .u32 ((Crc.itT 4 i : Nat) : Int)).toArray
set_option maxRecDepth 100000 in
set_option maxHeartbeats 2000000 in
theorem halves_any (w : World) :
    Calls Try.prog 133 #[] w fun e w' => e = .returned (.agg tbl) ∧ Below w.heap.size w w' := by
  go_enter Try.func133, Try.ntmps133
  go_wp2_with fail
  refine wp_loop_rounds 17 ?_
  iterate 17 (rw [rounds_succ]; go_wp2_with (go_at_call 151; first | ((with_reducible refine (step_nat _ _ (by decide)).mono ?_); rintro e w' ⟨rfl, rfl⟩) | (refine (step_any _ _ (by omega) (by omega)).mono ?_; rintro e w' ⟨rfl, rfl⟩)))
  refine bodyPost_ret (v := .agg tbl) ?_ rfl ⟨rfl, ?_⟩
  · simp [results, Try.results133, go_sem]
    rfl
  · go_grown
end Go.Proofs.Ytbcmjjcbjojakaa
