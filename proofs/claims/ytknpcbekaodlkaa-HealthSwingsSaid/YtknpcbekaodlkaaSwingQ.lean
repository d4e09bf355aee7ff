/- Four alike; whole floats as numbers again; eighths. Plain. -/
import Derived.Test.YtknpcbekaodlkaaSwingP
namespace Go.Proofs.Ytknpcbekaodlkaa
open Ieee
set_option linter.unusedVariables false
set_option linter.unusedSimpArgs false
theorem wd_zero : wd 0 = 0 := by
  unfold wd
  have : rg 52 (0 : Int).natAbs 0 = 0 := rg_null 0
  rw [this, Nat.zero_min]; rfl
theorem vl_wd_vl {v : Nat} (h : FinS v) : vl (wd (vl v)) = vl v := vl_sign h _ (.inl rfl)
theorem vl_wd_neg {v : Nat} (h : FinS v) : vl (wd (-vl v)) = -vl v := by
  obtain ⟨h1, h2⟩ := neg_word h
  rw [← h2]; exact vl_wd_vl h1
theorem four_get (v : Nat) : [v, v, v, v].getD 0 0 = v ∧ [v, v, v, v].getD 1 0 = v ∧ [v, v, v, v].getD 2 0 = v ∧ [v, v, v, v].getD 3 0 = v := ⟨rfl, rfl, rfl, rfl⟩
theorem t0Re (ps : List Nat) (st : Nat) : tRe ps st 0 = 0 := rfl
theorem t0Im (ps : List Nat) (st : Nat) : tIm ps st 0 = 0 := rfl
theorem four_alike {v q : Nat} (h : FinS v) (ho : okT v = true) (hq : q = 1 ∨ q = 2 ∨ q = 3) : turnP [v, v, v, v] (q : Int) = (0, 0, 0) := by
  obtain ⟨g0, g1, g2, g3⟩ := four_get v
  have hl : [v, v, v, v].length = 0 + 1 + 1 + 1 + 1 := rfl
  have ha : [v, v, v, v].all okT = true := by simp [ho]
  have e1 := vl_wd_vl h
  have e2 := vl_wd_neg h
  have e3 := wd_zero
  have e4 := vl_zero
  unfold turnP
  rw [if_neg (by rw [hl]; decide), if_neg (by rw [ha]; decide), hl]
  rcases hq with rfl | rfl | rfl
  · rw [show (((1 : Nat) : Int) % 4).toNat = 1 from rfl]
    simp [tRe_next, tIm_next, t0Re, t0Im, show way4 1 0 = 0 from rfl, show way4 1 1 = 1 from rfl, show way4 1 2 = 2 from rfl, show way4 1 3 = 3 from rfl, e1, e2, e3, e4]
  · rw [show (((2 : Nat) : Int) % 4).toNat = 2 from rfl]
    simp [tRe_next, tIm_next, t0Re, t0Im, show way4 2 0 = 0 from rfl, show way4 2 1 = 2 from rfl, show way4 2 2 = 0 from rfl, show way4 2 3 = 2 from rfl, e1, e2, e3, e4]
  · rw [show (((3 : Nat) : Int) % 4).toNat = 3 from rfl]
    simp [tRe_next, tIm_next, t0Re, t0Im, show way4 3 0 = 0 from rfl, show way4 3 1 = 3 from rfl, show way4 3 2 = 2 from rfl, show way4 3 3 = 1 from rfl, e1, e2, e3, e4]
    rw [show -vl v + vl v = 0 by omega]
    exact e3
def eighth (i : Nat) : Bool := match double.div (floatOfInt .f64 ((i : Int) - 999)) 4620693217682128896 with
  | some v => okT v && decide (v % ms64 < inf64) && decide (v < 2 ^ 64)
  | none => false
theorem eighth_all : (List.range 1999).all eighth = true := by kernel_rfl
theorem div8 {z : Int} (h1 : -1000 < z) (h2 : z < 1000) : ∃ v, double.div (floatOfInt .f64 z) 4620693217682128896 = some v ∧ okT v = true ∧ FinS v ∧ v < 2 ^ 64 := by
  have h := List.all_eq_true.1 eighth_all (z + 999).toNat (List.mem_range.2 (by omega))
  unfold eighth at h
  rw [show (((z + 999).toNat : Nat) : Int) - 999 = z by omega] at h
  split at h
  · rename_i v hv
    rw [Bool.and_eq_true, Bool.and_eq_true, decide_eq_true_iff, decide_eq_true_iff] at h
    exact ⟨v, hv, h.1.1, ⟨by unfold ms64; have := h.2; omega, h.1.2⟩, h.2⟩
  · cases h
/-- A whole float, cut towards zero, is its number. -/
theorem cut_exact (neg : Bool) (n drop a : Nat) (h : n = a * 2 ^ drop) : Toward.zero.cut neg n drop = a := by
  unfold Toward.cut
  simp only [Nat.shiftLeft_eq, Nat.one_mul, Bool.toNat_false, Nat.add_zero]
  rcases Nat.eq_zero_or_pos a with h0 | h0
  · subst h0; rw [h, Nat.zero_mul, Nat.zero_div]
  · have hd : drop ≤ n.log2 + 2 := by
      have h1 := log2_mul_pow a drop (by omega)
      rw [← h] at h1
      omega
    rw [Nat.min_eq_left hd, h, Nat.mul_div_cancel _ (Nat.two_pow_pos _)]
theorem toInt_wz {z : Int} (h : z.natAbs < 2 ^ 53) : (FloatKind.f64.decode (wz z)).toInt .zero = some z := by
  obtain ⟨q, h1, h2⟩ := wz_has h
  have hu := uu_pos
  have hF : Fin double (wz z) (decide (z * (uu : Int) < 0)) q := by
    refine ⟨?_, h2⟩
    unfold wz wd
    rw [wz_abs, ← h1, rg_of_sv, Nat.min_eq_left (Nat.le_of_lt h2)]
  obtain ⟨m, p, hr, hp, hm⟩ := hF.read
  rw [lp64_eq, fb64_eq, h1] at hm
  rw [lp64_eq] at hp
  have hd : FloatKind.f64.decode (wz z) = .number (decide (z * (uu : Int) < 0)) m p := hr
  rw [hd]
  have hc := c1074_eq
  have hcut : Toward.zero.cut (decide (z * (uu : Int) < 0)) (m <<< p.toNat) (-p).toNat = z.natAbs := by
    refine cut_exact _ _ _ _ ?_
    rw [Nat.shiftLeft_eq]
    refine Nat.mul_right_cancel hu ?_
    have e : (p - -1074).toNat + (-p).toNat = c1074 + p.toNat := by omega
    calc m * 2 ^ p.toNat * uu = m * (2 ^ c1074 * 2 ^ p.toNat) := by unfold uu; rw [Nat.mul_assoc, Nat.mul_comm (2 ^ p.toNat)]
      _ = m * (2 ^ (p - -1074).toNat * 2 ^ (-p).toNat) := by rw [← Nat.pow_add, ← e, Nat.pow_add]
      _ = z.natAbs * 2 ^ (-p).toNat * uu := by rw [← Nat.mul_assoc, hm, Nat.mul_assoc, Nat.mul_assoc, Nat.mul_comm uu]
  unfold Datum.toInt Datum.integral
  simp only [hcut]
  unfold signed
  rw [Nat.shiftLeft_zero]
  by_cases hz : z * (uu : Int) < 0
  · rw [decide_eq_true hz, if_pos rfl]
    have : z < 0 := by
      rcases Int.lt_or_le z 0 with h3 | h3
      · exact h3
      · have := Int.mul_nonneg h3 (show (0 : Int) ≤ (uu : Int) by omega); omega
    congr 1; omega
  · rw [decide_eq_false hz, if_neg (by decide)]
    have : 0 ≤ z := by
      rcases Int.lt_or_le z 0 with h3 | h3
      · have := Int.mul_neg_of_neg_of_pos h3 (show (0 : Int) < (uu : Int) by omega); omega
      · exact h3
    congr 1; omega
theorem floatToInt_wz {z : Int} (h : z.natAbs < 2 ^ 53) : floatToIntVal .f64 (wz z) .i64 = some z := by
  unfold floatToIntVal
  rw [toInt_wz h]
  have e1 : IntKind.i64.min = -9223372036854775808 := rfl
  have e2 : IntKind.i64.max = 9223372036854775807 := rfl
  simp only [e1, e2]
  rw [if_pos (by omega)]
end Go.Proofs.Ytknpcbekaodlkaa
