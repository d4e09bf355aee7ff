/- Sums, products and comparisons of finite floats of 64 bits as functions of their bits, and how far they grow. -/
import Derived.Test.YtknpcbekaodlkaaFlt
import Derived.Laws.FloatArith
namespace Go.Proofs.Ytknpcbekaodlkaa
open Ieee
set_option linter.unusedVariables false
def inf64 : Nat := 9218868437227405312
def one64 : Nat := 4607182418800017408
def ms64 : Nat := 9223372036854775808
theorem inf64_eq : double.infRung = inf64 := rfl
theorem fb64_eq : double.fractionBits = 52 := rfl
theorem sw64_eq : double.signWeight = ms64 := rfl
theorem lp64_eq : double.leastPlace = -1074 := rfl
def fadd (a b : Nat) : Nat := min (rg 52 (sv 52 a + sv 52 (b % ms64)) 0) inf64
def fmul (a b : Nat) : Nat := min (rg 52 (sv 52 a * sv 52 b) 1074) inf64
/-- The product with a chance, which may be the negative zero. -/
def fmulp (a p : Nat) : Nat := if p = ms64 then ms64 else fmul a p
def f1m (p : Nat) : Nat := min (rg 52 (sv 52 one64 - sv 52 (p % ms64)) 0) inf64
/-- A chance: from zero to one; the negative zero is one. -/
def Good (p : Nat) : Prop := p ≤ one64 ∨ p = ms64
theorem Good.fin {p : Nat} (h : Good p) : ∃ s, Fin double p s (p % ms64) ∧ (s = true → p = ms64) ∧ p % ms64 ≤ one64 := by
  rcases h with h | rfl
  · have : p < ms64 := Nat.lt_of_le_of_lt h (by decide)
    exact ⟨false, ⟨by rw [Nat.mod_eq_of_lt this]; rfl, by rw [Nat.mod_eq_of_lt this, inf64_eq]; exact Nat.lt_of_le_of_lt h (by decide)⟩, by simp, by rw [Nat.mod_eq_of_lt this]; exact h⟩
  · exact ⟨true, ⟨rfl, by decide⟩, fun _ => rfl, by decide⟩
theorem fin_pos {a : Nat} (h : a < inf64) : Fin double a false a := ⟨rfl, h⟩
theorem lt_ms {a : Nat} (h : a < inf64) : a % ms64 = a := Nat.mod_eq_of_lt (Nat.lt_trans h (by decide))
theorem word_pos (r : Nat) : double.word false r = r := rfl
theorem word_neg (r : Nat) : double.word true r = ms64 + r := rfl
/-- Two finite numbers whose sum is T units, not below nought. -/
theorem add_units {a b r q T : Nat} {s t : Bool} (ha : Fin double a s r) (hb : Fin double b t q) (hst : (s && t) = false) (h : svs 52 s r + svs 52 t q = (T : Int)) : double.add a b = some (min (rg 52 T 0) inf64) := by
  rw [add_fin ha hb]
  have e : svs double.fractionBits s r + svs double.fractionBits t q = (T : Int) := h
  rw [e, hst]
  have e2 : decide ((T : Int) < 0) = false := decide_eq_false (by omega)
  rw [e2, ite_self, word_pos, Int.natAbs_natCast]
  rfl
theorem sum_pos (a b : Nat) : svs 52 false a + svs 52 false b = ((sv 52 a + sv 52 b : Nat) : Int) := by unfold svs; simp
theorem sum_neg (a : Nat) : svs 52 false a + svs 52 true 0 = ((sv 52 a + sv 52 0 : Nat) : Int) := by unfold svs; rw [sv_zero]; simp
theorem ms_fin : Fin double ms64 true 0 := ⟨rfl, by decide⟩
theorem ms_mod : ms64 % ms64 = 0 := by decide
theorem double_add {a b : Nat} (ha : a < inf64) (hb : b < inf64 ∨ b = ms64) : double.add a b = some (fadd a b) := by
  unfold fadd
  rcases hb with hb | rfl
  · rw [lt_ms hb]
    exact add_units (fin_pos ha) (fin_pos hb) rfl (sum_pos a b)
  · rw [ms_mod]
    exact add_units (fin_pos ha) ms_fin rfl (sum_neg a)
theorem double_mul {a b : Nat} (ha : a < inf64) (hb : b < inf64) : double.mul a b = some (fmul a b) := by
  rw [mul_fin 1074 (by decide) (fin_pos ha) (fin_pos hb), fb64_eq, inf64_eq]; unfold fmul; rw [show (false ^^ false) = false from rfl, word_pos]
theorem rg_null (k : Nat) : rg 52 0 k = 0 := rg_zero 52 k
theorem double_mulm {a : Nat} (ha : a < inf64) : double.mul a ms64 = some ms64 := by
  rw [mul_fin 1074 (by decide) (fin_pos ha) ms_fin, fb64_eq, sv_zero, Nat.mul_zero, rg_null]; rfl
theorem double_mulp {a p : Nat} (ha : a < inf64) (hp : Good p) : double.mul a p = some (fmulp a p) := by
  unfold fmulp
  rcases hp with h | rfl
  · rw [if_neg (by intro e; subst e; exact absurd h (by decide))]
    exact double_mul ha (Nat.lt_of_le_of_lt h (by decide))
  · rw [if_pos rfl]; exact double_mulm ha
theorem read_opposite {f : Format} {x r : Nat} {s : Bool} (h : Fin f x s r) : (f.read x).opposite = f.read (f.word (!s) r) := by
  obtain ⟨rfl, hr⟩ := h
  have h1 := word_parts f s r (Nat.lt_trans hr f.infRung_lt)
  have h2 := word_parts f (!s) r (Nat.lt_trans hr f.infRung_lt)
  unfold Format.read
  simp only [h1.1, h1.2, h2.1, h2.2]
  by_cases h3 : r < f.binade
  · rw [if_pos h3, if_pos h3]; rfl
  · rw [if_neg h3, if_neg h3, if_pos hr, if_pos hr]; rfl
theorem sub_fin {f : Format} {x y q : Nat} {t : Bool} (hy : Fin f y t q) : f.sub x y = f.add x (f.word (!t) q) := by
  unfold Format.sub Format.add
  rw [read_opposite hy]
theorem dif_pos64 (a b : Nat) (h : sv 52 b ≤ sv 52 a) : svs 52 false a + svs 52 true b = ((sv 52 a - sv 52 b : Nat) : Int) := by
  unfold svs; simp only [Bool.false_eq_true, if_false, if_true]; omega
theorem one_fin : Fin double one64 false one64 := fin_pos (by decide)
theorem double_1m {p : Nat} (hp : Good p) : double.sub one64 p = some (f1m p) := by
  unfold f1m
  rcases hp with h | rfl
  · have hp : p < inf64 := Nat.lt_of_le_of_lt h (by decide)
    rw [lt_ms hp, sub_fin (fin_pos hp)]
    exact add_units (t := true) one_fin ⟨rfl, hp⟩ rfl (dif_pos64 _ _ (sv_le 52 h))
  · rw [ms_mod, sub_fin ms_fin]
    refine add_units (t := false) (q := 0) one_fin ⟨rfl, by decide⟩ rfl ?_
    rw [sum_pos, sv_zero, Nat.sub_zero, Nat.add_zero]
theorem rg_of_sv (r : Nat) : rg 52 (sv 52 r) 0 = r := by have := rg_exact 52 r 0; rwa [Nat.pow_zero, Nat.mul_one] at this
theorem sv_next (fb m : Nat) (h : 2 ^ fb ≤ m) : sv fb (m + 2 ^ fb) = 2 * sv fb m := by
  unfold sv
  have hp := Nat.two_pow_pos fb
  rw [if_neg (by omega), if_neg (by omega), Nat.add_mod_right, Nat.add_div_right _ hp]
  have h1 : 1 ≤ m / 2 ^ fb := (Nat.le_div_iff_mul_le hp).2 (by omega)
  rw [show Nat.succ (m / 2 ^ fb) - 1 = m / 2 ^ fb - 1 + 1 by omega, Nat.pow_succ, Nat.mul_comm (2 ^ (m / 2 ^ fb - 1)) 2, Nat.mul_left_comm]
theorem sv_twice (m : Nat) (h : 2 ^ 52 ≤ m) : sv 52 (m + 2 ^ 52) = 2 * sv 52 m := sv_next 52 m h
theorem sv_bin (fb e : Nat) : sv fb ((e + 1) * 2 ^ fb) = 2 ^ (fb + e) := by
  unfold sv
  have hp := Nat.two_pow_pos fb
  rw [if_neg (by rw [Nat.add_mul]; omega), Nat.mul_mod_left, Nat.mul_div_cancel _ hp, Nat.add_zero, Nat.add_sub_cancel, Nat.pow_add]
theorem sv_one64 (k : Nat) (hk : k = 1074) : sv 52 one64 = 2 ^ k := by
  have h := sv_bin 52 1022
  have e : (1022 + 1) * 2 ^ 52 = one64 := by decide
  have e2 : 52 + 1022 = k := by omega
  rw [e, e2] at h
  exact h
theorem fadd_le {a b m : Nat} (h : 2 ^ 52 ≤ m) (ha : a ≤ m) (hb : b % ms64 ≤ m) : fadd a b ≤ m + 2 ^ 52 := by
  unfold fadd
  refine Nat.le_trans (Nat.min_le_left ..) ?_
  have h1 := sv_le 52 ha
  have h2 := sv_le 52 hb
  have h3 := rg_mono 52 0 (show sv 52 a + sv 52 (b % ms64) ≤ sv 52 (m + 2 ^ 52) by rw [sv_twice m h]; omega)
  rwa [rg_of_sv] at h3
theorem rg_le_one (a b k : Nat) (hk : k = 1074) (hb : b ≤ one64) : rg 52 (sv 52 a * sv 52 b) k ≤ a := by
  have h2 := sv_le 52 hb
  rw [sv_one64 k hk] at h2
  have h3 := rg_mono 52 k (Nat.mul_le_mul_left (sv 52 a) h2)
  rwa [rg_exact] at h3
theorem rg_eq_one (a k : Nat) (hk : k = 1074) : rg 52 (sv 52 a * sv 52 one64) k = a := by
  rw [sv_one64 k hk, rg_exact]
theorem fmul_le {a b : Nat} (hb : b ≤ one64) : fmul a b ≤ a := Nat.le_trans (Nat.min_le_left ..) (rg_le_one a b _ rfl hb)
theorem fmul_one {a : Nat} (h : a ≤ inf64) : fmul a one64 = a := by
  unfold fmul; rw [rg_eq_one a _ rfl]; exact Nat.min_eq_left h
theorem fmul_zero (b : Nat) : fmul 0 b = 0 := by
  unfold fmul; rw [sv_zero, Nat.zero_mul, rg_null]; rfl
theorem fmulp_mod {a p : Nat} (hp : Good p) : fmulp a p % ms64 ≤ a := by
  unfold fmulp
  rcases hp with h | rfl
  · split
    · exact Nat.le_trans (by decide) (Nat.zero_le _)
    · exact Nat.le_trans (Nat.mod_le _ _) (fmul_le h)
  · rw [if_pos rfl]; exact Nat.le_trans (by decide) (Nat.zero_le _)
theorem fmulp_arg {a p : Nat} (ha : a < inf64) (hp : Good p) : fmulp a p < inf64 ∨ fmulp a p = ms64 := by
  unfold fmulp
  rcases hp with h | rfl
  · split
    · exact .inr rfl
    · exact .inl (Nat.lt_of_le_of_lt (fmul_le h) ha)
  · rw [if_pos rfl]; exact .inr rfl
theorem f1m_le (p : Nat) : f1m p ≤ one64 := by
  unfold f1m
  refine Nat.le_trans (Nat.min_le_left ..) ?_
  have h3 := rg_mono 52 0 (show sv 52 one64 - sv 52 (p % ms64) ≤ sv 52 one64 from Nat.sub_le _ _)
  rwa [rg_of_sv] at h3
theorem fadd_zero {a : Nat} (h : a ≤ inf64) : fadd a 0 = a := by
  unfold fadd; rw [Nat.zero_mod, sv_zero, Nat.add_zero, rg_of_sv]; exact Nat.min_eq_left h
theorem zero_fadd {b : Nat} (h : b % ms64 ≤ inf64) : fadd 0 b = b % ms64 := by
  unfold fadd; rw [sv_zero, Nat.zero_add, rg_of_sv]; exact Nat.min_eq_left h
/-- A number that is in order with finite ones is no NaN: its rung is at most that of infinity. -/
theorem order_good {p : Nat} (hp : p < 2 ^ 64) (h1 : (double.order p 0 == some .gt || double.order p 0 == some .eq) = true) (h2 : (double.order p one64 == some .lt || double.order p one64 == some .eq) = true) : Good p := by
  have hsplit : p = double.word (decide (ms64 ≤ p)) (p % ms64) := by
    unfold Format.word
    rw [sw64_eq]
    by_cases hm : ms64 ≤ p
    · rw [if_pos (decide_eq_true hm)]
      have : p % ms64 = p - ms64 := by rw [Nat.mod_eq_sub_mod hm, Nat.mod_eq_of_lt]; unfold ms64 at *; omega
      omega
    · rw [if_neg (by simp [hm]), Nat.mod_eq_of_lt (by omega)]
  rcases Nat.lt_or_ge (p % ms64) inf64 with hf | hf
  · have hF : Fin double p (decide (ms64 ≤ p)) (p % ms64) := ⟨hsplit, hf⟩
    rw [order_fin hF (fin_pos (by decide))] at h1
    rw [order_fin hF (fin_pos (by decide))] at h2
    rw [fb64_eq] at h1 h2
    by_cases hm : ms64 ≤ p
    · right
      simp only [svs, decide_eq_true hm, if_true, sv_zero, Bool.false_eq_true, if_false] at h1
      have h0 : sv 52 (p % ms64) = 0 := by
        rcases Nat.eq_zero_or_pos (sv 52 (p % ms64)) with h | h
        · exact h
        · exfalso
          have hc : compare (-(sv 52 (p % ms64) : Int)) (((0 : Nat) : Int)) = .lt := by
            simp only [compare, compareOfLessAndEq]; rw [if_pos (by omega)]
          rw [hc] at h1; exact absurd h1 (by decide)
      have : p % ms64 = 0 := by
        rcases Nat.eq_zero_or_pos (p % ms64) with h | h
        · exact h
        · have := sv_pos 52 h; omega
      rw [Nat.mod_eq_sub_mod hm, Nat.mod_eq_of_lt (by unfold ms64 at *; omega)] at this
      omega
    · left
      have hpm : p % ms64 = p := Nat.mod_eq_of_lt (by omega)
      rw [hpm] at h2
      simp only [svs, decide_eq_false hm, Bool.false_eq_true, if_false] at h2
      rcases Nat.lt_or_ge one64 p with h | h
      · exfalso
        have := sv_mono 52 h
        have hc : compare ((sv 52 p : Int)) ((sv 52 one64 : Int)) = .gt := by
          simp only [compare, compareOfLessAndEq]; rw [if_neg (by omega), if_neg (by omega)]
        rw [hc] at h2; exact absurd h2 (by decide)
      · exact h
  · exfalso
    have hrd : double.read p = if p % ms64 = inf64 then .infinity (p / ms64 % 2 == 1) else .nan (p / ms64 % 2 == 1) (p % ms64 - inf64) := by
      unfold Format.read
      rw [sw64_eq, inf64_eq]
      simp only
      rw [if_neg (by show ¬ p % ms64 < 2 ^ 52; unfold inf64 at hf; omega), if_neg (by omega)]
    obtain ⟨m, k, r1, _⟩ := (fin_pos (a := one64) (by decide)).read
    obtain ⟨m0, k0, r0, _⟩ := (fin_pos (a := 0) (by decide)).read
    unfold Format.order at h1 h2
    rw [hrd] at h1 h2
    rw [r1] at h2
    rw [r0] at h1
    split at h1
    · cases hb : (p / ms64 % 2 == 1)
      · rw [hb] at h2; rename_i he; rw [if_pos he] at h2; simp [Datum.order] at h2
      · rw [hb] at h1; simp [Datum.order] at h1
    · simp [Datum.order] at h1
end Go.Proofs.Ytknpcbekaodlkaa
