/- The chance that more than n of the parts fail, as a plain function on the numbers' bits, and that it stays finite. -/
import Derived.Test.YtknpcbekaodlkaaDeci
namespace Go.Proofs.Ytknpcbekaodlkaa
open Ieee
set_option linter.unusedVariables false
/-- The comparisons of a chance with 0 and 1. -/
def geP (p : Nat) : Bool := FloatKind.f64.format.order p 0 == some .gt || FloatKind.f64.format.order p 0 == some .eq
def leP (p : Nat) : Bool := FloatKind.f64.format.order p one64 == some .lt || FloatKind.f64.format.order p one64 == some .eq
def okP (p : Nat) : Bool := geP p && leP p
theorem okP_good {p : Nat} (hp : p < 2 ^ 64) (h : okP p = true) : Good p := by
  unfold okP at h
  rw [Bool.and_eq_true] at h
  exact order_good hp h.1 h.2
def cellP (L : List Nat) (p k : Nat) : Nat := fadd (fmul (L.getD k 0) (f1m p)) (if k = 0 then 0 else fmulp (L.getD (k - 1) 0) p)
def rowP (L : List Nat) (p : Nat) : List Nat := (List.range (L.length + 1)).map (cellP L p)
def distP (ps : List Nat) : List Nat := ps.foldl rowP [one64]
def sumP (L : List Nat) : Nat → Nat
  | 0 => 0
  | j + 1 => fadd (sumP L j) (L.getD (L.length - 1 - j) 0)
def chanceP (ps : List Nat) (n : Int) : Nat × Int :=
  if 255 < ps.length then (0, 3) else if ps.all okP = false then (0, 2) else if n < 0 then (0, 2)
  else (min (sumP (distP ps) ((ps.length : Int) - n).toNat) one64, 0)
theorem rowP_len (L : List Nat) (p : Nat) : (rowP L p).length = L.length + 1 := by unfold rowP; simp
theorem rowP_get (L : List Nat) (p k : Nat) (h : k < L.length + 1) : (rowP L p).getD k 0 = cellP L p k := by
  unfold rowP
  rw [List.getD_eq_getElem?_getD, List.getElem?_map, List.getElem?_range h, Option.map_some, Option.getD_some]
theorem foldl_len (ps L : List Nat) : (ps.foldl rowP L).length = L.length + ps.length := by
  induction ps generalizing L with
  | nil => rfl
  | cons a t ih => rw [List.foldl_cons, ih, rowP_len, List.length_cons]; omega
theorem distP_len (ps : List Nat) : (distP ps).length = ps.length + 1 := by unfold distP; rw [foldl_len]; simp; omega
theorem distP_next (ps : List Nat) (k : Nat) (h : k < ps.length) : distP (ps.take (k + 1)) = rowP (distP (ps.take k)) (ps.getD k 0) := by
  unfold distP
  rw [List.take_succ_eq_append_getElem h, List.foldl_append, List.getD_eq_getElem?_getD, List.getElem?_eq_getElem h, List.foldl_cons, List.foldl_nil, Option.getD_some]
theorem getD_le {L : List Nat} {m : Nat} (h : ∀ x ∈ L, x ≤ m) (k : Nat) : L.getD k 0 ≤ m := by
  rw [List.getD_eq_getElem?_getD]
  by_cases hk : k < L.length
  · rw [List.getElem?_eq_getElem hk]; exact h _ (List.getElem_mem _)
  · rw [List.getElem?_eq_none (by omega)]; exact Nat.zero_le _
theorem cellP_le {L : List Nat} {m p k : Nat} (hm : 2 ^ 52 ≤ m) (h : ∀ x ∈ L, x ≤ m) (hp : Good p) : cellP L p k ≤ m + 2 ^ 52 := by
  unfold cellP
  refine fadd_le hm (Nat.le_trans (fmul_le (f1m_le p)) (getD_le h k)) ?_
  split
  · exact Nat.le_trans (by decide) (Nat.zero_le _)
  · exact Nat.le_trans (fmulp_mod hp) (getD_le h _)
theorem rowP_le {L : List Nat} {m p : Nat} (hm : 2 ^ 52 ≤ m) (h : ∀ x ∈ L, x ≤ m) (hp : Good p) : ∀ x ∈ rowP L p, x ≤ m + 2 ^ 52 := by
  intro x hx
  obtain ⟨k, _, rfl⟩ := List.mem_map.1 hx
  exact cellP_le hm h hp
theorem foldl_le (ps L : List Nat) (m : Nat) (hm : 2 ^ 52 ≤ m) (h : ∀ x ∈ L, x ≤ m) (hp : ∀ p ∈ ps, Good p) : ∀ x ∈ ps.foldl rowP L, x ≤ m + ps.length * 2 ^ 52 := by
  induction ps generalizing L m with
  | nil => intro x hx; have := h x hx; simp at *; omega
  | cons a t ih =>
    intro x hx
    have := ih (rowP L a) (m + 2 ^ 52) (by omega) (rowP_le hm h (hp a List.mem_cons_self)) (fun p hp' => hp p (List.mem_cons_of_mem _ hp')) x hx
    rw [List.length_cons, Nat.add_mul]
    omega
theorem distP_le (ps : List Nat) (hp : ∀ p ∈ ps, Good p) : ∀ x ∈ distP ps, x ≤ one64 + ps.length * 2 ^ 52 :=
  foldl_le ps [one64] one64 (by decide) (by simp) hp
theorem sumP_le (L : List Nat) (m : Nat) (hm : 2 ^ 52 ≤ m) (h : ∀ x ∈ L, x ≤ m) (j : Nat) : sumP L j ≤ m + j * 2 ^ 52 := by
  induction j with
  | zero => exact Nat.zero_le _
  | succ j ih =>
    rw [Nat.add_mul]
    have := ih
    have g := getD_le h (L.length - 1 - j)
    refine Nat.le_trans (fadd_le (m := m + j * 2 ^ 52) (by omega) this ?_) (by omega)
    exact Nat.le_trans (Nat.mod_le _ _) (by omega)
/-- All that is met on the way is finite. -/
theorem distP_fin {ps : List Nat} (hl : ps.length ≤ 255) (hp : ∀ p ∈ ps, Good p) (k : Nat) : (distP ps).getD k 0 < inf64 := by
  have := getD_le (distP_le ps hp) k
  have h2 : ps.length * 2 ^ 52 ≤ 255 * 2 ^ 52 := Nat.mul_le_mul_right _ hl
  unfold inf64; unfold one64 at this; omega
theorem sumP_fin {ps : List Nat} (hl : ps.length ≤ 255) (hp : ∀ p ∈ ps, Good p) (j : Nat) (hj : j ≤ 256) : sumP (distP ps) j < inf64 := by
  have h2 : ps.length * 2 ^ 52 ≤ 255 * 2 ^ 52 := Nat.mul_le_mul_right _ hl
  have h3 : j * 2 ^ 52 ≤ 256 * 2 ^ 52 := Nat.mul_le_mul_right _ hj
  have := sumP_le (distP ps) (one64 + ps.length * 2 ^ 52) (by unfold one64; omega) (distP_le ps hp) j
  unfold inf64; unfold one64 at this; omega
theorem fmul_lt {a b : Nat} (ha : a < inf64) (hb : b ≤ one64) : fmul a b < inf64 := Nat.lt_of_le_of_lt (fmul_le hb) ha
section
variable {P : Program} (w : World) (t : TypeId)
theorem bits_add (x y : Nat) : floatBits .add .f64 x y = double.add x y := rfl
theorem bits_sub (x y : Nat) : floatBits .sub .f64 x y = double.sub x y := rfl
theorem bits_mul (x y : Nat) : floatBits .mul .f64 x y = double.mul x y := rfl
theorem run_fadd {a b : Nat} (ha : a < inf64) (hb : b < inf64 ∨ b = ms64) : (binOp .add t (.float .f64 a) (.float .f64 b)).run P w = .ok (.float .f64 (fadd a b)) w := run_float_arith w .add t .f64 a b _ (by rw [bits_add]; exact double_add ha hb)
theorem run_fmul {a b : Nat} (ha : a < inf64) (hb : b < inf64) : (binOp .mul t (.float .f64 a) (.float .f64 b)).run P w = .ok (.float .f64 (fmul a b)) w := run_float_arith w .mul t .f64 a b _ (by rw [bits_mul]; exact double_mul ha hb)
theorem run_fmulp {a p : Nat} (ha : a < inf64) (hp : Good p) : (binOp .mul t (.float .f64 a) (.float .f64 p)).run P w = .ok (.float .f64 (fmulp a p)) w := run_float_arith w .mul t .f64 a p _ (by rw [bits_mul]; exact double_mulp ha hp)
theorem run_f1m_at {o p : Nat} (ho : o = one64) (hp : Good p) : (binOp .sub t (.float .f64 o) (.float .f64 p)).run P w = .ok (.float .f64 (f1m p)) w := run_float_arith w .sub t .f64 o p _ (by rw [bits_sub, ho]; exact double_1m hp)
theorem run_f1m {p : Nat} (hp : Good p) : (binOp .sub t (.float .f64 4607182418800017408) (.float .f64 p)).run P w = .ok (.float .f64 (f1m p)) w := run_f1m_at w t rfl hp
end
/-- A number that is finite and not below nought, and 1. -/
theorem cmp_sv (a b : Nat) : compare (svs 52 false a) (svs 52 false b) = if a < b then .lt else if a = b then .eq else .gt := by
  simp only [svs, Bool.false_eq_true, if_false]
  simp only [compare, compareOfLessAndEq]
  rcases Nat.lt_trichotomy a b with h1 | h1 | h1
  · have := sv_mono 52 h1
    rw [if_pos (by omega), if_pos h1]
  · rw [h1, if_neg (Int.lt_irrefl _), if_pos rfl, if_neg (Nat.lt_irrefl _), if_pos rfl]
  · have := sv_mono 52 h1
    rw [if_neg (by omega), if_neg (by omega), if_neg (by omega), if_neg (by omega)]
theorem order_pos {a b : Nat} (ha : a < inf64) (hb : b < inf64) : double.order a b = some (if a < b then .lt else if a = b then .eq else .gt) := by
  have h := order_fin (fin_pos ha) (fin_pos hb)
  rw [fb64_eq, cmp_sv] at h
  exact h
theorem order_one_at {o a : Nat} (ho : o = one64) (ha : a < inf64) : double.order a o = some (if a < one64 then .lt else if a = one64 then .eq else .gt) := by
  rw [ho]
  exact order_pos ha (by decide)
theorem order_one {a : Nat} (ha : a < inf64) : FloatKind.f64.format.order a 4607182418800017408 = some (if a < one64 then .lt else if a = one64 then .eq else .gt) := order_one_at rfl ha
end Go.Proofs.Ytknpcbekaodlkaa
