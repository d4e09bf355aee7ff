/- Floats of 32 bits among those of 64: widening is exact, narrowing rounds and is monotone. Plain. -/
import Derived.Test.YtknpcbekaodlkaaSDeci
namespace Go.Proofs.Ytknpcbekaodlkaa
open Ieee
set_option linter.unusedVariables false
def inf32 : Nat := 2139095040
def one32 : Nat := 1065353216
def ms32 : Nat := 2147483648
theorem inf32_eq : single.infRung = inf32 := rfl
theorem fb32_eq : single.fractionBits = 23 := rfl
theorem sw32_eq : single.signWeight = ms32 := rfl
theorem lp32_eq : single.leastPlace = -149 := rfl
theorem c925_ex : ∃ n : Nat, n = 925 := ⟨_, rfl⟩
noncomputable def c925 : Nat := Classical.choose c925_ex
theorem c925_eq : c925 = 925 := Classical.choose_spec c925_ex
/-- The rung, among floats of 64 bits, of a rung among those of 32. -/
noncomputable def up (r : Nat) : Nat := rg 52 (sv 23 r * 2 ^ c925) 0
/-- The rung, among floats of 32 bits, nearest to a rung of those of 64. -/
noncomputable def dn (x : Nat) : Nat := rg 23 (sv 52 x) c925
theorem sv23_form (r : Nat) : ∃ m e, m < 2 ^ 24 ∧ sv 23 r = m * 2 ^ e := by
  unfold sv
  split
  · exact ⟨r, 0, by omega, by rw [Nat.pow_zero, Nat.mul_one]⟩
  · exact ⟨_, _, by have := Nat.mod_lt r (show 0 < 2 ^ 23 by decide); omega, rfl⟩
theorem sv_up (r : Nat) : sv 52 (up r) = sv 23 r * 2 ^ c925 := by
  obtain ⟨m, e, hm, h⟩ := sv23_form r
  obtain ⟨q, hq⟩ := sv_has m (e + c925) (by omega)
  have : sv 23 r * 2 ^ c925 = sv 52 q := by rw [hq, h, Nat.mul_assoc, ← Nat.pow_add]
  unfold up
  rw [this, rg_of_sv]
theorem dn_up (r : Nat) : dn (up r) = r := by unfold dn; rw [sv_up, rg_exact]
theorem dn_mono {x y : Nat} (h : x ≤ y) : dn x ≤ dn y := rg_mono 23 c925 (sv_le 52 h)
theorem up_lt_iff (r q : Nat) : up r < up q ↔ r < q := by
  rw [← sv_lt_iff 52 (up r) (up q), sv_up, sv_up, ← sv_lt_iff 23 r q]
  exact ⟨fun h => Nat.lt_of_mul_lt_mul_right h, fun h => Nat.mul_lt_mul_of_pos_right h (Nat.two_pow_pos _)⟩
theorem up_le_iff (r q : Nat) : up r ≤ up q ↔ r ≤ q := by have := up_lt_iff q r; omega
theorem up_zero : up 0 = 0 := by unfold up; rw [sv_zero, Nat.zero_mul, rg_null]
theorem up_one : up one32 = one64 := by
  have h := sv_bin 23 126
  have e : (126 + 1) * 2 ^ 23 = one32 := by decide
  rw [e] at h
  have h2 := sv_one64 (23 + 126 + c925) (by rw [c925_eq])
  unfold up
  rw [h, ← Nat.pow_add, ← h2, rg_of_sv]
theorem up_le_one {r : Nat} (h : r ≤ one32) : up r ≤ one64 := by rw [← up_one]; exact (up_le_iff _ _).2 h
theorem up_inf {r : Nat} (h : r < inf32) : up r < inf64 := by
  have h1 := (up_lt_iff r inf32).2 h
  have a := sv_bin 23 254
  have e : (254 + 1) * 2 ^ 23 = inf32 := by decide
  rw [e] at a
  have b := sv_bin 52 2046
  have e2 : (2046 + 1) * 2 ^ 52 = inf64 := by decide
  rw [e2] at b
  obtain ⟨x, hx⟩ : ∃ x, 23 + 254 = x := ⟨_, rfl⟩
  obtain ⟨y, hy⟩ : ∃ y, 52 + 2046 = y := ⟨_, rfl⟩
  rw [hx] at a
  rw [hy] at b
  have h2 : up inf32 ≤ inf64 := by
    rcases Nat.lt_or_ge inf64 (up inf32) with h3 | h3
    · exfalso
      have h4 := sv_mono 52 h3
      rw [sv_up, a, b, ← Nat.pow_add] at h4
      have h5 := (Nat.pow_lt_pow_iff_right (by decide : 1 < 2)).1 h4
      rw [c925_eq] at h5
      omega
    · exact h3
  omega
theorem fin32 {r : Nat} (h : r < inf32) : Fin single r false r := ⟨rfl, h⟩
theorem read_finite {f : Format} {x r : Nat} {s : Bool} (h : Fin f x s r) : (f.read x).isInfinity = false := by
  obtain ⟨m, p, hr, _⟩ := h.read
  rw [hr]; rfl
theorem widen_bits {b r : Nat} {s : Bool} (h : Fin single b s r) : floatToFloatBits .f32 b .f64 = some (double.word s (up r)) := by
  obtain ⟨m, p, hr, hp, hm⟩ := h.read
  have hF : Fin double (double.word s (up r)) s (up r) := ⟨rfl, up_inf h.2⟩
  have hw : double.write (.number s m p) = double.word s (up r) := by
    show double.nearest s m p = _
    rw [lp32_eq] at hp hm
    rw [nearest_eq double s m 0 p (by rw [lp64_eq]; omega), fb64_eq, lp64_eq, inf64_eq]
    have e1 : (p - -1074 + ((0 : Nat) : Int)).toNat = (p - -149).toNat + c925 := by rw [c925_eq]; omega
    rw [e1, Nat.pow_add, ← Nat.mul_assoc, hm]
    rw [Nat.min_eq_left]
    · rfl
    · exact Nat.le_of_lt (up_inf h.2)
  have hd : FloatKind.f32.decode b = .number s m p := hr
  unfold floatToFloatBits
  rw [if_neg (by decide), hd]
  simp only
  have hw2 : FloatKind.f64.encode (.number s m p) = double.word s (up r) := hw
  rw [hw2]
  have : (FloatKind.f64.decode (double.word s (up r))).isInfinity = false := read_finite hF
  rw [this]; rfl
theorem narrow_bits {x r : Nat} {s : Bool} (h : Fin double x s r) (hd : dn r < inf32) : floatToFloatBits .f64 x .f32 = some (single.word s (dn r)) := by
  obtain ⟨m, p, hr, hp, hm⟩ := h.read
  have hF : Fin single (single.word s (dn r)) s (dn r) := ⟨rfl, hd⟩
  have hw : single.write (.number s m p) = single.word s (dn r) := by
    show single.nearest s m p = _
    rw [lp64_eq] at hp hm
    rw [nearest_eq single s m c925 p (by rw [lp32_eq, c925_eq]; omega), fb32_eq, lp32_eq, inf32_eq]
    have e1 : (p - -149 + ((c925 : Nat) : Int)).toNat = (p - -1074).toNat := by rw [c925_eq]; omega
    rw [e1]
    rw [fb64_eq] at hm
    rw [hm, Nat.min_eq_left]
    · rfl
    · exact Nat.le_of_lt hd
  have hdd : FloatKind.f64.decode x = .number s m p := hr
  unfold floatToFloatBits
  rw [if_neg (by decide), hdd]
  simp only
  have hw2 : FloatKind.f32.encode (.number s m p) = single.word s (dn r) := hw
  rw [hw2]
  have : (FloatKind.f32.decode (single.word s (dn r))).isInfinity = false := read_finite hF
  rw [this]; rfl
theorem cmp_sv32 (a b : Nat) : compare (svs 23 false a) (svs 23 false b) = if a < b then .lt else if a = b then .eq else .gt := by
  simp only [svs, Bool.false_eq_true, if_false]
  simp only [compare, compareOfLessAndEq]
  rcases Nat.lt_trichotomy a b with h1 | h1 | h1
  · have := sv_mono 23 h1
    rw [if_pos (by omega), if_pos h1]
  · rw [h1, if_neg (Int.lt_irrefl _), if_pos rfl, if_neg (Nat.lt_irrefl _), if_pos rfl]
  · have := sv_mono 23 h1
    rw [if_neg (by omega), if_neg (by omega), if_neg (by omega), if_neg (by omega)]
theorem order32 {a b : Nat} (ha : a < inf32) (hb : b < inf32) : single.order a b = some (if a < b then .lt else if a = b then .eq else .gt) := by
  have h := order_fin (fin32 ha) (fin32 hb)
  rw [fb32_eq, cmp_sv32] at h
  exact h
section
variable {P : Program} (w : World) (src dst : TypeId)
theorem run_widen {r : Nat} (hs : (P.underlying src).isSome = true) (hd : P.underlying dst = some (.float .f64)) (h : r < inf32) :
    (convert src dst (.float .f32 r)).run P w = .ok (.float .f64 (up r)) w :=
  run_convert_float_float w src dst .f32 .f64 r _ hs hd (widen_bits (fin32 h))
theorem run_narrow {x : Nat} (hs : (P.underlying src).isSome = true) (hd : P.underlying dst = some (.float .f32)) (h : x < inf64) (hn : dn x < inf32) :
    (convert src dst (.float .f64 x)).run P w = .ok (.float .f32 (dn x)) w :=
  run_convert_float_float w src dst .f64 .f32 x _ hs hd (narrow_bits (fin_pos h) hn)
theorem run_same {x : Nat} {k : FloatKind} (hs : (P.underlying src).isSome = true) (hd : P.underlying dst = some (.float k)) :
    (convert src dst (.float k x)).run P w = .ok (.float k x) w :=
  run_convert_float_float w src dst k k x x hs hd (by unfold floatToFloatBits; rw [if_pos rfl])
end
end Go.Proofs.Ytknpcbekaodlkaa
