/- The told score as a plain function of rungs; it stays from 0 to 1, good never lowers it, bad never raises it. -/
import Derived.Test.YtknpcbekaodlkaaF32
import Derived.Test.YtknpcbekaodlkaaChanceP
namespace Go.Proofs.Ytknpcbekaodlkaa
open Ieee
set_option linter.unusedVariables false
noncomputable def sumT (K S : Nat) (good : Bool) : Nat := if good then fadd (fmul (up K) (up S)) (f1m (up K)) else fmul (up K) (up S)
noncomputable def tellT (K S : Nat) (good : Bool) : Nat := dn (sumT K S good)
theorem fmul_comm (a b : Nat) : fmul a b = fmul b a := by unfold fmul; rw [Nat.mul_comm]
theorem bad_low {K S : Nat} (hK : K ≤ one32) : tellT K S false ≤ S := by
  unfold tellT sumT
  rw [if_neg (by decide), fmul_comm]
  have := dn_mono (fmul_le (a := up S) (up_le_one hK))
  rwa [dn_up] at this
/-- The product of two floats of 32 bits is exact. -/
theorem fmul_exact {K S u : Nat} (hu : u = 1074) (hK : K ≤ one32) (hS : S ≤ one32) : sv 52 (fmul (up K) (up S)) * 2 ^ u = sv 52 (up K) * sv 52 (up S) := by
  obtain ⟨m, e, hm, h1⟩ := sv23_form K
  obtain ⟨m2, e2, hm2, h2⟩ := sv23_form S
  have hc := c925_eq
  obtain ⟨t, ht⟩ : ∃ t, e + c925 + (e2 + c925) = t + u := ⟨e + c925 + (e2 + c925) - u, by omega⟩
  have hmm : m * m2 < 2 ^ 53 := by
    have : m * m2 < 2 ^ 24 * 2 ^ 24 := Nat.mul_lt_mul'' hm hm2
    have h3 : (2 : Nat) ^ 24 * 2 ^ 24 ≤ 2 ^ 53 := by decide
    omega
  obtain ⟨q, hq⟩ := sv_has (m * m2) t hmm
  have e1 : sv 52 (up K) * sv 52 (up S) = sv 52 q * 2 ^ u := by
    rw [sv_up, sv_up, h1, h2, hq, Nat.mul_assoc m, ← Nat.pow_add, Nat.mul_assoc m2, ← Nat.pow_add, Nat.mul_assoc (m * m2), ← Nat.pow_add, ← ht, Nat.pow_add 2 (e + c925)]
    generalize 2 ^ (e + c925) = A
    generalize 2 ^ (e2 + c925) = B
    simp only [Nat.mul_assoc, Nat.mul_left_comm]
  have hf : fmul (up K) (up S) = q := by
    have hle : fmul (up K) (up S) ≤ up K := fmul_le (up_le_one hS)
    have hlt := Nat.lt_of_le_of_lt hle (Nat.lt_of_le_of_lt (up_le_one hK) (show one64 < inf64 by decide))
    have h3 : rg 52 (sv 52 (up K) * sv 52 (up S)) u = q := by rw [e1, rg_exact]
    unfold fmul at hlt ⊢
    rw [← hu, h3] at hlt ⊢
    omega
  rw [hf, e1]
theorem up_mod {K : Nat} (hK : K ≤ one32) : up K % ms64 = up K := lt_ms (Nat.lt_of_le_of_lt (up_le_one hK) (by decide))
theorem good_up {K : Nat} (hK : K ≤ one32) : Good (up K) := .inl (up_le_one hK)
/-- One less a float of 32 bits that is not tiny is exact. -/
theorem f1m_exact {K u : Nat} (hu : u = 1074) (hK : K ≤ one32) (hb : 2 ^ (u - 29) ≤ sv 52 (up K)) : sv 52 (f1m (up K)) = sv 52 one64 - sv 52 (up K) := by
  have hone := sv_one64 u hu
  obtain ⟨m, e, hm, h1⟩ := sv23_form K
  have hc := c925_eq
  have hA : sv 52 (up K) = m * 2 ^ (e + c925) := by rw [sv_up, h1, Nat.mul_assoc, ← Nat.pow_add]
  have hAle : sv 52 (up K) ≤ 2 ^ u := by rw [← hone]; exact sv_le 52 (up_le_one hK)
  have he : u - 53 ≤ e + c925 := by
    rcases Nat.lt_or_ge (e + c925) (u - 53) with h | h
    · exfalso
      have h3 : m * 2 ^ (e + c925) < 2 ^ 24 * 2 ^ (e + c925) := Nat.mul_lt_mul_of_pos_right hm (Nat.two_pow_pos _)
      rw [← Nat.pow_add] at h3
      have h4 : 2 ^ (24 + (e + c925)) ≤ 2 ^ (u - 29) := Nat.pow_le_pow_right (by decide) (by omega)
      omega
    · exact h
  obtain ⟨d, hd⟩ : ∃ d, e + c925 = (u - 53) + d := ⟨e + c925 - (u - 53), by omega⟩
  obtain ⟨v, hv⟩ : ∃ v, u = v + 53 := ⟨u - 53, by omega⟩
  have hvv : u - 53 = v := by omega
  rw [hvv] at hd
  have hM : 2 ^ u - sv 52 (up K) = (2 ^ 53 - m * 2 ^ d) * 2 ^ v := by
    rw [hA, hd, Nat.sub_mul, hv, Nat.pow_add 2 v 53, Nat.mul_comm (2 ^ v) (2 ^ 53), Nat.pow_add 2 v d, Nat.mul_assoc, Nat.mul_comm (2 ^ v) (2 ^ d)]
  have hpos : 0 < m * 2 ^ d := by
    rcases Nat.eq_zero_or_pos (m * 2 ^ d) with h | h
    · exfalso
      have : sv 52 (up K) = 0 := by rw [hA, hd, Nat.pow_add, Nat.mul_comm (2 ^ v), ← Nat.mul_assoc, h, Nat.zero_mul]
      have := Nat.two_pow_pos (u - 29)
      omega
    · exact h
  obtain ⟨q, hq⟩ := sv_has (2 ^ 53 - m * 2 ^ d) v (by have := Nat.two_pow_pos 53; omega)
  have hr : rg 52 (sv 52 one64 - sv 52 (up K)) 0 = q := by rw [hone, hM, ← hq, rg_of_sv]
  have hle := f1m_le (up K)
  have hf : f1m (up K) = q := by
    unfold f1m at hle ⊢
    rw [up_mod hK, hr] at hle ⊢
    have : one64 < inf64 := by decide
    omega
  rw [hf, hq, hone, hM]
/-- A number near one is one, among floats of 32 bits. -/
theorem near_above (k c M d : Nat) (hk : k = 1051) (hc : c = 925) (hM : M = 2 ^ 23 * 2 ^ k + d) (hd : 2 * d < 2 ^ k) : rg 23 M c = one32 := by
  have hlog : M.log2 = k + 23 := by
    have hp := Nat.two_pow_pos k
    have e1 : 2 ^ 23 * 2 ^ k = 2 ^ (k + 23) := by rw [← Nat.pow_add, Nat.add_comm]
    have e2 : (2 : Nat) ^ (k + 23 + 1) = 2 ^ (k + 23) + 2 ^ (k + 23) := by rw [Nat.pow_succ]; omega
    have hle : (2 : Nat) ^ k ≤ 2 ^ (k + 23) := Nat.pow_le_pow_right (by decide) (by omega)
    have hne : M ≠ 0 := by omega
    have a := (Nat.le_log2 hne (k := k + 23)).2 (by omega)
    have b := (Nat.log2_lt hne (k := k + 23 + 1)).2 (by omega)
    omega
  unfold rg
  rw [hlog, show k + 23 - (c + 23) = 126 by omega, show c + 126 = k by omega]
  have hr : rne M (2 ^ k) = 2 ^ 23 := by
    generalize 2 ^ k = g at *
    unfold rne
    have h1 : M / g = 2 ^ 23 := by rw [hM, Nat.mul_comm, Nat.mul_add_div (by omega), Nat.div_eq_of_lt (by omega), Nat.add_zero]
    have h2 : M % g = d := by rw [hM, Nat.mul_comm, Nat.mul_add_mod, Nat.mod_eq_of_lt (by omega)]
    rw [h1, h2, if_neg (by omega)]
  rw [hr]
  decide
theorem near_below (k c M d : Nat) (hk : k = 1050) (hc : c = 925) (hM : M + d = 2 ^ 24 * 2 ^ k) (h0 : 0 < d) (hd : 2 * d < 2 ^ k) : rg 23 M c = one32 := by
  have hlog : M.log2 = k + 23 := by
    have hp := Nat.two_pow_pos k
    have e1 : 2 ^ 24 * 2 ^ k = 2 ^ (k + 24) := by rw [← Nat.pow_add, Nat.add_comm]
    have e2 : (2 : Nat) ^ (k + 24) = 2 ^ (k + 23) + 2 ^ (k + 23) := by rw [show k + 24 = k + 23 + 1 by omega, Nat.pow_succ]; omega
    have hle : (2 : Nat) ^ k ≤ 2 ^ (k + 23) := Nat.pow_le_pow_right (by decide) (by omega)
    have hne : M ≠ 0 := by omega
    have a := (Nat.le_log2 hne (k := k + 23)).2 (by omega)
    have b := (Nat.log2_lt hne (k := k + 23 + 1)).2 (by rw [show k + 23 + 1 = k + 24 by omega]; omega)
    omega
  unfold rg
  rw [hlog, show k + 23 - (c + 23) = 125 by omega, show c + 125 = k by omega]
  have hr : rne M (2 ^ k) = 2 ^ 24 := by
    have hp := Nat.two_pow_pos k
    generalize 2 ^ k = g at *
    unfold rne
    have e : M = g * (2 ^ 24 - 1) + (g - d) := by
      have : g * (2 ^ 24 - 1) = 2 ^ 24 * g - g := by rw [Nat.mul_sub, Nat.mul_one, Nat.mul_comm]
      rw [this]; omega
    have h1 : M / g = 2 ^ 24 - 1 := by rw [e, Nat.mul_add_div hp, Nat.div_eq_of_lt (by omega), Nat.add_zero]
    have h2 : M % g = g - d := by rw [e, Nat.mul_add_mod, Nat.mod_eq_of_lt (by omega)]
    rw [h1, h2, if_pos (.inl (by omega))]
  rw [hr]
  decide
theorem fadd_args {a b : Nat} (hb : b < inf64) : fadd a b = min (rg 52 (sv 52 a + sv 52 b) 0) inf64 := by unfold fadd; rw [lt_ms hb]
theorem rg_le_sv {M q : Nat} (h : M ≤ sv 52 q) : rg 52 M 0 ≤ q := by have := rg_mono 52 0 h; rwa [rg_of_sv] at this
theorem le_rg_sv {M q : Nat} (h : sv 52 q ≤ M) : q ≤ rg 52 M 0 := by have := rg_mono 52 0 h; rwa [rg_of_sv] at this
theorem pw29 (u : Nat) (h : 29 ≤ u) : 2 ^ 29 * 2 ^ (u - 29) = 2 ^ u := by rw [← Nat.pow_add, Nat.add_sub_of_le h]
theorem lt_inf_of {p x : Nat} (hx : x ≤ 2098) (h : sv 52 p < 2 ^ x) : p < inf64 := by
  have h1 := sv_bin 52 2046
  have e1 : (2046 + 1) * 2 ^ 52 = inf64 := by decide
  rw [e1] at h1
  obtain ⟨y, hy⟩ : ∃ y, 52 + 2046 = y := ⟨_, rfl⟩
  rw [hy] at h1
  refine (sv_lt_iff 52 _ _).1 ?_
  rw [h1]
  exact Nat.lt_of_lt_of_le h (Nat.pow_le_pow_right (by decide) (by omega))
/-- Two rungs that are one to 32. -/
theorem near_q {u q : Nat} (hu : u = 1074) (hq : sv 52 q = 2 ^ u - 2 ^ (u - 29)) : dn q = one32 := by
  have hc := c925_eq
  have hp := Nat.two_pow_pos (u - 29)
  unfold dn
  rw [hq]
  obtain ⟨v, hv⟩ : ∃ v, v = 1050 := ⟨_, rfl⟩
  refine near_below v c925 _ (2 ^ (u - 29)) hv hc ?_ hp ?_
  · rw [← Nat.pow_add, show 24 + v = u by omega]
    exact Nat.sub_add_cancel (Nat.pow_le_pow_right (by decide) (by omega))
  · rw [Nat.mul_comm, ← Nat.pow_succ]; exact Nat.pow_lt_pow_right (by decide) (by omega)
theorem near_p {u p : Nat} (hu : u = 1074) (hp : sv 52 p = 2 ^ u + 2 ^ (u - 29)) : dn p = one32 := by
  have hc := c925_eq
  unfold dn
  rw [hp]
  obtain ⟨v, hv⟩ : ∃ v, v = 1051 := ⟨_, rfl⟩
  refine near_above v c925 _ (2 ^ (u - 29)) hv hc ?_ ?_
  · rw [← Nat.pow_add, show 23 + v = u by omega]
  · rw [Nat.mul_comm, ← Nat.pow_succ]; exact Nat.pow_lt_pow_right (by decide) (by omega)
theorem good_small {K S u : Nat} (hu : u = 1074) (hK : K ≤ one32) (hS : S ≤ one32) (hs : sv 52 (up K) < 2 ^ (u - 29)) :
    dn (min (rg 52 (sv 52 (fmul (up K) (up S)) + sv 52 (f1m (up K))) 0) inf64) = one32 := by
  have hone := sv_one64 u hu
  have hCA : sv 52 (fmul (up K) (up S)) ≤ sv 52 (up K) := sv_le 52 (fmul_le (up_le_one hS))
  have hone2 : f1m (up K) = min (rg 52 (2 ^ u - sv 52 (up K)) 0) inf64 := by unfold f1m; rw [up_mod hK, hone]
  have hD := f1m_le (up K)
  have hD2 := sv_le 52 hD
  rw [hone] at hD2
  obtain ⟨q, hq⟩ := sv_has (2 ^ 29 - 1) (u - 29) (by decide)
  obtain ⟨p, hp⟩ := sv_has (2 ^ 29 + 1) (u - 29) (by decide)
  have e0 := pw29 u (by omega)
  rw [Nat.sub_mul, e0, Nat.one_mul] at hq
  rw [Nat.add_mul, e0, Nat.one_mul] at hp
  have nq := near_q hu hq
  have np := near_p hu hp
  have hVp := Nat.two_pow_pos (u - 29)
  have hpi : p < inf64 := by
    refine lt_inf_of (x := u + 1) (by omega) ?_
    rw [hp, Nat.pow_succ, Nat.mul_two]
    exact Nat.add_lt_add_left (Nat.pow_lt_pow_right (by decide) (by omega)) _
  have hoi : one64 < inf64 := by decide
  clear hu
  generalize 2 ^ u = U at *
  generalize 2 ^ (u - 29) = V at *
  have hqi : q < inf64 := by
    have : sv 52 q < sv 52 one64 := by rw [hone, hq]; omega
    have := (sv_lt_iff 52 _ _).1 this
    omega
  have hf1 : q ≤ f1m (up K) := by
    have h1 : sv 52 q ≤ U - sv 52 (up K) := by rw [hq]; omega
    have := le_rg_sv h1
    rw [hone2]
    exact Nat.le_min.2 ⟨this, Nat.le_of_lt hqi⟩
  have hf2 := sv_le 52 hf1
  have h1 : q ≤ rg 52 (sv 52 (fmul (up K) (up S)) + sv 52 (f1m (up K))) 0 := le_rg_sv (by omega)
  have h2 : rg 52 (sv 52 (fmul (up K) (up S)) + sv 52 (f1m (up K))) 0 ≤ p := rg_le_sv (by omega)
  have a := dn_mono (show q ≤ min (rg 52 (sv 52 (fmul (up K) (up S)) + sv 52 (f1m (up K))) 0) inf64 from Nat.le_min.2 ⟨h1, Nat.le_of_lt hqi⟩)
  have b := dn_mono (show min (rg 52 (sv 52 (fmul (up K) (up S)) + sv 52 (f1m (up K))) 0) inf64 ≤ p from Nat.le_trans (Nat.min_le_left ..) h2)
  rw [nq] at a
  rw [np] at b
  exact Nat.le_antisymm b a
theorem good_sum {U A B C : Nat} (hU : 0 < U) (hA : A ≤ U) (hB : B ≤ U) (hC : C * U = A * B) : B ≤ C + (U - A) := by
  refine Nat.le_of_mul_le_mul_right (?_ : B * U ≤ (C + (U - A)) * U) hU
  obtain ⟨a, ha⟩ : ∃ a, U = A + a := ⟨U - A, by omega⟩
  have e1 : U - A = a := by omega
  rw [e1, Nat.add_mul, hC]
  have h2 : a * B ≤ a * U := Nat.mul_le_mul_left _ hB
  have h3 : B * U = A * B + a * B := by rw [ha, Nat.mul_add, Nat.mul_comm B A, Nat.mul_comm B a]
  omega
theorem good_big {K S u : Nat} (hu : u = 1074) (hK : K ≤ one32) (hS : S ≤ one32) (hb : 2 ^ (u - 29) ≤ sv 52 (up K)) :
    S ≤ dn (min (rg 52 (sv 52 (fmul (up K) (up S)) + sv 52 (f1m (up K))) 0) inf64) ∧ dn (min (rg 52 (sv 52 (fmul (up K) (up S)) + sv 52 (f1m (up K))) 0) inf64) ≤ one32 := by
  have hone := sv_one64 u hu
  have hA : sv 52 (up K) ≤ 2 ^ u := by rw [← hone]; exact sv_le 52 (up_le_one hK)
  have hB : sv 52 (up S) ≤ 2 ^ u := by rw [← hone]; exact sv_le 52 (up_le_one hS)
  have hC := fmul_exact hu hK hS
  have hCA : sv 52 (fmul (up K) (up S)) ≤ sv 52 (up K) := sv_le 52 (fmul_le (up_le_one hS))
  have hi : one64 < inf64 := by decide
  have hSi : up S ≤ one64 := up_le_one hS
  have hD := f1m_exact hu hK hb
  rw [hD, hone]
  have hk1 := good_sum (Nat.two_pow_pos u) hA hB hC
  have hk2 : sv 52 (fmul (up K) (up S)) + (2 ^ u - sv 52 (up K)) ≤ sv 52 one64 := by
    rw [hone]
    clear hu hD hC hone hb hk1
    generalize 2 ^ u = U at *
    omega
  have h1 := le_rg_sv hk1
  have h2 := rg_le_sv hk2
  have a := dn_mono (show up S ≤ min (rg 52 (sv 52 (fmul (up K) (up S)) + (2 ^ u - sv 52 (up K))) 0) inf64 from Nat.le_min.2 ⟨h1, by omega⟩)
  have b := dn_mono (show min (rg 52 (sv 52 (fmul (up K) (up S)) + (2 ^ u - sv 52 (up K))) 0) inf64 ≤ up one32 by rw [up_one]; exact Nat.le_trans (Nat.min_le_left ..) h2)
  rw [dn_up] at a b
  exact ⟨a, b⟩
theorem good_all {K S : Nat} (hK : K ≤ one32) (hS : S ≤ one32) : S ≤ tellT K S true ∧ tellT K S true ≤ one32 := by
  unfold tellT sumT
  rw [if_pos rfl, fadd_args (Nat.lt_of_le_of_lt (f1m_le _) (by decide))]
  obtain ⟨u, hu⟩ : ∃ u, u = 1074 := ⟨_, rfl⟩
  rcases Nat.lt_or_ge (sv 52 (up K)) (2 ^ (u - 29)) with hs | hb
  · rw [good_small hu hK hS hs]
    exact ⟨hS, Nat.le_refl _⟩
  · exact good_big hu hK hS hb
theorem tellT_one {K S : Nat} (hK : K ≤ one32) (hS : S ≤ one32) (g : Bool) : tellT K S g ≤ one32 := by
  cases g
  · exact Nat.le_trans (bad_low hK) hS
  · exact (good_all hK hS).2
theorem sumT_inf {K S : Nat} (hK : K ≤ one32) (hS : S ≤ one32) (g : Bool) : sumT K S g < inf64 := by
  unfold sumT
  have hm : fmul (up K) (up S) ≤ one64 := Nat.le_trans (fmul_le (up_le_one hS)) (up_le_one hK)
  split
  · refine Nat.lt_of_le_of_lt (fadd_le (m := one64) (by decide) hm ?_) (by decide)
    exact Nat.le_trans (Nat.mod_le _ _) (f1m_le _)
  · exact Nat.lt_of_le_of_lt hm (by decide)
end Go.Proofs.Ytknpcbekaodlkaa
