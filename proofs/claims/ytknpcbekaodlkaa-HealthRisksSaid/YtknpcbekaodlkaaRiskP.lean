/- The chance: it falls with the number of parts that may fail; its ends. Plain. -/
import Derived.Test.YtknpcbekaodlkaaChanceP
namespace Go.Proofs.Ytknpcbekaodlkaa
open Ieee
set_option linter.unusedVariables false
theorem fadd_ge {a b : Nat} (ha : a ≤ inf64) : a ≤ fadd a b := by
  unfold fadd
  have h := rg_mono 52 0 (Nat.le_add_right (sv 52 a) (sv 52 (b % ms64)))
  rw [rg_of_sv] at h
  exact Nat.le_min.2 ⟨h, ha⟩
theorem sumP_mono {ps : List Nat} (hl : ps.length ≤ 255) (hp : ∀ p ∈ ps, Good p) (j : Nat) (hj : j ≤ 256) : sumP (distP ps) j ≤ sumP (distP ps) (j + 1) :=
  fadd_ge (Nat.le_of_lt (sumP_fin hl hp j hj))
theorem chanceP_ok {ps : List Nat} (hl : ps.length ≤ 255) (ha : ps.all okP = true) (m : Nat) : chanceP ps (m : Int) = (min (sumP (distP ps) (ps.length - m)) one64, 0) := by
  unfold chanceP
  rw [if_neg (by omega), if_neg (by rw [ha]; decide), if_neg (by omega)]
  congr 3
  omega
/-- What was answered one before: at first 1. -/
def wasP (ps : List Nat) : Nat → Nat
  | 0 => one64
  | k + 1 => min (sumP (distP ps) (ps.length - k)) one64
theorem wasP_next {ps : List Nat} (hl : ps.length ≤ 255) (hp : ∀ p ∈ ps, Good p) (k : Nat) : wasP ps (k + 1) ≤ wasP ps k := by
  cases k with
  | zero => exact Nat.min_le_right _ _
  | succ k =>
    show min _ _ ≤ min _ _
    refine Nat.le_min.2 ⟨Nat.le_trans (Nat.min_le_left _ _) ?_, Nat.min_le_right _ _⟩
    rcases Nat.lt_or_ge k ps.length with h | h
    · have := sumP_mono hl hp (ps.length - (k + 1)) (by omega)
      rwa [show ps.length - (k + 1) + 1 = ps.length - k by omega] at this
    · rw [show ps.length - (k + 1) = ps.length - k by omega]; exact Nat.le_refl _
theorem wasP_le (ps : List Nat) (k : Nat) : wasP ps k ≤ one64 := by
  cases k with
  | zero => exact Nat.le_refl _
  | succ k => exact Nat.min_le_right _ _
theorem wasP_end {ps : List Nat} {k : Nat} (h : ps.length ≤ k) : wasP ps (k + 1) = 0 := by
  show min (sumP (distP ps) (ps.length - k)) one64 = 0
  rw [show ps.length - k = 0 by omega]
  exact Nat.zero_min _
theorem f1m_zero : f1m 0 = one64 := by
  unfold f1m; rw [Nat.zero_mod, sv_zero, Nat.sub_zero, rg_of_sv]; decide
theorem f1m_one : f1m one64 = 0 := by
  unfold f1m; rw [lt_ms (show one64 < inf64 by decide), Nat.sub_self, rg_null]; decide
theorem fmul_zero' (a : Nat) : fmul a 0 = 0 := by unfold fmul; rw [sv_zero, Nat.mul_zero, rg_null]; decide
theorem fmulp_zero (a : Nat) : fmulp a 0 = 0 := by unfold fmulp; rw [if_neg (by decide), fmul_zero']
theorem fmulp_one {a : Nat} (h : a ≤ inf64) : fmulp a one64 = a := by unfold fmulp; rw [if_neg (by decide), fmul_one h]
theorem getD_append_zero (L : List Nat) (k : Nat) : (L ++ [0]).getD k 0 = L.getD k 0 := by
  rw [List.getD_eq_getElem?_getD, List.getD_eq_getElem?_getD]
  rcases Nat.lt_or_ge k L.length with h | h
  · rw [List.getElem?_append_left h]
  · rw [List.getElem?_append_right h, List.getElem?_eq_none (l := L) h]
    cases hk : k - L.length with
    | zero => rfl
    | succ j => rfl
theorem list_eq {A B : List Nat} (hl : A.length = B.length) (h : ∀ k, k < A.length → A.getD k 0 = B.getD k 0) : A = B := by
  apply List.ext_getElem hl
  intro i h1 h2
  have := h i h1
  rwa [List.getD_eq_getElem?_getD, List.getElem?_eq_getElem h1, List.getD_eq_getElem?_getD, List.getElem?_eq_getElem h2] at this
theorem rowP_zero {L : List Nat} (hL : ∀ k, L.getD k 0 ≤ inf64) : rowP L 0 = L ++ [0] := by
  refine list_eq (by rw [rowP_len, List.length_append]; rfl) fun k hk => ?_
  rw [rowP_len] at hk
  rw [rowP_get L 0 k hk, getD_append_zero]
  unfold cellP
  rw [f1m_zero, fmul_one (hL k), fmulp_zero, ite_self, fadd_zero (hL k)]
theorem rowP_one {L : List Nat} (hL : ∀ k, L.getD k 0 < inf64) : rowP L one64 = 0 :: L := by
  refine list_eq (by rw [rowP_len, List.length_cons]) fun k hk => ?_
  rw [rowP_len] at hk
  rw [rowP_get L one64 k hk]
  unfold cellP
  rw [f1m_one, fmul_zero']
  cases k with
  | zero => rw [if_pos rfl, fadd_zero (Nat.zero_le _)]; rfl
  | succ k =>
    rw [if_neg (by omega), fmulp_one (Nat.le_of_lt (hL _)), Nat.add_sub_cancel, zero_fadd (by rw [lt_ms (hL k)]; exact Nat.le_of_lt (hL k)), lt_ms (hL k)]
    rfl
theorem replicate_succ' (n a : Nat) : List.replicate (n + 1) a = List.replicate n a ++ [a] := by
  rw [← List.replicate_append_replicate]; rfl
theorem distP_snoc (ps : List Nat) (p : Nat) : distP (ps ++ [p]) = rowP (distP ps) p := by unfold distP; rw [List.foldl_append]; rfl
theorem getD_rep0 (n k : Nat) : (List.replicate n 0).getD k 0 = 0 := by
  rw [List.getD_eq_getElem?_getD, List.getElem?_replicate]; split <;> rfl
theorem distP_zeros (n : Nat) : distP (List.replicate n 0) = one64 :: List.replicate n 0 := by
  induction n with
  | zero => rfl
  | succ n ih =>
    rw [replicate_succ', distP_snoc, ih, rowP_zero]
    · rfl
    · intro k
      cases k with
      | zero => show one64 ≤ inf64; decide
      | succ k => show (List.replicate n 0).getD k 0 ≤ inf64; rw [getD_rep0]; exact Nat.zero_le _
theorem distP_ones (n : Nat) : distP (List.replicate n one64) = List.replicate n 0 ++ [one64] := by
  induction n with
  | zero => rfl
  | succ n ih =>
    rw [replicate_succ', distP_snoc, ih, rowP_one]
    · rfl
    · intro k
      rw [List.getD_eq_getElem?_getD]
      rcases Nat.lt_or_ge k n with h | h
      · rw [List.getElem?_append_left (by simpa using h), List.getElem?_replicate, if_pos h]; decide
      · rw [List.getElem?_append_right (by simpa using h), List.length_replicate]
        cases k - n with
        | zero => show one64 < inf64; decide
        | succ j => show (0 : Nat) < inf64; decide
theorem fadd_same {a : Nat} (h : a ≤ inf64) : fadd a 0 = a := fadd_zero h
theorem sumP_zeros (n j : Nat) (h : j ≤ n) : sumP (distP (List.replicate n 0)) j = 0 := by
  rw [distP_zeros]
  induction j with
  | zero => rfl
  | succ j ih =>
    show fadd _ _ = 0
    rw [ih (by omega), List.length_cons, List.length_replicate, show n + 1 - 1 - j = (n - j - 1) + 1 by omega]
    show fadd 0 ((List.replicate n 0).getD (n - j - 1) 0) = 0
    rw [getD_rep0]; exact fadd_zero (Nat.zero_le _)
theorem sumP_ones (n j : Nat) (h : j < n) : sumP (distP (List.replicate n one64)) (j + 1) = one64 := by
  rw [distP_ones]
  induction j with
  | zero =>
    show fadd 0 _ = one64
    rw [List.length_append, List.length_replicate, List.length_singleton, Nat.add_sub_cancel, Nat.sub_zero, List.getD_eq_getElem?_getD, List.getElem?_append_right (by simp), List.length_replicate, Nat.sub_self]
    show fadd 0 one64 = one64
    rw [zero_fadd (by rw [lt_ms (show one64 < inf64 by decide)]; decide)]
    decide
  | succ j ih =>
    show fadd (sumP (List.replicate n 0 ++ [one64]) (j + 1)) _ = one64
    rw [ih (by omega), List.length_append, List.length_replicate, List.length_singleton, Nat.add_sub_cancel, List.getD_eq_getElem?_getD, List.getElem?_append_left (by simp; omega), List.getElem?_replicate, if_pos (by omega)]
    exact fadd_zero (by decide)
theorem okP_zero : okP 0 = true := by kernel_rfl
theorem okP_one : okP one64 = true := by kernel_rfl
theorem all_rep {n a : Nat} (h : okP a = true) : (List.replicate n a).all okP = true := by
  rw [List.all_eq_true]; intro x hx; rw [List.eq_of_mem_replicate hx]; exact h
theorem chance_zeros (n m : Nat) (h : n ≤ 255) : chanceP (List.replicate n 0) (m : Int) = (0, 0) := by
  rw [chanceP_ok (by rw [List.length_replicate]; exact h) (all_rep okP_zero), List.length_replicate, sumP_zeros n _ (Nat.sub_le _ _)]; rfl
theorem chance_ones (n m : Nat) (h : n ≤ 255) : chanceP (List.replicate n one64) (m : Int) = (if m < n then one64 else 0, 0) := by
  rw [chanceP_ok (by rw [List.length_replicate]; exact h) (all_rep okP_one), List.length_replicate]
  by_cases hm : m < n
  · rw [if_pos hm, show n - m = (n - m - 1) + 1 by omega, sumP_ones n _ (by omega), Nat.min_self]
  · rw [if_neg hm, show n - m = 0 by omega]; rfl
/-- One part alone. -/
theorem sumP_z (L : List Nat) : sumP L 0 = 0 := rfl
theorem sumP_succ (L : List Nat) (j : Nat) : sumP L (j + 1) = fadd (sumP L j) (L.getD (L.length - 1 - j) 0) := rfl
theorem distP_one (p : Nat) : distP [p] = rowP [one64] p := rfl
theorem cellP_one (p : Nat) : cellP [one64] p 1 = fadd 0 (fmulp one64 p) := by
  unfold cellP
  rw [if_neg (by decide), show [one64].getD 1 0 = 0 from rfl, show [one64].getD (1 - 1) 0 = one64 from rfl, fmul_zero]
theorem sum_one {p : Nat} (hg : Good p) : min (sumP (distP [p]) (0 + 1)) one64 = p % ms64 := by
  have e3 : [one64].length + 1 - 1 - 0 = 1 := rfl
  rw [sumP_succ, sumP_z, distP_one, rowP_len, e3, rowP_get _ _ 1 (by simp), cellP_one]
  obtain ⟨s, hF, hs, hle⟩ := hg.fin
  have hi : one64 < inf64 := by decide
  have hm : fmulp one64 p % ms64 = p % ms64 := by
    unfold fmulp
    by_cases e : p = ms64
    · rw [if_pos e, e]
    · rw [if_neg e]
      have hp : p ≤ one64 := by rcases hg with h | h; exact h; exact absurd h e
      have hc : fmul one64 p = p := by unfold fmul; rw [Nat.mul_comm, rg_eq_one p _ rfl]; exact Nat.min_eq_left (by omega)
      rw [hc]
  rw [zero_fadd (b := fmulp one64 p) (by rw [hm]; omega), hm, zero_fadd (by rw [Nat.mod_mod]; omega), Nat.mod_mod]
  exact Nat.min_eq_left hle
theorem chance_one {p : Nat} (h : okP p = true) (hg : Good p) : chanceP [p] 0 = (p % ms64, 0) := by
  have := chanceP_ok (ps := [p]) (by simp) (by simp [h]) 0
  rw [show ((0 : Nat) : Int) = 0 from rfl] at this
  rw [this]
  have e0 : [p].length - 0 = 0 + 1 := rfl
  rw [e0, sum_one hg]
end Go.Proofs.Ytknpcbekaodlkaa
