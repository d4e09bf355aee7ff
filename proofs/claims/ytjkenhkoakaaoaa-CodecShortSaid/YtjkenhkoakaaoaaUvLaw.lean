/- Plain laws of the short form: what its groups say, that only the last one is below 128, that none begins another. -/
import Derived.Test.YtjkenhkoakaaoaaUv
namespace Go.Proofs.Ytjkenhkoakaaoaa
def val : List Nat → Nat
  | [] => 0
  | x :: l => x % 128 + 128 * val l
theorem val_uvf : ∀ (k m : Nat), m < 2 ^ (7 * k + 1) → val (uvf k m) = m
  | 0, m, h => by simp [uvf, val]; omega
  | k + 1, m, h => by
    have h' : m / 128 < 2 ^ (7 * k + 1) := by
      rw [show 7 * (k + 1) + 1 = (7 * k + 1) + 7 by omega, Nat.pow_add] at h; omega
    unfold uvf; split
    · simp [val]; omega
    · simp only [val]; rw [val_uvf k _ h']; omega
theorem val_uv (v : Nat) (h : v < 2 ^ 64) : val (uv v) = v := val_uvf 9 v h
theorem uvf_hi : ∀ (k m : Nat), m < 2 ^ (7 * k + 1) → ∀ j, j < (uvf k m).length → (128 ≤ (uvf k m).getD j 0 ↔ j + 1 < (uvf k m).length)
  | 0, m, h, j, hj => by simp [uvf] at hj ⊢; subst hj; simp; omega
  | k + 1, m, h, j, hj => by
    have h' : m / 128 < 2 ^ (7 * k + 1) := by
      rw [show 7 * (k + 1) + 1 = (7 * k + 1) + 7 by omega, Nat.pow_add] at h; omega
    have hl := uvf_len k (m / 128)
    unfold uvf at hj ⊢; split
    · rename_i hm; rw [if_pos hm] at hj; simp at hj; subst hj; simp; omega
    · rename_i hm; rw [if_neg hm] at hj
      cases j with
      | zero => simp; omega
      | succ j =>
        simp at hj
        have := uvf_hi k (m / 128) h' j hj
        simp only [List.getD_cons_succ, List.length_cons]
        rw [this]; omega
theorem uv_hi (v : Nat) (h : v < 2 ^ 64) (j : Nat) (hj : j < (uv v).length) : (128 ≤ (uv v).getD j 0 ↔ j + 1 < (uv v).length) := uvf_hi 9 v h j hj
theorem uvf_256 : ∀ (k m : Nat), m < 2 ^ (7 * k + 1) → ∀ x ∈ uvf k m, x < 256
  | 0, m, h, x, hx => by simp [uvf] at hx; omega
  | k + 1, m, h, x, hx => by
    have h' : m / 128 < 2 ^ (7 * k + 1) := by
      rw [show 7 * (k + 1) + 1 = (7 * k + 1) + 7 by omega, Nat.pow_add] at h; omega
    unfold uvf at hx; split at hx
    · simp at hx; omega
    · rcases List.mem_cons.1 hx with hx | hx
      · omega
      · exact uvf_256 k _ h' x hx
theorem uv_256 (v : Nat) (h : v < 2 ^ 64) : ∀ x ∈ uv v, x < 256 := uvf_256 9 v h
theorem val_take : ∀ (l : List Nat) (j : Nat), j < l.length → val (l.take (j + 1)) = val (l.take j) + l.getD j 0 % 128 * 128 ^ j
  | [], j, h => by simp at h
  | x :: l, 0, h => by simp [val]
  | x :: l, j + 1, h => by
    have := val_take l j (by simpa using h)
    simp only [List.take_succ_cons, val, List.getD_cons_succ]
    rw [this, Nat.pow_succ]
    rw [Nat.mul_add, ← Nat.add_assoc, Nat.mul_comm (128 ^ j) 128, ← Nat.mul_assoc, ← Nat.mul_assoc, Nat.mul_comm 128 (l.getD j 0 % 128)]
theorem val_take_le : ∀ (l : List Nat) (j : Nat), val (l.take j) ≤ val l
  | [], j => by simp
  | x :: l, 0 => by simp [val]
  | x :: l, j + 1 => by have := val_take_le l j; simp only [List.take_succ_cons, val]; omega
/-- No form begins another one. -/
theorem uv_prefix (v w : Nat) (hv : v < 2 ^ 64) (hw : w < 2 ^ 64) (h : (uv v).take (min (uv v).length (uv w).length) = (uv w).take (min (uv v).length (uv w).length)) : v = w := by
  have key : ∀ a b : Nat, a < 2 ^ 64 → b < 2 ^ 64 → (uv a).length ≤ (uv b).length → (uv a).take (uv a).length = (uv b).take (uv a).length → a = b := by
    intro a b ha hb hl he
    have la := uv_len a
    have h1 := uv_hi a ha ((uv a).length - 1) (by omega)
    have h2 := uv_hi b hb ((uv a).length - 1) (by omega)
    have e : (uv a).getD ((uv a).length - 1) 0 = (uv b).getD ((uv a).length - 1) 0 := by
      have hx : ((uv a).take (uv a).length)[(uv a).length - 1]? = ((uv b).take (uv a).length)[(uv a).length - 1]? := by rw [he]
      rw [List.getElem?_take, List.getElem?_take, if_pos (by omega), if_pos (by omega)] at hx
      rw [List.getD_eq_getElem?_getD, List.getD_eq_getElem?_getD, hx]
    rw [e] at h1
    have hlen : (uv a).length = (uv b).length := by
      by_cases hx : (uv a).length - 1 + 1 < (uv b).length
      · have := h1.1 (h2.2 hx); omega
      · omega
    rw [hlen, List.take_length, ← hlen, List.take_length] at he
    have := val_uv a ha
    rw [← this, ← val_uv b hb]
    rw [he]
  by_cases hl : (uv v).length ≤ (uv w).length
  · rw [Nat.min_eq_left hl] at h; exact key v w hv hw hl h
  · rw [Nat.min_eq_right (by omega)] at h; exact (key w v hw hv (by omega) h.symm).symm
/-- How many groups are still to come behind the first. -/
def rest (k m : Nat) : Nat := if m = 0 then 0 else (uvf k m).length
theorem rest_start (v : Nat) : 1 + rest 8 (v / 128) = (uv v).length := by
  unfold rest uv
  have e : uvf 9 v = if v < 128 then [v] else (v % 128 + 128) :: uvf 8 (v / 128) := rfl
  rw [e]
  by_cases h : v < 128
  · rw [if_pos (by omega), if_pos h]; rfl
  · rw [if_neg (by omega), if_neg h, List.length_cons]; omega
theorem rest_step (k m : Nat) (h : m < 2 ^ (7 * k + 1)) (h0 : 0 < m) : 1 + rest (k - 1) (m / 128) = rest k m := by
  cases k with
  | zero =>
    have : m = 1 := by simp at h; omega
    subst this; simp [rest, uvf]
  | succ k =>
    unfold rest
    rw [if_neg (by omega : ¬ m = 0)]
    have e : uvf (k + 1) m = if m < 128 then [m] else (m % 128 + 128) :: uvf k (m / 128) := rfl
    rw [e, Nat.add_sub_cancel]
    by_cases h : m < 128
    · rw [if_pos (by omega), if_pos h]; rfl
    · rw [if_neg (by omega), if_neg h, List.length_cons]; omega
theorem rest_bd (k m : Nat) (h : m < 2 ^ (7 * k + 1)) : m / 128 < 2 ^ (7 * (k - 1) + 1) := by
  cases k with
  | zero => simp at h ⊢; omega
  | succ k =>
    rw [show 7 * (k + 1) + 1 = (7 * k + 1) + 7 by omega, Nat.pow_add] at h
    simp only [Nat.add_sub_cancel]; omega
end Go.Proofs.Ytjkenhkoakaaoaa
