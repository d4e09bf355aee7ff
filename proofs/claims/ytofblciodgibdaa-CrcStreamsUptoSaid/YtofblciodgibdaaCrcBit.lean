/- What one bit turned makes of the register: plain. -/
import Derived.Test.YtofblciodgibdaaCrcLin
import Derived.Test.YtofblciodgibdaaGoneLaw
namespace Go.Proofs.Ytofblciodgibdaa
namespace Crc
/-- A bit turned, counted in order. -/
def lay (l : List Nat) (p : Nat) : List Nat := l.set (p / 8) (l.getD (p / 8) 0 ^^^ 2 ^ (p % 8))
theorem lay_len (l : List Nat) (p : Nat) : (lay l p).length = l.length := by simp [lay]
theorem lay_lt (l : List Nat) (p : Nat) (h : ∀ x ∈ l, x < 256) (hp : p / 8 < l.length) : ∀ x ∈ lay l p, x < 256 := by
  intro x hx
  rcases List.mem_or_eq_of_mem_set hx with h1 | h1
  · exact h x h1
  · rw [h1]
    refine Nat.xor_lt_two_pow (n := 8) ?_ (Nat.pow_lt_pow_right (by omega) (by omega))
    rw [List.getD_eq_getElem?_getD, List.getElem?_eq_getElem hp]; exact h _ (List.getElem_mem _)
theorem itT_pow : ∀ (m i : Nat), i ≤ m → itT m (2 ^ i) = itT (m - i) 1
  | m, i, h => by
    have := itT_add i (m - i) (2 ^ i)
    rw [show i + (m - i) = m by omega] at this
    rw [this]
    have e := itT_shift i 1
    rw [Nat.mul_one] at e
    rw [e]
/-- The register is linear in the first and in the bytes. -/
theorem ov_turn : ∀ (l : List Nat) (r q : Nat), ov (r ^^^ q) l = ov r l ^^^ itT (8 * l.length) q
  | [], r, q => rfl
  | x :: l, r, q => by
    rw [ov_cons, ov_cons, Nat.xor_assoc, Nat.xor_comm q x, ← Nat.xor_assoc, itT_xor, ov_turn l, List.length_cons, ← itT_add]
    congr 2; omega
theorem ov_lay : ∀ (l : List Nat) (r p : Nat), p < 8 * l.length → ov r (lay l p) = ov r l ^^^ itT (8 * l.length - p) 1
  | [], r, p, h => by simp at h
  | x :: l, r, p, h => by
    by_cases hp : p < 8
    · have e : lay (x :: l) p = (x ^^^ 2 ^ p) :: l := by
        unfold lay
        rw [show p / 8 = 0 by omega, show p % 8 = p by omega]; rfl
      rw [e, ov_cons, ov_cons, ← Nat.xor_assoc, itT_xor, ov_turn, ← itT_add, List.length_cons, show 8 + 8 * l.length = 8 * (l.length + 1) by omega, itT_pow _ _ (by omega)]
    · have e : lay (x :: l) p = x :: lay l (p - 8) := by
        unfold lay
        rw [show p / 8 = (p - 8) / 8 + 1 by omega, show p % 8 = (p - 8) % 8 by omega]; rfl
      rw [e, ov_cons, ov_cons, ov_lay l _ (p - 8) (by simp at h; omega), List.length_cons]
      congr 2; omega
theorem M_big : 2 ^ 31 ≤ M := by decide
theorem T_inj (r : Nat) (h : r < 2 ^ 32) (h0 : T r = 0) : r = 0 := by
  unfold T at h0
  have hM := M_big
  split at h0
  · rw [xor_eq_zero] at h0; omega
  · omega
theorem itT_inj : ∀ (n r : Nat), r < 2 ^ 32 → itT n r = 0 → r = 0
  | 0, _, _, h => h
  | n + 1, r, h, h0 => T_inj r h (itT_inj n _ (T_lt r h) h0)
end Crc
end Go.Proofs.Ytofblciodgibdaa
