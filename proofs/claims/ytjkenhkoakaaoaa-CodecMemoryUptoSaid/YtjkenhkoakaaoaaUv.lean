/- The short form of a number, as a list of numbers below 256: plain, no program in sight. -/
import Derived.Test.YtjkenhkoakaaoaaByt
namespace Go.Proofs.Ytjkenhkoakaaoaa
/-- The groups of a number, at most k + 1 of them, the lowest first. -/
def uvf : Nat → Nat → List Nat
  | 0, v => [v]
  | k + 1, v => if v < 128 then [v] else (v % 128 + 128) :: uvf k (v / 128)
def uv (v : Nat) : List Nat := uvf 9 v
theorem uvf_len : ∀ k v, 1 ≤ (uvf k v).length ∧ (uvf k v).length ≤ k + 1
  | 0, v => by simp [uvf]
  | k + 1, v => by
    unfold uvf; split
    · simp
    · have := uvf_len k (v / 128); simp; omega
theorem uv_len (v : Nat) : 1 ≤ (uv v).length ∧ (uv v).length ≤ 10 := uvf_len 9 v
theorem or128 (x : Int) (h0 : 0 ≤ x) (h1 : x < 128) : bits .or .u8 x 128 = x + 128 := by
  obtain ⟨n, rfl⟩ := Int.eq_ofNat_of_zero_le h0
  have hn : n < 128 := by omega
  have h := u8_or_nat n 128 (by omega) (by omega)
  rw [show (128 : Int) = ((128 : Nat) : Int) from rfl, h, Nat.or_comm, nat_join 7 128 n (by omega) (by omega)]
  omega
theorem or128' (x : Int) (h0 : 0 ≤ x) (h1 : x < 256) (h : 128 ≤ x) : bits .or .u8 x 128 = x := by
  obtain ⟨n, rfl⟩ := Int.eq_ofNat_of_zero_le h0
  have hh := u8_or_nat n 128 (by omega) (by omega)
  rw [show (128 : Int) = ((128 : Nat) : Int) from rfl, hh]
  have : n = 128 + (n - 128) := by omega
  rw [this, ← nat_join 7 128 (n - 128) (by omega) (by omega), Nat.or_comm, ← Nat.or_assoc, Nat.or_self]
/-- What 'byte(v) | 128' is. -/
theorem or128_mod (v : Nat) : bits .or .u8 (IntKind.u8.wrap (v : Int)) 128 = ((v % 128 + 128 : Nat) : Int) := by
  rw [IntKind.wrap_u8]
  by_cases h : v % 256 < 128
  · rw [or128 _ (by omega) (by omega)]; omega
  · rw [or128' _ (by omega) (by omega) (by omega)]; omega
end Go.Proofs.Ytjkenhkoakaaoaa
