/- The sums are linear: plain. -/
import Derived.Test.YtofblciodgibdaaCrc
namespace Go.Proofs.Ytofblciodgibdaa
namespace Crc
/-- Two texts put together. -/
def xl (a b : List Nat) : List Nat := List.zipWith (· ^^^ ·) a b
theorem xl_len (a b : List Nat) : (xl a b).length = min a.length b.length := List.length_zipWith
theorem xl_get (a b : List Nat) (k : Nat) (ha : k < a.length) (hb : k < b.length) : (xl a b)[k]? = some (a.getD k 0 ^^^ b.getD k 0) := by
  unfold xl
  rw [List.getElem?_zipWith, List.getElem?_eq_getElem ha, List.getElem?_eq_getElem hb, List.getD_eq_getElem?_getD, List.getD_eq_getElem?_getD, List.getElem?_eq_getElem ha, List.getElem?_eq_getElem hb]; rfl
theorem xl_take (a b : List Nat) (k : Nat) (ha : k < a.length) (hb : k < b.length) : (xl a b).take (k + 1) = (xl a b).take k ++ [a.getD k 0 ^^^ b.getD k 0] := by
  have hk : k < (xl a b).length := by rw [xl_len]; omega
  rw [List.take_succ_eq_append_getElem hk]
  have := xl_get a b k ha hb
  rw [List.getElem?_eq_getElem hk] at this
  injection this with this
  rw [this]
theorem xl_lt (a b : List Nat) (ha : ∀ x ∈ a, x < 256) (hb : ∀ x ∈ b, x < 256) : ∀ x ∈ xl a b, x < 256 := by
  intro x hx
  obtain ⟨k, hk, rfl⟩ := List.getElem_of_mem hx
  have hk' := hk
  rw [xl_len] at hk'
  have := xl_get a b k (by omega) (by omega)
  rw [List.getElem?_eq_getElem hk] at this
  injection this with this
  rw [this]
  refine Nat.xor_lt_two_pow (n := 8) ?_ ?_
  · rw [List.getD_eq_getElem?_getD, List.getElem?_eq_getElem (by omega)]; exact ha _ (List.getElem_mem _)
  · rw [List.getD_eq_getElem?_getD, List.getElem?_eq_getElem (by omega)]; exact hb _ (List.getElem_mem _)
theorem ov_xor : ∀ (a b : List Nat) (r s : Nat), a.length = b.length → ov (r ^^^ s) (xl a b) = ov r a ^^^ ov s b
  | [], [], r, s, _ => rfl
  | [], _ :: _, _, _, h => by simp at h
  | _ :: _, [], _, _, h => by simp at h
  | x :: a, y :: b, r, s, h => by
    have e : xl (x :: a) (y :: b) = (x ^^^ y) :: xl a b := rfl
    rw [e, ov_cons, ov_cons, ov_cons, ← ov_xor a b _ _ (by simpa using h), ← itT_xor]
    congr 2
    rw [Nat.xor_assoc, Nat.xor_assoc, ← Nat.xor_assoc s x y, Nat.xor_comm s x, Nat.xor_assoc]
theorem not_xor (x : Nat) (h : x < 2 ^ 32) : 4294967295 - x = x ^^^ 4294967295 := by
  apply Nat.eq_of_testBit_eq; intro i
  rw [show 4294967295 - x = 2 ^ 32 - (x + 1) by omega, Nat.testBit_two_pow_sub_succ (n := 32) (x := x) (by omega) i, Nat.testBit_xor, show 4294967295 = 2 ^ 32 - 1 from rfl, Nat.testBit_two_pow_sub_one]
  by_cases hi : i < 32
  · simp [hi]
  · have : x.testBit i = false := Nat.testBit_lt_two_pow (Nat.lt_of_lt_of_le h (Nat.pow_le_pow_right (by omega) (by omega)))
    simp [hi, this]
theorem more0 (l : List Nat) (hl : ∀ x ∈ l, x < 256) : more 0 l = ov 4294967295 l ^^^ 4294967295 := by
  unfold more
  rw [Nat.sub_zero, not_xor _ (ov_lt l _ (by omega) hl)]
/-- Of two texts of one length: what they make together is blind just if their sums are one. -/
theorem blind_xl (a b : List Nat) (h : a.length = b.length) (ha : ∀ x ∈ a, x < 256) (hb : ∀ x ∈ b, x < 256) : ov 0 (xl a b) = more 0 a ^^^ more 0 b := by
  rw [more0 a ha, more0 b hb]
  have : ov 0 (xl a b) = ov (4294967295 ^^^ 4294967295) (xl a b) := by rw [Nat.xor_self]
  rw [this, ov_xor a b _ _ h, Nat.xor_comm (ov 4294967295 b) 4294967295, Nat.xor_assoc, ← Nat.xor_assoc 4294967295 4294967295, Nat.xor_self, Nat.zero_xor]
theorem xor_eq_zero (a b : Nat) : a ^^^ b = 0 ↔ a = b := by
  constructor
  · intro h
    have : a = a ^^^ b ^^^ b := by rw [Nat.xor_assoc, Nat.xor_self, Nat.xor_zero]
    rw [this, h, Nat.zero_xor]
  · intro h; rw [h, Nat.xor_self]
theorem blind_iff (a b : List Nat) (h : a.length = b.length) (ha : ∀ x ∈ a, x < 256) (hb : ∀ x ∈ b, x < 256) : ov 0 (xl a b) = 0 ↔ more 0 a = more 0 b := by
  rw [blind_xl a b h ha hb, xor_eq_zero]
theorem more_xl3 (a b c : List Nat) (h : a.length = b.length) (h2 : b.length = c.length) (ha : ∀ x ∈ a, x < 256) (hb : ∀ x ∈ b, x < 256) (hc : ∀ x ∈ c, x < 256) :
    more 0 (xl (xl a b) c) = more 0 a ^^^ more 0 b ^^^ more 0 c := by
  have hab := xl_lt a b ha hb
  have l1 : (xl a b).length = c.length := by rw [xl_len]; omega
  rw [more0 _ (xl_lt _ c hab hc), ← blind_xl a b h ha hb, more0 c hc]
  have e : ov 4294967295 (xl (xl a b) c) = ov (0 ^^^ 4294967295) (xl (xl a b) c) := by rw [Nat.zero_xor]
  rw [e, ov_xor _ c _ _ l1, Nat.xor_assoc]
end Crc
end Go.Proofs.Ytofblciodgibdaa
