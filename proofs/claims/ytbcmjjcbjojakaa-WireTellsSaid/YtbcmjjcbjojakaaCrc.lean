/- CRC-32C, plain: the register's step T, what it makes of bytes, that it is linear, that four steps of half a byte are what the table holds. -/
import Derived.Below
namespace Go.Proofs.Ytbcmjjcbjojakaa
namespace Crc
def M : Nat := 2197175160
/-- One step of the register. -/
def T (r : Nat) : Nat := if r % 2 = 1 then r / 2 ^^^ M else r / 2
def itT : Nat → Nat → Nat
  | 0, r => r
  | n + 1, r => itT n (T r)
/-- The register gone over bytes. -/
def ov (r : Nat) (l : List Nat) : Nat := l.foldl (fun r x => itT 8 (r ^^^ x)) r
theorem xor_half (a b : Nat) : (a ^^^ b) / 2 = a / 2 ^^^ b / 2 := by
  apply Nat.eq_of_testBit_eq; intro i
  simp [Nat.testBit_div_two, Nat.testBit_xor]
theorem xor_odd (a b : Nat) : (a ^^^ b) % 2 = (a % 2 + b % 2) % 2 := by
  have h := Nat.testBit_xor (x := a) (y := b) (i := 0)
  rw [Nat.testBit_zero, Nat.testBit_zero, Nat.testBit_zero] at h
  rcases Nat.mod_two_eq_zero_or_one a with ha | ha <;> rcases Nat.mod_two_eq_zero_or_one b with hb | hb <;> rcases Nat.mod_two_eq_zero_or_one (a ^^^ b) with hc | hc <;> rw [ha, hb, hc] at h <;> rw [ha, hb, hc] <;> simp at h
theorem T_xor (a b : Nat) : T (a ^^^ b) = T a ^^^ T b := by
  unfold T
  rw [xor_half, xor_odd]
  by_cases ha : a % 2 = 1 <;> by_cases hb : b % 2 = 1
  · rw [if_neg (by omega), if_pos ha, if_pos hb]
    rw [Nat.xor_comm (b / 2) M, Nat.xor_assoc, ← Nat.xor_assoc M M, Nat.xor_self, Nat.zero_xor]
  · rw [if_pos (by omega), if_pos ha, if_neg hb]
    rw [Nat.xor_assoc, Nat.xor_comm (b / 2) M, ← Nat.xor_assoc]
  · rw [if_pos (by omega), if_neg ha, if_pos hb, Nat.xor_assoc]
  · rw [if_neg (by omega), if_neg ha, if_neg hb]
theorem T_zero : T 0 = 0 := rfl
theorem T_double (a : Nat) : T (2 * a) = a := by unfold T; rw [if_neg (by omega)]; omega
theorem itT_xor : ∀ (n a b : Nat), itT n (a ^^^ b) = itT n a ^^^ itT n b
  | 0, _, _ => rfl
  | n + 1, a, b => by simp only [itT]; rw [T_xor, itT_xor n]
theorem itT_zero : ∀ n, itT n 0 = 0
  | 0 => rfl
  | n + 1 => by simp only [itT]; rw [T_zero, itT_zero n]
theorem itT_shift : ∀ (n a : Nat), itT n (2 ^ n * a) = a
  | 0, a => by simp [itT]
  | n + 1, a => by
    simp only [itT]
    rw [show 2 ^ (n + 1) * a = 2 * (2 ^ n * a) by rw [Nat.pow_succ]; ac_rfl, T_double, itT_shift n]
theorem itT_add : ∀ (m n a : Nat), itT (m + n) a = itT n (itT m a)
  | 0, n, a => by simp [itT]
  | m + 1, n, a => by rw [show m + 1 + n = (m + n) + 1 by omega]; simp only [itT]; exact itT_add m n (T a)
theorem xor_split (n r : Nat) : r = 2 ^ n * (r / 2 ^ n) ^^^ r % 2 ^ n := by
  apply Nat.eq_of_testBit_eq; intro i
  rw [Nat.testBit_xor, Nat.testBit_two_pow_mul, Nat.testBit_mod_two_pow, Nat.testBit_div_two_pow]
  by_cases h : n ≤ i
  · have h2 : ¬ i < n := by omega
    simp [h, h2, Nat.sub_add_cancel h]
  · have h2 : i < n := by omega
    simp [h, h2]
theorem nib (r : Nat) : r / 16 ^^^ itT 4 (r % 16) = itT 4 r := by
  have h := xor_split 4 r
  have e : itT 4 r = itT 4 (2 ^ 4 * (r / 2 ^ 4) ^^^ r % 2 ^ 4) := by rw [← h]
  rw [e, itT_xor, itT_shift]
theorem two_nibs (r : Nat) : itT 4 (itT 4 r) = itT 8 r := (itT_add 4 4 r).symm
theorem M_lt : M < 2 ^ 32 := by decide
theorem T_lt (r : Nat) (h : r < 2 ^ 32) : T r < 2 ^ 32 := by
  unfold T; split
  · exact Nat.xor_lt_two_pow (by omega) M_lt
  · omega
theorem itT_lt : ∀ (n r : Nat), r < 2 ^ 32 → itT n r < 2 ^ 32
  | 0, _, h => h
  | n + 1, r, h => itT_lt n _ (T_lt r h)
theorem ov_lt : ∀ (l : List Nat) (r : Nat), r < 2 ^ 32 → (∀ x ∈ l, x < 256) → ov r l < 2 ^ 32
  | [], _, h, _ => h
  | x :: l, r, h, hl => by
    have hx : x < 256 := hl x (List.mem_cons_self ..)
    exact ov_lt l _ (itT_lt 8 _ (Nat.xor_lt_two_pow h (by omega))) (fun y hy => hl y (List.mem_cons_of_mem _ hy))
theorem ov_append (r : Nat) (a b : List Nat) : ov r (a ++ b) = ov (ov r a) b := List.foldl_append
theorem ov_cons (r x : Nat) (l : List Nat) : ov r (x :: l) = ov (itT 8 (r ^^^ x)) l := rfl
theorem ov_nil (r : Nat) : ov r [] = r := rfl
/-- The sum that goes on from another. -/
def more (s : Nat) (l : List Nat) : Nat := 4294967295 - ov (4294967295 - s) l
theorem more_int (r n : Nat) (l : List Nat) (h : n = 4294967295 - r) (hv : ov n l < 2 ^ 32) : (4294967295 : Int) - (ov n l : Nat) = ((more r l : Nat) : Int) := by
  subst h; unfold more; omega
theorem more_lt (r : Nat) (l : List Nat) : more r l < 2 ^ 32 := by unfold more; omega
end Crc
end Go.Proofs.Ytbcmjjcbjojakaa
