/- Polynomials over two elements as numbers: the reference's times and turned, and that they say what the steps do: plain. -/
import Derived.Test.YtofblciodgibdaaCrcOrd
namespace Go.Proofs.Ytofblciodgibdaa
namespace Crc
/-- The exclusive or of f's values at the bits of p below n. -/
def lin (f : Nat → Nat) : Nat → Nat → Nat
  | 0, _ => 0
  | n + 1, p => lin f n p ^^^ (if p.testBit n then f n else 0)
theorem xor4 (a b c d : Nat) : (a ^^^ b) ^^^ (c ^^^ d) = (a ^^^ c) ^^^ (b ^^^ d) := by
  rw [Nat.xor_assoc, ← Nat.xor_assoc b, Nat.xor_comm b c, Nat.xor_assoc c, ← Nat.xor_assoc]
theorem lin_xor (f : Nat → Nat) : ∀ n p q, lin f n (p ^^^ q) = lin f n p ^^^ lin f n q
  | 0, _, _ => by simp [lin]
  | n + 1, p, q => by
    simp only [lin]
    rw [lin_xor f n, Nat.testBit_xor, xor4]
    congr 1
    cases p.testBit n <;> cases q.testBit n <;> simp
theorem lin_zero (f : Nat → Nat) : ∀ n, lin f n 0 = 0
  | 0 => rfl
  | n + 1 => by simp [lin, lin_zero f n]
theorem lin_congr (f g : Nat → Nat) : ∀ n p, (∀ i, i < n → f i = g i) → lin f n p = lin g n p
  | 0, _, _ => rfl
  | n + 1, p, h => by simp only [lin]; rw [lin_congr f g n p (fun i hi => h i (by omega)), h n (by omega)]
theorem lin_map (g : Nat → Nat) (h0 : g 0 = 0) (hg : ∀ a b, g (a ^^^ b) = g a ^^^ g b) (f : Nat → Nat) : ∀ n p, g (lin f n p) = lin (fun i => g (f i)) n p
  | 0, _ => h0
  | n + 1, p => by
    simp only [lin]
    rw [hg, lin_map g h0 hg f n p]
    congr 1
    split
    · rfl
    · exact h0
theorem lin_bit (f : Nat → Nat) : ∀ n i, lin f n (2 ^ i) = if i < n then f i else 0
  | 0, i => by simp [lin]
  | n + 1, i => by
    simp only [lin]
    rw [lin_bit f n i, Nat.testBit_two_pow]
    by_cases h : i < n
    · rw [if_pos h, if_neg (by simp; omega), if_pos (by omega), Nat.xor_zero]
    · by_cases h2 : i = n
      · subst h2; rw [if_neg h, if_pos (by simp), if_pos (by omega), Nat.zero_xor]
      · rw [if_neg h, if_neg (by simp; omega), if_neg (by omega), Nat.xor_zero]
theorem lin_self : ∀ n p, lin (2 ^ ·) n p = p % 2 ^ n
  | 0, p => by simp [lin, Nat.mod_one]
  | n + 1, p => by
    simp only [lin]
    rw [lin_self n p]
    have h := xor_split n (p % 2 ^ (n + 1))
    rw [Nat.mod_mod_of_dvd _ (Nat.pow_dvd_pow 2 (Nat.le_succ n)), Nat.pow_succ, Nat.mod_mul_right_div_self] at h
    rw [Nat.pow_succ, h, Nat.testBit_eq_decide_div_mod_eq, Nat.xor_comm]
    by_cases hb : p / 2 ^ n % 2 = 1
    · simp [hb]
    · simp [show p / 2 ^ n % 2 = 0 by omega]
theorem lin_short (f : Nat → Nat) (m p : Nat) (hp : p < 2 ^ m) : ∀ d, lin f (m + d) p = lin f m p
  | 0 => rfl
  | d + 1 => by
    show lin f (m + d) p ^^^ (if p.testBit (m + d) = true then f (m + d) else 0) = _
    rw [lin_short f m p hp d, Nat.testBit_lt_two_pow (Nat.lt_of_lt_of_le hp (Nat.pow_le_pow_right (by omega) (Nat.le_add_right m d)))]
    simp
theorem lin_none (n p : Nat) : lin (fun _ => 0) n p = 0 := by
  induction n with
  | zero => rfl
  | succ n ih => simp [lin, ih]
theorem lin_fxor (f g : Nat → Nat) : ∀ n p, lin (fun i => f i ^^^ g i) n p = lin f n p ^^^ lin g n p
  | 0, _ => by simp [lin]
  | n + 1, p => by
    simp only [lin]
    rw [lin_fxor f g n p, xor4]
    congr 1
    split <;> simp
theorem lin_swap (h : Nat → Nat → Nat) (m q : Nat) : ∀ n p, lin (fun i => lin (fun j => h i j) m q) n p = lin (fun j => lin (fun i => h i j) n p) m q
  | 0, p => by simp only [lin]; rw [lin_none]
  | n + 1, p => by
    simp only [lin]
    rw [lin_swap h m q n p, lin_fxor]
    congr 1
    split
    · rfl
    · rw [lin_none]
/-- The modulus, highest power highest. -/
def Q : Nat := 4812730177
/-- Times x. -/
def mx (p : Nat) : Nat := 2 * p ^^^ (if p.testBit 31 then Q else 0)
def mxI : Nat → Nat → Nat
  | 0, p => p
  | n + 1, p => mxI n (mx p)
theorem dbl_xor (a b : Nat) : 2 * (a ^^^ b) = 2 * a ^^^ 2 * b := by
  have e : ∀ x, 2 * x = x <<< 1 := fun x => by rw [Nat.shiftLeft_eq]; omega
  rw [e, e, e, Nat.shiftLeft_xor_distrib]
theorem mx_zero : mx 0 = 0 := by decide
theorem mx_xor (a b : Nat) : mx (a ^^^ b) = mx a ^^^ mx b := by
  unfold mx
  rw [dbl_xor, xor4, Nat.testBit_xor]
  congr 1
  cases a.testBit 31 <;> cases b.testBit 31 <;> simp
theorem mxI_zero : ∀ n, mxI n 0 = 0
  | 0 => rfl
  | n + 1 => by show mxI n (mx 0) = 0; rw [mx_zero, mxI_zero n]
theorem mxI_xor : ∀ n a b, mxI n (a ^^^ b) = mxI n a ^^^ mxI n b
  | 0, _, _ => rfl
  | n + 1, a, b => by show mxI n (mx _) = _; rw [mx_xor, mxI_xor n]; rfl
theorem mxI_add : ∀ m n a, mxI (m + n) a = mxI n (mxI m a)
  | 0, n, a => by rw [Nat.zero_add]; rfl
  | m + 1, n, a => by rw [Nat.add_right_comm]; show mxI (m + n) (mx a) = mxI n (mxI m (mx a)); exact mxI_add m n _
theorem mx_lt (p : Nat) (h : p < 2 ^ 32) : mx p < 2 ^ 32 := by
  refine Nat.lt_pow_two_of_testBit _ fun i hi => ?_
  unfold mx
  rw [Nat.testBit_xor]
  have hp : p.testBit i = false := Nat.testBit_lt_two_pow (Nat.lt_of_lt_of_le h (Nat.pow_le_pow_right (by omega) hi))
  have e : (2 * p).testBit i = p.testBit (i - 1) := by
    obtain ⟨j, rfl⟩ : ∃ j, i = j + 1 := ⟨i - 1, by omega⟩
    rw [Nat.testBit_succ, Nat.mul_div_cancel_left _ (by omega)]; rfl
  rw [e]
  by_cases h32 : i = 32
  · subst h32
    cases p.testBit 31 <;> decide
  · have h1 : p.testBit (i - 1) = false := Nat.testBit_lt_two_pow (Nat.lt_of_lt_of_le h (Nat.pow_le_pow_right (by omega) (by omega)))
    have h2 : (if p.testBit 31 = true then Q else 0).testBit i = false := by
      split
      · exact Nat.testBit_lt_two_pow (Nat.lt_of_lt_of_le (by decide : Q < 2 ^ 33) (Nat.pow_le_pow_right (by omega) (by omega)))
      · simp
    rw [h1, h2]; rfl
theorem mxI_lt : ∀ n p, p < 2 ^ 32 → mxI n p < 2 ^ 32
  | 0, _, h => h
  | n + 1, p, h => mxI_lt n _ (mx_lt p h)
/-- x to the power i. -/
def X (i : Nat) : Nat := mxI i 1
theorem X_low : ∀ i, i < 32 → X i = 2 ^ i := by decide +kernel
theorem X_lt (n : Nat) : X n < 2 ^ 32 := mxI_lt n 1 (by decide)
theorem X_add (m n : Nat) : X (m + n) = mxI n (X m) := mxI_add m n 1
theorem lin_X (p : Nat) (h : p < 2 ^ 32) : lin X 32 p = p := by
  rw [lin_congr X (2 ^ ·) 32 p X_low, lin_self, Nat.mod_eq_of_lt h]
/-- What the division leaves of 64 bits. -/
def rho (p : Nat) : Nat := lin X 64 p
theorem rho_xor (p q : Nat) : rho (p ^^^ q) = rho p ^^^ rho q := lin_xor X 64 p q
theorem rho_Q : ∀ j, j < 31 → rho (Q * 2 ^ j) = 0 := by decide +kernel
theorem rho_low (p : Nat) (h : p < 2 ^ 32) : rho p = p := by unfold rho; rw [lin_short X 32 p h 32, lin_X p h]
/-- One round of the division. -/
def redS (p i : Nat) : Nat := if p.testBit i then p ^^^ Q * 2 ^ (i - 32) else p
theorem redS_rho (p i : Nat) (h1 : 32 ≤ i) (h2 : i < 63) : rho (redS p i) = rho p := by
  unfold redS
  split
  · rw [rho_xor, rho_Q _ (by omega), Nat.xor_zero]
  · rfl
theorem redS_lt (p i : Nat) (h1 : 32 ≤ i) (hp : p < 2 ^ (i + 1)) : redS p i < 2 ^ i := by
  refine Nat.lt_pow_two_of_testBit _ fun j hj => ?_
  have hQ : ∀ j, i ≤ j → (Q * 2 ^ (i - 32)).testBit j = decide (j = i) := fun j hj => by
    rw [Nat.mul_comm, Nat.testBit_two_pow_mul, show (decide (j ≥ i - 32)) = true by simp; omega, Bool.true_and]
    by_cases h : j = i
    · subst h; rw [show j - (j - 32) = 32 by omega]; simp; decide
    · simp only [h, decide_false]
      exact Nat.testBit_lt_two_pow (Nat.lt_of_lt_of_le (by decide : Q < 2 ^ 33) (Nat.pow_le_pow_right (by omega) (by omega)))
  unfold redS
  by_cases hij : j = i
  · subst hij
    split
    · rename_i hb; rw [Nat.testBit_xor, hb, hQ j (Nat.le_refl _)]; simp
    · rename_i hb; simpa using hb
  · have hpj : p.testBit j = false := Nat.testBit_lt_two_pow (Nat.lt_of_lt_of_le hp (Nat.pow_le_pow_right (by omega) (by omega)))
    split
    · rw [Nat.testBit_xor, hpj, hQ j hj]; simp [hij]
    · exact hpj
/-- The product, below degree 32. -/
def tm (a b : Nat) : Nat := lin (fun i => mxI i a) 32 b
theorem shl_xor (i a b : Nat) : (a ^^^ b) * 2 ^ i = a * 2 ^ i ^^^ b * 2 ^ i := by
  rw [← Nat.shiftLeft_eq, ← Nat.shiftLeft_eq, ← Nat.shiftLeft_eq, Nat.shiftLeft_xor_distrib]
theorem rho_shl (a i : Nat) (ha : a < 2 ^ 32) (hi : i < 32) : rho (a * 2 ^ i) = mxI i a := by
  have h1 : a * 2 ^ i = lin (fun j => 2 ^ j * 2 ^ i) 32 a := by
    have := lin_map (fun x => x * 2 ^ i) (by simp) (shl_xor i) (2 ^ ·) 32 a
    rw [lin_self, Nat.mod_eq_of_lt ha] at this
    exact this
  have h2 : mxI i a = lin (fun j => mxI i (X j)) 32 a := by
    have := lin_map (mxI i) (mxI_zero i) (mxI_xor i) X 32 a
    rw [lin_X a ha] at this
    exact this
  rw [h1, h2, lin_map rho (lin_zero X 64) rho_xor]
  refine lin_congr _ _ _ _ fun j hj => ?_
  show rho (2 ^ j * 2 ^ i) = mxI i (X j)
  rw [← Nat.pow_add]
  show lin X 64 _ = _
  rw [lin_bit, if_pos (by omega), X_add]
/-- What the first loop of times makes. -/
def raw (a b k : Nat) : Nat := lin (fun i => a * 2 ^ i) k b
theorem raw_rho (a b : Nat) (ha : a < 2 ^ 32) : rho (raw a b 32) = tm a b := by
  unfold raw tm
  rw [lin_map rho (lin_zero X 64) rho_xor]
  exact lin_congr _ _ _ _ fun i hi => rho_shl a i ha hi
theorem raw_lt (a b : Nat) (ha : a < 2 ^ 32) : ∀ k, raw a b k < 2 ^ (31 + k)
  | 0 => by show (0 : Nat) < _; exact Nat.two_pow_pos _
  | k + 1 => by
    show raw a b k ^^^ _ < _
    refine Nat.xor_lt_two_pow (Nat.lt_of_lt_of_le (raw_lt a b ha k) (Nat.pow_le_pow_right (by omega) (by omega))) ?_
    split
    · rw [show 31 + (k + 1) = 32 + k by omega, Nat.pow_add]; exact Nat.mul_lt_mul_of_pos_right ha (Nat.two_pow_pos _)
    · exact Nat.two_pow_pos _
theorem tm_X (m n : Nat) : tm (X m) (X n) = X (m + n) := by
  unfold tm
  rw [lin_congr _ (fun i => mxI m (X i)) 32 _ (fun i _ => by rw [← X_add, ← X_add, Nat.add_comm]), ← lin_map (mxI m) (mxI_zero m) (mxI_xor m), lin_X _ (X_lt n), ← X_add, Nat.add_comm]
theorem mxI_lin (n t : Nat) (ht : t < 2 ^ 32) : mxI n t = lin (fun j => X (j + n)) 32 t := by
  have := lin_map (mxI n) (mxI_zero n) (mxI_xor n) X 32 t
  rw [lin_X t ht] at this
  rw [this]
  exact lin_congr _ _ _ _ fun j _ => (X_add j n).symm
theorem tm_pow (t n : Nat) (ht : t < 2 ^ 32) : tm t (X n) = mxI n t := by
  unfold tm
  rw [lin_congr _ (fun i => lin (fun j => X (j + i)) 32 t) 32 _ (fun i _ => mxI_lin i t ht), lin_swap (fun i j => X (j + i)), mxI_lin n t ht]
  refine lin_congr _ _ _ _ fun j _ => ?_
  have := mxI_lin j (X n) (X_lt n)
  rw [← X_add] at this
  rw [Nat.add_comm j n, this]
  exact lin_congr _ _ _ _ fun i _ => by rw [Nat.add_comm]
/-- The bits the other way round. -/
def tn (k a : Nat) : Nat := lin (fun i => 2 ^ (31 - i)) k a
theorem tn_xor (a b : Nat) : tn 32 (a ^^^ b) = tn 32 a ^^^ tn 32 b := lin_xor _ 32 a b
theorem tn_T_bit : ∀ i, i < 32 → tn 32 (T (2 ^ i)) = mx (tn 32 (2 ^ i)) := by decide +kernel
theorem tn_tn_bit : ∀ i, i < 32 → tn 32 (tn 32 (2 ^ i)) = 2 ^ i := by decide +kernel
theorem tn_T (r : Nat) (h : r < 2 ^ 32) : tn 32 (T r) = mx (tn 32 r) := by
  have e : r = lin (2 ^ ·) 32 r := by rw [lin_self, Nat.mod_eq_of_lt h]
  rw [e, lin_map T T_zero T_xor, lin_map (tn 32) (lin_zero _ _) tn_xor, lin_map (tn 32) (lin_zero _ _) tn_xor, lin_map mx mx_zero mx_xor]
  exact lin_congr _ _ _ _ fun i hi => tn_T_bit i hi
theorem tn_tn (r : Nat) (h : r < 2 ^ 32) : tn 32 (tn 32 r) = r := by
  have e : r = lin (2 ^ ·) 32 r := by rw [lin_self, Nat.mod_eq_of_lt h]
  rw [e, lin_map (tn 32) (lin_zero _ _) tn_xor, lin_map (tn 32) (lin_zero _ _) tn_xor]
  exact lin_congr _ _ _ _ fun i hi => tn_tn_bit i hi
theorem tn_itT : ∀ n r, r < 2 ^ 32 → tn 32 (itT n r) = mxI n (tn 32 r)
  | 0, _, _ => rfl
  | n + 1, r, h => by
    show tn 32 (itT n (T r)) = mxI n (mx (tn 32 r))
    rw [tn_itT n (T r) (T_lt r h), tn_T r h]
theorem tn_bits (a : Nat) : ∀ k j, j + k < 32 → (tn k a).testBit j = false
  | 0, j, _ => by simp [tn, lin]
  | k + 1, j, h => by
    show (tn k a ^^^ _).testBit j = false
    rw [Nat.testBit_xor, tn_bits a k j (by omega)]
    split
    · rw [Nat.testBit_two_pow]; simp; omega
    · simp
theorem tn_lt (a : Nat) : ∀ k, k ≤ 32 → tn k a < 2 ^ 32
  | 0, _ => by simp [tn, lin]
  | k + 1, h => by
    show tn k a ^^^ _ < _
    refine Nat.xor_lt_two_pow (tn_lt a k (by omega)) ?_
    split
    · exact Nat.pow_lt_pow_right (by omega) (by omega)
    · decide
theorem or_bit (x j : Nat) (h : x.testBit j = false) : x ||| 2 ^ j = x ^^^ 2 ^ j := by
  apply Nat.eq_of_testBit_eq; intro i
  rw [Nat.testBit_or, Nat.testBit_xor, Nat.testBit_two_pow]
  by_cases hi : j = i
  · subst hi; simp [h]
  · simp [hi]
/-- The law of Join. -/
theorem join_law (a n : Nat) (ha : a < 2 ^ 32) : tn 32 (tm (tn 32 a) (X n)) = itT n a := by
  rw [tm_pow _ _ (tn_lt a 32 (by omega)), ← tn_itT n a ha, tn_tn _ (itT_lt n a ha)]
theorem tm_lt (a b : Nat) (ha : a < 2 ^ 32) : tm a b < 2 ^ 32 := by
  unfold tm
  have : ∀ k, lin (fun i => mxI i a) k b < 2 ^ 32 := fun k => by
    induction k with
    | zero => exact Nat.two_pow_pos 32
    | succ k ih =>
      show _ ^^^ _ < _
      refine Nat.xor_lt_two_pow ih ?_
      split
      · exact mxI_lt k a ha
      · decide
  exact this 32
/-- What the inner loop puts onto p: the terms of the modulus. -/
def tsum (t : List Nat) (i k : Nat) : Nat := (t.take k).foldl (fun x e => x ^^^ 2 ^ (i - e)) 0
theorem tsum_succ (t : List Nat) (i k : Nat) (h : k < t.length) : tsum t i (k + 1) = tsum t i k ^^^ 2 ^ (i - t.getD k 0) := by
  unfold tsum
  rw [List.take_succ_eq_append_getElem h, List.foldl_append, List.getD_eq_getElem?_getD, List.getElem?_eq_getElem h]; rfl
end Crc
end Go.Proofs.Ytofblciodgibdaa
