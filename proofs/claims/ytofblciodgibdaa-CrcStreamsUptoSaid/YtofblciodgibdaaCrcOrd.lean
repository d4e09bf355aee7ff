/- The steps' order is 2^31 - 1, and the parity of the register's bits stays: plain. -/
import Derived.Test.YtofblciodgibdaaCrcBit
namespace Go.Proofs.Ytofblciodgibdaa
namespace Crc
/-- The parity of a number's bits. -/
def par (n : Nat) : Nat := if h : n = 0 then 0 else (n % 2 + par (n / 2)) % 2
termination_by n
decreasing_by omega
theorem par_zero : par 0 = 0 := by unfold par; rfl
theorem par_step (n : Nat) : par n = (n % 2 + par (n / 2)) % 2 := by
  by_cases h : n = 0
  · subst h; rw [par_zero]
  · rw [par, dif_neg h]
theorem par_xor : ∀ (n a b : Nat), a < n → b < n → par (a ^^^ b) = (par a + par b) % 2
  | 0, a, b, h, _ => by omega
  | n + 1, a, b, h, h2 => by
    by_cases h0 : a = 0
    · subst h0; rw [Nat.zero_xor, par_zero, Nat.zero_add]; rw [par_step b]; omega
    · by_cases h1 : b = 0
      · subst h1; rw [Nat.xor_zero, par_zero, Nat.add_zero]; rw [par_step a]; omega
      · rw [par_step (a ^^^ b), par_step a, par_step b, xor_half, xor_odd, par_xor n (a / 2) (b / 2) (by omega) (by omega)]
        omega
theorem par_M : par M = 1 := by decide +kernel
theorem par_one : par 1 = 1 := by decide +kernel
theorem par_T (r : Nat) : par (T r) = par r := by
  unfold T
  rw [par_step r]
  split
  · rw [par_xor (r + M + 1) _ _ (by omega) (by omega), par_M]; omega
  · rw [show r % 2 = 0 by omega, Nat.zero_add, par_step (r / 2)]; omega
theorem par_itT : ∀ (n r : Nat), par (itT n r) = par r
  | 0, r => rfl
  | n + 1, r => by
    show par (itT n (T r)) = _
    rw [par_itT n, par_T]
/-- What the bits at these places make of the register. -/
def turns (N : Nat) (l : List Nat) : Nat := l.foldl (fun x p => x ^^^ itT (N - p) 1) 0
theorem turns_push (N : Nat) (l : List Nat) (p : Nat) : turns N (l ++ [p]) = turns N l ^^^ itT (N - p) 1 := by unfold turns; rw [List.foldl_append]; rfl
theorem turns_par (N : Nat) (l : List Nat) : ∀ k, k ≤ l.length → par (turns N (l.take k)) = k % 2
  | 0, _ => by simp [turns, par_zero]
  | k + 1, h => by
    rw [List.take_succ_eq_append_getElem (by omega), turns_push, par_xor (turns N (l.take k) + itT (N - l[k]) 1 + 1) _ _ (by omega) (by omega), turns_par N l k (by omega), par_itT, par_one]
    omega
theorem turns_odd (N : Nat) (l : List Nat) (h : l.length % 2 = 1) : turns N l ≠ 0 := by
  intro e
  have := turns_par N l l.length (Nat.le_refl _)
  rw [List.take_length, e, par_zero] at this
  omega
/-- What many steps make of the bits alone. -/
def tab (n i : Nat) : Nat → List Nat
  | 0 => []
  | k + 1 => itT n (2 ^ i) :: tab n (i + 1) k
def ofTab : List Nat → Nat → Nat
  | [], _ => 0
  | x :: t, r => (if r % 2 = 1 then x else 0) ^^^ ofTab t (r / 2)
theorem xor_bit (i m : Nat) : 2 ^ i ^^^ 2 ^ (i + 1) * m = 2 ^ i * (2 * m + 1) := by
  have h := xor_split (i + 1) (2 ^ i * (2 * m + 1))
  have e : 2 ^ i * (2 * m + 1) = 2 ^ (i + 1) * m + 2 ^ i := by rw [Nat.mul_add, Nat.pow_succ, Nat.mul_one, Nat.mul_assoc]
  have hp : 2 ^ i < 2 ^ (i + 1) := Nat.pow_lt_pow_right (by omega) (by omega)
  rw [show (2 ^ i * (2 * m + 1)) / 2 ^ (i + 1) = m by rw [e, Nat.mul_add_div (Nat.two_pow_pos _), Nat.div_eq_of_lt hp, Nat.add_zero], show (2 ^ i * (2 * m + 1)) % 2 ^ (i + 1) = 2 ^ i by rw [e, Nat.mul_add_mod, Nat.mod_eq_of_lt hp]] at h
  rw [h, Nat.xor_comm]
theorem mod_step (r k : Nat) : r % 2 ^ (k + 1) = 2 * (r / 2 % 2 ^ k) + r % 2 := by
  rw [Nat.pow_succ, Nat.mul_comm, Nat.mod_mul]; omega
theorem ofTab_tab (n : Nat) : ∀ (k i r : Nat), ofTab (tab n i k) r = itT n (2 ^ i * (r % 2 ^ k))
  | 0, i, r => by rw [show r % 2 ^ 0 = 0 by simp [Nat.mod_one], Nat.mul_zero, itT_zero]; rfl
  | k + 1, i, r => by
    show (if r % 2 = 1 then itT n (2 ^ i) else 0) ^^^ ofTab (tab n (i + 1) k) (r / 2) = _
    rw [ofTab_tab n k, mod_step]
    split
    · rw [← itT_xor, xor_bit]; congr 3; omega
    · rw [Nat.zero_xor, show 2 * (r / 2 % 2 ^ k) + r % 2 = 2 * (r / 2 % 2 ^ k) by omega, ← Nat.mul_assoc, Nat.pow_succ]
theorem tab_map (n m : Nat) (f : Nat → Nat) (h : ∀ j, j < 32 → f (itT n (2 ^ j)) = itT m (2 ^ j)) : ∀ k i, i + k ≤ 32 → (tab n i k).map f = tab m i k
  | 0, _, _ => rfl
  | k + 1, i, hk => by
    show f (itT n (2 ^ i)) :: (tab n (i + 1) k).map f = _
    rw [h i (by omega), tab_map n m f h k (i + 1) (by omega)]; rfl
def dbl (t : List Nat) : List Nat := t.map (ofTab t)
theorem dbl_tab (n : Nat) : dbl (tab n 0 32) = tab (n + n) 0 32 := by
  refine tab_map n (n + n) _ (fun j hj => ?_) 32 0 (by omega)
  rw [ofTab_tab, Nat.pow_zero, Nat.one_mul, Nat.mod_eq_of_lt (itT_lt _ _ (Nat.pow_lt_pow_right (by omega) (by omega))), ← itT_add]
def dbls : Nat → List Nat → List Nat
  | 0, t => t
  | k + 1, t => dbls k (dbl t)
theorem dbls_tab : ∀ k n, dbls k (tab n 0 32) = tab (2 ^ k * n) 0 32
  | 0, n => by rw [Nat.pow_zero, Nat.one_mul]; rfl
  | k + 1, n => by
    show dbls k (dbl (tab n 0 32)) = _
    rw [dbl_tab, dbls_tab k, Nat.pow_succ]; congr 1; rw [Nat.mul_assoc]; congr 1; omega
theorem round31 : dbls 31 (tab 1 0 32) = tab 1 0 32 := by decide +kernel
theorem T_cancel (r s : Nat) (hr : r < 2 ^ 32) (hs : s < 2 ^ 32) (h : T r = T s) : r = s := by
  have : T (r ^^^ s) = 0 := by rw [T_xor, h, Nat.xor_self]
  exact (xor_eq_zero _ _).1 (T_inj _ (Nat.xor_lt_two_pow hr hs) this)
/-- 2^31 - 1 steps turn nothing. -/
theorem order (r : Nat) (hr : r < 2 ^ 32) : itT 2147483647 r = r := by
  have h1 : itT (2 ^ 31 * 1) r = itT 1 r := by
    have a := ofTab_tab (2 ^ 31 * 1) 32 0 r
    have b := ofTab_tab 1 32 0 r
    rw [← dbls_tab, round31, b, Nat.pow_zero, Nat.one_mul, Nat.mod_eq_of_lt hr] at a
    exact a.symm
  rw [show 2 ^ 31 * 1 = 2147483647 + 1 by decide, itT_add] at h1
  exact T_cancel _ _ (itT_lt _ _ hr) hr h1
theorem itT_sub (a b : Nat) (h : a ≤ b) (ha : itT a 1 = 1) (hb : itT b 1 = 1) : itT (b - a) 1 = 1 := by
  have := itT_add a (b - a) 1
  rw [show a + (b - a) = b by omega, ha, hb] at this
  exact this.symm
theorem itT_mul (a : Nat) (ha : itT a 1 = 1) : ∀ k, itT (a * k) 1 = 1
  | 0 => by rw [Nat.mul_zero]; rfl
  | k + 1 => by rw [Nat.mul_succ, itT_add, itT_mul a ha k, ha]
theorem itT_gcd (a b : Nat) : itT a 1 = 1 → itT b 1 = 1 → itT (Nat.gcd a b) 1 = 1 := by
  induction a, b using Nat.gcd.induction with
  | H0 n => intro _ h; rw [Nat.gcd_zero_left]; exact h
  | H1 m n hm ih =>
    intro h1 h2
    rw [Nat.gcd_rec]
    refine ih ?_ h1
    have h3 := itT_sub (m * (n / m)) n (Nat.mul_div_le n m) (itT_mul m h1 _) h2
    rw [show n % m = n - m * (n / m) by have := Nat.div_add_mod n m; omega]
    exact h3
/-- Does none of 2^f numbers from lo on go into 2^31 - 1? -/
def tried : Nat → Nat → Bool
  | 0, lo => lo < 2 || 2147483647 % lo != 0
  | f + 1, lo => tried f lo && tried f (lo + 2 ^ f)
theorem tried_out : ∀ f lo k, tried f lo = true → lo ≤ k → k < lo + 2 ^ f → 2 ≤ k → 2147483647 % k ≠ 0
  | 0, lo, k, h, h1, h2, h3 => by
    obtain rfl : k = lo := by simp at h2; omega
    simp [tried] at h; omega
  | f + 1, lo, k, h, h1, h2, h3 => by
    simp only [tried, Bool.and_eq_true] at h
    by_cases hk : k < lo + 2 ^ f
    · exact tried_out f lo k h.1 h1 hk h3
    · exact tried_out f (lo + 2 ^ f) k h.2 (by omega) (by rw [Nat.pow_succ] at h2; omega) h3
theorem tried16 : tried 16 0 = true := by decide +kernel
theorem prime31 (g : Nat) (h : g ∣ 2147483647) (h1 : g < 2147483647) : g = 1 := by
  obtain ⟨q, hq⟩ := h
  have hg0 : g ≠ 0 := by intro e; rw [e, Nat.zero_mul] at hq; omega
  have hq0 : q ≠ 0 := by intro e; rw [e, Nat.mul_zero] at hq; omega
  have hq1 : q ≠ 1 := by intro e; rw [e, Nat.mul_one] at hq; omega
  by_cases hg1 : g = 1
  · exact hg1
  · exfalso
    by_cases hs : g < 65536
    · exact tried_out 16 0 g tried16 (by omega) (by simpa using hs) (by omega) (by rw [hq, Nat.mul_mod_right])
    · by_cases hs2 : q < 65536
      · exact tried_out 16 0 q tried16 (by omega) (by simpa using hs2) (by omega) (by rw [hq, Nat.mul_mod_left])
      · have := Nat.mul_le_mul (Nat.le_of_not_lt hs) (Nat.le_of_not_lt hs2)
        omega
theorem T_one : T 1 ≠ 1 := by decide
theorem no_round (d : Nat) (h0 : 0 < d) (h1 : d < 2147483647) : itT d 1 ≠ 1 := by
  intro h
  have hg := itT_gcd d 2147483647 h (order 1 (by decide))
  have hd := Nat.gcd_dvd_right d 2147483647
  have hle := Nat.gcd_le_left 2147483647 h0
  rw [prime31 _ hd (by omega)] at hg
  exact T_one hg
theorem itT_ne (a b : Nat) (hab : a < b) (hb : b < 2147483647) : itT a 1 ≠ itT b 1 := by
  intro h
  have e := itT_add (b - a) a 1
  rw [show b - a + a = b by omega, ← h] at e
  have h1 : (1 : Nat) < 2 ^ 32 := by decide
  have := itT_inj a (1 ^^^ itT (b - a) 1) (Nat.xor_lt_two_pow h1 (itT_lt _ _ h1)) (by rw [itT_xor, ← e, Nat.xor_self])
  rw [xor_eq_zero] at this
  exact no_round (b - a) (by omega) (by omega) this.symm
/-- Two unlike bits of fewer than 2^31 turn the register. -/
theorem turns_two (N p q : Nat) (hN : N < 2147483647) (hp : p < N) (hq : q < N) (h : p ≠ q) : turns N [p, q] ≠ 0 := by
  intro e
  have e2 : itT (N - p) 1 ^^^ itT (N - q) 1 = 0 := by
    have : turns N [p, q] = (0 ^^^ itT (N - p) 1) ^^^ itT (N - q) 1 := rfl
    rw [this, Nat.zero_xor] at e; exact e
  rw [xor_eq_zero] at e2
  by_cases h2 : N - p < N - q
  · exact itT_ne _ _ h2 (by omega) e2
  · exact itT_ne _ _ (show N - q < N - p by omega) (by omega) e2.symm
end Crc
end Go.Proofs.Ytofblciodgibdaa
