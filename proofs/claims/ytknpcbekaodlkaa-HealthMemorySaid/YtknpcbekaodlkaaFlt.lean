/- Rounding to the nearest float as a map from exact whole numbers (in units of the least place, over 2^k) to rungs: monotone, exact on what the format has; and the operations upon it. Plain. -/
import Derived.Laws.FloatArith
namespace Go.Proofs.Ytknpcbekaodlkaa
open Ieee
set_option linter.unusedVariables false
/-- n / g to the nearest whole number, between two the even one. -/
def rne (n g : Nat) : Nat := n / g + (if g < 2 * (n % g) ∨ (g = 2 * (n % g) ∧ n / g % 2 = 1) then 1 else 0)
theorem rne_scale (n g c : Nat) (hc : 0 < c) : rne (n * c) (g * c) = rne n g := by
  unfold rne
  rw [Nat.mul_div_mul_right _ _ hc, Nat.mul_mod_mul_right]
  congr 1
  have e1 : (g * c < 2 * (n % g * c)) = (g < 2 * (n % g)) := by
    rw [← Nat.mul_assoc]; exact propext ⟨fun h => Nat.lt_of_mul_lt_mul_right h, fun h => Nat.mul_lt_mul_of_pos_right h hc⟩
  have e2 : (g * c = 2 * (n % g * c)) = (g = 2 * (n % g)) := by
    rw [← Nat.mul_assoc]; exact propext ⟨fun h => Nat.eq_of_mul_eq_mul_right hc h, fun h => congrArg (· * c) h⟩
  simp only [e1, e2]
theorem rne_lo (n g : Nat) : n / g ≤ rne n g := by unfold rne; omega
theorem rne_hi (n g : Nat) : rne n g ≤ n / g + 1 := by unfold rne; split <;> omega
theorem rne_mono (n m g : Nat) (hg : 0 < g) (h : n ≤ m) : rne n g ≤ rne m g := by
  have hq : n / g ≤ m / g := Nat.div_le_div_right h
  rcases Nat.lt_or_ge (n / g) (m / g) with hlt | hge
  · exact Nat.le_trans (rne_hi n g) (Nat.le_trans hlt (rne_lo m g))
  · have he : n / g = m / g := Nat.le_antisymm hq hge
    have hr : n % g ≤ m % g := by
      have h1 := Nat.div_add_mod n g
      have h2 := Nat.div_add_mod m g
      rw [he] at h1
      omega
    unfold rne
    rw [he]
    generalize m / g = q
    generalize n % g = a at hr ⊢
    generalize m % g = b at hr ⊢
    by_cases h1 : g < 2 * a ∨ (g = 2 * a ∧ q % 2 = 1)
    · rw [if_pos h1, if_pos (by omega)]
      exact Nat.le_refl _
    · rw [if_neg h1]; omega
theorem rne_exact (a g : Nat) (hg : 0 < g) : rne (a * g) g = a := by
  unfold rne
  rw [Nat.mul_div_cancel _ hg, Nat.mul_mod_left, if_neg (by omega)]; omega
/-- No farther off than half a unit. -/
theorem rne_near (n g : Nat) (hg : 0 < g) : 2 * (rne n g * g) ≤ 2 * n + g ∧ 2 * n ≤ 2 * (rne n g * g) + g := by
  unfold rne
  have h1 := Nat.div_add_mod n g
  have h2 := Nat.mod_lt n hg
  rw [Nat.add_mul, Nat.mul_comm (n / g) g]
  generalize g * (n / g) = z at h1 ⊢
  generalize n % g = a at h1 h2 ⊢
  split <;> omega
theorem log2_lt_pow (n : Nat) : n < 2 ^ (n.log2 + 1) := Nat.lt_log2_self
theorem cut_eq (neg : Bool) (n drop : Nat) : Toward.even.cut neg n drop = rne n (2 ^ drop) := by
  unfold Toward.cut
  simp only [Nat.shiftLeft_eq, Nat.one_mul]
  have hb : ∀ g, n / g + (decide (g < 2 * (n % g)) || (g == 2 * (n % g)) && (n / g % 2 == 1)).toNat = rne n g := by
    intro g
    unfold rne
    congr 1
    by_cases h1 : g < 2 * (n % g) ∨ (g = 2 * (n % g) ∧ n / g % 2 = 1)
    · rw [if_pos h1]
      rcases h1 with h1 | ⟨h1, h2⟩
      · simp [h1]
      · simp [← h1, h2]
    · rw [if_neg h1]
      have h2 : ¬ g < 2 * (n % g) := fun h => h1 (.inl h)
      have h3 : ¬ (g = 2 * (n % g) ∧ n / g % 2 = 1) := fun h => h1 (.inr h)
      simp only [h2, decide_false, Bool.false_or]
      by_cases h4 : g = 2 * (n % g)
      · have h5 : ¬ n / g % 2 = 1 := fun h => h3 ⟨h4, h⟩
        simp [h5]
      · simp [h4]
  rw [hb]
  by_cases hd : drop ≤ n.log2 + 2
  · rw [Nat.min_eq_left hd]
  · rw [Nat.min_eq_right (by omega)]
    have h1 := log2_lt_pow n
    have h2 : 2 ^ (n.log2 + 1) * 2 = 2 ^ (n.log2 + 2) := by rw [← Nat.pow_succ]
    have h3 : 2 ^ (n.log2 + 2) ≤ 2 ^ drop := Nat.pow_le_pow_right (by omega) (by omega)
    have hz : ∀ g, 2 * n < g → rne n g = 0 := by
      intro g hg
      unfold rne
      rw [Nat.div_eq_of_lt (by omega), Nat.mod_eq_of_lt (by omega), if_neg (by omega)]
    rw [hz _ (by omega), hz _ (by omega)]
/-- The rung nearest to M / 2^k units. -/
def rg (fb M k : Nat) : Nat := (M.log2 - (k + fb)) * 2 ^ fb + rne M (2 ^ (k + (M.log2 - (k + fb))))
theorem log2_mul_pow (m p : Nat) (h : m ≠ 0) : (m * 2 ^ p).log2 = m.log2 + p := by
  have h1 := Nat.log2_self_le h
  have h2 := log2_lt_pow m
  have hne : m * 2 ^ p ≠ 0 := Nat.mul_ne_zero h (Nat.pos_iff_ne_zero.1 (Nat.two_pow_pos p))
  have a := (Nat.le_log2 hne (k := m.log2 + p)).2 (by rw [Nat.pow_add]; exact Nat.mul_le_mul_right _ h1)
  have b := (Nat.log2_lt hne (k := m.log2 + p + 1)).2 (by
    rw [show m.log2 + p + 1 = (m.log2 + 1) + p by omega, Nat.pow_add]; exact Nat.mul_lt_mul_of_pos_right h2 (Nat.two_pow_pos p))
  omega
theorem rg_zero (fb k : Nat) : rg fb 0 k = 0 := by
  unfold rg
  rw [show Nat.log2 0 = 0 by rw [Nat.log2_zero]]
  simp [rne]
theorem nearest_eq (f : Format) (neg : Bool) (mag k : Nat) (place : Int) (hp : 0 ≤ place - f.leastPlace + k) :
    f.nearest neg mag place = f.word neg (min (rg f.fractionBits (mag * 2 ^ (place - f.leastPlace + k).toNat) k) f.infRung) := by
  unfold Format.nearest
  by_cases h0 : mag = 0
  · subst h0
    rw [if_pos rfl, Nat.zero_mul, rg_zero, Nat.zero_min]
  rw [if_neg h0]
  simp only
  obtain ⟨p, hpp⟩ : ∃ p : Nat, (place - f.leastPlace + k) = (p : Int) := ⟨_, (Int.toNat_of_nonneg hp).symm⟩
  rw [hpp, Int.toNat_natCast]
  congr 2
  unfold rg Format.binade
  rw [log2_mul_pow mag p h0, cut_eq]
  generalize hL : mag.log2 = L
  generalize f.fractionBits = fb
  generalize hl : f.leastPlace = lp at hpp ⊢
  obtain ⟨e, he⟩ : ∃ e, L + p - (k + fb) = e := ⟨_, rfl⟩
  rw [he]
  have e1 : (max (place + (L : Int) - (fb : Int)) lp - lp).toNat = e := by omega
  rw [e1]
  have e2 : max (place + (L : Int) - (fb : Int)) lp = lp + e := by omega
  rw [e2]
  rw [Nat.shiftLeft_eq]
  rcases Nat.le_total (k + e) p with hc | hc
  · rw [show (place - (lp + (e : Int))).toNat = p - (k + e) by omega, show (lp + (e : Int) - place).toNat = 0 by omega]
    have := rne_scale (mag * 2 ^ (p - (k + e))) 1 (2 ^ (k + e)) (Nat.two_pow_pos _)
    rw [Nat.one_mul, Nat.mul_assoc, ← Nat.pow_add, show p - (k + e) + (k + e) = p by omega] at this
    rw [this, Nat.pow_zero]
  · rw [show (place - (lp + (e : Int))).toNat = 0 by omega, show (lp + (e : Int) - place).toNat = k + e - p by omega]
    have := rne_scale mag (2 ^ (k + e - p)) (2 ^ p) (Nat.two_pow_pos _)
    rw [← Nat.pow_add, show k + e - p + p = k + e by omega] at this
    rw [this, Nat.pow_zero, Nat.mul_one]
theorem rg_parts (fb M k : Nat) : rne M (2 ^ (k + (M.log2 - (k + fb)))) ≤ 2 ^ (fb + 1) ∧ (0 < M.log2 - (k + fb) → 2 ^ fb ≤ rne M (2 ^ (k + (M.log2 - (k + fb))))) := by
  obtain ⟨e, he⟩ : ∃ e, M.log2 - (k + fb) = e := ⟨_, rfl⟩
  rw [he]
  have h1 := log2_lt_pow M
  refine ⟨?_, fun hpos => ?_⟩
  · have h2 : M ≤ 2 ^ (fb + 1) * 2 ^ (k + e) := by
      rw [← Nat.pow_add]
      exact Nat.le_trans (Nat.le_of_lt h1) (Nat.pow_le_pow_right (by omega) (by omega))
    have := rne_mono M _ (2 ^ (k + e)) (Nat.two_pow_pos _) h2
    rwa [rne_exact _ _ (Nat.two_pow_pos _)] at this
  · have hM : M ≠ 0 := by
      intro h; subst h; rw [Nat.log2_zero] at he; omega
    have h2 := Nat.log2_self_le hM
    have h3 : 2 ^ fb * 2 ^ (k + e) ≤ M := by rw [← Nat.pow_add, show fb + (k + e) = M.log2 by omega]; exact h2
    have := rne_mono _ M (2 ^ (k + e)) (Nat.two_pow_pos _) h3
    rwa [rne_exact _ _ (Nat.two_pow_pos _)] at this
theorem log2_mono {a b : Nat} (h : a ≤ b) : a.log2 ≤ b.log2 := by
  by_cases ha : a = 0
  · subst ha; rw [Nat.log2_zero]; exact Nat.zero_le _
  · exact (Nat.le_log2 (by omega)).2 (Nat.le_trans (Nat.log2_self_le ha) h)
theorem rg_mono (fb k : Nat) {M N : Nat} (h : M ≤ N) : rg fb M k ≤ rg fb N k := by
  have hl := log2_mono h
  have h1 := rg_parts fb M k
  have h2 := rg_parts fb N k
  unfold rg
  generalize ha : M.log2 - (k + fb) = a at h1 ⊢
  generalize hb : N.log2 - (k + fb) = b at h2 ⊢
  have hab : a ≤ b := by omega
  rcases Nat.lt_or_ge a b with hlt | hge
  · have h3 := h2.2 (by omega)
    have h4 : (a + 1) * 2 ^ fb ≤ b * 2 ^ fb := Nat.mul_le_mul_right _ hlt
    have h5 : (2 : Nat) ^ (fb + 1) = 2 ^ fb * 2 := Nat.pow_succ ..
    rw [Nat.add_mul, Nat.one_mul] at h4
    have h6 := h1.1
    omega
  · have : a = b := Nat.le_antisymm hab hge
    subst this
    exact Nat.add_le_add_left (rne_mono _ _ _ (Nat.two_pow_pos _) h) _
/-- The value of a rung, in units of the least place. -/
def sv (fb r : Nat) : Nat := if r < 2 ^ fb then r else (2 ^ fb + r % 2 ^ fb) * 2 ^ (r / 2 ^ fb - 1)
theorem rg_exact (fb r k : Nat) : rg fb (sv fb r * 2 ^ k) k = r := by
  unfold sv
  have hB := Nat.two_pow_pos fb
  split
  · rename_i h
    by_cases h0 : r = 0
    · subst h0; rw [Nat.zero_mul, rg_zero]
    · have h1 : r.log2 < fb := (Nat.log2_lt h0).2 h
      unfold rg
      rw [log2_mul_pow r k h0, show r.log2 + k - (k + fb) = 0 by omega, Nat.zero_mul, Nat.zero_add, Nat.add_zero, rne_exact _ _ (Nat.two_pow_pos _)]
  · rename_i h
    have hm := Nat.mod_lt r hB
    have hq : 1 ≤ r / 2 ^ fb := (Nat.le_div_iff_mul_le hB).2 (by omega)
    have hd := Nat.div_add_mod r (2 ^ fb)
    generalize r % 2 ^ fb = m at *
    generalize r / 2 ^ fb = q at *
    have hne : 2 ^ fb + m ≠ 0 := by omega
    have hl : (2 ^ fb + m).log2 = fb := by
      have a := (Nat.le_log2 hne (k := fb)).2 (by omega)
      have b := (Nat.log2_lt hne (k := fb + 1)).2 (by rw [Nat.pow_succ]; omega)
      omega
    rw [Nat.mul_assoc, ← Nat.pow_add]
    unfold rg
    rw [log2_mul_pow _ _ hne, hl, show fb + (q - 1 + k) - (k + fb) = q - 1 by omega, show q - 1 + k = k + (q - 1) by omega, rne_exact _ _ (Nat.two_pow_pos _)]
    have : q * 2 ^ fb = (q - 1) * 2 ^ fb + 2 ^ fb := by rw [show q = (q - 1) + 1 by omega, Nat.add_mul, Nat.one_mul, Nat.add_sub_cancel]
    rw [Nat.mul_comm] at hd
    omega
theorem sv_mono (fb : Nat) {r q : Nat} (h : r < q) : sv fb r < sv fb q := by
  rcases Nat.lt_or_ge (sv fb r) (sv fb q) with h1 | h1
  · exact h1
  · have := rg_mono fb 0 h1
    have a := rg_exact fb q 0
    have b := rg_exact fb r 0
    rw [Nat.pow_zero, Nat.mul_one] at a b
    omega
theorem sv_le (fb : Nat) {r q : Nat} (h : r ≤ q) : sv fb r ≤ sv fb q := by
  rcases Nat.lt_or_ge r q with h1 | h1
  · exact Nat.le_of_lt (sv_mono fb h1)
  · rw [Nat.le_antisymm h h1]; exact Nat.le_refl _
theorem sv_zero (fb : Nat) : sv fb 0 = 0 := by unfold sv; rw [if_pos (Nat.two_pow_pos _)]
theorem sv_pos (fb : Nat) {r : Nat} (h : 0 < r) : 0 < sv fb r := by have := sv_mono fb h; rw [sv_zero] at this; exact this
theorem sv_lt_iff (fb r q : Nat) : sv fb r < sv fb q ↔ r < q := ⟨fun h => by
  rcases Nat.lt_or_ge r q with h1 | h1
  · exact h1
  · have := sv_le fb h1; omega, sv_mono fb⟩
/-- The number of rung r, with its sign. -/
def svs (fb : Nat) (s : Bool) (r : Nat) : Int := if s then -(sv fb r : Int) else (sv fb r : Int)
/-- x is the finite number of that sign and rung. -/
def Fin (f : Format) (x : Nat) (s : Bool) (r : Nat) : Prop := x = f.word s r ∧ r < f.infRung
theorem word_parts (f : Format) (s : Bool) (r : Nat) (h : r < f.signWeight) : ((f.word s r) / f.signWeight % 2 == 1) = s ∧ (f.word s r) % f.signWeight = r := by
  have hp : 0 < f.signWeight := Nat.two_pow_pos _
  unfold Format.word
  cases s
  · simp [Nat.div_eq_of_lt h, Nat.mod_eq_of_lt h]
  · rw [if_pos rfl, Nat.add_div_left _ hp, Nat.div_eq_of_lt h, Nat.add_mod_left, Nat.mod_eq_of_lt h]
    simp
theorem Fin.read {f : Format} {x r : Nat} {s : Bool} (h : Fin f x s r) : ∃ m p, f.read x = .number s m p ∧ f.leastPlace ≤ p ∧ m * 2 ^ (p - f.leastPlace).toNat = sv f.fractionBits r := by
  obtain ⟨rfl, hr⟩ := h
  have hw := word_parts f s r (Nat.lt_trans hr f.infRung_lt)
  unfold Format.read
  simp only [hw.1, hw.2]
  by_cases h1 : r < f.binade
  · refine ⟨r, f.leastPlace, by rw [if_pos h1], Int.le_refl _, ?_⟩
    unfold sv
    have : r < 2 ^ f.fractionBits := h1
    rw [if_pos this]; simp
  · refine ⟨_, _, by rw [if_neg h1, if_pos hr], by omega, ?_⟩
    unfold sv
    have : ¬ r < 2 ^ f.fractionBits := h1
    rw [if_neg this]
    unfold Format.binade
    congr 2
    omega
theorem signed_eq (fb : Nat) (s : Bool) (m r : Nat) (p base lp : Int) (h1 : lp ≤ base) (h2 : base ≤ p) (h : m * 2 ^ (p - lp).toNat = sv fb r) :
    signed s m (p - base).toNat * 2 ^ (base - lp).toNat = svs fb s r := by
  have e : m <<< (p - base).toNat * 2 ^ (base - lp).toNat = sv fb r := by
    rw [Nat.shiftLeft_eq, Nat.mul_assoc, ← Nat.pow_add, show (p - base).toNat + (base - lp).toNat = (p - lp).toNat by omega, h]
  unfold signed svs
  cases s
  · simp only [Bool.false_eq_true, if_false]; rw [← e]; push_cast; rfl
  · simp only [if_true]; rw [← e]; push_cast; rw [Int.neg_mul]
/-- The sum, rounded once. -/
theorem add_fin {f : Format} {x y r q : Nat} {s t : Bool} (hx : Fin f x s r) (hy : Fin f y t q) :
    f.add x y = some (f.word (if svs f.fractionBits s r + svs f.fractionBits t q = 0 then s && t else decide (svs f.fractionBits s r + svs f.fractionBits t q < 0)) (min (rg f.fractionBits (svs f.fractionBits s r + svs f.fractionBits t q).natAbs 0) f.infRung)) := by
  obtain ⟨m, i, rx, i1, hm⟩ := hx.read
  obtain ⟨n, j, ry, j1, hn⟩ := hy.read
  unfold Format.add
  rw [rx, ry]
  simp only [Datum.sum, Option.map_some, Format.write]
  have b1 : f.leastPlace ≤ min i j := by omega
  have s1 := signed_eq f.fractionBits s m r i (min i j) f.leastPlace b1 (by omega) hm
  have s2 := signed_eq f.fractionBits t n q j (min i j) f.leastPlace b1 (by omega) hn
  generalize signed s m (i - min i j).toNat = S at s1 ⊢
  generalize signed t n (j - min i j).toNat = T at s2 ⊢
  rw [nearest_eq f _ _ 0 _ (by omega)]
  have hs : (S + T) * 2 ^ (min i j - f.leastPlace).toNat = svs f.fractionBits s r + svs f.fractionBits t q := by rw [Int.add_mul, s1, s2]
  rw [← hs]
  have hpos : (0 : Int) < 2 ^ (min i j - f.leastPlace).toNat := Int.pow_pos (by omega)
  congr 2
  · by_cases h0 : S + T = 0
    · rw [if_pos h0, h0, Int.zero_mul, if_pos rfl]
    · have h1 : (S + T) * 2 ^ (min i j - f.leastPlace).toNat ≠ 0 := Int.mul_ne_zero h0 (by omega)
      rw [if_neg h0, if_neg h1]
      congr 1
      exact propext ⟨fun h => Int.mul_neg_of_neg_of_pos h hpos, fun h => by
        rcases Int.lt_or_le (S + T) 0 with h2 | h2
        · exact h2
        · have := Int.mul_nonneg h2 (Int.le_of_lt hpos); omega⟩
  · congr 2
    rw [Int.natAbs_mul, Int.natAbs_pow, Int.natCast_zero, Int.add_zero]; rfl
/-- The product, rounded once. -/
theorem mul_fin {f : Format} {x y r q : Nat} {s t : Bool} (K : Nat) (hK : (K : Int) = -f.leastPlace) (hx : Fin f x s r) (hy : Fin f y t q) :
    f.mul x y = some (f.word (s ^^ t) (min (rg f.fractionBits (sv f.fractionBits r * sv f.fractionBits q) K) f.infRung)) := by
  obtain ⟨m, i, rx, i1, hm⟩ := hx.read
  obtain ⟨n, j, ry, j1, hn⟩ := hy.read
  unfold Format.mul
  rw [rx, ry]
  simp only [Datum.product, Option.map_some, Format.write]
  rw [nearest_eq f _ _ K _ (by omega), ← hm, ← hn]
  congr 4
  rw [show (i + j - f.leastPlace + (K : Int)).toNat = (i - f.leastPlace).toNat + (j - f.leastPlace).toNat by omega, Nat.pow_add]
  simp only [Nat.mul_assoc, Nat.mul_left_comm]
/-- Which is the greater. -/
theorem order_fin {f : Format} {x y r q : Nat} {s t : Bool} (hx : Fin f x s r) (hy : Fin f y t q) :
    f.order x y = some (compare (svs f.fractionBits s r) (svs f.fractionBits t q)) := by
  obtain ⟨m, i, rx, i1, hm⟩ := hx.read
  obtain ⟨n, j, ry, j1, hn⟩ := hy.read
  unfold Format.order
  rw [rx, ry]
  simp only [Datum.order]
  have b1 : f.leastPlace ≤ min i j := by omega
  have s1 := signed_eq f.fractionBits s m r i (min i j) f.leastPlace b1 (by omega) hm
  have s2 := signed_eq f.fractionBits t n q j (min i j) f.leastPlace b1 (by omega) hn
  generalize signed s m (i - min i j).toNat = S at s1 ⊢
  generalize signed t n (j - min i j).toNat = T at s2 ⊢
  have hpos : (0 : Int) < 2 ^ (min i j - f.leastPlace).toNat := Int.pow_pos (by omega)
  rw [← s1, ← s2]
  congr 1
  generalize (2 : Int) ^ (min i j - f.leastPlace).toNat = c at hpos
  simp only [compare, compareOfLessAndEq]
  have e1 : (S * c < T * c) = (S < T) := propext ⟨fun h => Int.lt_of_mul_lt_mul_right h (Int.le_of_lt hpos), fun h => Int.mul_lt_mul_of_pos_right h hpos⟩
  have e2 : (S * c = T * c) = (S = T) := propext ⟨fun h => Int.eq_of_mul_eq_mul_right (by omega) h, fun h => by rw [h]⟩
  simp only [e1, e2]
end Go.Proofs.Ytknpcbekaodlkaa
