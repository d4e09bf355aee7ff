/- What was put is read, of any shorter beginning the reading is refused, and what is read is what is put: plain. -/
import Derived.Test.YtjkenhkoakaaoaaAskF
namespace Go.Proofs.Ytjkenhkoakaaoaa
open Go.RowKit
set_option linter.unusedVariables false
/-! the groups of a number -/
theorem numR_put : ∀ (k i y v0 : Nat) (r : List Nat), i + k = 9 → y < 2 ^ (7 * k + 1) → (i = 0 ∨ y ≠ 0) → numR (uvf k y ++ r) i v0 = .ok (v0 + y * 2 ^ (7 * i), i + (uvf k y).length)
  | 0, i, y, v0, r, hi, hy, h0 => by
    have : y < 2 := by simpa using hy
    simp only [uvf, List.cons_append, List.nil_append, numR, List.length_cons, List.length_nil]
    rw [if_neg (by omega), if_pos (by omega), if_neg (by omega), show y % 128 = y by omega]
  | k + 1, i, y, v0, r, hi, hy, h0 => by
    unfold uvf
    split
    · rename_i h
      simp only [List.cons_append, List.nil_append, numR, List.length_cons, List.length_nil]
      rw [if_neg (by omega), if_pos h, if_neg (by omega), show y % 128 = y by omega]
    · rename_i h
      have hq : y / 128 < 2 ^ (7 * k + 1) := by
        rw [show 7 * (k + 1) + 1 = (7 * k + 1) + 7 by omega, Nat.pow_add] at hy
        exact Nat.div_lt_of_lt_mul (by rw [Nat.mul_comm]; exact hy)
      simp only [List.cons_append, numR]
      rw [if_neg (by omega), if_neg (by omega), numR_put k (i + 1) (y / 128) _ r (by omega) hq (.inr (by omega)), List.length_cons]
      congr 2
      · rw [show 7 * (i + 1) = 7 + 7 * i by omega, Nat.pow_add, show (y % 128 + 128) % 128 = y % 128 by omega]
        have hd : y = y % 128 + y / 128 * 2 ^ 7 := by omega
        generalize 2 ^ (7 * i) = z
        conv => rhs; rw [hd]
        rw [Nat.add_mul, Nat.mul_assoc, Nat.add_assoc]
      · omega
theorem numR_cut : ∀ (k i y v0 j : Nat), i + k = 9 → y < 2 ^ (7 * k + 1) → (i = 0 ∨ y ≠ 0) → j < (uvf k y).length → numR ((uvf k y).take j) i v0 = .error 70
  | 0, i, y, v0, j, hi, hy, h0, hj => by
    have : j = 0 := by simp [uvf] at hj; omega
    subst this; rfl
  | k + 1, i, y, v0, j, hi, hy, h0, hj => by
    unfold uvf at hj ⊢
    split
    · rename_i h
      rw [if_pos h] at hj
      have : j = 0 := by simp at hj; omega
      subst this; rfl
    · rename_i h
      rw [if_neg h] at hj
      rcases j with _ | j
      · rfl
      have hq : y / 128 < 2 ^ (7 * k + 1) := by
        rw [show 7 * (k + 1) + 1 = (7 * k + 1) + 7 by omega, Nat.pow_add] at hy
        exact Nat.div_lt_of_lt_mul (by rw [Nat.mul_comm]; exact hy)
      simp only [List.take_succ_cons, numR]
      rw [if_neg (by omega), if_neg (by omega)]
      exact numR_cut k (i + 1) (y / 128) _ j (by omega) hq (.inr (by omega)) (by simpa using hj)
theorem numR_form : ∀ (l : List Nat) (i v0 x m : Nat), i ≤ 9 → (∀ y ∈ l, y < 256) → numR l i v0 = .ok (x, m) → ∃ y, x = v0 + y * 2 ^ (7 * i) ∧ l.take (m - i) = uvf (9 - i) y ∧ (i = 0 ∨ y ≠ 0) ∧ i < m
  | [], _, _, _, _, _, _, h => by cases h
  | c :: l, i, v0, x, m, hi, hl, h => by
    have hc := hl c (by simp)
    unfold numR at h
    split at h
    · cases h
    rename_i hbad
    split at h
    · rename_i hlt
      split at h
      · cases h
      rename_i h0
      cases h
      refine ⟨c, by rw [show c % 128 = c by omega], ?_, by omega, by omega⟩
      rw [show i + 1 - i = 1 by omega, List.take_succ_cons, List.take_zero]
      rcases Nat.eq_zero_or_pos (9 - i) with h9 | h9
      · rw [h9]; rfl
      · obtain ⟨q, hq⟩ : ∃ q, 9 - i = q + 1 := ⟨9 - i - 1, by omega⟩
        rw [hq]; unfold uvf; rw [if_pos hlt]
    · rename_i hge
      obtain ⟨y, hx, ht, hy, hm⟩ := numR_form l (i + 1) _ x m (by omega) (fun y hy => hl y (by simp [hy])) h
      have hy0 : y ≠ 0 := by omega
      refine ⟨c % 128 + y * 128, ?_, ?_, .inr (by omega), by omega⟩
      · rw [hx, show 7 * (i + 1) = 7 + 7 * i by omega, Nat.pow_add, Nat.add_mul, Nat.mul_assoc, Nat.add_assoc]
      · obtain ⟨q, hq⟩ : ∃ q, 9 - i = q + 1 := ⟨9 - i - 1, by omega⟩
        rw [hq, show m - i = (m - (i + 1)) + 1 by omega, List.take_succ_cons, ht, show 9 - (i + 1) = q by omega]
        conv => rhs; unfold uvf
        rw [if_neg (by omega), show (c % 128 + y * 128) / 128 = y by omega, show (c % 128 + y * 128) % 128 + 128 = c by omega]
/-! a number at a place -/
theorem numF_put (pre r : List Nat) (v : Nat) (hv : v < 2 ^ 64) : numF (pre ++ uv v ++ r) pre.length = .ok (v, pre.length + (uv v).length) := by
  unfold numF
  rw [List.append_assoc, List.drop_left]
  have := numR_put 9 0 v 0 r rfl hv (.inl rfl)
  unfold uv
  rw [this]
  simp
theorem numF_cut (pre : List Nat) (v j : Nat) (hv : v < 2 ^ 64) (hj : j < (uv v).length) : numF (pre ++ (uv v).take j) pre.length = .error 70 := by
  unfold numF
  rw [List.drop_left]
  have := numR_cut 9 0 v 0 j rfl hv (.inl rfl) hj
  unfold uv
  rw [this]
theorem numF_form (bs : List Nat) (at_ x a : Nat) (hb : ∀ y ∈ bs, y < 256) (h : numF bs at_ = .ok (x, a)) : (bs.drop at_).take (a - at_) = uv x ∧ at_ < a := by
  unfold numF at h
  split at h
  · rename_i v m hr
    cases h
    obtain ⟨y, hx, ht, _, hm⟩ := numR_form _ 0 0 _ _ (by omega) (fun y hy => hb y (List.mem_of_mem_drop hy)) hr
    have : x = y := by rw [hx]; simp
    subst this
    rw [show at_ + m - at_ = m - 0 by omega, ht]
    exact ⟨rfl, by omega⟩
  · cases h
/-! bytes -/
theorem takeF_put (pre p r : List Nat) : takeF (pre ++ p ++ r) pre.length p.length = .ok (p, pre.length + p.length) := by
  unfold takeF
  rw [if_pos (by simp), List.append_assoc, List.drop_left, List.take_left]
theorem takeF_cut (pre p : List Nat) (j : Nat) (hj : j < p.length) : takeF (pre ++ p.take j) pre.length p.length = .error 70 := by
  unfold takeF
  rw [if_neg (by simp; omega)]
theorem takeF_form (bs : List Nat) (at_ k a : Nat) (l : List Nat) (h : takeF bs at_ k = .ok (l, a)) : l = (bs.drop at_).take k ∧ a = at_ + k ∧ (k = 0 ∨ at_ + k ≤ bs.length) ∧ l.length = k := by
  unfold takeF at h
  split at h
  · rename_i hk; cases h; exact ⟨rfl, rfl, by omega, by rw [List.length_take, List.length_drop]; omega⟩
  · cases h
/-- Two pieces that follow one another. -/
theorem cut_two (bs : List Nat) (a b c : Nat) (h1 : a ≤ b) (h2 : b ≤ c) : (bs.drop a).take (c - a) = (bs.drop a).take (b - a) ++ (bs.drop b).take (c - b) := by
  have e : c - a = (b - a) + (c - b) := by omega
  rw [e, List.take_add, List.drop_drop, show a + (b - a) = b by omega]
theorem fx_cons (k c r : Nat) (hc : c < 256) : fx (k + 1) (c + 256 * r) = c :: fx k r := by
  unfold fx
  rw [List.range_succ_eq_map, List.map_cons, List.map_map]
  congr 1
  · simp; omega
  · refine List.map_congr_left fun i _ => ?_
    simp only [Function.comp]
    rw [show 8 * (i + 1) = 8 + 8 * i by omega, Nat.pow_add, ← Nat.div_div_eq_div_mul, show (c + 256 * r) / 2 ^ 8 = r by omega]
theorem fx_le256 : ∀ (l : List Nat), (∀ x ∈ l, x < 256) → fx l.length (le256 l) = l
  | [], _ => rfl
  | c :: l, h => by
    rw [List.length_cons, le256, fx_cons _ _ _ (h c (by simp)), fx_le256 l fun x hx => h x (by simp [hx])]
theorem fx_zero (k : Nat) : le256 (fx k 0) = 0 := by
  induction k with
  | zero => rfl
  | succ k ih =>
    have := fx_cons k 0 0 (by omega)
    simp only [Nat.zero_add, Nat.mul_zero] at this
    rw [this, le256, ih]
theorem le256_fx : ∀ (k v : Nat), le256 (fx k v) = v % 256 ^ k
  | 0, v => by simp [fx, le256, Nat.mod_one]
  | k + 1, v => by
    have h := fx_cons k (v % 256) (v / 256) (by omega)
    rw [show v % 256 + 256 * (v / 256) = v by omega] at h
    rw [h, le256, le256_fx k, Nat.pow_succ, Nat.mul_comm (256 ^ k) 256, Nat.mod_mul]
theorem fixF_put (pre r : List Nat) (k v : Nat) (hv : v < 256 ^ k) : fixF (pre ++ fx k v ++ r) pre.length k = .ok (v, pre.length + (fx k v).length) := by
  unfold fixF
  have := takeF_put pre (fx k v) r
  rw [fx_len] at this
  rw [this]
  simp only
  rw [le256_fx, Nat.mod_eq_of_lt hv, fx_len]
theorem fixF_cut (pre : List Nat) (k v j : Nat) (hj : j < k) : fixF (pre ++ (fx k v).take j) pre.length k = .error 70 := by
  unfold fixF
  have := takeF_cut pre (fx k v) j (by rw [fx_len]; exact hj)
  rw [fx_len] at this
  rw [this]
theorem fixF_form (bs : List Nat) (at_ k x a : Nat) (hb : ∀ y ∈ bs, y < 256) (h : fixF bs at_ k = .ok (x, a)) : (bs.drop at_).take (a - at_) = fx k x ∧ at_ ≤ a := by
  unfold fixF at h
  split at h
  · rename_i l a' ht
    cases h
    obtain ⟨hl, ha, _, hk⟩ := takeF_form _ _ _ _ _ ht
    have := fx_le256 l fun y hy => hb y (by rw [hl] at hy; exact List.mem_of_mem_drop (List.mem_of_mem_take hy))
    rw [hk] at this
    rw [this, ha, show at_ + k - at_ = k by omega, hl]
    exact ⟨rfl, by omega⟩
  · cases h
/-! blocks -/
def blk (p : List Nat) : List Nat := uv p.length ++ p
theorem blockF_put (pre r p : List Nat) (most : Nat) (hp : p.length ≤ most) (h64 : p.length < 2 ^ 64) : blockF (pre ++ blk p ++ r) pre.length most = .ok (p, pre.length + (blk p).length) := by
  unfold blockF blk
  have h1 := numF_put pre (p ++ r) p.length h64
  rw [show pre ++ (uv p.length ++ p) ++ r = pre ++ uv p.length ++ (p ++ r) by simp, h1]
  simp only
  rw [if_pos hp]
  have h2 := takeF_put (pre ++ uv p.length) p r
  rw [show pre ++ uv p.length ++ (p ++ r) = pre ++ uv p.length ++ p ++ r by simp]
  rw [List.length_append] at h2
  rw [h2, List.length_append, Nat.add_assoc]
theorem blockF_cut (pre p : List Nat) (most j : Nat) (hp : p.length ≤ most) (h64 : p.length < 2 ^ 64) (hj : j < (blk p).length) : blockF (pre ++ (blk p).take j) pre.length most = .error 70 := by
  unfold blk at hj ⊢
  rw [List.length_append] at hj
  unfold blockF
  rcases Nat.lt_or_ge j (uv p.length).length with h | h
  · rw [List.take_append_of_le_length (by omega), numF_cut pre p.length j h64 h]
  · rw [List.take_append, List.take_of_length_le h]
    have h1 := numF_put pre (p.take (j - (uv p.length).length)) p.length h64
    rw [List.append_assoc] at h1
    rw [h1]
    simp only
    rw [if_pos hp]
    have h2 := takeF_cut (pre ++ uv p.length) p (j - (uv p.length).length) (by omega)
    rw [List.length_append, List.append_assoc] at h2
    exact h2
theorem blockF_form (bs : List Nat) (at_ most a : Nat) (l : List Nat) (hb : ∀ y ∈ bs, y < 256) (h : blockF bs at_ most = .ok (l, a)) : (bs.drop at_).take (a - at_) = blk l ∧ at_ ≤ a := by
  unfold blockF at h
  split at h
  · rename_i k a1 hn
    split at h
    · obtain ⟨h1, h2⟩ := numF_form bs at_ k a1 hb hn
      obtain ⟨hl, ha, _, hk⟩ := takeF_form _ _ _ _ _ h
      refine ⟨?_, by omega⟩
      rw [cut_two bs at_ a1 a (by omega) (by omega), h1, show a - a1 = k by omega, ← hl]
      unfold blk
      rw [hk]
    · cases h
  · cases h
/-! texts -/
def rws (ts : List (List Nat)) : List Nat := ts.flatMap blk
theorem rws_cons (t : List Nat) (ts : List (List Nat)) : rws (t :: ts) = blk t ++ rws ts := rfl
theorem rowsF_put (each : Nat) : ∀ (ts : List (List Nat)) (pre r : List Nat), (∀ t ∈ ts, t.length ≤ each ∧ t.length < 2 ^ 64) → rowsF (pre ++ rws ts ++ r) each ts.length pre.length = .ok (ts, pre.length + (rws ts).length)
  | [], pre, r, _ => by simp [rowsF, rws]
  | t :: ts, pre, r, h => by
    have ht := h t (by simp)
    have h1 := blockF_put pre (rws ts ++ r) t each ht.1 ht.2
    have h2 := rowsF_put each ts (pre ++ blk t) r fun x hx => h x (by simp [hx])
    rw [rws_cons, List.length_cons]
    unfold rowsF
    rw [show pre ++ (blk t ++ rws ts) ++ r = pre ++ blk t ++ (rws ts ++ r) by simp, h1]
    simp only
    rw [show pre ++ blk t ++ (rws ts ++ r) = pre ++ blk t ++ rws ts ++ r by simp]
    rw [List.length_append] at h2
    rw [h2]
    simp only [List.length_append, Nat.add_assoc]
theorem rowsF_cut (each : Nat) : ∀ (ts : List (List Nat)) (pre : List Nat) (j : Nat), (∀ t ∈ ts, t.length ≤ each ∧ t.length < 2 ^ 64) → j < (rws ts).length → rowsF (pre ++ (rws ts).take j) each ts.length pre.length = .error 70
  | [], pre, j, _, hj => by simp [rws] at hj
  | t :: ts, pre, j, h, hj => by
    have ht := h t (by simp)
    rw [rws_cons, List.length_append] at hj
    rw [rws_cons, List.length_cons]
    unfold rowsF
    rcases Nat.lt_or_ge j (blk t).length with hlt | hge
    · rw [List.take_append_of_le_length (by omega), blockF_cut pre t each j ht.1 ht.2 hlt]
    · have h1 := blockF_put pre ((rws ts).take (j - (blk t).length)) t each ht.1 ht.2
      have h2 := rowsF_cut each ts (pre ++ blk t) (j - (blk t).length) (fun x hx => h x (by simp [hx])) (by omega)
      rw [List.take_append, List.take_of_length_le hge]
      rw [List.append_assoc] at h1
      rw [h1]
      simp only
      rw [List.length_append, List.append_assoc] at h2
      rw [h2]
theorem rowsF_form (bs : List Nat) (each : Nat) (hb : ∀ y ∈ bs, y < 256) : ∀ (k at_ a : Nat) (l : List (List Nat)), rowsF bs each k at_ = .ok (l, a) → (bs.drop at_).take (a - at_) = rws l ∧ at_ ≤ a ∧ l.length = k
  | 0, at_, a, l, h => by cases h; simp [rws]
  | k + 1, at_, a, l, h => by
    unfold rowsF at h
    split at h
    · cases h
    rename_i b a1 hb1
    split at h
    · cases h
    rename_i l2 a2 hr
    cases h
    obtain ⟨h1, h2⟩ := blockF_form bs at_ each a1 b hb hb1
    obtain ⟨h3, h4, h5⟩ := rowsF_form bs each hb k a1 a l2 hr
    refine ⟨?_, by omega, by simp [h5]⟩
    rw [cut_two bs at_ a1 a h2 h4, h1, h3, rws_cons]
def txts (ts : List (List Nat)) : List Nat := uv ts.length ++ rws ts
theorem textsF_put (pre r : List Nat) (ts : List (List Nat)) (most each : Int) (h0 : ts.length ≤ most.toNat) (hm : 0 ≤ most) (he : 0 ≤ each) (h : ∀ t ∈ ts, t.length ≤ each.toNat ∧ t.length < 2 ^ 64) (h64 : ts.length < 2 ^ 64) :
    textsF (pre ++ txts ts ++ r) pre.length most each = .ok (ts, pre.length + (txts ts).length) := by
  unfold textsF txts
  rw [if_neg (by omega)]
  have h1 := numF_put pre (rws ts ++ r) ts.length h64
  rw [show pre ++ (uv ts.length ++ rws ts) ++ r = pre ++ uv ts.length ++ (rws ts ++ r) by simp, h1]
  simp only
  rw [if_pos h0]
  have h2 := rowsF_put each.toNat ts (pre ++ uv ts.length) r h
  rw [show pre ++ uv ts.length ++ (rws ts ++ r) = pre ++ uv ts.length ++ rws ts ++ r by simp]
  rw [List.length_append] at h2
  rw [h2, List.length_append, Nat.add_assoc]
theorem textsF_cut (pre : List Nat) (ts : List (List Nat)) (most each : Int) (j : Nat) (h0 : ts.length ≤ most.toNat) (hm : 0 ≤ most) (he : 0 ≤ each) (h : ∀ t ∈ ts, t.length ≤ each.toNat ∧ t.length < 2 ^ 64) (h64 : ts.length < 2 ^ 64) (hj : j < (txts ts).length) :
    textsF (pre ++ (txts ts).take j) pre.length most each = .error 70 := by
  unfold txts at hj ⊢
  rw [List.length_append] at hj
  unfold textsF
  rw [if_neg (by omega)]
  rcases Nat.lt_or_ge j (uv ts.length).length with hlt | hge
  · rw [List.take_append_of_le_length (by omega), numF_cut pre ts.length j h64 hlt]
  · rw [List.take_append, List.take_of_length_le hge]
    have h1 := numF_put pre ((rws ts).take (j - (uv ts.length).length)) ts.length h64
    rw [List.append_assoc] at h1
    rw [h1]
    simp only
    rw [if_pos h0]
    have h2 := rowsF_cut each.toNat ts (pre ++ uv ts.length) (j - (uv ts.length).length) h (by omega)
    rw [List.length_append, List.append_assoc] at h2
    exact h2
theorem textsF_form (bs : List Nat) (at_ : Nat) (most each : Int) (a : Nat) (l : List (List Nat)) (hb : ∀ y ∈ bs, y < 256) (h : textsF bs at_ most each = .ok (l, a)) : (bs.drop at_).take (a - at_) = txts l ∧ at_ ≤ a := by
  unfold textsF at h
  split at h
  · cases h
  split at h
  · cases h
  rename_i k a1 hn
  split at h
  · obtain ⟨h1, h2⟩ := numF_form bs at_ k a1 hb hn
    obtain ⟨h3, h4, h5⟩ := rowsF_form bs each.toNat hb k a1 a l h
    refine ⟨?_, by omega⟩
    rw [cut_two bs at_ a1 a (by omega) h4, h1, h3]
    unfold txts
    rw [h5]
  · cases h
end Go.Proofs.Ytjkenhkoakaaoaa
