/- The long division leaves what the register is: gn = ov. Plain. -/
import Derived.Test.YtbcmjjcbjojakaaGone
import Derived.Laws.BitsAllLaws
namespace Go.Proofs.Ytbcmjjcbjojakaa
namespace Crc
/-- Bit q of x. -/
def bt (x q : Nat) : Nat := x / 2 ^ q % 2
theorem bt_tb (x q : Nat) : bt x q = (x.testBit q).toNat := (Nat.toNat_testBit x q).symm
theorem bt_xor (x y q : Nat) : bt (x ^^^ y) q = bt x q ^^^ bt y q := by
  rw [bt_tb, bt_tb, bt_tb, Nat.testBit_xor]
  cases x.testBit q <;> cases y.testBit q <;> rfl
theorem bt_lt (x q : Nat) : bt x q < 2 := by unfold bt; omega
theorem bt_big (x q : Nat) (h : x < 2 ^ q) : bt x q = 0 := by unfold bt; rw [Nat.div_eq_of_lt h]
theorem bt_half (x q : Nat) : bt (x / 2) q = bt x (q + 1) := by unfold bt; rw [Nat.div_div_eq_div_mul, Nat.pow_succ, Nat.mul_comm]
theorem bt_zero (x : Nat) : bt x 0 = x % 2 := by simp [bt]
theorem rx_hi (r : Nat) (L : List Nat) : ∀ (j p : Nat), j ≤ p → (rx r L j).getD p 0 = L.getD p 0
  | 0, p, _ => rfl
  | j + 1, p, h => by simp only [rx]; rw [getD_set, if_neg (by omega), rx_hi r L j p (by omega)]
theorem rx_lo (r : Nat) (L : List Nat) : ∀ (j p : Nat), p < j → p < L.length → (rx r L j).getD p 0 = L.getD p 0 ^^^ bt r p
  | 0, p, h, _ => by omega
  | j + 1, p, h, hp => by
    simp only [rx]
    rw [getD_set, rx_len]
    by_cases e : j = p
    · subst e; rw [if_pos ⟨rfl, hp⟩, rx_hi r L j j (Nat.le_refl _)]; rfl
    · rw [if_neg (by omega), rx_lo r L j p (by omega) hp]
theorem trm_new : ∀ k, k < 18 → trm.getD k 0 ∉ trm.take k := by decide
theorem trm_take : ∀ k, k < 18 → trm.take (k + 1) = trm.take k ++ [trm.getD k 0] := by decide
theorem tg_get (L : List Nat) (i p : Nat) (hp : p < L.length) : ∀ k, k ≤ 18 → (tg L i k).getD p 0 = L.getD p 0 ^^^ (if i ≤ p ∧ (p - i) ∈ trm.take k then 1 else 0)
  | 0, _ => by simp [tg]
  | k + 1, hk => by
    have ih := tg_get L i p hp k (by omega)
    have hn := trm_new k (by omega)
    simp only [tg, tog]
    rw [getD_set, tg_len, trm_take k (by omega)]
    by_cases e : i + trm.getD k 0 = p
    · rw [if_pos ⟨e, by omega⟩, e, ih]
      have e2 : p - i = trm.getD k 0 := by omega
      rw [e2, if_neg (by intro h; exact hn h.2), if_pos ⟨by omega, by simp⟩, Nat.xor_zero]
    · rw [if_neg (by intro h; exact e h.1), ih]
      congr 1
      by_cases hi : i ≤ p
      · have hne : ¬ p - i = trm.getD k 0 := by omega
        by_cases hm : p - i ∈ trm.take k
        · rw [if_pos ⟨hi, hm⟩, if_pos ⟨hi, List.mem_append.2 (.inl hm)⟩]
        · rw [if_neg (fun h => hm h.2), if_neg]
          rintro ⟨_, h⟩
          rcases List.mem_append.1 h with h | h
          · exact hm h
          · exact hne (List.mem_singleton.1 h)
      · rw [if_neg (fun h => hi h.1), if_neg (fun h => hi h.1)]
theorem M_bits : ∀ q, q < 32 → bt M q = if (q + 1) ∈ trm then 1 else 0 := by decide
theorem trm_no : ∀ t, t ∈ trm → t ≤ 32 := by decide
/-- The register gone over bits. -/
def sbq (r : Nat) (l : List Nat) : Nat := l.foldl (fun r m => T (r ^^^ m)) r
theorem sbq_lt : ∀ (l : List Nat) (r : Nat), r < 2 ^ 32 → (∀ x ∈ l, x < 2) → sbq r l < 2 ^ 32
  | [], _, h, _ => h
  | x :: l, r, h, hl => by
    have hx : x < 2 := hl x (List.mem_cons_self ..)
    exact sbq_lt l _ (T_lt _ (Nat.xor_lt_two_pow h (by omega))) (fun y hy => hl y (List.mem_cons_of_mem _ hy))
theorem T_bit (x q : Nat) (_hx : x < 2 ^ 32) (hq : q < 32) : bt (T x) q = bt x (q + 1) ^^^ (if x % 2 = 1 ∧ (q + 1) ∈ trm then 1 else 0) := by
  unfold T
  split
  · rename_i h
    rw [bt_xor, bt_half, M_bits q hq]; simp [h]
  · rename_i h
    rw [bt_half]; simp [h]
theorem gl_win (r : Nat) (L0 : List Nat) (n : Nat) (hr : r < 2 ^ 32) (hL : L0.length = n + 32) (hb : Bin L0) :
    ∀ i, i ≤ n → ∀ p, i ≤ p → p < n + 32 → (gl (rx r L0 32) i).getD p 0 = L0.getD p 0 ^^^ (if p < i + 32 then bt (sbq r (L0.take i)) (p - i) else 0)
  | 0, _, p, _, hp => by
    simp only [gl, List.take_zero, sbq, List.foldl_nil, Nat.zero_add, Nat.sub_zero]
    by_cases h : p < 32
    · rw [rx_lo r L0 32 p h (by omega), if_pos h]
    · rw [rx_hi r L0 32 p (by omega), if_neg h, Nat.xor_zero]
  | i + 1, hi, p, hip, hp => by
    have ih := gl_win r L0 n hr hL hb i (by omega)
    have hbt : L0.take (i + 1) = L0.take i ++ [L0.getD i 0] := by
      rw [List.take_succ_eq_append_getElem (by omega), List.getD_eq_getElem?_getD, List.getElem?_eq_getElem (by omega)]; rfl
    have hS : sbq r (L0.take i) < 2 ^ 32 := sbq_lt _ _ hr (fun x hx => by
      have hx' := List.mem_of_mem_take hx
      obtain ⟨j, hj, rfl⟩ := List.getElem_of_mem hx'
      have := hb j
      rw [List.getD_eq_getElem?_getD, List.getElem?_eq_getElem hj] at this
      exact this)
    have hstep : sbq r (L0.take (i + 1)) = T (sbq r (L0.take i) ^^^ L0.getD i 0) := by rw [hbt]; unfold sbq; rw [List.foldl_append]; rfl
    rw [hstep]
    generalize sbq r (L0.take i) = S at *
    have hm := hb i
    have h0 := ih i (Nat.le_refl _) (by omega)
    rw [if_pos (by omega), Nat.sub_self, bt_zero] at h0
    have hx : S ^^^ L0.getD i 0 < 2 ^ 32 := Nat.xor_lt_two_pow hS (by omega)
    have hodd : (gl (rx r L0 32) i).getD i 0 = (S ^^^ L0.getD i 0) % 2 := by
      rw [h0, ← bt_zero, ← bt_zero (S ^^^ L0.getD i 0), bt_xor, bt_zero (L0.getD i 0), Nat.mod_eq_of_lt hm, Nat.xor_comm]
    have hlen : (gl (rx r L0 32) i).length = n + 32 := by rw [gl_len, rx_len, hL]
    have hp' := ih p (by omega) hp
    have hbit : ∀ q, 1 ≤ q → bt (S ^^^ L0.getD i 0) q = bt S q := by
      intro q hq
      have : 2 ≤ 2 ^ q := by
        have : 2 ^ 1 ≤ 2 ^ q := Nat.pow_le_pow_right (by omega) hq
        omega
      rw [bt_xor, bt_big (L0.getD i 0) q (by omega), Nat.xor_zero]
    have main : (gl (rx r L0 32) (i + 1)).getD p 0 = (gl (rx r L0 32) i).getD p 0 ^^^ (if (S ^^^ L0.getD i 0) % 2 = 1 ∧ (p - i) ∈ trm then 1 else 0) := by
      simp only [gl]
      by_cases h : (gl (rx r L0 32) i).getD i 0 = 1
      · rw [if_pos h, tg_get _ i p (by omega) 18 (by omega)]
        have e : trm.take 18 = trm := rfl
        rw [e]
        have h2 : (S ^^^ L0.getD i 0) % 2 = 1 := by omega
        by_cases hmm : p - i ∈ trm
        · rw [if_pos ⟨by omega, hmm⟩, if_pos ⟨h2, hmm⟩]
        · rw [if_neg (fun h => hmm h.2), if_neg (fun h => hmm h.2)]
      · rw [if_neg h]
        rw [if_neg (fun h2 => by omega), Nat.xor_zero]
    rw [main, hp', Nat.xor_assoc]
    congr 1
    by_cases h33 : p < i + 1 + 32
    · rw [if_pos h33, T_bit _ _ hx (by omega), show p - (i + 1) + 1 = p - i by omega, hbit _ (by omega)]
      congr 1
      by_cases h32 : p < i + 32
      · rw [if_pos h32]
      · rw [if_neg h32, show p - i = 32 by omega, bt_big S 32 hS]
    · rw [if_neg h33, if_neg (by omega), if_neg, Nat.xor_zero]
      intro h
      have := trm_no _ h.2
      omega
theorem rs_eq (L : List Nat) (n S : Nat) (h : ∀ q, q < 32 → L.getD (n + q) 0 = bt S q) : ∀ j, j ≤ 32 → rs L n j = S % 2 ^ j
  | 0, _ => by simp [rs, Nat.mod_one]
  | j + 1, hj => by
    simp only [rs]
    rw [rs_eq L n S h j (by omega), h j (by omega), Nat.or_comm, nat_join j _ _ (Nat.mul_mod_left _ _) (Nat.mod_lt _ (Nat.two_pow_pos j)), Nat.mod_pow_succ, Nat.mul_comm]
    unfold bt; omega
def bk (k x : Nat) : List Nat := (List.range k).map fun j => x / 2 ^ j % 2
theorem bk_succ (k x : Nat) : bk (k + 1) x = x % 2 :: bk k (x / 2) := by
  unfold bk
  rw [List.range_succ_eq_map, List.map_cons, List.map_map]
  simp only [Nat.pow_zero, Nat.div_one, List.cons.injEq, true_and]
  refine List.map_congr_left fun j _ => ?_
  simp only [Function.comp]
  rw [Nat.div_div_eq_div_mul, Nat.pow_succ, Nat.mul_comm]
theorem sbq_bk : ∀ (k x r : Nat), x < 2 ^ k → sbq r (bk k x) = itT k (r ^^^ x)
  | 0, x, r, h => by
    have : x = 0 := by simp at h; exact h
    subst this; simp [bk, sbq, itT]
  | k + 1, x, r, h => by
    have e : sbq r (bk (k + 1) x) = sbq (T (r ^^^ x % 2)) (bk k (x / 2)) := by rw [bk_succ]; rfl
    rw [e, sbq_bk k (x / 2) _ (by rw [Nat.pow_succ] at h; omega)]
    show _ = itT k (T (r ^^^ x))
    congr 1
    have hx : x = x % 2 ^^^ 2 * (x / 2) := by
      have := xor_split 1 x
      simp only [Nat.pow_one] at this
      rw [Nat.xor_comm]; exact this
    have e2 : T (r ^^^ x) = T (r ^^^ (x % 2 ^^^ 2 * (x / 2))) := by rw [← hx]
    rw [e2, ← Nat.xor_assoc, T_xor (r ^^^ x % 2), T_double]
theorem sbq_bts : ∀ (l : List Nat) (r : Nat), (∀ x ∈ l, x < 256) → sbq r (bts l) = ov r l
  | [], _, _ => rfl
  | x :: l, r, h => by
    have hx : x < 256 := h x (List.mem_cons_self ..)
    rw [show bts (x :: l) = bk 8 x ++ bts l from rfl]
    have : sbq r (bk 8 x ++ bts l) = sbq (sbq r (bk 8 x)) (bts l) := by unfold sbq; rw [List.foldl_append]
    rw [this, sbq_bk 8 x r hx, sbq_bts l _ (fun y hy => h y (List.mem_cons_of_mem _ hy))]
    rfl
theorem gn_ov (r : Nat) (l : List Nat) (hr : r < 2 ^ 32) (hl : ∀ x ∈ l, x < 256) : gn r l = ov r l := by
  have hlen : (bts l ++ List.replicate 32 0).length = 8 * l.length + 32 := by rw [List.length_append, bts_len, List.length_replicate]
  have hw := gl_win r _ (8 * l.length) hr hlen (bts_bin l) (8 * l.length) (Nat.le_refl _)
  have ht : (bts l ++ List.replicate 32 0).take (8 * l.length) = bts l := by rw [← bts_len l, List.take_left]
  rw [ht, sbq_bts l r hl] at hw
  unfold gn
  rw [rs_eq _ _ (ov r l) (fun q hq => ?_) 32 (Nat.le_refl _), Nat.mod_eq_of_lt (ov_lt l r hr hl)]
  rw [hw (8 * l.length + q) (by omega) (by omega), if_pos (by omega), Nat.add_sub_cancel_left]
  have : (bts l ++ List.replicate 32 0).getD (8 * l.length + q) 0 = 0 := by
    rw [List.getD_eq_getElem?_getD, List.getElem?_append_right (by rw [bts_len]; omega), bts_len, Nat.add_sub_cancel_left, List.getElem?_replicate]
    simp [hq]
  rw [this, Nat.zero_xor]
end Crc
end Go.Proofs.Ytbcmjjcbjojakaa
