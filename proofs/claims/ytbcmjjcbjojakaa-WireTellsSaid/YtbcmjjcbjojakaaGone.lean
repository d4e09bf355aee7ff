/- Long division bit by bit as the reference does it on a list of bits: plain. -/
import Derived.Test.YtbcmjjcbjojakaaCrc
namespace Go.Proofs.Ytbcmjjcbjojakaa
namespace Crc
def trm : List Nat := [0, 4, 5, 6, 7, 9, 10, 12, 13, 14, 18, 19, 21, 22, 23, 24, 26, 32]
def rx (r : Nat) (L : List Nat) : Nat → List Nat
  | 0 => L
  | j + 1 => (rx r L j).set j ((rx r L j).getD j 0 ^^^ r / 2 ^ j % 2)
def tog (L : List Nat) (p : Nat) : List Nat := L.set p (L.getD p 0 ^^^ 1)
def tg (L : List Nat) (i : Nat) : Nat → List Nat
  | 0 => L
  | k + 1 => tog (tg L i k) (i + trm.getD k 0)
def gl (L : List Nat) : Nat → List Nat
  | 0 => L
  | i + 1 => if (gl L i).getD i 0 = 1 then tg (gl L i) i 18 else gl L i
def rs (L : List Nat) (n : Nat) : Nat → Nat
  | 0 => 0
  | j + 1 => rs L n j ||| L.getD (n + j) 0 * 2 ^ j
def Bin (L : List Nat) : Prop := ∀ j, L.getD j 0 < 2
theorem xor_lt2 {a b : Nat} (ha : a < 2) (hb : b < 2) : a ^^^ b < 2 := Nat.xor_lt_two_pow (n := 1) ha hb
theorem getD_set (L : List Nat) (p x j : Nat) : (L.set p x).getD j 0 = if p = j ∧ p < L.length then x else L.getD j 0 := by
  rw [List.getD_eq_getElem?_getD, List.getD_eq_getElem?_getD, List.getElem?_set]
  by_cases h : p = j
  · subst h
    by_cases h2 : p < L.length
    · simp [h2]
    · simp [h2]
  · simp [h]
theorem bin_set {L : List Nat} (h : Bin L) {p x : Nat} (hx : x < 2) : Bin (L.set p x) := by
  intro j; rw [getD_set]; split
  · exact hx
  · exact h j
theorem rx_len (r : Nat) (L : List Nat) : ∀ j, (rx r L j).length = L.length
  | 0 => rfl
  | j + 1 => by simp only [rx, List.length_set, rx_len r L j]
theorem rx_bin (r : Nat) (L : List Nat) (h : Bin L) : ∀ j, Bin (rx r L j)
  | 0 => h
  | j + 1 => bin_set (rx_bin r L h j) (xor_lt2 (rx_bin r L h j j) (by omega))
theorem tg_len (L : List Nat) (i : Nat) : ∀ k, (tg L i k).length = L.length
  | 0 => rfl
  | k + 1 => by simp only [tg, tog, List.length_set, tg_len L i k]
theorem tg_bin (L : List Nat) (i : Nat) (h : Bin L) : ∀ k, Bin (tg L i k)
  | 0 => h
  | k + 1 => bin_set (tg_bin L i h k) (xor_lt2 (tg_bin L i h k _) (by omega))
theorem gl_len (L : List Nat) : ∀ i, (gl L i).length = L.length
  | 0 => rfl
  | i + 1 => by simp only [gl]; split <;> simp only [tg_len, gl_len L i]
theorem gl_bin (L : List Nat) (h : Bin L) : ∀ i, Bin (gl L i)
  | 0 => h
  | i + 1 => by
    simp only [gl]; split
    · exact tg_bin _ _ (gl_bin L h i) _
    · exact gl_bin L h i
theorem rs_lt (L : List Nat) (n : Nat) (h : Bin L) : ∀ j, rs L n j < 2 ^ j
  | 0 => by simp [rs]
  | j + 1 => by
    have h1 := rs_lt L n h j
    have h2 := h (n + j)
    simp only [rs]
    refine Nat.or_lt_two_pow (Nat.lt_of_lt_of_le h1 (Nat.pow_le_pow_right (by omega) (by omega))) ?_
    rw [Nat.pow_succ, Nat.mul_comm]
    exact Nat.mul_lt_mul_of_pos_left h2 (Nat.two_pow_pos j)
theorem trm_le : ∀ k, k < 18 → trm.getD k 0 ≤ 32 := by decide
/-- The bits of a byte in order; of bytes. -/
def b8 (x : Nat) : List Nat := (List.range 8).map fun k => x / 2 ^ k % 2
def bts (l : List Nat) : List Nat := l.flatMap b8
theorem bts_append (a b : List Nat) : bts (a ++ b) = bts a ++ bts b := List.flatMap_append
theorem b8_len (x : Nat) : (b8 x).length = 8 := by simp [b8]
theorem bts_len : ∀ (l : List Nat), (bts l).length = 8 * l.length
  | [] => rfl
  | x :: l => by rw [show x :: l = [x] ++ l from rfl, bts_append]; simp only [List.length_append, bts_len l]; simp [bts, b8_len]; omega
theorem b8_take (x j : Nat) (h : j < 8) : (b8 x).take (j + 1) = (b8 x).take j ++ [x / 2 ^ j % 2] := by
  rw [List.take_succ_eq_append_getElem (by rw [b8_len]; exact h)]; simp [b8]
theorem bts_mem : ∀ (l : List Nat), ∀ x ∈ bts l, x < 2
  | [], x, h => by simp [bts] at h
  | y :: l, x, h => by
    rw [show y :: l = [y] ++ l from rfl, bts_append] at h
    rcases List.mem_append.1 h with h | h
    · simp only [bts, List.flatMap_cons, List.flatMap_nil, List.append_nil, b8, List.mem_map] at h
      obtain ⟨k, _, rfl⟩ := h
      omega
    · exact bts_mem l x h
theorem bin_of_mem {L : List Nat} (h : ∀ x ∈ L, x < 2) : Bin L := by
  intro j
  rw [List.getD_eq_getElem?_getD]
  rcases Nat.lt_or_ge j L.length with hj | hj
  · rw [List.getElem?_eq_getElem hj]; exact h _ (List.getElem_mem hj)
  · rw [List.getElem?_eq_none hj]; simp
theorem bts_bin (l : List Nat) : Bin (bts l ++ List.replicate 32 0) := bin_of_mem fun x hx => by
  rcases List.mem_append.1 hx with h | h
  · exact bts_mem l x h
  · rw [(List.mem_replicate.1 h).2]; omega
/-- What the reference's gone computes. -/
def gn (r : Nat) (l : List Nat) : Nat := rs (gl (rx r (bts l ++ List.replicate 32 0) 32) (8 * l.length)) (8 * l.length) 32
end Crc
end Go.Proofs.Ytbcmjjcbjojakaa
