/- Contracts of the laws' laid and place. -/
import Derived.Test.YtofblciodgibdaaSums
import Derived.Test.YtofblciodgibdaaMem2
import Derived.Test.YtofblciodgibdaaCrcBit
namespace Go.Proofs.Ytofblciodgibdaa
open Go.RowKit
set_option linter.unusedVariables false
theorem getD_lt' {l : List Nat} {m : Nat} (h : ∀ x ∈ l, x < m) {k : Nat} (hk : k < l.length) : l.getD k 0 < m := by
  rw [List.getD_eq_getElem?_getD, List.getElem?_eq_getElem hk]; exact h _ (List.getElem_mem _)
set_option maxHeartbeats 400000 in
theorem laid_any (w : World) (base g n cap p : Nat) (l : List Nat) (hown : w.ownsRow base 5 1 (.slice (some ⟨g, 0, none⟩) n cap) n (cb l)) (hp : p / 8 < n) (hl : ∀ x ∈ l, x < 256) (hn : n ≤ 140737488355328) :
    Calls Try.prog 26 #[.slice (some ⟨g, 0, none⟩) n cap, .int .i64 (p : Int)] w fun e w' => e = .returned (.tuple #[]) ∧
      w'.ownsRow base 5 1 (.slice (some ⟨g, 0, none⟩) n cap) n (cb (Crc.lay l p)) ∧ w.grownBy w' (some g) := by
  have hll : l.length = n := by have := hown.1; rw [cb_length] at this; omega
  have hc : w.cell? ⟨g, p / 8, none⟩ = some (.int .u8 ((l.getD (p / 8) 0 : Nat) : Int)) := by
    rw [hown.cellAt (p / 8) (by omega), cb_get _ _ (by omega)]
  have hz : w.frozen? ⟨g, p / 8, none⟩ = false := hown.frozenAt (p / 8)
  have hx := getD_lt' hl (k := p / 8) (by omega)
  have hp2 : 2 ^ (p % 8) < 256 := Nat.pow_lt_pow_right (n := 8) (by omega) (by omega)
  have e := u8_xor_nat (l.getD (p / 8) 0) (2 ^ (p % 8)) hx hp2
  have e0 : (2 : Int) ^ (p % 8) % 256 = ((2 ^ (p % 8) : Nat) : Int) := by
    have : ((2 ^ (p % 8) : Nat) : Int) = (2 : Int) ^ (p % 8) := by push_cast; rfl
    rw [← this]
    clear this e
    generalize 2 ^ (p % 8) = d at *
    omega
  rw [← e0] at e
  clear e0
  have HH : Hd (w.ownsRow base 5 1 (.slice (some ⟨g, 0, none⟩) n cap) n (cb l)) := ⟨hown⟩
  have HL : Hd (Crc.lay l p = l.set (p / 8) (l.getD (p / 8) 0 ^^^ 2 ^ (p % 8))) := ⟨rfl⟩
  generalize l.getD (p / 8) 0 ^^^ 2 ^ (p % 8) = z at *
  generalize l.getD (p / 8) 0 = x at *
  obtain ⟨X, hX⟩ : ∃ X : Int, (x : Int) = X := ⟨_, rfl⟩
  rw [hX] at hc e
  have p1 : (0 : Int) ≤ (p : Int) := by omega
  have p2 : (p : Int) / 8 < (n : Int) := by omega
  clear hown hl hll hX hx
  go_enter Try.func26, Try.ntmps26
  go_wp2_with fail
  go_end0
  have hs := HH.out.stored (p / 8) (.int .u8 (z : Int))
  have hset : (cb l).set (p / 8) (.int .u8 (z : Int)) = cb (Crc.lay l p) := by rw [HL.out]; unfold cb; rw [List.map_set]; rfl
  rw [hset] at hs
  exact ⟨rfl, hs.1, hs.2⟩
theorem tmod_emod (k n : Int) (hn : 1 ≤ n) (h1 : -9223372036854775808 ≤ k) (h2 : k ≤ 9223372036854775807) (h3 : n ≤ 4611686018427387904) : (k.tmod n + n).tmod n = k % n ∧ -n < k.tmod n ∧ k.tmod n < n := by
  have e : k.tmod n = if 0 ≤ k then k % n else -((-k) % n) := by
    split
    · exact Int.tmod_eq_emod_of_nonneg ‹_›
    · have : k.tmod n = -((-k).tmod n) := by rw [Int.neg_tmod, Int.neg_neg]
      rw [this, Int.tmod_eq_emod_of_nonneg (by omega)]
  have b := Int.emod_nonneg k (show n ≠ 0 by omega)
  have b2 := Int.emod_lt_of_pos k (show 0 < n by omega)
  have c := Int.emod_nonneg (-k) (show n ≠ 0 by omega)
  have c2 := Int.emod_lt_of_pos (-k) (show 0 < n by omega)
  rw [e]
  split
  · refine ⟨?_, by omega, by omega⟩
    rw [Int.tmod_eq_emod_of_nonneg (by omega), Int.add_emod_right, Int.emod_emod_of_dvd _ (Int.dvd_refl n)]
  · refine ⟨?_, by omega, by omega⟩
    have q : -((-k) % n) = k + n * ((-k) / n) := by have := Int.emod_add_mul_ediv (-k) n; omega
    rw [Int.tmod_eq_emod_of_nonneg (by omega), Int.add_emod_right, q, Int.add_mul_emod_self_left]
set_option maxHeartbeats 400000 in
theorem place_any (w : World) (k n : Int) (h1 : -9223372036854775808 ≤ k) (h2 : k ≤ 9223372036854775807) (hn : 1 ≤ n) (h3 : n ≤ 4611686018427387904) :
    Calls Try.prog 27 #[.int .i64 k, .int .i64 n] w fun e w' => e = .returned (.int .i64 (k % n)) ∧ w = w' := by
  have hm := tmod_emod k n hn h1 h2 h3
  obtain ⟨q, hq⟩ : ∃ q, k.tmod n = q := ⟨_, rfl⟩
  rw [hq] at hm
  obtain ⟨m1, m2, m3⟩ := hm
  have HM : Hd ((q + n) % n = k % n) := ⟨by rw [← m1, Int.tmod_eq_emod_of_nonneg (by omega)]⟩
  have hn0 : (n == 0) = false := by rw [beq_eq_false_iff_ne]; omega
  clear m1
  go_enter Try.func27, Try.ntmps27
  go_wp2_with fail
  go_ret
  exact ⟨ret_int HM.out, rfl⟩
end Go.Proofs.Ytofblciodgibdaa
