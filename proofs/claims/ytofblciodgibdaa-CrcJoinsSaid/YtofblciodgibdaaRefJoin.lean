/- Contracts of cairnref06.turned, times and Join. -/
import Derived.Test.YtofblciodgibdaaPoly
import Derived.Test.YtofblciodgibdaaGoneA
import Derived.Test.YtofblciodgibdaaBurstsWalk
import Derived.Test.YtofblciodgibdaaStream
import Derived.Test.YtofblciodgibdaaJoin
namespace Go.Proofs.Ytofblciodgibdaa
open Go.RowKit
set_option linter.unusedVariables false
theorem pow32 (j : Nat) (h : j < 32) : (2 : Int) ^ j % 4294967296 = ((2 ^ j : Nat) : Int) := by
  have hp : 2 ^ j < 2 ^ 32 := Nat.pow_lt_pow_right (by omega) h
  have : ((2 ^ j : Nat) : Int) = (2 : Int) ^ j := by push_cast; rfl
  rw [← this]
  generalize 2 ^ j = d at *
  omega
theorem pow64 (j : Nat) (h : j < 64) : (2 : Int) ^ j % 18446744073709551616 = ((2 ^ j : Nat) : Int) := by
  have hp : 2 ^ j < 2 ^ 64 := Nat.pow_lt_pow_right (by omega) h
  have : ((2 ^ j : Nat) : Int) = (2 : Int) ^ j := by push_cast; rfl
  rw [← this]
  generalize 2 ^ j = d at *
  omega
theorem tb (r k : Nat) : (r / 2 ^ k % 2 = 1) = (r.testBit k = true) := by rw [Nat.testBit_eq_decide_div_mod_eq, decide_eq_true_iff]
theorem tn_step1 (r k : Nat) (hk : k < 32) (h : r / 2 ^ k % 2 = 1) : bits .or .u32 ((Crc.tn k r : Nat) : Int) ((2 : Int) ^ (31 - k) % 4294967296) = ((Crc.tn (k + 1) r : Nat) : Int) := by
  have h1 := Crc.tn_lt r k (by omega)
  have h2 : 2 ^ (31 - k) < 2 ^ 32 := Nat.pow_lt_pow_right (by omega) (by omega)
  rw [pow32 _ (by omega), u32_or_nat _ _ (by omega) (by omega), Crc.or_bit _ _ (Crc.tn_bits r k _ (by omega))]
  rw [tb] at h
  show _ = (((Crc.tn k r) ^^^ (if r.testBit k then 2 ^ (31 - k) else 0) : Nat) : Int)
  rw [if_pos h]
theorem tn_step0 (r k : Nat) (hk : k < 32) (h : ¬ r / 2 ^ k % 2 = 1) : bits .or .u32 ((Crc.tn k r : Nat) : Int) 0 = ((Crc.tn (k + 1) r : Nat) : Int) := by
  have h1 := Crc.tn_lt r k (by omega)
  have := u32_or_nat (Crc.tn k r) 0 (by omega) (by omega)
  rw [show ((0 : Nat) : Int) = 0 from rfl, Nat.or_zero] at this
  rw [this]
  rw [tb] at h
  show _ = (((Crc.tn k r) ^^^ (if r.testBit k then 2 ^ (31 - k) else 0) : Nat) : Int)
  rw [if_neg h, Nat.xor_zero]
set_option maxHeartbeats 400000 in
theorem turned_any (w : World) (R : Int) (r1 : 0 ≤ R) (r2 : R ≤ 4294967295) :
    Calls Try.prog 44 #[.int .u32 R] w fun e w' => e = .returned (.int .u32 ((Crc.tn 32 R.toNat : Nat) : Int)) ∧ w = w' := by
  go_enter Try.func44, Try.ntmps44
  go_wp2_with fail
  go_loop [3, 4] (fun b i => ∃ k : Nat, k ≤ 32 ∧ i = .int .i64 k ∧ b = .int .u32 ((Crc.tn k R.toNat : Nat) : Int)) (fun _ i => 32 - (intOf i).toNat)
  case atStart => exact ⟨0, by omega, rfl, rfl⟩
  case round =>
    obtain ⟨k, hk, rfl, rfl⟩ := hrel
    by_cases hlt : k < 32
    · have e1 := u32_bit R r1 r2 k
      by_cases hbit : R.toNat / 2 ^ k % 2 = 1
      · have HS := Hd.mk (tn_step1 R.toNat k hlt hbit)
        rw [hbit] at e1
        clear hbit
        go_wp2_with fail
        go_round
        case rel => exact ⟨k + 1, by omega, by go_num, by rw [HS.out]⟩
        case measure => simp [intOf]; omega
      · have HS := Hd.mk (tn_step0 R.toNat k hlt hbit)
        rw [show R.toNat / 2 ^ k % 2 = 0 by omega] at e1
        clear hbit
        go_wp2_with fail
        go_round
        case rel => exact ⟨k + 1, by omega, by go_num, by rw [HS.out]⟩
        case measure => simp [intOf]; omega
    · have hk32 : k = 32 := by omega
      subst hk32
      go_wp2_with fail
      go_ret
      exact ⟨rfl, rfl⟩
theorem raw_step1 (a b k : Nat) (ha : a < 4294967296) (hk : k < 32) (h : b / 2 ^ k % 2 = 1) : bits .xor .u64 ((Crc.raw a b k : Nat) : Int) (IntKind.u64.wrap ((a : Int) * 2 ^ k)) = ((Crc.raw a b (k + 1) : Nat) : Int) := by
  have h1 := Crc.raw_lt a b ha k
  have h2 : 2 ^ (31 + k) ≤ 2 ^ 63 := Nat.pow_le_pow_right (by omega) (by omega)
  have h3 : a * 2 ^ k < 2 ^ 32 * 2 ^ 31 := Nat.lt_of_lt_of_le (Nat.mul_lt_mul_of_pos_right ha (Nat.two_pow_pos _)) (Nat.mul_le_mul_left _ (Nat.pow_le_pow_right (by omega) (by omega)))
  have e : (a : Int) * 2 ^ k = ((a * 2 ^ k : Nat) : Int) := by push_cast; rfl
  rw [e, wrap_u64, Nat.mod_eq_of_lt (by omega), u64_xor_nat _ _ (by omega) (by omega)]
  rw [tb] at h
  show _ = (((Crc.raw a b k) ^^^ (if b.testBit k then a * 2 ^ k else 0) : Nat) : Int)
  rw [if_pos h]
theorem raw_step0 (a b k : Nat) (h : ¬ b / 2 ^ k % 2 = 1) : Crc.raw a b (k + 1) = Crc.raw a b k := by
  rw [tb] at h
  show (Crc.raw a b k) ^^^ (if b.testBit k then a * 2 ^ k else 0) = _
  rw [if_neg h, Nat.xor_zero]
theorem u64_bit (p j : Nat) (h : p < 18446744073709551616) : bits .and .u64 ((p : Int) / 2 ^ j) 1 = ((p / 2 ^ j % 2 : Nat) : Int) := by
  have hd : (p : Int) / 2 ^ j = ((p / 2 ^ j : Nat) : Int) := by rw [Int.natCast_ediv]; push_cast; rfl
  have hle : p / 2 ^ j ≤ p := Nat.div_le_self _ _
  rw [hd]
  have := u64_and_nat (p / 2 ^ j) 1 (by omega) (by omega)
  rw [show ((1 : Nat) : Int) = 1 from rfl, Nat.and_one_is_mod] at this
  exact this
theorem tsum_Q : ∀ i, i < 63 → 32 ≤ i → Crc.tsum Crc.trm i 18 = Crc.Q * 2 ^ (i - 32) := by decide +kernel
theorem trm_le : ∀ k, k < 18 → Crc.trm.getD k 0 ≤ 32 := by decide
theorem tsum_step (p i k : Nat) (hi : i < 63) (h32 : 32 ≤ i) (hk : k < 18) (hp : p ^^^ Crc.tsum Crc.trm i k < 2 ^ 64) :
    bits .xor .u64 ((p ^^^ Crc.tsum Crc.trm i k : Nat) : Int) (IntKind.u64.wrap ((2 : Int) ^ (i - Crc.trm.getD k 0))) = ((p ^^^ Crc.tsum Crc.trm i (k + 1) : Nat) : Int) ∧ p ^^^ Crc.tsum Crc.trm i (k + 1) < 2 ^ 64 := by
  have h2 : 2 ^ (i - Crc.trm.getD k 0) < 2 ^ 64 := Nat.pow_lt_pow_right (by omega) (by omega)
  rw [show (2 : Int) ^ (i - Crc.trm.getD k 0) = ((2 ^ (i - Crc.trm.getD k 0) : Nat) : Int) by push_cast; rfl, wrap_u64, Nat.mod_eq_of_lt (by omega), u64_xor_nat _ _ (by omega) (by omega), Crc.tsum_succ _ _ _ hk, ← Nat.xor_assoc]
  exact ⟨rfl, Nat.xor_lt_two_pow hp h2⟩
set_option maxHeartbeats 1000000 in
theorem times_any (w : World) (a b : Nat) (ha : a < 4294967296) (hb : b < 4294967296) :
    Calls Try.prog 43 #[.int .u32 (a : Int), .int .u32 (b : Int)] w fun e w' => e = .returned (.int .u32 ((Crc.tm a b : Nat) : Int)) ∧ Below w.heap.size w w' := by
  have HL := Hd.mk (Crc.raw_lt a b ha)
  go_enter Try.func43, Try.ntmps43
  go_wp2_with fail
  go_loop [5, 6] (fun p i => ∃ k : Nat, k ≤ 32 ∧ i = .int .i64 k ∧ p = .int .u64 ((Crc.raw a b k : Nat) : Int)) (fun _ i => 32 - (intOf i).toNat)
  case atStart => exact ⟨0, by omega, rfl, rfl⟩
  case round =>
    obtain ⟨k, hk, rfl, rfl⟩ := hrel
    by_cases hlt : k < 32
    · have e1 := u32_bit (b : Int) (by omega) (by omega) k
      rw [Int.toNat_natCast] at e1
      by_cases hbit : b / 2 ^ k % 2 = 1
      · have HS := Hd.mk (raw_step1 a b k ha hlt hbit)
        rw [hbit] at e1
        clear hbit
        go_wp2_with fail
        go_round
        case rel => exact ⟨k + 1, by omega, by go_num, by rw [HS.out]⟩
        case measure => simp [intOf]; omega
      · have HS := Hd.mk (raw_step0 a b k hbit)
        rw [show b / 2 ^ k % 2 = 0 by omega] at e1
        clear hbit
        go_wp2_with fail
        go_round
        case rel => exact ⟨k + 1, by omega, by go_num, by rw [HS.out]⟩
        case measure => simp [intOf]; omega
    · have hk32 : k = 32 := by omega
      subst hk32
      have HR : Hd (Crc.rho (Crc.raw a b 32) = Crc.tm a b ∧ Crc.raw a b 32 < 2 ^ 63) := ⟨Crc.raw_rho a b ha, HL.out 32⟩
      generalize Crc.raw a b 32 = p0 at *
      clear HL
      go_wp2_with fail
      refine (terms_any w).mono ?_
      rintro e w1 ⟨v', rfl, hO⟩
      obtain ⟨gt, cap, hv, _, _⟩ := own_pos hO.own (by omega)
      subst hv
      have HO : Hd (w1.ownsRow w.heap.size 3 1 (.slice (some ⟨gt, 0, none⟩) 18 cap) 18 (ci Crc.trm) ∧ Below w.heap.size w w1) := ⟨hO.own, hO.below (fun k h => by cases h) (Nat.le_refl _)⟩
      clear hO
      go_wp2_with fail
      go_loop [5, 8] (fun up ui => ∃ (i p : Nat), 31 ≤ i ∧ i ≤ 62 ∧ ui = .int .i64 (i : Int) ∧ up = .int .u64 (p : Int) ∧ p < 2 ^ (i + 1) ∧ Crc.rho p = Crc.tm a b) (fun _ ui => (intOf ui).toNat)
      case atStart => exact ⟨62, p0, by omega, by omega, rfl, rfl, HR.out.2, HR.out.1⟩
      case round =>
        obtain ⟨i, p, hi1, hi2, rfl, rfl, hp, hrho⟩ := hrel
        have HP : Hd (p < 2 ^ (i + 1) ∧ Crc.rho p = Crc.tm a b) := ⟨hp, hrho⟩
        have HP2 : Hd (p < 2 ^ 64) := ⟨Nat.lt_of_lt_of_le hp (Nat.pow_le_pow_right (by omega) (by omega))⟩
        clear hp hrho
        by_cases h32 : 32 ≤ i
        · have e1 := u64_bit p i HP2.out
          have HE : Hd (Crc.redS p i < 2 ^ i ∧ Crc.rho (Crc.redS p i) = Crc.tm a b) := ⟨Crc.redS_lt p i h32 HP.out.1, by rw [Crc.redS_rho p i h32 (by omega)]; exact HP.out.2⟩
          by_cases hbit : p / 2 ^ i % 2 = 1
          · have HS : Hd (p ^^^ Crc.tsum Crc.trm i 18 = Crc.redS p i) := ⟨by
              have hb := hbit
              rw [tb] at hb
              rw [tsum_Q i (by omega) h32]; unfold Crc.redS; rw [if_pos hb]⟩
            rw [hbit] at e1
            clear hbit
            go_wp2_with fail
            go_loop [5, 9] (fun up uk => ∃ k : Nat, k ≤ 18 ∧ uk = .int .i64 (k : Int) ∧ up = .int .u64 ((p ^^^ Crc.tsum Crc.trm i k : Nat) : Int) ∧ p ^^^ Crc.tsum Crc.trm i k < 2 ^ 64) (fun _ uk => 18 - (intOf uk).toNat)
            case atStart => exact ⟨0, by omega, rfl, by show _ = Value.int .u64 ((p ^^^ 0 : Nat) : Int); rw [Nat.xor_zero], by show p ^^^ 0 < _; rw [Nat.xor_zero]; exact HP2.out⟩
            case round =>
              obtain ⟨k, hk, rfl, rfl, hq⟩ := hrel
              have HQ := Hd.mk hq
              clear hq
              by_cases hlt2 : k < 18
              · have hcc := HO.out.1.cellAt k (by omega)
                have hle := trm_le k hlt2
                have HT := Hd.mk (tsum_step p i k (by omega) h32 hlt2 HQ.out)
                rw [ci_get Crc.trm k hlt2] at hcc
                generalize Crc.trm.getD k 0 = t at *
                have e3 : (i : Int) - (t : Int) = ((i - t : Nat) : Int) := by omega
                go_wp2_with fail
                go_round
                case rel => exact ⟨k + 1, by omega, by go_num, by rw [HT.out.1], HT.out.2⟩
                case measure => simp [intOf]; omega
              · have hk18 : k = 18 := by omega
                subst hk18
                rw [HS.out]
                go_wp2_with fail
                go_round
                case rel => exact ⟨i - 1, Crc.redS p i, by omega, by omega, by congr 1; omega, rfl, by rw [show i - 1 + 1 = i by omega]; exact HE.out.1, HE.out.2⟩
                case measure => simp [intOf]; omega
          · have HS : Hd (Crc.redS p i = p) := ⟨by
              have hb := hbit
              rw [tb] at hb
              unfold Crc.redS; rw [if_neg hb]⟩
            rw [HS.out] at HE
            rw [show p / 2 ^ i % 2 = 0 by omega] at e1
            clear hbit
            go_wp2_with fail
            go_round
            case rel => exact ⟨i - 1, p, by omega, by omega, by congr 1; omega, rfl, by rw [show i - 1 + 1 = i by omega]; exact HE.out.1, HE.out.2⟩
            case measure => simp [intOf]; omega
        · have hi31 : i = 31 := by omega
          subst hi31
          have HF : Hd (p = Crc.tm a b) := ⟨by rw [← HP.out.2, Crc.rho_low p HP.out.1]⟩
          have hp := HP.out.1
          have hpm : (p : Int) % 4294967296 = (p : Int) := by omega
          go_wp2_with fail
          go_ret
          refine ⟨?_, HO.out.2⟩
          show Ending.returned (.int .u32 (p : Int)) = _
          rw [← HF.out]
set_option maxHeartbeats 1000000 in
theorem refJoin_any (w : World) (a b : Nat) (N : Int) (ha : a < 4294967296) (hb : b < 4294967296) (n1 : -9223372036854775808 ≤ N) (n2 : N ≤ 9223372036854775807) :
    Calls Try.prog 36 #[.int .u32 (a : Int), .int .u32 (b : Int), .int .i64 N] w fun e w' => e = .returned (.int .u32 ((Crc.itT (8 * N.toNat) a ^^^ b : Nat) : Int)) ∧ Below w.heap.size w w' := by
  go_enter Try.func36, Try.ntmps36
  go_wp2_with fail
  go_loopw [2, 7, 8] (fun un up us wr => ∃ (q : Int) (s m : Nat), -9223372036854775808 ≤ q ∧ q ≤ 9223372036854775807 ∧ un = .int .i64 q ∧ up = .int .u32 ((Crc.X m : Nat) : Int) ∧ us = .int .u32 ((Crc.X s : Nat) : Int) ∧ Below w.heap.size w wr ∧ s * q.toNat + m = 8 * N.toNat) (fun un _ _ _ => (intOf un).toNat)
  case atStart => exact ⟨N, 8, 0, n1, n2, rfl, rfl, by rw [Crc.X_low 8 (by omega)]; rfl, Below.refl _ _, rfl⟩
  case round =>
    obtain ⟨q, s, m, q1, q2, rfl, rfl, rfl, hbel, hm⟩ := hrel
    have HH : Hd (Below w.heap.size w wr ∧ s * q.toNat + m = 8 * N.toNat) := ⟨hbel, hm⟩
    clear hbel hm
    have hXm := Crc.X_lt m
    have hXs := Crc.X_lt s
    by_cases hq : 0 < q
    · have HT := Hd.mk (toNat_half q hq)
      have hd := Int.tdiv_eq_ediv_of_nonneg (a := q) (b := 2) (by omega)
      have hmm := Int.tmod_eq_emod_of_nonneg (a := q) (b := 2) (by omega)
      by_cases ho : q % 2 = 1
      · have HE : Hd ((s + s) * (q / 2).toNat + (m + s) = 8 * N.toNat) := ⟨by
          rw [← HH.out.2, HT.out.1]
          have h1 : q.toNat % 2 = 1 := by rw [HT.out.2, ho]; rfl
          have h2 : s * q.toNat = s * (2 * (q.toNat / 2) + 1) := by congr 1; omega
          rw [h2, Nat.mul_add, ← Nat.mul_assoc, Nat.mul_two, Nat.mul_one]; omega⟩
        go_wp2_with fail
        refine (times_any wr (Crc.X m) (Crc.X s) (by omega) (by omega)).mono ?_
        rw [Crc.tm_X]
        rintro e w1 ⟨rfl, hb1⟩
        have H1 := Hd.mk (HH.out.1.trans (hb1.mono HH.out.1.size))
        clear hb1
        go_wp2_with fail
        refine (times_any w1 (Crc.X s) (Crc.X s) (by omega) (by omega)).mono ?_
        rw [Crc.tm_X]
        rintro e w2 ⟨rfl, hb1⟩
        have H2 := Hd.mk (H1.out.trans (hb1.mono H1.out.size))
        clear hb1
        go_wp2_with fail
        go_roundw
        case rel => exact ⟨q / 2, s + s, m + s, by omega, by omega, rfl, rfl, rfl, H2.out, HE.out⟩
        case measure => simp [intOf]; omega
      · have HE : Hd ((s + s) * (q / 2).toNat + m = 8 * N.toNat) := ⟨by
          rw [← HH.out.2, HT.out.1]
          have h1 : q.toNat % 2 = 0 := by rw [HT.out.2, show q % 2 = 0 by omega]; rfl
          have h2 : s * q.toNat = s * (2 * (q.toNat / 2)) := by congr 1; omega
          rw [h2, ← Nat.mul_assoc, Nat.mul_two]⟩
        go_wp2_with fail
        refine (times_any wr (Crc.X s) (Crc.X s) (by omega) (by omega)).mono ?_
        rw [Crc.tm_X]
        rintro e w2 ⟨rfl, hb1⟩
        have H2 := Hd.mk (HH.out.1.trans (hb1.mono HH.out.1.size))
        clear hb1
        go_wp2_with fail
        go_roundw
        case rel => exact ⟨q / 2, s + s, m, by omega, by omega, rfl, rfl, rfl, H2.out, HE.out⟩
        case measure => simp [intOf]; omega
    · have HF : Hd (m = 8 * N.toNat) := ⟨by have := HH.out.2; rw [show q.toNat = 0 by omega, Nat.mul_zero] at this; omega⟩
      have ht := Crc.tn_lt a 32 (by omega)
      have htm := Crc.tm_lt (Crc.tn 32 a) (Crc.X m) ht
      have HJ := Hd.mk (Crc.join_law a m ha)
      have hit := Crc.itT_lt m a ha
      have hz := u32_xor_nat (Crc.itT m a) b hit hb
      go_wp2_with fail
      refine (turned_any wr (a : Int) (by omega) (by omega)).mono ?_
      rw [Int.toNat_natCast]
      rintro e z1 ⟨rfl, rfl⟩
      go_wp2_with fail
      refine (times_any wr (Crc.tn 32 a) (Crc.X m) (by omega) (by omega)).mono ?_
      rintro e w2 ⟨rfl, hb2⟩
      have H2 := Hd.mk (HH.out.1.trans (hb2.mono HH.out.1.size))
      clear hb2
      go_wp2_with fail
      refine (turned_any w2 ((Crc.tm (Crc.tn 32 a) (Crc.X m) : Nat) : Int) (by omega) (by omega)).mono ?_
      rw [Int.toNat_natCast, HJ.out]
      rintro e z2 ⟨rfl, rfl⟩
      go_wp2_with fail
      go_ret
      exact ⟨by rw [← HF.out]; rfl, H2.out⟩
end Go.Proofs.Ytofblciodgibdaa
