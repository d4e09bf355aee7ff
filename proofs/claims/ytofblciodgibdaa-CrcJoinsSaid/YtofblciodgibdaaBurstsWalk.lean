/- The walk of CrcBursts. -/
import Derived.Test.YtofblciodgibdaaKnown
import Derived.Test.YtofblciodgibdaaBoth
import Derived.Test.YtofblciodgibdaaLaid
import Derived.Test.YtofblciodgibdaaArgs
namespace Go.Proofs.Ytofblciodgibdaa
open Go.RowKit
set_option linter.unusedVariables false
theorem place_zero (w : World) (k : Int) : Calls Try.prog 27 #[.int .i64 k, .int .i64 0] w fun e w' => e = .returned (.int .i64 0) ∧ w = w' := by
  go_enter Try.func27, Try.ntmps27
  go_wp2_with fail
  go_ret
  exact ⟨rfl, rfl⟩
theorem u32_bit (R : Int) (h1 : 0 ≤ R) (h2 : R ≤ 4294967295) (j : Nat) : bits .and .u32 (R / 2 ^ j) 1 = ((R.toNat / 2 ^ j % 2 : Nat) : Int) := by
  have hd : R / 2 ^ j = ((R.toNat / 2 ^ j : Nat) : Int) := by
    rw [Int.natCast_ediv, Int.toNat_of_nonneg h1]; push_cast; rfl
  have hle : R.toNat / 2 ^ j ≤ R.toNat := Nat.div_le_self _ _
  rw [hd]
  clear hd
  generalize R.toNat / 2 ^ j = d at *
  rw [and1_u32 _ (by omega) (by omega)]; omega
namespace Crc
theorem sums_ne (a b : List Nat) (ha : ∀ x ∈ a, x < 256) (hb : ∀ x ∈ b, x < 256) (D : Nat) (h : ov 4294967295 a = ov 4294967295 b ^^^ D) : more 0 a = more 0 b ↔ D = 0 := by
  rw [more0 a ha, more0 b hb, h]
  constructor
  · intro e
    have e2 : ov 4294967295 b ^^^ D = ov 4294967295 b := by
      have := congrArg (· ^^^ 4294967295) e
      simp only [Nat.xor_assoc, Nat.xor_self, Nat.xor_zero] at this
      exact this
    have : D = ov 4294967295 b ^^^ (ov 4294967295 b ^^^ D) := by rw [← Nat.xor_assoc, Nat.xor_self, Nat.zero_xor]
    rw [this, e2, Nat.xor_self]
  · intro e; rw [e, Nat.xor_zero]
/-- One bit more of a burst. -/
theorem burst_step (bs text : List Nat) (fr i P : Nat) (h : ov 4294967295 bs = ov 4294967295 text ^^^ itT (8 * text.length - fr) P) (hl : bs.length = text.length) (hi : fr + i < 8 * text.length) :
    ov 4294967295 (lay bs (fr + i)) = ov 4294967295 text ^^^ itT (8 * text.length - fr) (P ^^^ 2 ^ i) := by
  rw [ov_lay bs _ _ (by omega), h, itT_xor, itT_pow _ _ (by omega), hl, Nat.xor_assoc, show 8 * text.length - fr - i = 8 * text.length - (fr + i) by omega]
theorem burst_P (P i : Nat) (h : P < 2 ^ i) : P ^^^ 2 ^ i < 2 ^ (i + 1) ∧ P ^^^ 2 ^ i ≠ 0 := by
  refine ⟨Nat.xor_lt_two_pow (Nat.lt_of_lt_of_le h (Nat.pow_le_pow_right (by omega) (by omega))) (Nat.pow_lt_pow_right (by omega) (by omega)), fun e => ?_⟩
  rw [xor_eq_zero] at e; omega
end Crc
set_option maxRecDepth 100000 in
set_option maxHeartbeats 1000000 in
theorem bursts_pos (a : Option Addr) (len cap : Nat) (at_ R : Int) (w : World) (l : List Nat) (hr : Rd w w.heap.size a len (cb l)) (hl : ∀ x ∈ l, x < 256) (hlen : len ≤ 140737488351232) (hpos : 0 < len)
    (t1 : -9223372036854775808 ≤ at_) (t2 : at_ ≤ 9223372036854775807) (r1 : 0 ≤ R) (r2 : R ≤ 4294967295) :
    Calls Try.prog 8 #[.slice a len cap, .int .i64 at_, .int .u32 R] w fun e w' => e = .returned (.bool true) ∧ Below w.heap.size w w' := by
  have hll : l.length = len := by have := hr.1; rw [cb_length] at this; exact this
  have S0 : Hd (RS w w [(a, len, l)]) := ⟨RS.start (by rintro x hx; simp only [List.mem_cons, List.not_mem_nil, or_false] at hx; rcases hx with rfl; exact hr)⟩
  have XL : Hd ((∀ x ∈ l, x < 256) ∧ l.length = len) := ⟨hl, hll⟩
  clear hr hl hll
  go_enter Try.func8, Try.ntmps8
  go_wp2_with fail
  have S0' := S0
  refine (known_any w).mono ?_
  rintro e w1 ⟨rfl, hb⟩
  have S1 := Hd.mk (S0.out.step hb)
  clear hb S0
  go_wp2_with fail
  refine (twin_any w1 a len cap w1.heap.size l (S1.out.get (A := a) (n := len) (bs := l) (by simp)) (Nat.le_refl _) (by omega)).mono ?_
  rintro e w2 ⟨v2, rfl, hO⟩
  obtain ⟨g, cb2, hv, hg, hg2⟩ := own_pos hO.own hpos
  subst hv
  have hb2 : Below w1.heap.size w1 w2 := hO.below (fun k h => by cases h) (Nat.le_refl _)
  have O2 : Hd (w2.ownsRow w.heap.size 5 1 (.slice (some ⟨g, 0, none⟩) len cb2) len (cb l) ∧ Below w.heap.size w w2 ∧ w.heap.size ≤ g ∧ Rd w w.heap.size a len (cb l)) :=
    ⟨hO.base_ (fun k h => by cases h) S1.out.bel.size, S1.out.bel.trans (hb2.mono S1.out.bel.size), Nat.le_trans S1.out.bel.size hg, S0'.out.get (A := a) (n := len) (bs := l) (by simp)⟩
  clear hO hb2 hg hg2 S1 S0'
  have q1 : (1 : Int) ≤ 8 * (len : Int) := by omega
  have q2 : 8 * (len : Int) ≤ 4611686018427387904 := by omega
  go_wp2_with fail
  refine (place_any w2 at_ (8 * (len : Int)) t1 t2 q1 q2).mono ?_
  rintro e w3 ⟨rfl, rfl⟩
  have f0 := Int.emod_nonneg at_ (show 8 * (len : Int) ≠ 0 by omega)
  have f1 := Int.emod_lt_of_pos at_ (show 0 < 8 * (len : Int) by omega)
  generalize at_ % (8 * (len : Int)) = F at *
  obtain ⟨fr, rfl⟩ := Int.eq_ofNat_of_zero_le f0
  have f2 : fr < 8 * len := by omega
  clear q1 q2 t1 t2
  go_wp2_with fail
  go_loopw [9, 10] (fun tu q wr => ∃ (i P : Nat) (bs : List Nat), i ≤ 32 ∧ q = .int .i64 i ∧ tu = .bool (decide (P ≠ 0)) ∧ P < 2 ^ i ∧ bs.length = len ∧ (∀ x ∈ bs, x < 256) ∧ Crc.ov 4294967295 bs = Crc.ov 4294967295 l ^^^ Crc.itT (8 * l.length - fr) P ∧
      wr.ownsRow w.heap.size 5 1 (.slice (some ⟨g, 0, none⟩) len cb2) len (cb bs) ∧ Below w.heap.size w wr) (fun _ q _ => 32 - (intOf q).toNat)
  case atStart => exact ⟨0, 0, l, by omega, rfl, rfl, by omega, XL.out.2, XL.out.1, by rw [Crc.itT_zero, Nat.xor_zero], O2.out.1, O2.out.2.1⟩
  case round =>
    obtain ⟨i, P, bs, hi, rfl, rfl, hP, hbl, hb256, hov, hO, hB⟩ := hrel
    have HJ : Hd (P < 2 ^ i ∧ bs.length = len ∧ (∀ x ∈ bs, x < 256) ∧ Crc.ov 4294967295 bs = Crc.ov 4294967295 l ^^^ Crc.itT (8 * l.length - fr) P ∧ wr.ownsRow w.heap.size 5 1 (.slice (some ⟨g, 0, none⟩) len cb2) len (cb bs) ∧ Below w.heap.size w wr) := ⟨hP, hbl, hb256, hov, hO, hB⟩
    clear hP hbl hb256 hov hO hB
    by_cases hlt : i < 32
    · have e1 := u32_bit R r1 r2 i
      have y2 : R.toNat / 2 ^ i % 2 < 2 := by omega
      generalize R.toNat / 2 ^ i % 2 = y at *
      by_cases hy : y = 1
      · subst hy
        have e2 : (bits .and .u32 (R / 2 ^ i) 1 == 1) = true := by rw [e1]; rfl
        clear e1 y2
        by_cases hin : fr + i < 8 * len
        · have hin2 : ((fr : Int) + (i : Int)) / 8 < (len : Int) := by omega
          go_wp2_with fail
          refine (laid_any wr w.heap.size g len cb2 (fr + i) bs HJ.out.2.2.2.2.1 (by omega) HJ.out.2.2.1 (by omega)).mono ?_
          rintro e w3 ⟨rfl, hO3, hG3⟩
          have H3 : Hd (w3.ownsRow w.heap.size 5 1 (.slice (some ⟨g, 0, none⟩) len cb2) len (cb (Crc.lay bs (fr + i))) ∧ Below w.heap.size w w3) :=
            ⟨hO3, HJ.out.2.2.2.2.2.trans ((Below.refl _ _).grown hG3 HJ.out.2.2.2.2.2.size (fun k hk => by injection hk with hk; rw [← hk]; exact O2.out.2.2.1))⟩
          clear hO3 hG3
          go_wp2_with fail
          go_roundw
          case rel =>
            have hb := Crc.burst_P P i HJ.out.1
            refine ⟨i + 1, P ^^^ 2 ^ i, Crc.lay bs (fr + i), by omega, by go_num, ?_, hb.1, by rw [Crc.lay_len]; exact HJ.out.2.1, Crc.lay_lt bs _ HJ.out.2.2.1 (by rw [HJ.out.2.1]; omega), ?_, H3.out.1, H3.out.2⟩
            · rw [decide_eq_true hb.2]
            · exact Crc.burst_step bs l fr i P HJ.out.2.2.2.1 (by rw [HJ.out.2.1, XL.out.2]) (by rw [XL.out.2]; exact hin)
          case measure => simp [intOf]; omega
        · have hin2 : ¬ ((fr : Int) + (i : Int)) / 8 < (len : Int) := by omega
          have hin3 : decide (((fr : Int) + (i : Int)) / 8 < (len : Int)) = false := decide_eq_false hin2
          go_wp2_with fail
          go_roundw
          case rel => exact ⟨i + 1, P, bs, by omega, by go_num, rfl, Nat.lt_of_lt_of_le HJ.out.1 (Nat.pow_le_pow_right (by omega) (by omega)), HJ.out.2.1, HJ.out.2.2.1, HJ.out.2.2.2.1, HJ.out.2.2.2.2.1, HJ.out.2.2.2.2.2⟩
          case measure => simp [intOf]; omega
      · have hy0 : y = 0 := by omega
        subst hy0
        have e2 : (bits .and .u32 (R / 2 ^ i) 1 == 1) = false := by rw [e1]; rfl
        clear e1 y2
        go_wp2_with fail
        go_roundw
        case rel => exact ⟨i + 1, P, bs, by omega, by go_num, rfl, Nat.lt_of_lt_of_le HJ.out.1 (Nat.pow_le_pow_right (by omega) (by omega)), HJ.out.2.1, HJ.out.2.2.1, HJ.out.2.2.2.1, HJ.out.2.2.2.2.1, HJ.out.2.2.2.2.2⟩
        case measure => simp [intOf]; omega
    · have hi32 : i = 32 := by omega
      subst hi32
      have hD : Crc.itT (8 * l.length - fr) P = 0 ↔ P = 0 := ⟨Crc.itT_inj _ _ HJ.out.1, fun h => by rw [h, Crc.itT_zero]⟩
      have hsum := Crc.sums_ne bs l HJ.out.2.2.1 XL.out.1 _ HJ.out.2.2.2.1
      rw [hD] at hsum
      have hbl := Crc.blind_iff bs l (by rw [HJ.out.2.1, XL.out.2]) HJ.out.2.2.1 XL.out.1
      rw [hsum] at hbl
      have S0 : Hd (RS w wr [(some ⟨g, 0, none⟩, len, bs), (a, len, l)]) := ⟨⟨by
        rintro x hx; simp only [List.mem_cons, List.not_mem_nil, or_false] at hx
        rcases hx with rfl | rfl
        · exact Rd.of_own HJ.out.2.2.2.2.1
        · exact (O2.out.2.2.2.below HJ.out.2.2.2.2.2).more HJ.out.2.2.2.2.2.size, HJ.out.2.2.2.2.2⟩⟩
      obtain ⟨SB, hSB⟩ : ∃ S : Int, ((Crc.more 0 bs : Nat) : Int) = S := ⟨_, rfl⟩
      obtain ⟨SL, hSL⟩ : ∃ S : Int, ((Crc.more 0 l : Nat) : Int) = S := ⟨_, rfl⟩
      have X : Hd (((Crc.more 0 bs : Nat) : Int) = SB ∧ ((Crc.more 0 l : Nat) : Int) = SL ∧ (Crc.ov 0 (Crc.xl bs l) = 0 ↔ P = 0) ∧ (∀ x ∈ bs, x < 256)) := ⟨hSB, hSL, hbl, HJ.out.2.2.1⟩
      by_cases hP0 : P = 0
      · have eq0 : decide (P ≠ 0) = false := by simp [hP0]
        have eqs : (SB == SL) = true := by rw [beq_iff_eq, ← hSB, ← hSL, hsum.2 hP0]
        rw [eq0]
        clear hD hsum hbl hSB hSL hP0 eq0 HJ
        go_wp2_with fail
        refine (sum_any wr (some ⟨g, 0, none⟩) len cb2 wr.heap.size bs (S0.out.get (A := (some ⟨g, 0, none⟩)) (n := len) (bs := bs) (by simp)) (Nat.le_refl _) X.out.2.2.2 (by omega)).mono ?_
        rw [X.out.1]
        rintro e w1 ⟨rfl, hb⟩
        have S1 := Hd.mk (S0.out.step hb)
        clear hb S0
        go_wp2_with fail
        refine (twin_rd w1 a len cap w1.heap.size l (S1.out.get (A := a) (n := len) (bs := l) (by simp)) (Nat.le_refl _) (by omega)).mono ?_
        rintro e w2 ⟨C, cc, rfl, hr, hb⟩
        have S2 := Hd.mk (S1.out.push hb hr)
        clear hr hb S1
        go_wp2_with fail
        refine (sum_any w2 C len cc w2.heap.size l (S2.out.get (A := C) (n := len) (bs := l) (by simp)) (Nat.le_refl _) XL.out.1 (by omega)).mono ?_
        rw [X.out.2.1]
        rintro e w3 ⟨rfl, hb⟩
        have S3 := Hd.mk (S2.out.step hb)
        clear hb S2
        go_wp2_with fail
        go_ret
        exact ⟨rfl, S3.out.bel⟩

      · have eq0 : decide (P ≠ 0) = true := by simp [hP0]
        have eqs : (SB != SL) = true := by
          rw [bne_iff_ne, ← hSB, ← hSL]; intro h; exact hP0 (hsum.1 (by omega))
        have eqb : decide (Crc.ov 0 (Crc.xl bs l) = 0) = false := by rw [decide_eq_false_iff_not, hbl]; exact hP0
        have EB : Hd _ := ⟨eqb⟩
        rw [eq0]
        clear hD hsum hbl hSB hSL hP0 eq0 HJ eqb
        go_wp2_with fail
        refine (sum_any wr (some ⟨g, 0, none⟩) len cb2 wr.heap.size bs (S0.out.get (A := (some ⟨g, 0, none⟩)) (n := len) (bs := bs) (by simp)) (Nat.le_refl _) X.out.2.2.2 (by omega)).mono ?_
        rw [X.out.1]
        rintro e w1 ⟨rfl, hb⟩
        have S1 := Hd.mk (S0.out.step hb)
        clear hb S0
        go_wp2_with fail
        refine (twin_rd w1 a len cap w1.heap.size l (S1.out.get (A := a) (n := len) (bs := l) (by simp)) (Nat.le_refl _) (by omega)).mono ?_
        rintro e w2 ⟨C, cc, rfl, hr, hb⟩
        have S2 := Hd.mk (S1.out.push hb hr)
        clear hr hb S1
        go_wp2_with fail
        refine (sum_any w2 C len cc w2.heap.size l (S2.out.get (A := C) (n := len) (bs := l) (by simp)) (Nat.le_refl _) XL.out.1 (by omega)).mono ?_
        rw [X.out.2.1]
        rintro e w3 ⟨rfl, hb⟩
        have S3 := Hd.mk (S2.out.step hb)
        clear hb S2
        go_wp2_with fail
        refine (both_rd w3 (some ⟨g, 0, none⟩) a len cb2 len cap w3.heap.size bs l (S3.out.get (A := (some ⟨g, 0, none⟩)) (n := len) (bs := bs) (by simp)) (S3.out.get (A := a) (n := len) (bs := l) (by simp)) (Nat.le_refl _) X.out.2.2.2 XL.out.1 (by omega) (by omega)).mono ?_
        rw [Nat.min_self]
        rintro e w4 ⟨D, cd, rfl, hr, hb⟩
        have S4 := Hd.mk (S3.out.push hb hr)
        clear hr hb S3
        go_wp2_with fail
        refine (blind_any w4 D len cd w4.heap.size (Crc.xl bs l) (S4.out.get (A := D) (n := len) (bs := (Crc.xl bs l)) (by simp)) (Nat.le_refl _) (Crc.xl_lt bs l X.out.2.2.2 XL.out.1) (by omega)).mono ?_
        rw [EB.out]
        rintro e w5 ⟨rfl, hb⟩
        have S5 := Hd.mk (S4.out.step hb)
        clear hb S4
        go_wp2_with fail
        go_ret
        exact ⟨rfl, S5.out.bel⟩

set_option maxRecDepth 100000 in
set_option maxHeartbeats 1000000 in
theorem bursts_nil (a : Option Addr) (cap : Nat) (at_ R : Int) (w : World) (hr : Rd w w.heap.size a 0 (cb [])) (r1 : 0 ≤ R) (r2 : R ≤ 4294967295) :
    Calls Try.prog 8 #[.slice a 0 cap, .int .i64 at_, .int .u32 R] w fun e w' => e = .returned (.bool true) ∧ Below w.heap.size w w' := by
  have S0 : Hd (RS w w [(a, 0, ([] : List Nat))]) := ⟨RS.start (by rintro x hx; simp only [List.mem_cons, List.not_mem_nil, or_false] at hx; rcases hx with rfl; exact hr)⟩
  have XL : Hd ((∀ x ∈ ([] : List Nat), x < 256)) := ⟨by simp⟩
  clear hr
  go_enter Try.func8, Try.ntmps8
  go_wp2_with fail
  refine (known_any w).mono ?_
  rintro e w1 ⟨rfl, hb⟩
  have S1 := Hd.mk (S0.out.step hb)
  clear hb S0
  go_wp2_with fail
  refine (twin_rd w1 a 0 cap w1.heap.size [] (S1.out.get (A := a) (n := 0) (bs := []) (by simp)) (Nat.le_refl _) (by omega)).mono ?_
  rintro e w2 ⟨C, cc, rfl, hr, hb⟩
  have S2 := Hd.mk (S1.out.push hb hr)
  clear hr hb S1
  have q0 : (8 : Int) * ((0 : Nat) : Int) = 0 := by omega
  go_wp2_with fail
  refine (place_zero w2 at_).mono ?_
  rintro e w3 ⟨rfl, rfl⟩
  go_wp2_with fail
  go_loopw [9, 10] (fun tu q wr => ∃ (i : Nat), i ≤ 32 ∧ q = .int .i64 i ∧ tu = .bool false ∧ wr = w2) (fun _ q _ => 32 - (intOf q).toNat)
  case atStart => exact ⟨0, by omega, rfl, rfl, rfl⟩
  case round =>
    obtain ⟨i, hi, rfl, rfl, rfl⟩ := hrel
    by_cases hlt : i < 32
    · have e1 := u32_bit R r1 r2 i
      have y2 : R.toNat / 2 ^ i % 2 < 2 := by omega
      generalize R.toNat / 2 ^ i % 2 = y at *
      by_cases hy : y = 1
      · subst hy
        have e2 : (bits .and .u32 (R / 2 ^ i) 1 == 1) = true := by rw [e1]; rfl
        clear e1 y2
        have hin3 : decide ((0 + (i : Int)) / 8 < ((0 : Nat) : Int)) = false := decide_eq_false (by omega)
        have hin4 : ¬ ((i : Int)) / 8 < 0 := by omega
        have hin5 : decide (((i : Int)) / 8 < 0) = false := decide_eq_false (by omega)
        go_wp2_with fail
        go_roundw
        case rel => exact ⟨i + 1, by omega, by go_num, by first | rfl | trivial, by first | rfl | trivial⟩
        case measure => simp [intOf]; omega
      · have hy0 : y = 0 := by omega
        subst hy0
        have e2 : (bits .and .u32 (R / 2 ^ i) 1 == 1) = false := by rw [e1]; rfl
        clear e1 y2
        go_wp2_with fail
        go_roundw
        case rel => exact ⟨i + 1, by omega, by go_num, by first | rfl | trivial, by first | rfl | trivial⟩
        case measure => simp [intOf]; omega
    · have hi32 : i = 32 := by omega
      subst hi32
      obtain ⟨SL, hSL⟩ : ∃ S : Int, ((Crc.more 0 [] : Nat) : Int) = S := ⟨_, rfl⟩
      have eqs : (SL == SL) = true := by simp
      go_wp2_with fail
      refine (sum_any wr C 0 cc wr.heap.size [] (S2.out.get (A := C) (n := 0) (bs := []) (by simp)) (Nat.le_refl _) XL.out (by omega)).mono ?_
      rw [hSL]
      rintro e w1 ⟨rfl, hb⟩
      have S3 := Hd.mk (S2.out.step hb)
      clear hb S2
      go_wp2_with fail
      refine (twin_rd w1 a 0 cap w1.heap.size [] (S3.out.get (A := a) (n := 0) (bs := []) (by simp)) (Nat.le_refl _) (by omega)).mono ?_
      rintro e w2 ⟨C2, cc2, rfl, hr, hb⟩
      have S4 := Hd.mk (S3.out.push hb hr)
      clear hr hb S3
      go_wp2_with fail
      refine (sum_any w2 C2 0 cc2 w2.heap.size [] (S4.out.get (A := C2) (n := 0) (bs := []) (by simp)) (Nat.le_refl _) XL.out (by omega)).mono ?_
      rw [hSL]
      rintro e w3 ⟨rfl, hb⟩
      have S5 := Hd.mk (S4.out.step hb)
      clear hb S4
      go_wp2_with fail
      go_ret
      exact ⟨rfl, S5.out.bel⟩
theorem bursts_walk (a0 : Option Addr) (len0 cap0 : Nat) (z0 : List Int) (a1 a2 : Int) (w : World)
    (i0 : IsRow .u8 w a0 len0 cap0 z0) (b0 : cap0 * 1 ≤ 140737488351232) (i1 : (Lit.int .i64 a1).wf = true) (i2 : (Lit.int .u32 a2).wf = true) :
    Calls Try.prog 8 #[.slice a0 len0 cap0, .int .i64 a1, .int .u32 a2] w fun e w' => e = .returned (.bool true) ∧ Below w.heap.size w w' := by
  have c0 := i0.len_le
  obtain ⟨l0, r0, h0, e0, _⟩ := i0.bytes
  have w1 : -9223372036854775808 ≤ a1 ∧ a1 ≤ 9223372036854775807 := by simpa [Lit.wf, IntKind.min, IntKind.max, IntKind.signed, IntKind.bits] using i1
  have w2 : 0 ≤ a2 ∧ a2 ≤ 4294967295 := by simpa [Lit.wf, IntKind.min, IntKind.max, IntKind.signed, IntKind.bits] using i2
  have t0 := r0.take (h := len0) (by omega)
  rw [cb, ← List.map_take] at t0
  have k0 : (l0.take len0).length = len0 := by rw [List.length_take]; omega
  replace h0 : ∀ x ∈ l0.take len0, x < 256 := fun x hx => h0 x (List.mem_of_mem_take hx)
  generalize l0.take len0 = l at *
  by_cases hz : len0 = 0
  · subst hz
    obtain rfl : l = [] := List.length_eq_zero_iff.1 k0
    exact bursts_nil a0 cap0 a1 a2 w t0 (by omega) (by omega)
  · exact bursts_pos a0 len0 cap0 a1 a2 w l t0 h0 (by omega) (by omega) (by omega) (by omega) (by omega) (by omega)
end Go.Proofs.Ytofblciodgibdaa
