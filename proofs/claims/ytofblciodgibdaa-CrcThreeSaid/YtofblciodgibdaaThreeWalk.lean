/- The walk of CrcThree. -/
import Derived.Test.YtofblciodgibdaaKnown
import Derived.Test.YtofblciodgibdaaBoth
import Derived.Test.YtofblciodgibdaaLaid
import Derived.Test.YtofblciodgibdaaBits
import Derived.Test.YtofblciodgibdaaCrcOrd
import Derived.Test.YtofblciodgibdaaArgs
import Derived.Deep.QuietTactic
namespace Go.Proofs.Ytofblciodgibdaa
open Go.RowKit
set_option linter.unusedVariables false
namespace Crc
theorem sums_turn (a b : List Nat) (ha : ∀ x ∈ a, x < 256) (hb : ∀ x ∈ b, x < 256) (D : Nat) (h : ov 4294967295 a = ov 4294967295 b ^^^ D) : more 0 a = more 0 b ↔ D = 0 := by
  rw [more0 a ha, more0 b hb, h]
  constructor
  · intro e
    have e2 : ov 4294967295 b ^^^ D = ov 4294967295 b := by
      have := congrArg (· ^^^ 4294967295) e
      simp only [Nat.xor_assoc, Nat.xor_self, Nat.xor_zero] at this
      exact this
    have : D = ov 4294967295 b ^^^ (ov 4294967295 b ^^^ D) := by rw [← Nat.xor_assoc, Nat.xor_self, Nat.zero_xor]
    rw [this, e2, Nat.xor_self]
  · intro e; rw [e, Nat.xor_zero]
theorem turns_lay (bs text : List Nat) (N p : Nat) (al : List Nat) (h : ov 4294967295 bs = ov 4294967295 text ^^^ turns N al) (hl : 8 * bs.length = N) (hp : p < N) :
    ov 4294967295 (lay bs p) = ov 4294967295 text ^^^ turns N (al ++ [p]) := by
  rw [ov_lay bs _ _ (by omega), h, turns_push, hl, Nat.xor_assoc]
theorem turns_few (N : Nat) (al : List Nat) (hN : N < 2147483647) (hn : al.Nodup) (hl : ∀ x ∈ al, x < N) (h0 : al.length ≠ 0) (h : al.length ≤ 3 ∨ al.length % 2 = 1) : turns N al ≠ 0 := by
  by_cases ho : al.length % 2 = 1
  · exact turns_odd N al ho
  · have h2 : al.length = 2 := by omega
    match al, h2, hn, hl with
    | [p, q], _, hn, hl =>
      refine turns_two N p q hN (hl p (by simp)) (hl q (by simp)) ?_
      intro e; subst e; simp at hn
end Crc
set_option maxRecDepth 100000 in
set_option maxHeartbeats 4000000 in
theorem three_pos (a : Option Addr) (n ca : Nat) (l : List Nat) (b : Option Addr) (m cp : Nat) (pl : List Int) (w : World) (ha : Rd w w.heap.size a n (cb l)) (hb : Rd w w.heap.size b m (pl.map (.int .i64))) (hl : ∀ x ∈ l, x < 256)
    (hp : ∀ x ∈ pl, -9223372036854775808 ≤ x ∧ x ≤ 9223372036854775807) (hn : n ≤ 140737488351232) (hm : m * 8 ≤ 140737488351232) :
    Calls Try.prog 9 #[.slice a n ca, .slice b m cp] w fun e w' => e = .returned (.bool true) ∧ Below w.heap.size w w' := by
  have hll : l.length = n := by have := ha.1; rw [cb_length] at this; exact this
  have hpl : pl.length = m := by have := hb.1; rw [List.length_map] at this; exact this
  have S0 : Hd (RS w w [(a, n, l)]) := ⟨RS.start (by rintro x hx; simp only [List.mem_cons, List.not_mem_nil, or_false] at hx; rcases hx with rfl; exact ha)⟩
  have XL : Hd ((∀ x ∈ l, x < 256) ∧ l.length = n) := ⟨hl, hll⟩
  have HP : Hd (Rd w w.heap.size b m (pl.map (.int .i64)) ∧ (∀ x ∈ pl, -9223372036854775808 ≤ x ∧ x ≤ 9223372036854775807) ∧ pl.length = m) := ⟨hb, hp, hpl⟩
  clear ha hb hl hll hpl hp
  go_enter Try.func9, Try.ntmps9
  go_wp2_with fail
  have S0' := S0
  refine (known_any w).mono ?_
  rintro e wk ⟨rfl, hb⟩
  have S1 := Hd.mk (S0.out.step hb)
  clear hb S0
  by_cases hz : n = 0
  · subst hz
    go_wp2_with fail
    go_ret
    exact ⟨rfl, S1.out.bel⟩
  by_cases hbig : 268435456 ≤ n
  · have hz2 : ((n : Int) == 0) = false := by rw [beq_eq_false_iff_ne]; omega
    have hbig2 : (268435456 : Int) ≤ (n : Int) := by omega
    go_wp2_with fail
    go_ret
    exact ⟨rfl, S1.out.bel⟩
  have hz2 : ((n : Int) == 0) = false := by rw [beq_eq_false_iff_ne]; omega
  have hbig2 : ¬ (268435456 : Int) ≤ (n : Int) := by omega
  have hbig3 : decide ((268435456 : Int) ≤ (n : Int)) = false := decide_eq_false hbig2
  have hpos : 0 < n := by omega
  clear hn
  go_wp2_with fail
  refine (twin_any wk a n ca wk.heap.size l (S1.out.get (A := a) (n := n) (bs := l) (by simp)) (Nat.le_refl _) (by omega)).mono ?_
  rintro e w2 ⟨v2, rfl, hO⟩
  obtain ⟨g, cb2, hv, hg, hg2⟩ := own_pos hO.own hpos
  subst hv
  have hb2 : Below wk.heap.size wk w2 := hO.below (fun k h => by cases h) (Nat.le_refl _)
  have O2 : Hd (w2.ownsRow w.heap.size 5 1 (.slice (some ⟨g, 0, none⟩) n cb2) n (cb l) ∧ Below w.heap.size w w2 ∧ w.heap.size ≤ g ∧ Rd w w.heap.size a n (cb l)) :=
    ⟨hO.base_ (fun k h => by cases h) S1.out.bel.size, S1.out.bel.trans (hb2.mono S1.out.bel.size), Nat.le_trans S1.out.bel.size hg, S0'.out.get (A := a) (n := n) (bs := l) (by simp)⟩
  clear hO hb2 hg hg2 S1 S0'
  go_wp2_with fail
  go_loopw [6, 7] (fun s q wr => ∃ (i c : Nat) (al bs : List Nat), i ≤ m ∧ q = .int .i64 i ∧ c ≤ i ∧ al.length = c ∧ al.Nodup ∧ (∀ x ∈ al, x < 8 * n) ∧ bs.length = n ∧ (∀ x ∈ bs, x < 256) ∧ Crc.ov 4294967295 bs = Crc.ov 4294967295 l ^^^ Crc.turns (8 * n) al ∧
      wr.ownsRow w.heap.size 5 1 (.slice (some ⟨g, 0, none⟩) n cb2) n (cb bs) ∧ wr.ownsRow w.heap.size 3 1 s c (ci al) ∧ Apart s (.slice (some ⟨g, 0, none⟩) n cb2) ∧ Below w.heap.size w wr) (fun _ q _ => m - (intOf q).toNat)
  case atStart => exact ⟨0, 0, [], l, by omega, rfl, by omega, rfl, List.nodup_nil, by simp, XL.out.2, XL.out.1, by rw [show Crc.turns (8 * n) [] = 0 from rfl, Nat.xor_zero], O2.out.1, World.ownsRow_nil .., Apart.nil _, O2.out.2.1⟩
  case round =>
    obtain ⟨i, c, al, bs, hi, rfl, hal, hc, hnd, hlt8, hbl, hb256, hov, hO, hOa, hap, hB⟩ := hrel
    have HJ : Hd (al.Nodup ∧ (∀ x ∈ al, x < 8 * n) ∧ bs.length = n ∧ (∀ x ∈ bs, x < 256) ∧ Crc.ov 4294967295 bs = Crc.ov 4294967295 l ^^^ Crc.turns (8 * n) al ∧ wr.ownsRow w.heap.size 5 1 (.slice (some ⟨g, 0, none⟩) n cb2) n (cb bs) ∧ wr.ownsRow w.heap.size 3 1 u6 c (ci al) ∧ Apart u6 (.slice (some ⟨g, 0, none⟩) n cb2) ∧ Below w.heap.size w wr) := ⟨hnd, hlt8, hbl, hb256, hov, hO, hOa, hap, hB⟩
    clear hnd hlt8 hbl hb256 hov hO hOa hap hB
    have HC : Hd (al.length = c) := ⟨hc⟩
    obtain ⟨A6, c6, h6, _, _⟩ := own_form HJ.out.2.2.2.2.2.2.1
    subst h6
    clear hc
    by_cases hlt : i < m
    · obtain ⟨gp, op, vp, hA2, _, hx2, hc2⟩ := (HP.out.1.below HJ.out.2.2.2.2.2.2.2.2).at_ hlt
      have hip : i < pl.length := by rw [HP.out.2.2]; exact hlt
      rw [List.getElem?_map, List.getElem?_eq_getElem hip] at hx2
      injection hx2 with hx2
      obtain ⟨t1, t2⟩ := HP.out.2.1 pl[i] (List.getElem_mem hip)
      generalize pl[i] = at_ at *
      subst hx2 hA2
      have hlti : (i : Int) < (m : Int) := by omega
      have q1 : (1 : Int) ≤ 8 * (n : Int) := by omega
      have q2 : 8 * (n : Int) ≤ 4611686018427387904 := by omega
      go_wp2_with fail
      refine (place_any wr at_ (8 * (n : Int)) t1 t2 q1 q2).mono ?_
      rintro e w3 ⟨rfl, rfl⟩
      have f0 := Int.emod_nonneg at_ (show 8 * (n : Int) ≠ 0 by omega)
      have f1 := Int.emod_lt_of_pos at_ (show 0 < 8 * (n : Int) by omega)
      have HAT : Hd (∃ q : Int, q = at_ % (8 * (n : Int))) := ⟨_, rfl⟩
      generalize at_ % (8 * (n : Int)) = F at *
      obtain ⟨fr, rfl⟩ := Int.eq_ofNat_of_zero_le f0
      have f2 : fr < 8 * n := by omega
      clear q1 q2 t1 t2 HAT f0 f1
      go_wp2_with fail
      go_loop [9, 10] (fun v q => ∃ j : Nat, j ≤ c ∧ q = .int .i64 j ∧ v = .bool (decide (fr ∈ al.take j))) (fun _ q => c - (intOf q).toNat)
      case atStart => exact ⟨0, by omega, rfl, rfl⟩
      case round =>
        obtain ⟨j, hj, rfl, rfl⟩ := hrel
        by_cases hjc : j < c
        · have hjl : j < al.length := by rw [HC.out]; exact hjc
          have hT : decide (fr ∈ al.take (j + 1)) = (decide (fr ∈ al.take j) || decide (((al.getD j 0 : Nat) : Int) = (fr : Int))) := by
            rw [List.take_succ_eq_append_getElem hjl, List.getD_eq_getElem?_getD, List.getElem?_eq_getElem hjl, Bool.eq_iff_iff]
            simp only [List.mem_append, List.mem_singleton, decide_eq_true_iff, Bool.or_eq_true, Option.getD_some]
            constructor
            · rintro (h | h)
              · exact .inl h
              · exact .inr (by omega)
            · rintro (h | h)
              · exact .inl h
              · exact .inr (by omega)
          have HT : Hd _ := ⟨hT⟩
          obtain ⟨g6, o6, v6, hA6, _, hx6, hc6⟩ := (Rd.of_own HJ.out.2.2.2.2.2.2.1).at_ hjc
          rw [ci_get _ _ hjl] at hx6
          injection hx6 with hx6
          generalize al.getD j 0 = y at *
          obtain ⟨Y, hY⟩ : ∃ Y : Int, (y : Int) = Y := ⟨_, rfl⟩
          rw [hY] at hx6
          have HT2 : Hd (decide (fr ∈ al.take (j + 1)) = (decide (fr ∈ al.take j) || decide (Y = (fr : Int)))) := ⟨by rw [← hY]; exact HT.out⟩
          subst hx6 hA6
          clear hY HT hT
          by_cases hin : fr ∈ al.take j
          · have eD : decide (fr ∈ al.take j) = true := decide_eq_true hin
            have HD : Hd (decide (fr ∈ al.take (j + 1)) = true) := ⟨by rw [HT2.out, eD]; rfl⟩
            rw [eD]
            clear eD HT2 hin
            go_wp2_with fail
            go_round
            case rel => exact ⟨j + 1, by omega, by go_num, by rw [HD.out]⟩
            case measure => simp [intOf]; omega
          · have eD : decide (fr ∈ al.take j) = false := decide_eq_false hin
            have HD : Hd (decide (fr ∈ al.take (j + 1)) = decide (Y = (fr : Int))) := ⟨by rw [HT2.out, eD]; rfl⟩
            rw [eD]
            clear eD HT2 hin
            go_wp2_with fail
            go_round
            case rel => exact ⟨j + 1, by omega, by go_num, by rw [HD.out]; rfl⟩
            case measure => simp [intOf]; omega
        · have hjc2 : j = c := by omega
          subst hjc2
          have eT : al.take j = al := List.take_of_length_le (by rw [HC.out]; omega)
          rw [eT]
          clear eT hjc hj
          by_cases hin : fr ∈ al
          · rw [decide_eq_true hin]
            clear hin
            go_wp2_with fail
            go_roundw
            case rel => exact ⟨i + 1, j, al, bs, by omega, by go_num, by omega, HC.out, HJ.out.1, HJ.out.2.1, HJ.out.2.2.1, HJ.out.2.2.2.1, HJ.out.2.2.2.2.1, HJ.out.2.2.2.2.2.1, HJ.out.2.2.2.2.2.2.1, HJ.out.2.2.2.2.2.2.2.1, HJ.out.2.2.2.2.2.2.2.2⟩
            case measure => simp [intOf]; omega
          · have HN : Hd (fr ∉ al) := ⟨hin⟩
            rw [decide_eq_false hin]
            clear hin
            have h63 : Hd (j + 1 ≤ maxLen) := ⟨by unfold maxLen; omega⟩
            have hby : Hd ((j + 1) * 8 ≤ 140737488355328) := ⟨by omega⟩
            go_wp2_with (refine wpList_push elI rfl rfl (.tmp 55) (.tmp 56) 57 rfl rfl rfl w.heap.size (.slice A6 j c6) _ _ _ rfl rfl rfl rfl HJ.out.2.2.2.2.2.2.1 h63.out hby.out HJ.out.2.2.2.2.2.2.2.2.size ?_; intro v1 w1 hO1)
            have hO2 : Onto wr w1 w.heap.size 3 (.slice A6 j c6) v1 (j + 1) (ci al ++ [.int .i64 (fr : Int)]) := hO1
            have e2 : ci (al ++ [fr]) = ci al ++ [.int .i64 (fr : Int)] := by rw [ci_append]; rfl
            rw [← e2] at hO2
            have H2 : Hd (w1.ownsRow w.heap.size 3 1 v1 (j + 1) (ci (al ++ [fr])) ∧ w1.ownsRow w.heap.size 5 1 (.slice (some ⟨g, 0, none⟩) n cb2) n (cb bs) ∧ Apart v1 (.slice (some ⟨g, 0, none⟩) n cb2) ∧ Below w.heap.size w w1) :=
              ⟨hO2.own, hO2.keep HJ.out.2.2.2.2.2.1 HJ.out.2.2.2.2.2.2.2.1, hO2.apart HJ.out.2.2.2.2.2.1 HJ.out.2.2.2.2.2.2.2.1, HJ.out.2.2.2.2.2.2.2.2.trans (hO2.below (fun k hk => (HJ.out.2.2.2.2.2.2.1.lt k hk).1) HJ.out.2.2.2.2.2.2.2.2.size)⟩
            clear hO1 hO2 e2
            go_wp2_with fail
            refine (laid_any w1 w.heap.size g n cb2 fr bs H2.out.2.1 (by omega) HJ.out.2.2.2.1 (by omega)).mono ?_
            rintro e w3 ⟨rfl, hO3, hG3⟩
            have H3 : Hd (w3.ownsRow w.heap.size 5 1 (.slice (some ⟨g, 0, none⟩) n cb2) n (cb (Crc.lay bs fr)) ∧ w3.ownsRow w.heap.size 3 1 v1 (j + 1) (ci (al ++ [fr])) ∧ Below w.heap.size w w3) :=
              ⟨hO3, H2.out.1.kept hG3 (by
                cases hv : v1.ownBlock with
                | none => exact .inl rfl
                | some k => exact .inr fun hs => by injection hs with hs; exact H2.out.2.2.1 k hv (by rw [hs]; rfl)), H2.out.2.2.2.trans ((Below.refl _ _).grown hG3 H2.out.2.2.2.size (fun k hk => by injection hk with hk; rw [← hk]; exact O2.out.2.2.1))⟩
            clear hO3 hG3
            go_wp2_with fail
            go_roundw
            case rel =>
              refine ⟨i + 1, j + 1, al ++ [fr], Crc.lay bs fr, by omega, by go_num, by omega, by simp [HC.out], ?_, ?_, by rw [Crc.lay_len]; exact HJ.out.2.2.1, Crc.lay_lt bs _ HJ.out.2.2.2.1 (by rw [HJ.out.2.2.1]; omega), Crc.turns_lay bs l (8 * n) fr al HJ.out.2.2.2.2.1 (by rw [HJ.out.2.2.1]) f2, H3.out.1, H3.out.2.1, H2.out.2.2.1, H3.out.2.2⟩
              · rw [List.nodup_append]
                refine ⟨HJ.out.1, by simp, ?_⟩
                intro x hx y hy e
                rw [List.mem_singleton.1 hy] at e
                exact HN.out (e ▸ hx)
              · intro x hx
                rcases List.mem_append.1 hx with h | h
                · exact HJ.out.2.1 x h
                · rw [List.mem_singleton.1 h]; exact f2
            case measure => simp [intOf]; omega
    · have him : i = m := by omega
      subst him
      have hsum := Crc.sums_turn bs l HJ.out.2.2.2.1 XL.out.1 _ HJ.out.2.2.2.2.1
      have hbl := Crc.blind_iff bs l (by rw [HJ.out.2.2.1, XL.out.2]) HJ.out.2.2.2.1 XL.out.1
      have hfew := Crc.turns_few (8 * n) al (by omega) HJ.out.1 HJ.out.2.1
      rw [HC.out] at hfew
      have h0 : c = 0 → Crc.turns (8 * n) al = 0 := by
        intro h
        have : al = [] := List.length_eq_zero_iff.1 (by rw [HC.out]; exact h)
        rw [this]; rfl
      have S0 : Hd (RS w wr [(some ⟨g, 0, none⟩, n, bs), (a, n, l)]) := ⟨⟨by
        rintro x hx; simp only [List.mem_cons, List.not_mem_nil, or_false] at hx
        rcases hx with rfl | rfl
        · exact Rd.of_own HJ.out.2.2.2.2.2.1
        · exact (O2.out.2.2.2.below HJ.out.2.2.2.2.2.2.2.2).more HJ.out.2.2.2.2.2.2.2.2.size, HJ.out.2.2.2.2.2.2.2.2⟩⟩
      obtain ⟨SB, hSB⟩ : ∃ S : Int, ((Crc.more 0 bs : Nat) : Int) = S := ⟨_, rfl⟩
      obtain ⟨SL, hSL⟩ : ∃ S : Int, ((Crc.more 0 l : Nat) : Int) = S := ⟨_, rfl⟩
      have X : Hd (((Crc.more 0 bs : Nat) : Int) = SB ∧ ((Crc.more 0 l : Nat) : Int) = SL ∧ (∀ x ∈ bs, x < 256)) := ⟨hSB, hSL, HJ.out.2.2.2.1⟩
      have heq : (SB == SL) = decide (Crc.turns (8 * n) al = 0) := by
        rw [Bool.eq_iff_iff, beq_iff_eq, decide_eq_true_iff, ← hsum, ← hSB, ← hSL]; omega
      have hbl2 : decide (Crc.ov 0 (Crc.xl bs l) = 0) = (SB == SL) := by
        rw [Bool.eq_iff_iff, beq_iff_eq, decide_eq_true_iff, hbl, ← hSB, ← hSL]; omega
      have Y : Hd ((SB == SL) = decide (Crc.turns (8 * n) al = 0) ∧ decide (Crc.ov 0 (Crc.xl bs l) = 0) = (SB == SL) ∧ (c = 0 → Crc.turns (8 * n) al = 0) ∧ (c ≠ 0 → c ≤ 3 ∨ c % 2 = 1 → Crc.turns (8 * n) al ≠ 0)) := ⟨heq, hbl2, h0, hfew⟩
      clear hsum hbl hfew h0 hSB hSL heq hbl2 HJ HC O2
      go_wp2_with fail
      refine (sum_any wr (some ⟨g, 0, none⟩) n cb2 wr.heap.size bs (S0.out.get (A := (some ⟨g, 0, none⟩)) (n := n) (bs := bs) (by simp)) (Nat.le_refl _) X.out.2.2 (by omega)).mono ?_
      rw [X.out.1]
      rintro e w1 ⟨rfl, hb⟩
      have S1 := Hd.mk (S0.out.step hb)
      clear hb S0
      go_wp2_with fail
      refine (twin_rd w1 a n ca w1.heap.size l (S1.out.get (A := a) (n := n) (bs := l) (by simp)) (Nat.le_refl _) (by omega)).mono ?_
      rintro e w2 ⟨C, cc, rfl, hr, hb⟩
      have S2 := Hd.mk (S1.out.push hb hr)
      clear hr hb S1
      go_wp2_with fail
      refine (sum_any w2 C n cc w2.heap.size l (S2.out.get (A := C) (n := n) (bs := l) (by simp)) (Nat.le_refl _) XL.out.1 (by omega)).mono ?_
      rw [X.out.2.1]
      rintro e w3 ⟨rfl, hb⟩
      have S3 := Hd.mk (S2.out.step hb)
      clear hb S2
      by_cases c0 : c = 0
      · have eqs : (SB == SL) = true := by rw [Y.out.1]; exact decide_eq_true (Y.out.2.2.1 c0)
        subst c0
        go_wp2_with fail
        go_ret
        exact ⟨rfl, S3.out.bel⟩
      have c0' : ((c : Int) == 0) = false := by rw [beq_eq_false_iff_ne]; omega
      by_cases c3 : c ≤ 3
      · have eqs : (SB == SL) = false := by rw [Y.out.1]; exact decide_eq_false (Y.out.2.2.2 c0 (.inl c3))
        have EB : Hd (decide (Crc.ov 0 (Crc.xl bs l) = 0) = false) := ⟨by rw [Y.out.2.1, eqs]⟩
        have c3' : (c : Int) ≤ 3 := by omega
        go_wp2_with fail
        refine (both_rd w3 (some ⟨g, 0, none⟩) a n cb2 n ca w3.heap.size bs l (S3.out.get (A := (some ⟨g, 0, none⟩)) (n := n) (bs := bs) (by simp)) (S3.out.get (A := a) (n := n) (bs := l) (by simp)) (Nat.le_refl _) X.out.2.2 XL.out.1 (by omega) (by omega)).mono ?_
        rw [Nat.min_self]
        rintro e w4 ⟨D, cd, rfl, hr, hb⟩
        have S4 := Hd.mk (S3.out.push hb hr)
        clear hr hb S3
        go_wp2_with fail
        refine (blind_any w4 D n cd w4.heap.size (Crc.xl bs l) (S4.out.get (A := D) (n := n) (bs := (Crc.xl bs l)) (by simp)) (Nat.le_refl _) (Crc.xl_lt bs l X.out.2.2 XL.out.1) (by omega)).mono ?_
        rw [EB.out]
        rintro e w5 ⟨rfl, hb⟩
        have S5 := Hd.mk (S4.out.step hb)
        clear hb S4
        go_wp2_with fail
        go_ret
        exact ⟨rfl, S5.out.bel⟩
      have c3' : ¬ (c : Int) ≤ 3 := by omega
      have c3'' : decide ((c : Int) ≤ 3) = false := decide_eq_false c3'
      by_cases c2 : c % 2 = 1
      · have eqs : (SB == SL) = false := by rw [Y.out.1]; exact decide_eq_false (Y.out.2.2.2 c0 (.inr c2))
        have EB : Hd (decide (Crc.ov 0 (Crc.xl bs l) = 0) = false) := ⟨by rw [Y.out.2.1, eqs]⟩
        have c2' : ((c : Int) % 2 == 1) = true := by rw [beq_iff_eq]; omega
        go_wp2_with fail
        refine (both_rd w3 (some ⟨g, 0, none⟩) a n cb2 n ca w3.heap.size bs l (S3.out.get (A := (some ⟨g, 0, none⟩)) (n := n) (bs := bs) (by simp)) (S3.out.get (A := a) (n := n) (bs := l) (by simp)) (Nat.le_refl _) X.out.2.2 XL.out.1 (by omega) (by omega)).mono ?_
        rw [Nat.min_self]
        rintro e w4 ⟨D, cd, rfl, hr, hb⟩
        have S4 := Hd.mk (S3.out.push hb hr)
        clear hr hb S3
        go_wp2_with fail
        refine (blind_any w4 D n cd w4.heap.size (Crc.xl bs l) (S4.out.get (A := D) (n := n) (bs := (Crc.xl bs l)) (by simp)) (Nat.le_refl _) (Crc.xl_lt bs l X.out.2.2 XL.out.1) (by omega)).mono ?_
        rw [EB.out]
        rintro e w5 ⟨rfl, hb⟩
        have S5 := Hd.mk (S4.out.step hb)
        clear hb S4
        go_wp2_with fail
        go_ret
        exact ⟨rfl, S5.out.bel⟩
      · have c2' : ((c : Int) % 2 == 1) = false := by rw [beq_eq_false_iff_ne]; omega
        have EB : Hd (decide (Crc.ov 0 (Crc.xl bs l) = 0) = (SB == SL)) := ⟨Y.out.2.1⟩
        have q1 : ((SB == SL) == (SB == SL)) = true := by simp
        go_wp2_with fail
        refine (both_rd w3 (some ⟨g, 0, none⟩) a n cb2 n ca w3.heap.size bs l (S3.out.get (A := (some ⟨g, 0, none⟩)) (n := n) (bs := bs) (by simp)) (S3.out.get (A := a) (n := n) (bs := l) (by simp)) (Nat.le_refl _) X.out.2.2 XL.out.1 (by omega) (by omega)).mono ?_
        rw [Nat.min_self]
        rintro e w4 ⟨D, cd, rfl, hr, hb⟩
        have S4 := Hd.mk (S3.out.push hb hr)
        clear hr hb S3
        go_wp2_with fail
        refine (blind_any w4 D n cd w4.heap.size (Crc.xl bs l) (S4.out.get (A := D) (n := n) (bs := (Crc.xl bs l)) (by simp)) (Nat.le_refl _) (Crc.xl_lt bs l X.out.2.2 XL.out.1) (by omega)).mono ?_
        rw [EB.out]
        rintro e w5 ⟨rfl, hb⟩
        have S5 := Hd.mk (S4.out.step hb)
        clear hb S4
        go_wp2_with fail
        go_ret
        exact ⟨rfl, S5.out.bel⟩
theorem three_walk (a0 : Option Addr) (len0 cap0 : Nat) (z0 : List Int) (a1 : Option Addr) (len1 cap1 : Nat) (z1 : List Int) (w : World)
    (i0 : IsRow .u8 w a0 len0 cap0 z0) (b0 : cap0 * 1 ≤ 140737488351232) (i1 : IsRow .i64 w a1 len1 cap1 z1) (b1 : cap1 * 8 ≤ 140737488351232) :
    Calls Try.prog 9 #[.slice a0 len0 cap0, .slice a1 len1 cap1] w fun e w' => e = .returned (.bool true) ∧ Below w.heap.size w w' := by
  have c0 := i0.len_le
  have c1 := i1.len_le
  obtain ⟨l0, r0, h0, e0, _⟩ := i0.bytes
  have t0 := r0.take (h := len0) (by omega)
  rw [cb, ← List.map_take] at t0
  refine three_pos a0 len0 cap0 (l0.take len0) a1 len1 cap1 (z1.take len1) w t0 i1.rd (fun x hx => h0 x (List.mem_of_mem_take hx)) (fun x hx => ?_) (by omega) (by omega)
  have := i1.wf x (List.mem_of_mem_take hx)
  simpa [Lit.wf, IntKind.min, IntKind.max, IntKind.signed, IntKind.bits] using this
end Go.Proofs.Ytofblciodgibdaa
