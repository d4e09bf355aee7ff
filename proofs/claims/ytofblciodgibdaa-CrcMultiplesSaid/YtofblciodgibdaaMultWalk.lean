/- The walk of CrcMultiples. -/
import Derived.Test.YtofblciodgibdaaKnown
import Derived.Test.YtofblciodgibdaaBoth
import Derived.Test.YtofblciodgibdaaMult
import Derived.Test.YtofblciodgibdaaArgs
namespace Go.Proofs.Ytofblciodgibdaa
open Go.RowKit
set_option linter.unusedVariables false
theorem own_below {w w' : World} {base e n : Nat} {v : Value} {xs : List Value} (h : w.ownsRow base e 1 v n xs) (b : Below w.heap.size w w') : w'.ownsRow base e 1 v n xs :=
  ⟨h.1, h.2.imp id fun ⟨g, cap, cur, hv, hg, hh, r⟩ => ⟨g, cap, cur, hv, hg, by rw [b.block g (Array.getElem?_eq_some_iff.1 hh).1]; exact hh, r⟩⟩
namespace Crc
theorem more_put (t L : List Nat) (h : t.length = L.length) (ht : ∀ x ∈ t, x < 256) (hL : ∀ x ∈ L, x < 256) : more 0 (xl t L) = more 0 t ↔ ov 0 L = 0 := by
  rw [more0 _ (xl_lt t L ht hL), more0 t ht]
  have e := ov_xor t L 4294967295 0 h
  rw [Nat.xor_zero] at e
  rw [e]
  constructor
  · intro q
    have := congrArg (fun z => ov 4294967295 t ^^^ (z ^^^ 4294967295)) q
    simp only [Nat.xor_assoc, Nat.xor_self, Nat.xor_zero] at this
    rw [← Nat.xor_assoc, Nat.xor_self, Nat.zero_xor] at this
    exact this
  · intro q; rw [q, Nat.xor_zero]
theorem lay_out (L : List Nat) (N k : Nat) (hL : L.length = N) (h0 : ov 0 L = 0) (hk : k < 8 * N) : ov 0 (lay L k) ≠ 0 := by
  rw [ov_lay L _ _ (by omega), h0, Nat.zero_xor]
  intro e
  exact absurd (itT_inj _ _ (by decide) e) (by decide)
end Crc
set_option maxRecDepth 100000 in
set_option maxHeartbeats 4000000 in
theorem mult_pos (a : Option Addr) (n ca : Nat) (ml : List Nat) (b : Option Addr) (m cb2 : Nat) (tx : List Nat) (at_ : Int) (w : World) (ha : Rd w w.heap.size a n (cb ml)) (hb : Rd w w.heap.size b m (cb tx)) (lm : ∀ x ∈ ml, x < 256) (lt : ∀ x ∈ tx, x < 256)
    (hn : n ≤ 140737488351232) (hm : m ≤ 140737488351232) (t1 : -9223372036854775808 ≤ at_) (t2 : at_ ≤ 9223372036854775807) :
    Calls Try.prog 7 #[.slice a n ca, .slice b m cb2, .int .i64 at_] w fun e w' => e = .returned (.bool true) ∧ Below w.heap.size w w' := by
  have hxl : tx.length = m := by have := hb.1; rw [cb_length] at this; exact this
  have HB0 : Hd (Rd w w.heap.size b m (cb tx) ∧ (∀ x ∈ tx, x < 256) ∧ tx.length = m) := ⟨hb, lt, hxl⟩
  have HA0 : Hd (Rd w w.heap.size a n (cb ml) ∧ (∀ x ∈ ml, x < 256)) := ⟨ha, lm⟩
  clear hb lt hxl ha lm
  go_enter Try.func7, Try.ntmps7
  go_wp2_with fail
  refine (multiple_any w a n ca ml HA0.out.1 HA0.out.2 hn).mono ?_
  rintro e wm ⟨g, cap, L, rfl, hO, hL1, hL2, hL3, hg, hb⟩
  have HP : Hd (wm.ownsRow w.heap.size 5 1 (.slice (some ⟨g, 0, none⟩) (n + 4) cap) (n + 4) (cb L) ∧ (∀ x ∈ L, x < 256) ∧ Crc.ov 0 L = 0 ∧ L.length = n + 4 ∧ w.heap.size ≤ g ∧ Below w.heap.size w wm ∧ g < wm.heap.size) := ⟨hO, hL1, hL2, hL3, hg, hb, (hO.lt g rfl).2⟩
  clear hO hL1 hL2 hL3 hg hb
  obtain ⟨N, hN⟩ : ∃ N, n + 4 = N := ⟨_, rfl⟩
  have N1 : 4 ≤ N := by omega
  have N2 : N ≤ 140737488351236 := by omega
  rw [hN] at HP ⊢
  clear hN hn
  go_wp2_with fail
  go_loopw [8, 9] (fun s q wr => ∃ (k : Nat) (tl : List Nat), k ≤ N ∧ q = .int .i64 k ∧ tl.length = k ∧ (∀ x ∈ tl, x < 256) ∧ Onto wm wr wm.heap.size 5 (.slice none 0 0) s k (cb tl)) (fun _ q _ => N - (intOf q).toNat)
  case atStart => exact ⟨0, [], by omega, rfl, rfl, by simp, Onto.nil wm wm.heap.size 5⟩
  case round =>
    obtain ⟨k, tl, hk, rfl, hl1, hl2, hO⟩ := hrel
    have HO : Hd (tl.length = k ∧ (∀ x ∈ tl, x < 256) ∧ Onto wm wr wm.heap.size 5 (.slice none 0 0) u8 k (cb tl)) := ⟨hl1, hl2, hO⟩
    clear hl1 hl2 hO
    by_cases hlt : k < N
    · have h63 : Hd (k + 1 ≤ maxLen) := ⟨by unfold maxLen; omega⟩
      have hby : Hd ((k + 1) * 1 ≤ 140737488355328) := ⟨by omega⟩
      by_cases h2 : k < m
      · have hbw : Below w.heap.size w wr := HP.out.2.2.2.2.2.1.trans (HO.out.2.2.below (fun k h => by cases h) HP.out.2.2.2.2.2.1.size)
        obtain ⟨g2, o2, v2, hA2, hg2, hx2, hc2⟩ := (HB0.out.1.below hbw).at_ h2
        rw [cb_get _ _ (by rw [HB0.out.2.2]; exact h2)] at hx2
        injection hx2 with hx2
        have b2 := getD_lt HB0.out.2.1 (k := k) (by rw [HB0.out.2.2]; exact h2)
        generalize tx.getD k 0 = y at *
        subst hx2 hA2
        have HY : Hd (y < 256) := ⟨b2⟩
        have HG : Hd (g2 < w.heap.size) := ⟨hg2⟩
        clear hbw b2 hg2
        have HB : Hd (wm.heap.size ≤ wr.heap.size) := ⟨HO.out.2.2.size⟩
        have hki : (k : Int) < (N : Int) := by omega
        have hkj : (k : Int) < (m : Int) := by omega
        go_wp2_with (refine wpList_push elB rfl rfl (.tmp 23) (.tmp 27) 28 rfl rfl rfl wm.heap.size u8 _ _ _ rfl rfl rfl rfl HO.out.2.2.own h63.out hby.out HB.out ?_; intro v1 w2 hO1)
        go_roundw
        case rel =>
          refine ⟨k + 1, tl ++ [y], by omega, by go_num, by simp [HO.out.1], ?_, ?_⟩
          · intro x hx
            rcases List.mem_append.1 hx with h | h
            · exact HO.out.2.1 x h
            · rw [List.mem_singleton.1 h]; exact HY.out
          · rw [cb_append]; exact HO.out.2.2.trans hO1
        case measure => simp [intOf]; omega
      · have HB : Hd (wm.heap.size ≤ wr.heap.size) := ⟨HO.out.2.2.size⟩
        go_wp2_with (refine wpList_push elB rfl rfl (.tmp 30) (.tmp 32) 33 rfl rfl rfl wm.heap.size u8 _ _ _ rfl rfl rfl rfl HO.out.2.2.own h63.out hby.out HB.out ?_; intro v1 w2 hO1)
        go_roundw
        case rel =>
          refine ⟨k + 1, tl ++ [k % 256], by omega, by go_num, by simp [HO.out.1], ?_, ?_⟩
          · intro x hx
            rcases List.mem_append.1 hx with h | h
            · exact HO.out.2.1 x h
            · rw [List.mem_singleton.1 h]; omega
          · rw [cb_append]; exact HO.out.2.2.trans hO1
        case measure => simp [intOf]; omega
    · have hkN : k = N := by omega
      subst hkN
      obtain ⟨T, ct, hT, _, _⟩ := own_form HO.out.2.2.own
      subst hT
      have hpo := HO.out.2.2.keep HP.out.1 (Apart.nil _)
      have hbel : Below w.heap.size w wr := HP.out.2.2.2.2.2.1.trans (HO.out.2.2.below (fun k h => by cases h) HP.out.2.2.2.2.2.1.size)
      have XP : Hd (wr.ownsRow w.heap.size 5 1 (.slice (some ⟨g, 0, none⟩) k cap) k (cb L) ∧ wr.ownsRow wm.heap.size 5 1 (.slice T k ct) k (cb tl) ∧ Below w.heap.size w wr) := ⟨hpo, HO.out.2.2.own, hbel⟩
      have S0 : Hd (RS wr wr [(T, k, tl), (some ⟨g, 0, none⟩, k, L)]) := ⟨RS.start (by
        rintro x hx; simp only [List.mem_cons, List.not_mem_nil, or_false] at hx
        rcases hx with rfl | rfl
        · exact Rd.of_own HO.out.2.2.own
        · exact Rd.of_own hpo)⟩
      clear hpo hbel
      have hmp := Crc.more_put tl L (by rw [HO.out.1, HP.out.2.2.2.1]) HO.out.2.1 HP.out.2.1
      have XL : Hd ((∀ x ∈ tl, x < 256) ∧ tl.length = k) := ⟨HO.out.2.1, HO.out.1⟩
      clear HO
      obtain ⟨SX, hSX⟩ : ∃ S : Int, ((Crc.more 0 (Crc.xl tl L) : Nat) : Int) = S := ⟨_, rfl⟩
      obtain ⟨ST, hST⟩ : ∃ S : Int, ((Crc.more 0 tl : Nat) : Int) = S := ⟨_, rfl⟩
      have X : Hd (((Crc.more 0 (Crc.xl tl L) : Nat) : Int) = SX ∧ ((Crc.more 0 tl : Nat) : Int) = ST ∧ decide (Crc.ov 0 L = 0) = true) := ⟨hSX, hST, decide_eq_true HP.out.2.2.1⟩
      have e1 : (SX != ST) = false := by rw [bne_eq_false_iff_eq, ← hSX, ← hST, hmp.2 HP.out.2.2.1]
      clear hmp hSX hST
      go_wp2_with fail
      refine (known_any wr).mono ?_
      rintro e w1 ⟨rfl, hb⟩
      have S1 := Hd.mk (S0.out.step hb)
      clear hb S0
      go_wp2_with fail
      refine (blind_any w1 (some ⟨g, 0, none⟩) k cap w1.heap.size L (S1.out.get (A := (some ⟨g, 0, none⟩)) (n := k) (bs := L) (by simp)) (Nat.le_refl _) HP.out.2.1 (by omega)).mono ?_
      rw [X.out.2.2]
      rintro e w2 ⟨rfl, hb⟩
      have S2 := Hd.mk (S1.out.step hb)
      clear hb S1
      go_wp2_with fail
      refine (both_rd w2 T (some ⟨g, 0, none⟩) k ct k cap w2.heap.size tl L (S2.out.get (A := T) (n := k) (bs := tl) (by simp)) (S2.out.get (A := (some ⟨g, 0, none⟩)) (n := k) (bs := L) (by simp)) (Nat.le_refl _) XL.out.1 HP.out.2.1 (by omega) (by omega)).mono ?_
      rw [Nat.min_self]
      rintro e w3 ⟨F, cf, rfl, hr, hb⟩
      have S3 := Hd.mk (S2.out.push hb hr)
      clear hr hb S2
      go_wp2_with fail
      refine (sum_any w3 F k cf w3.heap.size (Crc.xl tl L) (S3.out.get (A := F) (n := k) (bs := (Crc.xl tl L)) (by simp)) (Nat.le_refl _) (Crc.xl_lt tl L XL.out.1 HP.out.2.1) (by omega)).mono ?_
      rw [X.out.1]
      rintro e w4 ⟨rfl, hb⟩
      have S4 := Hd.mk (S3.out.step hb)
      clear hb S3
      go_wp2_with fail
      refine (sum_any w4 T k ct w4.heap.size tl (S4.out.get (A := T) (n := k) (bs := tl) (by simp)) (Nat.le_refl _) XL.out.1 (by omega)).mono ?_
      rw [X.out.2.1]
      rintro e w5 ⟨rfl, hb⟩
      have S5 := Hd.mk (S4.out.step hb)
      clear hb S4
      have hm8 := tmod_emod at_ (8 * (k : Int)) (by omega) t1 t2 (by omega)
      have f0 := Int.emod_nonneg at_ (show 8 * (k : Int) ≠ 0 by omega)
      have f1 := Int.emod_lt_of_pos at_ (show 0 < 8 * (k : Int) by omega)
      have hk0 : (8 * (k : Int) == 0) = false := by rw [beq_eq_false_iff_ne]; omega
      have hem : at_.tmod (8 * (k : Int)) = if 0 ≤ at_.tmod (8 * (k : Int)) then at_ % (8 * (k : Int)) else at_ % (8 * (k : Int)) - 8 * (k : Int) := by
        split
        · rw [← hm8.1, Int.tmod_eq_emod_of_nonneg (a := at_.tmod _ + _) (by omega), Int.add_emod_right, Int.emod_eq_of_lt ‹_› (by omega)]
        · rw [← hm8.1, Int.tmod_eq_emod_of_nonneg (a := at_.tmod _ + _) (by omega), Int.emod_eq_of_lt (by omega) (by omega)]; omega
      obtain ⟨q, hq⟩ : ∃ q, at_.tmod (8 * (k : Int)) = q := ⟨_, rfl⟩
      rw [hq] at hm8 hem
      generalize at_ % (8 * (k : Int)) = F0 at *
      obtain ⟨fr, rfl⟩ := Int.eq_ofNat_of_zero_le f0
      have f2 : fr < 8 * k := by omega
      obtain ⟨_, m2, m3⟩ := hm8
      have hlo := Crc.lay_out L k fr HP.out.2.2.2.1 HP.out.2.2.1 f2
      have hll : ∀ x ∈ Crc.lay L fr, x < 256 := Crc.lay_lt L fr HP.out.2.1 (by rw [HP.out.2.2.2.1]; omega)
      have hmp := Crc.more_put tl (Crc.lay L fr) (by rw [XL.out.2, Crc.lay_len, HP.out.2.2.2.1]) XL.out.1 hll
      obtain ⟨SY, hSY⟩ : ∃ S : Int, ((Crc.more 0 (Crc.xl tl (Crc.lay L fr)) : Nat) : Int) = S := ⟨_, rfl⟩
      have e2 : (SY != ST) = true := by rw [bne_iff_ne, ← hSY, ← X.out.2.1]; intro h; exact hlo (hmp.1 (by omega))
      have Y : Hd (((Crc.more 0 (Crc.xl tl (Crc.lay L fr)) : Nat) : Int) = SY ∧ decide (Crc.ov 0 (Crc.lay L fr) = 0) = false ∧ (∀ x ∈ Crc.lay L fr, x < 256)) := ⟨hSY, decide_eq_false hlo, hll⟩
      clear hSY hlo hll hmp f0 f1 t1 t2
      by_cases hq0 : q < 0
      · have hfr : q + 8 * (k : Int) = (fr : Int) := by rw [if_neg (by omega)] at hem; omega
        clear hem
        go_wp2_with fail
        refine (laid_any w5 w.heap.size g k cap fr L (own_below XP.out.1 S5.out.bel) (by omega) HP.out.2.1 (by omega)).mono ?_
        rintro e z0 ⟨rfl, hO3, hG3⟩
        have hT3 : z0.ownsRow wm.heap.size 5 1 (.slice T k ct) k (cb tl) := (own_below XP.out.2.1 S5.out.bel).kept hG3 (by
          cases hv : (Value.slice T k ct).ownBlock with
          | none => exact .inl rfl
          | some j => refine .inr fun hs => ?_; injection hs with hs; have := (XP.out.2.1.lt j hv).1; have := HP.out.2.2.2.2.2.2; omega)
        have hb3 : Below w.heap.size w z0 := XP.out.2.2.trans ((S5.out.bel.mono XP.out.2.2.size).trans ((Below.refl _ _).grown hG3 (Nat.le_trans XP.out.2.2.size S5.out.bel.size) (fun k hk => by injection hk with hk; rw [← hk]; exact HP.out.2.2.2.2.1)))
        have Q : Hd (Below w.heap.size w z0) := ⟨hb3⟩
        have S0 : Hd (RS z0 z0 [(T, k, tl), (some ⟨g, 0, none⟩, k, (Crc.lay L fr))]) := ⟨RS.start (by
          rintro x hx; simp only [List.mem_cons, List.not_mem_nil, or_false] at hx
          rcases hx with rfl | rfl
          · exact Rd.of_own hT3
          · exact Rd.of_own hO3)⟩
        clear hO3 hG3 hT3 hb3 S5
        go_wp2_with fail
        refine (blind_any z0 (some ⟨g, 0, none⟩) k cap z0.heap.size (Crc.lay L fr) (S0.out.get (A := (some ⟨g, 0, none⟩)) (n := k) (bs := (Crc.lay L fr)) (by simp)) (Nat.le_refl _) Y.out.2.2 (by omega)).mono ?_
        rw [Y.out.2.1]
        rintro e w1 ⟨rfl, hb⟩
        have S1 := Hd.mk (S0.out.step hb)
        clear hb S0
        go_wp2_with fail
        refine (both_rd w1 T (some ⟨g, 0, none⟩) k ct k cap w1.heap.size tl (Crc.lay L fr) (S1.out.get (A := T) (n := k) (bs := tl) (by simp)) (S1.out.get (A := (some ⟨g, 0, none⟩)) (n := k) (bs := (Crc.lay L fr)) (by simp)) (Nat.le_refl _) XL.out.1 Y.out.2.2 (by omega) (by omega)).mono ?_
        rw [Nat.min_self]
        rintro e w2 ⟨F, cf, rfl, hr, hb⟩
        have S2 := Hd.mk (S1.out.push hb hr)
        clear hr hb S1
        go_wp2_with fail
        refine (sum_any w2 F k cf w2.heap.size (Crc.xl tl (Crc.lay L fr)) (S2.out.get (A := F) (n := k) (bs := (Crc.xl tl (Crc.lay L fr))) (by simp)) (Nat.le_refl _) (Crc.xl_lt tl _ XL.out.1 Y.out.2.2) (by omega)).mono ?_
        rw [Y.out.1]
        rintro e w3 ⟨rfl, hb⟩
        have S3 := Hd.mk (S2.out.step hb)
        clear hb S2
        go_wp2_with fail
        refine (sum_any w3 T k ct w3.heap.size tl (S3.out.get (A := T) (n := k) (bs := tl) (by simp)) (Nat.le_refl _) XL.out.1 (by omega)).mono ?_
        rw [X.out.2.1]
        rintro e w4 ⟨rfl, hb⟩
        have S4 := Hd.mk (S3.out.step hb)
        clear hb S3
        go_wp2_with fail
        go_ret
        exact ⟨rfl, Q.out.trans (S4.out.bel.mono Q.out.size)⟩
      · have hfr : q = (fr : Int) := by rw [if_pos (by omega)] at hem; omega
        subst hfr
        clear hem
        go_wp2_with fail
        refine (laid_any w5 w.heap.size g k cap fr L (own_below XP.out.1 S5.out.bel) (by omega) HP.out.2.1 (by omega)).mono ?_
        rintro e z0 ⟨rfl, hO3, hG3⟩
        have hT3 : z0.ownsRow wm.heap.size 5 1 (.slice T k ct) k (cb tl) := (own_below XP.out.2.1 S5.out.bel).kept hG3 (by
          cases hv : (Value.slice T k ct).ownBlock with
          | none => exact .inl rfl
          | some j => refine .inr fun hs => ?_; injection hs with hs; have := (XP.out.2.1.lt j hv).1; have := HP.out.2.2.2.2.2.2; omega)
        have hb3 : Below w.heap.size w z0 := XP.out.2.2.trans ((S5.out.bel.mono XP.out.2.2.size).trans ((Below.refl _ _).grown hG3 (Nat.le_trans XP.out.2.2.size S5.out.bel.size) (fun k hk => by injection hk with hk; rw [← hk]; exact HP.out.2.2.2.2.1)))
        have Q : Hd (Below w.heap.size w z0) := ⟨hb3⟩
        have S0 : Hd (RS z0 z0 [(T, k, tl), (some ⟨g, 0, none⟩, k, (Crc.lay L fr))]) := ⟨RS.start (by
          rintro x hx; simp only [List.mem_cons, List.not_mem_nil, or_false] at hx
          rcases hx with rfl | rfl
          · exact Rd.of_own hT3
          · exact Rd.of_own hO3)⟩
        clear hO3 hG3 hT3 hb3 S5
        go_wp2_with fail
        refine (blind_any z0 (some ⟨g, 0, none⟩) k cap z0.heap.size (Crc.lay L fr) (S0.out.get (A := (some ⟨g, 0, none⟩)) (n := k) (bs := (Crc.lay L fr)) (by simp)) (Nat.le_refl _) Y.out.2.2 (by omega)).mono ?_
        rw [Y.out.2.1]
        rintro e w1 ⟨rfl, hb⟩
        have S1 := Hd.mk (S0.out.step hb)
        clear hb S0
        go_wp2_with fail
        refine (both_rd w1 T (some ⟨g, 0, none⟩) k ct k cap w1.heap.size tl (Crc.lay L fr) (S1.out.get (A := T) (n := k) (bs := tl) (by simp)) (S1.out.get (A := (some ⟨g, 0, none⟩)) (n := k) (bs := (Crc.lay L fr)) (by simp)) (Nat.le_refl _) XL.out.1 Y.out.2.2 (by omega) (by omega)).mono ?_
        rw [Nat.min_self]
        rintro e w2 ⟨F, cf, rfl, hr, hb⟩
        have S2 := Hd.mk (S1.out.push hb hr)
        clear hr hb S1
        go_wp2_with fail
        refine (sum_any w2 F k cf w2.heap.size (Crc.xl tl (Crc.lay L fr)) (S2.out.get (A := F) (n := k) (bs := (Crc.xl tl (Crc.lay L fr))) (by simp)) (Nat.le_refl _) (Crc.xl_lt tl _ XL.out.1 Y.out.2.2) (by omega)).mono ?_
        rw [Y.out.1]
        rintro e w3 ⟨rfl, hb⟩
        have S3 := Hd.mk (S2.out.step hb)
        clear hb S2
        go_wp2_with fail
        refine (sum_any w3 T k ct w3.heap.size tl (S3.out.get (A := T) (n := k) (bs := tl) (by simp)) (Nat.le_refl _) XL.out.1 (by omega)).mono ?_
        rw [X.out.2.1]
        rintro e w4 ⟨rfl, hb⟩
        have S4 := Hd.mk (S3.out.step hb)
        clear hb S3
        go_wp2_with fail
        go_ret
        exact ⟨rfl, Q.out.trans (S4.out.bel.mono Q.out.size)⟩
theorem mult_walk (a0 : Option Addr) (len0 cap0 : Nat) (z0 : List Int) (a1 : Option Addr) (len1 cap1 : Nat) (z1 : List Int) (a2 : Int) (w : World)
    (i0 : IsRow .u8 w a0 len0 cap0 z0) (b0 : cap0 * 1 ≤ 140737488351232) (i1 : IsRow .u8 w a1 len1 cap1 z1) (b1 : cap1 * 1 ≤ 140737488351232) (i2 : (Lit.int .i64 a2).wf = true) :
    Calls Try.prog 7 #[.slice a0 len0 cap0, .slice a1 len1 cap1, .int .i64 a2] w fun e w' => e = .returned (.bool true) ∧ Below w.heap.size w w' := by
  have c0 := i0.len_le
  have c1 := i1.len_le
  obtain ⟨l0, r0, h0, e0, _⟩ := i0.bytes
  obtain ⟨l1, r1, h1, e1, _⟩ := i1.bytes
  have w1 : -9223372036854775808 ≤ a2 ∧ a2 ≤ 9223372036854775807 := by simpa [Lit.wf, IntKind.min, IntKind.max, IntKind.signed, IntKind.bits] using i2
  have t0 := r0.take (h := len0) (by omega)
  have t1 := r1.take (h := len1) (by omega)
  rw [cb, ← List.map_take] at t0 t1
  exact mult_pos a0 len0 cap0 (l0.take len0) a1 len1 cap1 (l1.take len1) a2 w t0 t1 (fun x hx => h0 x (List.mem_of_mem_take hx)) (fun x hx => h1 x (List.mem_of_mem_take hx)) (by omega) (by omega) w1.1 w1.2
end Go.Proofs.Ytofblciodgibdaa
