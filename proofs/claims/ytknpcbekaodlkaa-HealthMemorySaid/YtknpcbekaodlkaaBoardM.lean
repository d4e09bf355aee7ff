/- Contracts of New, and of the laws' pick, kept and board. -/
import Derived.Test.YtknpcbekaodlkaaBoardN
namespace Go.Proofs.Ytknpcbekaodlkaa
open Go.RowKit
set_option linter.unusedVariables false
set_option maxHeartbeats 400000 in
theorem lawful_any (w : World) (b K : Nat) (h0 : 0 < K) (h1 : K < one32) (hc : w.cell? ⟨b, 0, none⟩ = some (.float .f32 K)) :
    Calls Try.prog 49 #[.pointer (some ⟨b, 0, none⟩)] w fun e w' => e = .returned (.bool true) ∧ w = w' := by
  have hi : K < inf32 := Nat.lt_trans h1 one_inf32
  have q1 : (FloatKind.f32.format.order K 0 == some .gt) = true := by rw [ord32 hi (by decide), if_neg (by omega), if_neg (by omega)]; rfl
  have q2 : (FloatKind.f32.format.order K 1065353216 == some .lt) = true := by
    have := ord32 hi one_inf32
    rw [if_pos h1] at this
    rw [show FloatKind.f32.format.order K 1065353216 = some .lt from this]; rfl
  clear h0 h1 hi
  go_enter Try.func49, Try.ntmps49
  go_wp2
  go_ret
  exact ⟨rfl, rfl⟩
theorem own_heap {w : World} {g n e : Nat} {base : Nat} (cs : List Value) (hl : cs.length = n) (hb : base ≤ g) (hm : n ≤ maxLen) (h : w.heap[g]? = some (.cells cs.toArray e (0, 0))) : w.ownsRow base e 1 (.slice (some ⟨g, 0, none⟩) n n) n cs :=
  ⟨by omega, .inr ⟨g, n, cs.toArray, rfl, hb, h, Nat.le_refl _, hm, by simp [hl], by simp [← hl]⟩⟩
set_option maxRecDepth 20000 in
set_option maxHeartbeats 1000000 in
theorem new_any (w : World) (n K : Nat) (h1 : 1 ≤ n) (h2 : n ≤ 255) (hK0 : 0 < K) (hK1 : K < one32) :
    Calls Try.prog 37 #[.int .i64 (n : Int), .float .f64 (up K)] w fun e w' => ∃ b h cap, e = .returned (.tuple #[.pointer (some ⟨b, 0, none⟩), .int .i64 0]) ∧
      Brd w' w.heap.size b h cap K (List.replicate n one32) ∧ Below w.heap.size w w' := by
  have e1 := fun w => run_narrow (P := Try.prog) w 24 58 (by rw [Try.underlying24]; rfl) Try.underlying58 (x := up K) (up_inf (Nat.lt_trans hK1 one_inf32)) (by rw [dn_up]; exact Nat.lt_trans hK1 one_inf32)
  rw [dn_up] at e1
  have HK : Hd (0 < K ∧ K < one32) := ⟨hK0, hK1⟩
  have g1 : ¬ (n : Int) < 1 := by omega
  have g2 : ¬ (255 : Int) < (n : Int) := by omega
  generalize up K = u at *
  clear hK0 hK1
  go_enter Try.func37, Try.ntmps37
  go_wp2_with fail
  refine (lawful_any _ w.heap.size K HK.out.1 HK.out.2 (by simp)).mono ?_
  rintro e w1 ⟨rfl, rfl⟩
  go_wp2_with fail
  refine (repeat_any _ _ n h1 h2 (by simp; rfl)).mono ?_
  rintro e w2 ⟨rfl, hh, hb⟩
  simp only [World.size_alloc] at hh hb
  have HH := Hd.mk (And.intro hh hb)
  have hs := hb.size
  simp only [World.size_alloc] at hs
  have hc : w2.cell? ⟨w.heap.size, 1, none⟩ = some (.slice none 0 0) := by rw [hb.cell (p := ⟨w.heap.size, 1, none⟩) (by simp; omega)]; simp
  have hf : w2.frozen? ⟨w.heap.size, 1, none⟩ = false := by rw [hb.frozen (p := ⟨w.heap.size, 1, none⟩) (by simp; omega)]; simp
  have hblk : w2.heap[w.heap.size]? = some (.cells #[.float .f32 K, .slice none 0 0] 61 (0, 0)) := by
    rw [hb.block _ (by omega), Go.Deep.blk_alloc_lt _ _ _ (by simp)]
    exact Go.Deep.blk_alloc_new w _
  have HB := Hd.mk hblk
  clear hblk hh hb
  go_wp2_with fail
  go_ret2
  refine ⟨w.heap.size, w.heap.size + 1 + 1, n, rfl, ⟨Nat.le_refl _, by omega, ?_, ?_⟩, ?_⟩
  · rw [List.length_replicate]
    simp [World.setCell, Array.getElem?_modify, HB.out]
  · rw [List.length_replicate]
    refine own_heap (ff (List.replicate n one32)) (by rw [ff_len, List.length_replicate]) (by omega) (by unfold maxLen; omega) ?_
    rw [Go.Deep.blk_setCell_other _ _ _ _ (show w.heap.size + 1 + 1 ≠ w.heap.size by omega), ← rowR_all]
    exact HH.out.1
  · exact ((((Below.refl _ _).alloc (Nat.le_refl _) _).alloc (by simp) _).trans (HH.out.2.mono (by omega))).setCell (Nat.le_refl _) _
/-- A conversion to 32 bits: some bits, and the world as it was or drawn once. -/
theorem run_narrow_any {P : Program} (w : World) (src dst : TypeId) (x : Nat) (hs : (P.underlying src).isSome = true) (hd : P.underlying dst = some (.float .f32)) : ∃ r w', (convert src dst (.float .f64 x)).run P w = .ok (.float .f32 r) w' ∧ r < 2 ^ 32 ∧ (w' = w ∨ w' = w.drew) := by
  rcases h : floatToFloatBits .f64 x .f32 with _ | r
  · obtain ⟨u, hs'⟩ := Option.isSome_iff_exists.1 hs
    have hne : ¬ FloatKind.f64 = FloatKind.f32 := by decide
    unfold floatToFloatBits at h
    rw [if_neg hne] at h
    split at h
    · rename_i sg fr he
      refine ⟨(Question.nanConv .f32 x).cut (w.tape w.drawn (.nanConv .f32 x)), w.drew, ?_, ?_, .inr rfl⟩
      · cases u <;> simp [convert, run_underlying hs', run_underlying hd, Conv.floatToFloat, he, Question.forced]
      · simp only [Question.cut]; omega
    · cases h
    · rename_i sg m e he
      split at h
      · rename_i ho
        refine ⟨(Question.floatToFloat x).cut (w.tape w.drawn (.floatToFloat x)), w.drew, ?_, ?_, .inr rfl⟩
        · cases u <;> simp [convert, run_underlying hs', run_underlying hd, Conv.floatToFloat, he, ho, Question.forced]
        · simp only [Question.cut]; omega
      · cases h
  · refine ⟨r, w, run_convert_float_float w src dst .f64 .f32 x r hs hd h, ?_, .inl rfl⟩
    unfold floatToFloatBits at h
    rw [if_neg (by decide)] at h
    split at h
    · cases h
    · cases h; exact Ieee.single.write_lt _
    · split at h
      · cases h
      · cases h; exact Ieee.single.write_lt _
theorem between32 {r : Nat} (hr : r < 2 ^ 32) (h1 : (Ieee.single.order r 0 == some .gt) = true) (h2 : (Ieee.single.order r one32 == some .lt) = true) : 0 < r ∧ r < one32 := by
  have hsplit : r = Ieee.single.word (decide (ms32 ≤ r)) (r % ms32) := by
    unfold Ieee.Format.word
    rw [sw32_eq]
    by_cases hm : ms32 ≤ r
    · rw [if_pos (decide_eq_true hm)]
      have : r % ms32 = r - ms32 := by rw [Nat.mod_eq_sub_mod hm, Nat.mod_eq_of_lt]; unfold ms32 at *; omega
      omega
    · rw [if_neg (by simp [hm]), Nat.mod_eq_of_lt (by omega)]
  rcases Nat.lt_or_ge (r % ms32) inf32 with hf | hf
  · have hF : Fin Ieee.single r (decide (ms32 ≤ r)) (r % ms32) := ⟨hsplit, hf⟩
    rw [order_fin hF (fin32 (by decide)), fb32_eq] at h1
    rw [order_fin hF (fin32 one_inf32), fb32_eq] at h2
    have c1 : 0 < svs 23 (decide (ms32 ≤ r)) (r % ms32) := by
      have h0 : svs 23 false 0 = 0 := by unfold svs; rw [sv_zero]; rfl
      rw [h0] at h1
      simp only [compare, compareOfLessAndEq] at h1
      by_cases a : svs 23 (decide (ms32 ≤ r)) (r % ms32) < 0
      · rw [if_pos a] at h1; exact absurd h1 (by decide)
      · rw [if_neg a] at h1
        by_cases b : svs 23 (decide (ms32 ≤ r)) (r % ms32) = 0
        · rw [if_pos b] at h1; exact absurd h1 (by decide)
        · omega
    by_cases hm : ms32 ≤ r
    · rw [decide_eq_true hm] at c1; unfold svs at c1; rw [if_pos rfl] at c1; omega
    · rw [decide_eq_false hm] at c1 h2
      rw [Nat.mod_eq_of_lt (by omega)] at c1 h2
      rw [cmp_sv32] at h2
      have hlt : r < one32 := by
        by_cases a : r < one32
        · exact a
        · rw [if_neg a] at h2
          by_cases b : r = one32
          · rw [if_pos b] at h2; exact absurd h2 (by decide)
          · rw [if_neg b] at h2; exact absurd h2 (by decide)
      refine ⟨?_, hlt⟩
      rcases Nat.eq_zero_or_pos r with h | h
      · subst h; unfold svs at c1; rw [sv_zero] at c1; exact absurd c1 (by decide)
      · exact h
  · exfalso
    have hrd : Ieee.single.read r = if r % ms32 = inf32 then .infinity (r / ms32 % 2 == 1) else .nan (r / ms32 % 2 == 1) (r % ms32 - inf32) := by
      unfold Ieee.Format.read
      rw [sw32_eq, inf32_eq]
      simp only
      rw [if_neg (by show ¬ r % ms32 < 2 ^ 23; unfold inf32 at hf; omega), if_neg (by omega)]
    obtain ⟨m, k, r1, _⟩ := (fin32 one_inf32).read
    obtain ⟨m0, k0, r0, _⟩ := (fin32 (r := 0) (by decide)).read
    unfold Ieee.Format.order at h1 h2
    rw [hrd] at h1 h2
    rw [r1] at h2
    rw [r0] at h1
    split at h1
    · cases hb : (r / ms32 % 2 == 1)
      · rw [hb] at h2; rename_i he; rw [if_pos he] at h2; simp [Ieee.Datum.order] at h2
      · rw [hb] at h1; simp [Ieee.Datum.order] at h1
    · simp [Ieee.Datum.order] at h1
/-- The rung of three quarters. -/
theorem up_eq {r q : Nat} (h : sv 23 r * 2 ^ c925 = sv 52 q) : up r = q := by unfold up; rw [h, rg_of_sv]
theorem up_bin (e f q : Nat) (h : f = e + 896) (hq : q = (f + 1) * 2 ^ 52) : up ((e + 1) * 2 ^ 23) = q := by
  refine up_eq ?_
  rw [hq, sv_bin, sv_bin, ← Nat.pow_add]
  have hc := c925_eq
  congr 1
  omega
theorem up_q3 : up 1061158912 = 4604930618986332160 := by
  refine up_eq ?_
  obtain ⟨x, hx⟩ : ∃ x, x = 1021 := ⟨_, rfl⟩
  have hc := c925_eq
  have h1 : sv 23 1061158912 = 12582912 * 2 ^ 125 := by
    unfold sv
    rw [if_neg (by decide), show 2 ^ 23 + 1061158912 % 2 ^ 23 = 12582912 by decide, show 1061158912 / 2 ^ 23 - 1 = 125 by decide]
  have h2 : sv 52 4604930618986332160 = 6755399441055744 * 2 ^ x := by
    unfold sv
    rw [if_neg (by decide), show 2 ^ 52 + 4604930618986332160 % 2 ^ 52 = 6755399441055744 by decide, show 4604930618986332160 / 2 ^ 52 - 1 = 1021 by decide, hx]
  have h3 : 6755399441055744 = 12582912 * 2 ^ 29 := by decide
  rw [h1, h2, h3, Nat.mul_assoc, Nat.mul_assoc, ← Nat.pow_add, ← Nat.pow_add, show 125 + c925 = 29 + x by omega]
theorem up_half : up 1056964608 = 4602678819172646912 := up_bin 125 1021 _ rfl rfl
set_option maxHeartbeats 400000 in
theorem kept_any (w : World) (x : Nat) : Calls Try.prog 44 #[.float .f64 x] w fun e w' => ∃ K, e = .returned (.float .f64 (up K)) ∧ 0 < K ∧ K < one32 ∧ Below w.heap.size w w' := by
  obtain ⟨r, w1, hrun, hr, hw⟩ := run_narrow_any (P := Try.prog) w 24 58 x (by rw [Try.underlying24]; rfl) Try.underlying58
  have HR := Hd.mk (And.intro hr hw)
  have HB : Hd (Below w.heap.size w w1) := ⟨by rcases hw with rfl | rfl; exact Below.refl _ _; exact (Below.refl _ _).drew⟩
  clear hw hr
  rcases h1 : (FloatKind.f32.format.order r 0 == some .gt) with _ | _
  · go_enter Try.func44, Try.ntmps44
    go_wp2
    go_ret
    exact ⟨1061158912, by rw [up_q3]; rfl, by decide, by decide, HB.out⟩
  · rcases h2 : (FloatKind.f32.format.order r 1065353216 == some .lt) with _ | _
    · go_enter Try.func44, Try.ntmps44
      go_wp2
      go_ret
      exact ⟨1061158912, by rw [up_q3]; rfl, by decide, by decide, HB.out⟩
    · have hb := between32 HR.out.1 h1 h2
      have HK := Hd.mk hb
      have e1 := fun w => run_widen (P := Try.prog) w 58 24 (by rw [Try.underlying58]; rfl) Try.underlying24 (Nat.lt_trans hb.2 one_inf32)
      clear hb
      go_enter Try.func44, Try.ntmps44
      go_wp2
      go_ret
      exact ⟨r, rfl, HK.out.1, HK.out.2, HB.out⟩
def pickP (k : Int) (n : Nat) : Nat := (k % (n : Int)).toNat
set_option maxHeartbeats 400000 in
theorem pick_any (w : World) (k : Int) (n : Nat) (h1 : 1 ≤ n) (h2 : n ≤ 1048576) (hk1 : -9223372036854775808 ≤ k) (hk2 : k ≤ 9223372036854775807) :
    Calls Try.prog 24 #[.int .i64 k, .int .i64 (n : Int)] w fun e w' => e = .returned (.int .i64 ((pickP k n : Nat) : Int)) ∧ w = w' := by
  have g1 : ¬ (n : Int) < 1 := by omega
  have hn0 : (0 : Int) < (n : Int) := by omega
  have l1 := Int.lt_tmod_of_pos k hn0
  have l2 := Int.tmod_lt_of_pos k hn0
  have hm : (n : Int) ≠ 0 := by omega
  have he : k.tmod (n : Int) = if 0 ≤ k ∨ (n : Int) ∣ k then k % (n : Int) else k % (n : Int) - (n : Int) := by
    rw [Int.tmod_eq_emod]
    split <;> simp
  have hp0 := Int.emod_nonneg k hm
  have hp1 := Int.emod_lt_of_pos k hn0
  have HP : Hd (((pickP k n : Nat) : Int) = k % (n : Int)) := ⟨by unfold pickP; omega⟩
  by_cases hs : k.tmod (n : Int) < 0
  · have HE : Hd (k.tmod (n : Int) + (n : Int) = k % (n : Int)) := ⟨by rw [he] at hs ⊢; split at hs <;> rename_i h <;> simp only [h, if_true, if_false] <;> omega⟩
    have hw : IntKind.i64.wrap (k.tmod (n : Int) + (n : Int)) = k.tmod (n : Int) + (n : Int) := Go.IntWalk.i64_in _ (by omega)
    clear he hp0 hp1
    go_enter Try.func24, Try.ntmps24
    go_wp2
    go_ret
    exact ⟨by rw [HP.out, ← HE.out]; rfl, rfl⟩
  · have HE : Hd (k.tmod (n : Int) = k % (n : Int)) := ⟨by rw [he] at hs ⊢; split at hs <;> rename_i h <;> simp only [h, if_true, if_false] <;> omega⟩
    clear he hp0 hp1
    go_enter Try.func24, Try.ntmps24
    go_wp2
    go_ret
    exact ⟨by rw [HP.out, ← HE.out]; rfl, rfl⟩
theorem own_more {w : World} {base base' e n : Nat} {v : Value} {xs : List Value} (h : w.ownsRow base e 1 v n xs) (hb : base' ≤ base) : w.ownsRow base' e 1 v n xs :=
  ⟨h.1, h.2.imp id fun ⟨g, cap, cur, hv, hg, r⟩ => ⟨g, cap, cur, hv, Nat.le_trans hb hg, r⟩⟩
/-- How many places the laws' board has. -/
def placesN (n : Int) : Nat := 1 + pickP (wrap64 (n - 1)) 255
theorem pickP_lt (k : Int) (n : Nat) (h : 1 ≤ n) : pickP k n < n := by
  unfold pickP
  have := Int.emod_lt_of_pos k (show (0 : Int) < (n : Int) by omega)
  have := Int.emod_nonneg k (show (n : Int) ≠ 0 by omega)
  omega
theorem placesN_le (n : Int) : 1 ≤ placesN n ∧ placesN n ≤ 255 := by
  have := pickP_lt (wrap64 (n - 1)) 255 (by decide)
  unfold placesN; omega
theorem wrap64_bd (x : Int) : -9223372036854775808 ≤ wrap64 x ∧ wrap64 x ≤ 9223372036854775807 := by unfold wrap64; omega
set_option maxHeartbeats 400000 in
theorem board_any (w : World) (n : Int) (x : Nat) : Calls Try.prog 23 #[.int .i64 n, .float .f64 x] w fun e w' => ∃ b h cap K, e = .returned (.pointer (some ⟨b, 0, none⟩)) ∧
      0 < K ∧ K < one32 ∧ Brd w' w.heap.size b h cap K (List.replicate (placesN n) one32) ∧ Below w.heap.size w w' := by
  have hb := wrap64_bd (n - 1)
  have hle := placesN_le n
  have HN : Hd ((1 : Int) + ((pickP (wrap64 (n - 1)) 255 : Nat) : Int) = ((placesN n : Nat) : Int)) := ⟨by unfold placesN; omega⟩
  have hp := pickP_lt (wrap64 (n - 1)) 255 (by decide)
  have HB := Hd.mk hb
  have HL := Hd.mk hle
  clear hb hle
  go_enter Try.func23, Try.ntmps23
  go_wp2_with fail
  refine (pick_any _ _ 255 (by decide) (by decide) HB.out.1 HB.out.2).mono ?_
  rintro e w1 ⟨rfl, rfl⟩
  go_wp2_with fail
  refine (kept_any _ x).mono ?_
  rintro e w1 ⟨K, rfl, hK0, hK1, hb1⟩
  have HK := Hd.mk (And.intro hK0 (And.intro hK1 hb1))
  clear hK0 hK1 hb1
  rw [HN.out]
  go_wp2_with fail
  refine (new_any _ (placesN n) K HL.out.1 HL.out.2 HK.out.1 HK.out.2.1).mono ?_
  rintro e w2 ⟨b, h, cap, rfl, hB, hb2⟩
  have H2 := Hd.mk (And.intro hB hb2)
  clear hB hb2
  go_wp2_with fail
  go_ret
  exact ⟨b, h, cap, K, rfl, HK.out.1, HK.out.2.1, ⟨Nat.le_trans HK.out.2.2.size H2.out.1.hB, H2.out.1.ne, H2.out.1.blk, own_more H2.out.1.row HK.out.2.2.size⟩, HK.out.2.2.trans (H2.out.2.mono HK.out.2.2.size)⟩
end Go.Proofs.Ytknpcbekaodlkaa
