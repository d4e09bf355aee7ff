/- Contracts of the program's unit and Turn. -/
import Derived.Test.YtknpcbekaodlkaaRefTurn
import Derived.Test.YtknpcbekaodlkaaTurnC
namespace Go.Proofs.Ytknpcbekaodlkaa
open Go.RowKit
set_option linter.unusedVariables false
set_option linter.unusedSimpArgs false
def uRe (q : Nat) : Nat := if q = 0 then 4607182418800017408 else if q = 2 then 13830554455654793216 else 0
def uIm (q : Nat) : Nat := if q = 1 then 4607182418800017408 else if q = 3 then 13830554455654793216 else 0
set_option maxHeartbeats 400000 in
theorem unit_any (w : World) (q : Nat) (h : q < 4) : Calls Try.prog 43 #[.int .i64 (q : Int)] w fun e w' => e = .returned (.complex .f64 (uRe q) (uIm q)) ∧ w = w' := by
  have hq : q = 0 ∨ q = 1 ∨ q = 2 ∨ q = 3 := by omega
  rcases hq with rfl | rfl | rfl | rfl
  all_goals
    go_enter Try.func43, Try.ntmps43
    go_wp2
    go_ret
    exact ⟨rfl, rfl⟩
theorem bits_and3 (x : Int) : bits .and .i64 x 3 = x % 4 := by
  have e : ((BitVec.ofInt 64 x &&& BitVec.ofInt 64 3).toNat : Int) = x % 4 := by
    rw [BitVec.toNat_and, show (BitVec.ofInt 64 3).toNat = 2 ^ 2 - 1 by decide, Nat.and_two_pow_sub_one_eq_mod, BitVec.toNat_ofInt]
    omega
  have h2 : IntKind.i64.wrap (((BitVec.ofInt 64 x &&& BitVec.ofInt 64 3).toNat : Nat) : Int) = x % 4 := by
    rw [e]
    exact Go.IntWalk.i64_in _ (by omega)
  exact h2
theorem way_next (N : Int) (t : Nat) : (wrap64 (((way4 (N % 4).toNat t : Nat) : Int) + N)) % 4 = ((way4 (N % 4).toNat (t + 1) : Nat) : Int) := by
  have hw : ∀ x : Int, wrap64 x % 4 = x % 4 := fun x => by unfold wrap64; omega
  rw [hw]
  unfold way4
  have h4 : (N % 4).toNat < 4 := by omega
  have hN : N % 4 = ((N % 4).toNat : Int) := by omega
  generalize (N % 4).toNat = st at *
  have ht : t % 4 = 0 ∨ t % 4 = 1 ∨ t % 4 = 2 ∨ t % 4 = 3 := by omega
  have hs : st = 0 ∨ st = 1 ∨ st = 2 ∨ st = 3 := by omega
  rcases ht with h | h | h | h <;> rw [h, show (t + 1) % 4 = (t % 4 + 1) % 4 by omega, h] <;> rcases hs with rfl | rfl | rfl | rfl <;> omega
theorem un_0 (t : Bool) : un t 0 = 0 := if_pos rfl
theorem un_1 : un false one64 = 1 := by unfold un; rw [if_neg (by decide)]; rfl
theorem un_m : un true one64 = -1 := by unfold un; rw [if_neg (by decide)]; rfl
theorem word_m : Ieee.double.word true one64 = 13830554455654793216 := rfl
/-- One step of the sum. -/
theorem turn_step {e : Nat} {ps : List Nat} {st t : Nat} (he : e ≤ 2000) (h : ∀ k, FinS (ps.getD k 0) ∧ (vl (ps.getD k 0)).natAbs ≤ 2 ^ e) (ht : t < 2 ^ 53) :
    ∃ p q, cMulBits (ps.getD t 0) 0 (uRe (way4 st t)) (uIm (way4 st t)) = some (p, q) ∧ cSumBits .add .f64 (tRe ps st t) (tIm ps st t) p q = some (tRe ps st (t + 1), tIm ps st (t + 1)) := by
  have S1 := tRe_sum (st := st) he (fun k => (h k).2) t ht
  have S2 := tIm_sum (st := st) he (fun k => (h k).2) t ht
  have hs := (h t).1
  have r1 := tRe_next ps st t
  have r2 := tIm_next ps st t
  have hy4 : way4 st t = 0 ∨ way4 st t = 1 ∨ way4 st t = 2 ∨ way4 st t = 3 := by have : way4 st t < 4 := Nat.mod_lt _ (by decide); omega
  rw [r1, r2]
  generalize way4 st t = y at *
  rcases hy4 with rfl | rfl | rfl | rfl
  · obtain ⟨p, q, hm, hp, hq, v1, v2⟩ := cmul_unit hs false false one64 0 (.inl rfl) (.inr rfl)
    refine ⟨p, q, hm, ?_⟩
    rw [csum_add S1 S2 hp hq, v1, v2, un_1, un_0, Int.one_mul, Int.zero_mul, Int.add_zero, wd_self S2, re0, im0]
  · obtain ⟨p, q, hm, hp, hq, v1, v2⟩ := cmul_unit hs false false 0 one64 (.inr rfl) (.inl rfl)
    refine ⟨p, q, hm, ?_⟩
    rw [csum_add S1 S2 hp hq, v1, v2, un_1, un_0, Int.one_mul, Int.zero_mul, Int.add_zero, wd_self S1, re1, im1]
  · obtain ⟨p, q, hm, hp, hq, v1, v2⟩ := cmul_unit hs true false one64 0 (.inl rfl) (.inr rfl)
    rw [word_m] at hm
    refine ⟨p, q, hm, ?_⟩
    rw [csum_add S1 S2 hp hq, v1, v2, un_m, un_0, Int.neg_one_mul, Int.zero_mul, Int.add_zero, wd_self S2, re2, im2, Int.sub_eq_add_neg]
  · obtain ⟨p, q, hm, hp, hq, v1, v2⟩ := cmul_unit hs false true 0 one64 (.inr rfl) (.inl rfl)
    rw [word_m] at hm
    refine ⟨p, q, hm, ?_⟩
    rw [csum_add S1 S2 hp hq, v1, v2, un_m, un_0, Int.neg_one_mul, Int.zero_mul, Int.add_zero, wd_self S1, re3, im3, Int.sub_eq_add_neg]
set_option maxHeartbeats 1000000 in
theorem turn_any (w : World) (A : Option Addr) (n c B : Nat) (ps : List Nat) (N : Int) (hr : Rd w B A n (fv ps)) (hB : B ≤ w.heap.size) (hp : ∀ y ∈ ps, y < 2 ^ 64) (hn : n ≤ 140737488355328) (hN1 : -9223372036854775808 ≤ N) (hN2 : N ≤ 9223372036854775807) :
    Calls Try.prog 21 #[.slice A n c, .int .i64 N] w fun e w' => e = .returned (.tuple #[.complex .f64 (turnP ps N).1 (turnP ps N).2.1, .int .i64 (turnP ps N).2.2]) ∧ Below w.heap.size w w' := by
  have hl : ps.length = n := by have := hr.1; rw [fv_len] at this; exact this
  have HH : Hd (Rd w B A n (fv ps) ∧ B ≤ w.heap.size ∧ (∀ y ∈ ps, y < 2 ^ 64) ∧ ps.length = n) := ⟨hr, hB, hp, hl⟩
  clear hr hB hp hl
  go_enter Try.func21, Try.ntmps21
  by_cases h255 : 65536 < n
  · have hi : (65536 : Int) < (n : Int) := by omega
    have HE : Hd (turnP ps N = (0, 0, 3)) := ⟨by unfold turnP; rw [if_pos (by rw [HH.out.2.2.2]; exact h255)]⟩
    go_wp2
    go_ret2
    exact ⟨by rw [HE.out]; rfl, Below.refl _ _⟩
  have hi : ¬ (65536 : Int) < (n : Int) := by omega
  go_wp2_with fail
  go_loop [17] (fun i => ∃ k : Nat, k ≤ n ∧ i = .int .i64 k ∧ (ps.take k).all okT = true) (fun i => n - (intOf i).toNat)
  case atStart => exact ⟨0, by omega, rfl, rfl⟩
  case round =>
    obtain ⟨k, hk, rfl, hall⟩ := hrel
    have HA := Hd.mk hall
    clear hall
    by_cases hlt : k < n
    · have hki : (k : Int) < (n : Int) := by omega
      obtain ⟨g, off, u, hA, _, hx, hc⟩ := HH.out.1.at_ hlt
      rw [fv_get _ _ (by rw [HH.out.2.2.2]; exact hlt)] at hx
      injection hx with hx
      subst hx hA
      obtain ⟨x, hx⟩ : ∃ x, ps.getD k 0 = x := ⟨_, rfl⟩
      rw [hx] at hc
      have HX := Hd.mk hx
      clear hx
      rcases hge : geT x with _ | _
      · have hq : (FloatKind.f64.format.order x 14010698440749613056 == some .gt || FloatKind.f64.format.order x 14010698440749613056 == some .eq) = false := hge
        have HE : Hd (turnP ps N = (0, 0, 2)) := ⟨by
          unfold turnP
          rw [if_neg (by rw [HH.out.2.2.2]; exact h255), if_pos (not_allT (k := k) (by rw [HH.out.2.2.2]; exact hlt) (by rw [HX.out]; unfold okT; rw [hge]; rfl))]⟩
        clear hge
        go_wp2
        go_ret2
        exact ⟨by rw [HE.out]; rfl, Below.refl _ _⟩
      · have hq : (FloatKind.f64.format.order x 14010698440749613056 == some .gt || FloatKind.f64.format.order x 14010698440749613056 == some .eq) = true := hge
        rcases hle : leT x with _ | _
        · have hq2 : (FloatKind.f64.format.order x 4787326403894837248 == some .lt || FloatKind.f64.format.order x 4787326403894837248 == some .eq) = false := hle
          have HE : Hd (turnP ps N = (0, 0, 2)) := ⟨by
            unfold turnP
            rw [if_neg (by rw [HH.out.2.2.2]; exact h255), if_pos (not_allT (k := k) (by rw [HH.out.2.2.2]; exact hlt) (by rw [HX.out]; unfold okT; rw [hge, hle]; rfl))]⟩
          clear hge hle
          go_wp2
          go_ret2
          exact ⟨by rw [HE.out]; rfl, Below.refl _ _⟩
        · have hq2 : (FloatKind.f64.format.order x 4787326403894837248 == some .lt || FloatKind.f64.format.order x 4787326403894837248 == some .eq) = true := hle
          have HO : Hd (okT x = true) := ⟨by unfold okT; rw [hge, hle]; rfl⟩
          clear hge hle
          go_wp2
          go_round
          case rel => exact ⟨k + 1, by omega, by go_num, all_takeT (by rw [HH.out.2.2.2]; exact hlt) HA.out (by rw [HX.out]; exact HO.out)⟩
          case measure => simp [intOf]; omega
    · have hkn : k = n := by omega
      subst hkn
      have HG : Hd (ps.all okT = true) := ⟨by have := HA.out; rwa [List.take_of_length_le (by rw [HH.out.2.2.2]; exact Nat.le_refl _)] at this⟩
      clear HA
      obtain ⟨e, he⟩ : ∃ e, e = 1114 := ⟨_, rfl⟩
      have HE : Hd (turnP ps N = (tRe ps (N % 4).toNat k, tIm ps (N % 4).toNat k, 0) ∧ ps.length = k ∧ e ≤ 2000 ∧ ∀ j, FinS (ps.getD j 0) ∧ (vl (ps.getD j 0)).natAbs ≤ 2 ^ e) := ⟨by
        unfold turnP
        rw [if_neg (by rw [HH.out.2.2.2]; exact h255), if_neg (by rw [HG.out]; simp), HH.out.2.2.2], HH.out.2.2.2, by omega, fun j => by
        by_cases hj : j < ps.length
        · rw [List.getD_eq_getElem?_getD, List.getElem?_eq_getElem hj, Option.getD_some]
          exact okT_good e he (HH.out.2.2.1 _ (List.getElem_mem hj)) (List.all_eq_true.1 HG.out _ (List.getElem_mem hj))
        · rw [getD_out ps j (by omega)]; exact ⟨(Sum.zero e).fin, by have := (Sum.zero e).abs; rw [Nat.zero_mul] at this; exact Nat.le_trans this (Nat.zero_le _)⟩⟩
      clear he
      obtain ⟨st, hst⟩ : ∃ st, (N % 4).toNat = st := ⟨_, rfl⟩
      have HW : Hd (∀ t : Nat, (wrap64 (((way4 st t : Nat) : Int) + N)) % 4 = ((way4 st (t + 1) : Nat) : Int)) := ⟨fun t => by rw [← hst]; exact way_next N t⟩
      rw [hst] at HE
      clear hst
      go_wp2_with fail
      go_loop [8, 9, 31] (fun a b i => ∃ t : Nat, t ≤ k ∧ i = .int .i64 (t : Int) ∧ a = .complex .f64 (tRe ps st t) (tIm ps st t) ∧ b = .int .i64 ((way4 st t : Nat) : Int)) (fun _ _ i => k - (intOf i).toNat)
      case atStart => exact ⟨0, by omega, rfl, rfl, by simp [way4]⟩
      case round =>
        obtain ⟨t, ht, rfl, rfl, rfl⟩ := hrel
        by_cases htk : t < k
        · have hti : (t : Int) < (k : Int) := by omega
          obtain ⟨g, off, u, hA, _, hx, hc⟩ := HH.out.1.at_ htk
          rw [fv_get _ _ (by rw [HE.out.2.1]; exact htk)] at hx
          injection hx with hx
          subst hx hA
          obtain ⟨p, q, hm, ha⟩ := turn_step (st := st) (t := t) HE.out.2.2.1 HE.out.2.2.2 (by omega)
          have e1 := fun w => run_complex_mul (P := Try.prog) w 34 _ _ _ _ p q hm
          have e2 := fun w => run_complex_sum (P := Try.prog) w .add (.inl rfl) 34 .f64 _ _ p q _ _ ha
          have HB := Hd.mk ((bits_and3 _).trans (HW.out t))
          have hw4 : way4 st t < 4 := Nat.mod_lt _ (by decide)
          obtain ⟨x, hx⟩ : ∃ x, ps.getD t 0 = x := ⟨_, rfl⟩
          rw [hx] at hc e1
          obtain ⟨y, hy⟩ : ∃ y, way4 st t = y := ⟨_, rfl⟩
          rw [hy] at e1 HB hw4 ⊢
          obtain ⟨A0, hA0⟩ : ∃ a, tRe ps st t = a := ⟨_, rfl⟩
          obtain ⟨B0, hB0⟩ : ∃ a, tIm ps st t = a := ⟨_, rfl⟩
          rw [hA0, hB0] at e2 ⊢
          clear hm ha hx hy hA0 hB0
          go_wp2_with fail
          refine (unit_any _ y hw4).mono ?_
          rintro e w1 ⟨rfl, rfl⟩
          go_wp2_with fail
          go_round
          case rel => exact ⟨t + 1, by omega, by go_num, rfl, congrArg (Value.int .i64) HB.out⟩
          case measure => simp [intOf]; omega
        · have htk2 : t = k := by omega
          subst htk2
          go_wp2
          go_ret2
          exact ⟨by rw [HE.out.1]; rfl, Below.refl _ _⟩
end Go.Proofs.Ytknpcbekaodlkaa
