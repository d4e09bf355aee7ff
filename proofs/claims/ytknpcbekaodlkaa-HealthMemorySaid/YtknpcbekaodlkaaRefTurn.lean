/- Contract of the reference's Turn. -/
import Derived.Test.YtknpcbekaodlkaaRefChance
import Derived.Test.YtknpcbekaodlkaaTurnR
namespace Go.Proofs.Ytknpcbekaodlkaa
open Go.RowKit
set_option linter.unusedVariables false
set_option linter.unusedSimpArgs false
def geT (p : Nat) : Bool := FloatKind.f64.format.order p 14010698440749613056 == some .gt || FloatKind.f64.format.order p 14010698440749613056 == some .eq
def leT (p : Nat) : Bool := FloatKind.f64.format.order p 4787326403894837248 == some .lt || FloatKind.f64.format.order p 4787326403894837248 == some .eq
def okT (p : Nat) : Bool := geT p && leT p
def turnP (ps : List Nat) (N : Int) : Nat × Nat × Int :=
  if 65536 < ps.length then (0, 0, 3) else if ps.all okT = false then (0, 0, 2)
  else (tRe ps (N % 4).toNat ps.length, tIm ps (N % 4).toNat ps.length, 0)
theorem okT_good {p : Nat} (e : Nat) (he : e = 1114) (hp : p < 2 ^ 64) (h : okT p = true) : FinS p ∧ (vl p).natAbs ≤ 2 ^ e := by
  unfold okT at h
  rw [Bool.and_eq_true] at h
  have hb := order_between (a := 14010698440749613056) (b := 4787326403894837248) hp ⟨by decide, by decide⟩ ⟨by decide, by decide⟩ h.1 h.2
  have h1 := sv_bin 52 1062
  have e1 : (1062 + 1) * 2 ^ 52 = 4787326403894837248 := by decide
  have e2 : 52 + 1062 = e := by omega
  rw [e1, e2] at h1
  have a1 : (vl 4787326403894837248).natAbs = 2 ^ e := by rw [vl_abs, show 4787326403894837248 % ms64 = 4787326403894837248 by decide]; exact h1
  have a2 : (vl 14010698440749613056).natAbs = 2 ^ e := by rw [vl_abs, show 14010698440749613056 % ms64 = 4787326403894837248 by decide]; exact h1
  exact ⟨hb.1, by omega⟩
theorem way_int (st t : Nat) : ((st : Int) * ((t : Int).tmod 4)).tmod 4 = ((way4 st t : Nat) : Int) := by
  rw [Int.tmod_eq_emod_of_nonneg (by omega : (0 : Int) ≤ (t : Int)), show (t : Int) % 4 = ((t % 4 : Nat) : Int) by omega, ← Int.natCast_mul, Int.tmod_eq_emod_of_nonneg (by omega)]
  unfold way4; omega
theorem tRe_next (ps : List Nat) (st t : Nat) : tRe ps st (t + 1) = if way4 st t = 0 then wd (vl (tRe ps st t) + vl (ps.getD t 0)) else if way4 st t = 2 then wd (vl (tRe ps st t) - vl (ps.getD t 0)) else tRe ps st t := rfl
theorem tIm_next (ps : List Nat) (st t : Nat) : tIm ps st (t + 1) = if way4 st t = 1 then wd (vl (tIm ps st t) + vl (ps.getD t 0)) else if way4 st t = 3 then wd (vl (tIm ps st t) - vl (ps.getD t 0)) else tIm ps st t := rfl
theorem re0 (a b c : Nat) : (if (0 : Nat) = 0 then a else if (0 : Nat) = 2 then b else c) = a := if_pos rfl
theorem re1 (a b c : Nat) : (if (1 : Nat) = 0 then a else if (1 : Nat) = 2 then b else c) = c := by rw [if_neg (by decide), if_neg (by decide)]
theorem re2 (a b c : Nat) : (if (2 : Nat) = 0 then a else if (2 : Nat) = 2 then b else c) = b := by rw [if_neg (by decide), if_pos rfl]
theorem re3 (a b c : Nat) : (if (3 : Nat) = 0 then a else if (3 : Nat) = 2 then b else c) = c := by rw [if_neg (by decide), if_neg (by decide)]
theorem im0 (a b c : Nat) : (if (0 : Nat) = 1 then a else if (0 : Nat) = 3 then b else c) = c := by rw [if_neg (by decide), if_neg (by decide)]
theorem im1 (a b c : Nat) : (if (1 : Nat) = 1 then a else if (1 : Nat) = 3 then b else c) = a := if_pos rfl
theorem im2 (a b c : Nat) : (if (2 : Nat) = 1 then a else if (2 : Nat) = 3 then b else c) = c := by rw [if_neg (by decide), if_neg (by decide)]
theorem im3 (a b c : Nat) : (if (3 : Nat) = 1 then a else if (3 : Nat) = 3 then b else c) = b := by rw [if_neg (by decide), if_pos rfl]
theorem all_takeT {ps : List Nat} {k : Nat} (hk : k < ps.length) (h : (ps.take k).all okT = true) (h1 : okT (ps.getD k 0) = true) : (ps.take (k + 1)).all okT = true := by
  rw [List.getD_eq_getElem?_getD, List.getElem?_eq_getElem hk, Option.getD_some] at h1
  rw [List.take_succ_eq_append_getElem hk, List.all_append, h, List.all_cons, h1]; rfl
theorem not_allT {ps : List Nat} {k : Nat} (hk : k < ps.length) (h1 : okT (ps.getD k 0) = false) : ps.all okT = false := by
  rw [List.getD_eq_getElem?_getD, List.getElem?_eq_getElem hk, Option.getD_some] at h1
  rcases hb : ps.all okT with _ | _
  · rfl
  · have := List.all_eq_true.1 hb _ (List.getElem_mem hk); rw [h1] at this; cases this
set_option maxHeartbeats 1000000 in
theorem refTurn_any (w : World) (A : Option Addr) (n c B : Nat) (ps : List Nat) (N : Int) (hr : Rd w B A n (fv ps)) (hB : B ≤ w.heap.size) (hp : ∀ y ∈ ps, y < 2 ^ 64) (hn : n ≤ 140737488355328) (hN1 : -9223372036854775808 ≤ N) (hN2 : N ≤ 9223372036854775807) :
    Calls Try.prog 20 #[.slice A n c, .int .i64 N] w fun e w' => e = .returned (.tuple #[.float .f64 (turnP ps N).1, .float .f64 (turnP ps N).2.1, .int .i64 (turnP ps N).2.2]) ∧ Below w.heap.size w w' := by
  have hl : ps.length = n := by have := hr.1; rw [fv_len] at this; exact this
  have HH : Hd (Rd w B A n (fv ps) ∧ B ≤ w.heap.size ∧ (∀ y ∈ ps, y < 2 ^ 64) ∧ ps.length = n) := ⟨hr, hB, hp, hl⟩
  clear hr hB hp hl
  go_enter Try.func20, Try.ntmps20
  by_cases h255 : 65536 < n
  · have hi : (65536 : Int) < (n : Int) := by omega
    have HE : Hd (turnP ps N = (0, 0, 3)) := ⟨by unfold turnP; rw [if_pos (by rw [HH.out.2.2.2]; exact h255)]⟩
    go_wp2
    go_ret3
    exact ⟨by rw [HE.out]; rfl, Below.refl _ _⟩
  have hi : ¬ (65536 : Int) < (n : Int) := by omega
  go_wp2_with fail
  go_loop [7] (fun i => ∃ k : Nat, k ≤ n ∧ i = .int .i64 k ∧ (ps.take k).all okT = true) (fun i => n - (intOf i).toNat)
  case atStart => exact ⟨0, by omega, rfl, rfl⟩
  case round =>
    obtain ⟨k, hk, rfl, hall⟩ := hrel
    have HA := Hd.mk hall
    clear hall
    by_cases hlt : k < n
    · have hki : (k : Int) < (n : Int) := by omega
      obtain ⟨g, off, u, hA, _, hx, hc⟩ := HH.out.1.at_ hlt
      rw [fv_get _ _ (by rw [HH.out.2.2.2]; exact hlt)] at hx
      injection hx with hx
      subst hx hA
      obtain ⟨x, hx⟩ : ∃ x, ps.getD k 0 = x := ⟨_, rfl⟩
      rw [hx] at hc
      have HX := Hd.mk hx
      clear hx
      rcases hge : geT x with _ | _
      · have hq : (FloatKind.f64.format.order x 14010698440749613056 == some .gt || FloatKind.f64.format.order x 14010698440749613056 == some .eq) = false := hge
        have HE : Hd (turnP ps N = (0, 0, 2)) := ⟨by
          unfold turnP
          rw [if_neg (by rw [HH.out.2.2.2]; exact h255), if_pos (not_allT (k := k) (by rw [HH.out.2.2.2]; exact hlt) (by rw [HX.out]; unfold okT; rw [hge]; rfl))]⟩
        clear hge
        go_wp2
        go_ret3
        exact ⟨by rw [HE.out]; rfl, Below.refl _ _⟩
      · have hq : (FloatKind.f64.format.order x 14010698440749613056 == some .gt || FloatKind.f64.format.order x 14010698440749613056 == some .eq) = true := hge
        rcases hle : leT x with _ | _
        · have hq2 : (FloatKind.f64.format.order x 4787326403894837248 == some .lt || FloatKind.f64.format.order x 4787326403894837248 == some .eq) = false := hle
          have HE : Hd (turnP ps N = (0, 0, 2)) := ⟨by
            unfold turnP
            rw [if_neg (by rw [HH.out.2.2.2]; exact h255), if_pos (not_allT (k := k) (by rw [HH.out.2.2.2]; exact hlt) (by rw [HX.out]; unfold okT; rw [hge, hle]; rfl))]⟩
          clear hge hle
          go_wp2
          go_ret3
          exact ⟨by rw [HE.out]; rfl, Below.refl _ _⟩
        · have hq2 : (FloatKind.f64.format.order x 4787326403894837248 == some .lt || FloatKind.f64.format.order x 4787326403894837248 == some .eq) = true := hle
          have HO : Hd (okT x = true) := ⟨by unfold okT; rw [hge, hle]; rfl⟩
          clear hge hle
          go_wp2
          go_round
          case rel => exact ⟨k + 1, by omega, by go_num, all_takeT (by rw [HH.out.2.2.2]; exact hlt) HA.out (by rw [HX.out]; exact HO.out)⟩
          case measure => simp [intOf]; omega
    · have hkn : k = n := by omega
      subst hkn
      have HG : Hd (ps.all okT = true) := ⟨by have := HA.out; rwa [List.take_of_length_le (by rw [HH.out.2.2.2]; exact Nat.le_refl _)] at this⟩
      clear HA
      obtain ⟨e, he⟩ : ∃ e, e = 1114 := ⟨_, rfl⟩
      have HE : Hd (turnP ps N = (tRe ps (N % 4).toNat k, tIm ps (N % 4).toNat k, 0) ∧ ps.length = k ∧ e ≤ 2000 ∧ ∀ j, FinS (ps.getD j 0) ∧ (vl (ps.getD j 0)).natAbs ≤ 2 ^ e) := ⟨by
        unfold turnP
        rw [if_neg (by rw [HH.out.2.2.2]; exact h255), if_neg (by rw [HG.out]; simp), HH.out.2.2.2], HH.out.2.2.2, by omega, fun j => by
        by_cases hj : j < ps.length
        · rw [List.getD_eq_getElem?_getD, List.getElem?_eq_getElem hj, Option.getD_some]
          exact okT_good e he (HH.out.2.2.1 _ (List.getElem_mem hj)) (List.all_eq_true.1 HG.out _ (List.getElem_mem hj))
        · rw [getD_out ps j (by omega)]; exact ⟨(Sum.zero e).fin, by have := (Sum.zero e).abs; rw [Nat.zero_mul] at this; exact Nat.le_trans this (Nat.zero_le _)⟩⟩
      clear he
      obtain ⟨st, hst⟩ : ∃ st, (N % 4).toNat = st := ⟨_, rfl⟩
      rw [hst] at HE
      have hs4 : st < 4 := by omega
      have h2 : (N.tmod 4 + 4).tmod 4 = (st : Int) := by
        rw [Int.tmod_eq_emod_of_nonneg (by have := Int.lt_tmod_of_pos N (show (0 : Int) < 4 by omega); omega)]
        have : (N.tmod 4) % 4 = N % 4 := by rw [Int.tmod_def]; omega
        omega
      have h3 := Int.lt_tmod_of_pos N (show (0 : Int) < 4 by omega)
      have h4 := Int.tmod_lt_of_pos N (show (0 : Int) < 4 by omega)
      clear hst
      go_wp2_with fail
      clear h2 h3 h4
      go_loop [8, 9, 11] (fun a b i => ∃ t : Nat, t ≤ k ∧ i = .int .i64 (t : Int) ∧ a = .float .f64 (tRe ps st t) ∧ b = .float .f64 (tIm ps st t)) (fun _ _ i => k - (intOf i).toNat)
      case atStart => exact ⟨0, by omega, rfl, rfl, rfl⟩
      case round =>
        obtain ⟨t, ht, rfl, rfl, rfl⟩ := hrel
        by_cases htk : t < k
        · have hti : (t : Int) < (k : Int) := by omega
          obtain ⟨g, off, u, hA, _, hx, hc⟩ := HH.out.1.at_ htk
          rw [fv_get _ _ (by rw [HE.out.2.1]; exact htk)] at hx
          injection hx with hx
          subst hx hA
          have hw := way_int st t
          have S1 := tRe_sum (st := st) HE.out.2.2.1 (fun j => (HE.out.2.2.2 j).2) t (by omega)
          have S2 := tIm_sum (st := st) HE.out.2.2.1 (fun j => (HE.out.2.2.2 j).2) t (by omega)
          have r1 := tRe_next ps st t
          have r2 := tIm_next ps st t
          have hs := (HE.out.2.2.2 t).1
          have hw4 : way4 st t < 4 := Nat.mod_lt _ (by decide)
          obtain ⟨x, hx⟩ : ∃ x, ps.getD t 0 = x := ⟨_, rfl⟩
          rw [hx] at hc hs r1 r2
          have e1 := fun w => run_tadd (P := Try.prog) w 24 S1 hs
          have e2 := fun w => run_tadd (P := Try.prog) w 24 S2 hs
          have e3 := fun w => run_tsub (P := Try.prog) w 24 S1 hs
          have e4 := fun w => run_tsub (P := Try.prog) w 24 S2 hs
          obtain ⟨q, hq⟩ : ∃ q, (t : Int).tmod 4 = q := ⟨_, rfl⟩
          have q1 : 0 ≤ q ∧ q < 4 := by rw [← hq, Int.tmod_eq_emod_of_nonneg (by omega)]; omega
          rw [hq] at hw
          have m1 : -9223372036854775808 ≤ (st : Int) * q ∧ (st : Int) * q ≤ 9223372036854775807 := by
            have a1 : (0 : Int) ≤ (st : Int) * q := Int.mul_nonneg (by omega) q1.1
            have a2 : (st : Int) * q ≤ 4 * 4 := Int.mul_le_mul (by omega) (by omega) q1.1 (by omega)
            omega
          obtain ⟨z, hz⟩ : ∃ z, (st : Int) * q = z := ⟨_, rfl⟩
          rw [hz] at hw m1
          obtain ⟨A0, hA0⟩ : ∃ a, tRe ps st t = a := ⟨_, rfl⟩
          obtain ⟨B0, hB0⟩ : ∃ a, tIm ps st t = a := ⟨_, rfl⟩
          rw [hA0] at r1 e1 e3 ⊢
          rw [hB0] at r2 e2 e4 ⊢
          clear S1 S2 hs hx hA0 hB0
          obtain ⟨y, hy⟩ : ∃ y, way4 st t = y := ⟨_, rfl⟩
          rw [hy] at hw hw4 r1 r2
          have HRR := Hd.mk (And.intro r1 r2)
          clear r1 r2 hy
          have hy4 : y = 0 ∨ y = 1 ∨ y = 2 ∨ y = 3 := by omega
          rcases hy4 with rfl | rfl | rfl | rfl
          all_goals
            simp only [show ((0 : Nat) : Int) = 0 from rfl, show ((1 : Nat) : Int) = 1 from rfl, show ((2 : Nat) : Int) = 2 from rfl, show ((3 : Nat) : Int) = 3 from rfl] at hw
            go_wp2_with fail
            go_round
            case rel => exact ⟨t + 1, by omega, by go_num, by rw [HRR.out.1]; (first | rw [re0] | rw [re1] | rw [re2] | rw [re3]), by rw [HRR.out.2]; (first | rw [im0] | rw [im1] | rw [im2] | rw [im3])⟩
            case measure => simp [intOf]; omega
        · have htk2 : t = k := by omega
          subst htk2
          go_wp2
          go_ret3
          exact ⟨by rw [HE.out.1]; rfl, Below.refl _ _⟩
end Go.Proofs.Ytknpcbekaodlkaa
