/- The walk of CodecShort: it returns true for every two numbers. -/
import Derived.Test.YtjkenhkoakaaoaaShort
import Derived.Test.YtjkenhkoakaaoaaUvLaw
import Derived.Deep.QuietTactic
import Derived.BigQuiet
import Derived.WalkSmall
namespace Go.Proofs.Ytjkenhkoakaaoaa
open Go.RowKit
set_option linter.unusedVariables false
set_option maxRecDepth 100000 in
set_option maxHeartbeats 1000000 in
theorem short_walk0 (v u : Nat) (w : World) (hv : v < 2 ^ 64) (hu : u < 2 ^ 64) :
    Calls Try.prog 5 #[.int .u64 v, .int .u64 u] w fun e w' => e = .returned (.bool true) ∧ Below w.heap.size w w' := by
  have HV : Hid (v < 2 ^ 64 ∧ u < 2 ^ 64) := ⟨hv, hu⟩
  have X1 : (0 : Int) ≤ (v : Int) := by omega
  have X2 : (v : Int) ≤ 18446744073709551615 := by omega
  clear hv hu
  obtain ⟨V, hV⟩ : ∃ V : Int, (v : Int) = V := ⟨_, rfl⟩
  obtain ⟨U, hU⟩ : ∃ U : Int, (u : Int) = U := ⟨_, rfl⟩
  rw [hV, hU]
  rw [hV] at X1 X2
  have HE : Hid ((v : Int) = V ∧ (u : Int) = U) := ⟨hV, hU⟩
  clear hV hU
  go_enter Try.func5, Try.ntmps5
  go_wp2_with fail
  refine ((by have := putUvarint_any w none 0 0 w.heap.size v [] Rd.nil HV.out.1 (by omega) (Nat.le_refl _); rw [HE.out.1] at this; exact this : Calls Try.prog 26 #[.slice none 0 0, .int .u64 V] w _)).mono ?_
  rintro e w1 ⟨v1, rfl, hO1⟩
  go_wp2_with fail
  refine ((by have := putUvarint_any w1 none 0 0 w1.heap.size u [] Rd.nil HV.out.2 (by omega) (Nat.le_refl _); rw [HE.out.2] at this; exact this : Calls Try.prog 26 #[.slice none 0 0, .int .u64 U] w1 _)).mono ?_
  rintro e w2 ⟨v2, rfl, hO2⟩
  obtain ⟨A1, c1, rfl, hc1, hm1⟩ := own_form hO1.own
  obtain ⟨A2, c2, rfl, hc2, hm2⟩ := own_form hO2.own
  have B1 : Below w.heap.size w w1 := hO1.below (fun k h => by cases h) (Nat.le_refl _)
  have B2 : Below w1.heap.size w1 w2 := hO2.below (fun k h => by cases h) (Nat.le_refl _)
  have HF : Hid (Below w.heap.size w w2 ∧ Rd w2 w2.heap.size A1 (uv v).length (cb (uv v)) ∧ Rd w2 w2.heap.size A2 (uv u).length (cb (uv u)) ∧ (uv v).length ≤ c1 ∧ (uv u).length ≤ c2) :=
    ⟨B1.trans (B2.mono B1.size), by have := (Rd.of_own hO1.own).below B2; simpa using this.more B2.size, by have := Rd.of_own hO2.own; simpa using this, by simpa using hc1, by simpa using hc2⟩
  clear hO1 hO2 B1 B2 hc1 hc2 hm1 hm2
  simp only [Nat.zero_add]
  have l1 := uv_len v
  have l2 := uv_len u
  obtain ⟨n1, hn1⟩ : ∃ n, (uv v).length = n := ⟨_, rfl⟩
  obtain ⟨n2, hn2⟩ : ∃ n, (uv u).length = n := ⟨_, rfl⟩
  rw [hn1, hn2]
  rw [hn1] at l1
  rw [hn2] at l2
  have HN : Hid ((uv v).length = n1 ∧ (uv u).length = n2) := ⟨hn1, hn2⟩
  clear hn1 hn2
  have l1a := l1.1
  have l1b := l1.2
  have l2a := l2.1
  have l2b := l2.2
  clear l1 l2
  go_wp2
  go_loop [7, 8] (fun g u => ∃ (k m q : Nat), u = .int .u64 m ∧ g = .int .i64 q ∧ m < 2 ^ (7 * k + 1) ∧ k ≤ 9 ∧ 1 ≤ q ∧ q + rest k m = n1) (fun _ u => (intOf u).toNat)
  case atStart =>
    have := HE.out.1
    refine ⟨8, v / 128, 1, ?_, rfl, by have := HV.out.1; omega, by omega, by omega, ?_⟩
    · rw [← this]; rfl
    · rw [← HN.out.1]; exact rest_start v
  case round =>
    obtain ⟨k, m, q, rfl, rfl, hm, hk, hq, hr⟩ := hrel
    have m2 := pow_64 k m hk hm
    have m1 : (0 : Int) ≤ (m : Int) := by omega
    have q1 : (q : Int) ≤ 10 := by omega
    have HR : Hid (m < 2 ^ (7 * k + 1) ∧ k ≤ 9 ∧ q + rest k m = n1) := ⟨hm, hk, hr⟩
    obtain ⟨M, hM⟩ : ∃ M : Int, (m : Int) = M := ⟨_, rfl⟩
    rw [hM]
    rw [hM] at m1 m2
    have HM : Hid ((m : Int) = M) := hM
    clear hm hk hr hM
    by_cases h : 0 < M
    · go_wp2
      go_round
      case rel =>
        obtain ⟨r1, r2, r3⟩ := HR.out
        have := HM.out
        have r4 := rest_step k m r1 (by omega)
        refine ⟨k - 1, m / 128, q + 1, by rw [← this]; rfl, by go_num, rest_bd k m r1, by omega, by omega, by omega⟩
      case measure => simp [intOf]; omega
    · have hm0 : m = 0 := by have := HM.out; omega
      have hq' : n1 = q := by have := HR.out.2.2; simp [rest, hm0] at this; omega
      subst hq'
      clear q1
      have g1 : ((n1 : Int) != (n1 : Int)) = false := by simp
      have g2 : ((n2 : Int) == 0) = false := by simp; omega
      go_wp2
      go_loop [9, 10] (fun sm i => ∃ j : Nat, i = .int .i64 j ∧ sm = .int .u64 ((val ((uv v).take j) : Nat) : Int) ∧ j ≤ n1) (fun _ i => n1 - (intOf i).toNat)
      case atStart => exact ⟨0, rfl, rfl, by omega⟩
      case round =>
        obtain ⟨j, rfl, rfl, hj⟩ := hrel
        have hS := val_take_le (uv v) j
        rw [val_uv v HV.out.1] at hS
        have S1 : (0 : Int) ≤ ((val ((uv v).take j) : Nat) : Int) := by omega
        have S2 : ((val ((uv v).take j) : Nat) : Int) ≤ 18446744073709551615 := by have := HE.out.1; omega
        obtain ⟨S, hSM⟩ : ∃ S : Int, ((val ((uv v).take j) : Nat) : Int) = S := ⟨_, rfl⟩
        rw [hSM]
        rw [hSM] at S1 S2
        have HS : Hid (((val ((uv v).take j) : Nat) : Int) = S) := hSM
        clear hSM hS
        by_cases hlt : j < n1
        · have hlt' : j < (uv v).length := by rw [HN.out.1]; exact hlt
          obtain ⟨g, off, x, hA, _, hx, hc⟩ := HF.out.2.1.at_ hlt'
          rw [cb_get _ _ hlt'] at hx
          injection hx with hx
          have b256 : (uv v).getD j 0 < 256 := by
            rw [List.getD_eq_getElem?_getD, List.getElem?_eq_getElem hlt']
            exact uv_256 v HV.out.1 _ (List.getElem_mem hlt')
          have x1 : (0 : Int) ≤ (((uv v).getD j 0 : Nat) : Int) := by omega
          have x2 : (((uv v).getD j 0 : Nat) : Int) ≤ 255 := by omega
          obtain ⟨X, hX⟩ : ∃ X : Int, (((uv v).getD j 0 : Nat) : Int) = X := ⟨_, rfl⟩
          rw [hX] at hx x1 x2
          subst hx
          subst hA
          have HX : Hid ((((uv v).getD j 0 : Nat) : Int) = X) := hX
          clear hX b256 hlt'
          have T : (!decide (128 ≤ X) == decide ((j : Int) + 1 < (n1 : Int))) = false := by
            have h1 := uv_hi v HV.out.1 j (by rw [HN.out.1]; exact hlt)
            have h2 := HX.out
            rw [HN.out.1] at h1
            by_cases hh : 128 ≤ (uv v).getD j 0
            · have := h1.1 hh
              rw [decide_eq_true (by omega), decide_eq_true (by omega)]; rfl
            · have : ¬ j + 1 < n1 := fun h => hh (h1.2 h)
              rw [decide_eq_false (by omega), decide_eq_false (by omega)]; rfl
          go_wp2
          go_round
          case rel =>
            refine ⟨j + 1, by go_num, ?_, by omega⟩
            have h1 := val_take (uv v) j (by rw [HN.out.1]; exact hlt)
            have h2 := val_take_le (uv v) (j + 1)
            rw [val_uv v HV.out.1] at h2
            have h3 := HX.out
            have h4 := HS.out
            have h5 := HV.out.1
            congr 1
            have e : X % 128 * 2 ^ (7 * j) = (((uv v).getD j 0 % 128 * 128 ^ j : Nat) : Int) := by
              rw [← h3, show (128 : Nat) = 2 ^ 7 from rfl, ← Nat.pow_mul]
              push_cast; rfl
            rw [e, ← h4, h1]
            rw [h1] at h2
            clear e h3 T hc
            generalize (uv v).getD j 0 % 128 * 128 ^ j = TT at *
            have t1 : IntKind.u64.wrap (TT : Int) = TT := IntWalk.u64_in _ (by omega)
            rw [t1, IntWalk.u64_in _ (by omega)]
            omega
          case measure => simp [intOf]; omega
        · have hjn : j = n1 := by omega
          subst hjn
          have g3 : (S == V) = true := by
            have := HS.out
            rw [← HN.out.1, List.take_length, val_uv v HV.out.1] at this
            rw [← this, HE.out.1]; simp
          have key : ((bstr ((uv v).take (min j n2))).toList == (bstr ((uv u).take (min j n2))).toList) = (V == U) := by
            rw [bstr_beq _ _ (fun x hx => uv_256 v HV.out.1 x (List.mem_of_mem_take hx)) (fun x hx => uv_256 u HV.out.2 x (List.mem_of_mem_take hx))]
            rw [← HN.out.1, ← HN.out.2, ← HE.out.1, ← HE.out.2]
            by_cases hh : (uv v).take (min (uv v).length (uv u).length) = (uv u).take (min (uv v).length (uv u).length)
            · rw [decide_eq_true hh, uv_prefix v u HV.out.1 HV.out.2 hh]; simp
            · rw [decide_eq_false hh, Eq.comm, beq_eq_false_iff_ne]
              intro h; apply hh
              have : v = u := by omega
              rw [this]
          have s1 := fun w => run_cut_to (P := Try.prog) (w := w) elB A1 j c1 (min j n2) (by have := HF.out.2.2.2.1; rw [HN.out.1] at this; omega)
          have s2 := fun w => run_cut_to (P := Try.prog) (w := w) elB A2 n2 c2 (min j n2) (by have := HF.out.2.2.2.2; rw [HN.out.2] at this; omega)
          have t1 : ∀ q, (convert 45 9 (.slice A1 (min j n2) c1)).run Try.prog (w2.drewN q) = .ok (.string (bstr ((uv v).take (min j n2)))) (w2.drewN q) := fun q =>
            run_conv_str 45 9 5 Try.underlying45 Try.underlying5 Try.underlying9 c1 (zs := ((uv v).take (min j n2)).map Int.ofNat) (A := A1) (n := min j n2) (B := w2.heap.size) (by
              have := HF.out.2.1.take (h := min j n2) (by rw [HN.out.1]; omega)
              rw [← cb_ints, cb, List.map_take]; exact this)
          have t2 : ∀ q, (convert 45 9 (.slice A2 (min j n2) c2)).run Try.prog (w2.drewN q) = .ok (.string (bstr ((uv u).take (min j n2)))) (w2.drewN q) := fun q =>
            run_conv_str 45 9 5 Try.underlying45 Try.underlying5 Try.underlying9 c2 (zs := ((uv u).take (min j n2)).map Int.ofNat) (A := A2) (n := min j n2) (B := w2.heap.size) (by
              have := HF.out.2.2.1.take (h := min j n2) (by rw [HN.out.2]; omega)
              rw [← cb_ints, cb, List.map_take]; exact this)
          have HK := hid key
          clear key
          by_cases hmin : j ≤ n2
          · rw [Nat.min_eq_left hmin] at *
            go_wp2
            go_quiet (fail)
            go_wp2
            go_ret
            exact ⟨ret_bool (by rw [HK.out]; simp), below_drewN HF.out.1 _⟩
          · rw [Nat.min_eq_right (by omega)] at *
            go_wp2
            go_quiet (fail)
            go_wp2
            go_ret
            exact ⟨ret_bool (by rw [HK.out]; simp), below_drewN HF.out.1 _⟩
theorem short_walk (a b : Int) (w : World) (wa : (Lit.int .u64 a).wf = true) (wb : (Lit.int .u64 b).wf = true) :
    Calls Try.prog 5 #[.int .u64 a, .int .u64 b] w fun e w' => e = .returned (.bool true) ∧ Below w.heap.size w w' := by
  have ha : 0 ≤ a ∧ a ≤ 18446744073709551615 := by simpa [Lit.wf, IntKind.min, IntKind.max, IntKind.signed, IntKind.bits] using wa
  have hb : 0 ≤ b ∧ b ≤ 18446744073709551615 := by simpa [Lit.wf, IntKind.min, IntKind.max, IntKind.signed, IntKind.bits] using wb
  obtain ⟨v, rfl⟩ := Int.eq_ofNat_of_zero_le ha.1
  obtain ⟨u, rfl⟩ := Int.eq_ofNat_of_zero_le hb.1
  exact short_walk0 v u w (by omega) (by omega)
end Go.Proofs.Ytjkenhkoakaaoaa
