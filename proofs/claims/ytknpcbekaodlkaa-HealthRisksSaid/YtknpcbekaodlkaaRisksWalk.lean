/- The walk of HealthRisks: it returns true for every input. -/
import Derived.Test.YtknpcbekaodlkaaAwake
import Derived.Test.YtknpcbekaodlkaaRiskP
namespace Go.Proofs.Ytknpcbekaodlkaa
open Go.RowKit
set_option linter.unusedVariables false
theorem okP_eighth : okP 4593671619917905920 = true := by kernel_rfl
theorem all_snoc {l : List Nat} {x : Nat} (h : l.all okP = true) (hx : okP x = true) : (l ++ [x]).all okP = true := by rw [List.all_append, h, List.all_cons, hx]; rfl
/-- What within answers. -/
def Within (w : World) (e : Ending) (w' : World) : Prop := ∃ (v : Value) (k : Nat) (out : List Nat), e = .returned v ∧ Onto w w' w.heap.size 24 (.slice none 0 0) v k (fv out) ∧ k ≤ 255 ∧ out.all okP = true ∧ (∀ y ∈ out, y < 2 ^ 64)
theorem Within.mk {w w' : World} {e : Ending} {v : Value} {k : Nat} {out : List Nat} (h0 : e = .returned v) (h1 : Onto w w' w.heap.size 24 (.slice none 0 0) v k (fv out)) (h2 : k ≤ 255) (h3 : out.all okP = true) (h4 : ∀ y ∈ out, y < 2 ^ 64) : Within w e w' := ⟨v, k, out, h0, h1, h2, h3, h4⟩
set_option maxRecDepth 20000 in
set_option maxHeartbeats 1000000 in
theorem within_any (w : World) (A : Option Addr) (n c B : Nat) (l : List Nat) (hr : Rd w B A n (fv l)) (hB : B ≤ w.heap.size) (hlt : ∀ y ∈ l, y < 2 ^ 64) :
    Calls Try.prog 41 #[.slice A n c] w fun e w' => Within w e w' := by
  have hl : l.length = n := by have := hr.1; rwa [fv_len] at this
  have HH := Hd.mk (And.intro hr (And.intro hB (And.intro hlt hl)))
  clear hr hB hlt hl
  go_enter Try.func41, Try.ntmps41
  go_wp2_with fail
  go_loopw [3, 4] (fun s i wr => ∃ (k : Nat) (out : List Nat), k ≤ n ∧ k ≤ 255 ∧ i = .int .i64 (k : Int) ∧ Onto w wr w.heap.size 24 (.slice none 0 0) s k (fv out) ∧ out.all okP = true ∧ (∀ y ∈ out, y < 2 ^ 64)) (fun _ i _ => 255 - (intOf i).toNat)
  case atStart => exact ⟨0, [], by omega, by omega, rfl, Onto.nil _ _ _, rfl, by simp⟩
  case round =>
    obtain ⟨k, out, hk, hk2, rfl, hO, ho, hlt⟩ := hrel
    have H2 := Hd.mk (And.intro hO (And.intro ho hlt))
    clear hO ho hlt
    by_cases hkn : k < n
    · have hki : (k : Int) < (n : Int) := by omega
      by_cases hk5 : k < 255
      · have hk5i : (k : Int) < 255 := by omega
        have h63 : Hd (k + 1 ≤ maxLen) := ⟨by unfold maxLen; omega⟩
        have hby : Hd ((k + 1) * 8 ≤ 140737488355328) := ⟨by omega⟩
        have hbel := H2.out.1.below (B := w.heap.size) (fun k h => by cases h) (Nat.le_refl _)
        obtain ⟨g, off, u, hA, _, hx, hc⟩ := (HH.out.1.below (hbel.mono HH.out.2.1)).at_ hkn
        rw [fv_get _ _ (by rw [HH.out.2.2.2]; exact hkn)] at hx
        injection hx with hx
        subst hx hA
        have hxl : l.getD k 0 < 2 ^ 64 := fl_lt HH.out.2.2.1 k
        obtain ⟨x, hx⟩ : ∃ x, l.getD k 0 = x := ⟨_, rfl⟩
        rw [hx] at hc hxl
        have HXL := Hd.mk hxl
        clear hx hxl hbel
        rcases hge : geP x with _ | _
        · have hq : (FloatKind.f64.format.order x 0 == some .gt || FloatKind.f64.format.order x 0 == some .eq) = false := hge
          clear hge
          go_wp2_with (refine wpList_push elF rfl rfl (.tmp 34) (.const (.float .f64 4593671619917905920)) 35 rfl rfl rfl w.heap.size u3 _ _ _ rfl rfl rfl rfl H2.out.1.own h63.out hby.out H2.out.1.size ?_; intro v2 w2 hO2)
          go_roundw
          case rel => exact ⟨k + 1, out ++ [4593671619917905920], by omega, by omega, by go_num, by rw [fv_append]; exact H2.out.1.trans hO2, all_snoc H2.out.2.1 okP_eighth, fun y hy => by
            rcases List.mem_append.1 hy with h | h
            · exact H2.out.2.2 y h
            · rw [List.mem_singleton.1 h]; decide⟩
          case measure => simp [intOf]; omega
        · have hq : (FloatKind.f64.format.order x 0 == some .gt || FloatKind.f64.format.order x 0 == some .eq) = true := hge
          rcases hle : leP x with _ | _
          · have hq2 : (FloatKind.f64.format.order x 4607182418800017408 == some .lt || FloatKind.f64.format.order x 4607182418800017408 == some .eq) = false := hle
            clear hge hle
            go_wp2_with (refine wpList_push elF rfl rfl (.tmp 34) (.const (.float .f64 4593671619917905920)) 35 rfl rfl rfl w.heap.size u3 _ _ _ rfl rfl rfl rfl H2.out.1.own h63.out hby.out H2.out.1.size ?_; intro v2 w2 hO2)
            go_roundw
            case rel => exact ⟨k + 1, out ++ [4593671619917905920], by omega, by omega, by go_num, by rw [fv_append]; exact H2.out.1.trans hO2, all_snoc H2.out.2.1 okP_eighth, fun y hy => by
              rcases List.mem_append.1 hy with h | h
              · exact H2.out.2.2 y h
              · rw [List.mem_singleton.1 h]; decide⟩
            case measure => simp [intOf]; omega
          · have hq2 : (FloatKind.f64.format.order x 4607182418800017408 == some .lt || FloatKind.f64.format.order x 4607182418800017408 == some .eq) = true := hle
            have HOK : Hd (okP x = true) := ⟨by unfold okP; rw [hge, hle]; rfl⟩
            clear hge hle
            go_wp2_with (refine wpList_push elF rfl rfl (.tmp 27) (.tmp 31) 32 rfl rfl rfl w.heap.size u3 _ _ _ rfl rfl rfl rfl H2.out.1.own h63.out hby.out H2.out.1.size ?_; intro v2 w2 hO2)
            go_roundw
            case rel => exact ⟨k + 1, out ++ [x], by omega, by omega, by go_num, by rw [fv_append]; exact H2.out.1.trans hO2, all_snoc H2.out.2.1 HOK.out, fun y hy => by
              rcases List.mem_append.1 hy with h | h
              · exact H2.out.2.2 y h
              · rw [List.mem_singleton.1 h]; exact HXL.out⟩
            case measure => simp [intOf]; omega
      · have hk5i : ¬ (k : Int) < 255 := by omega
        have hki5 : decide ((k : Int) < 255) = false := decide_eq_false hk5i
        go_wp2_with fail
        go_ret
        exact Within.mk rfl H2.out.1 hk2 H2.out.2.1 H2.out.2.2
    · have hki : decide ((k : Int) < (n : Int)) = false := decide_eq_false (by omega)
      go_wp2_with fail
      go_ret
      exact Within.mk rfl H2.out.1 hk2 H2.out.2.1 H2.out.2.2
theorem madeF (n : Nat) : madeCells #[Value.float .f64 0] n = (fv (List.replicate n 0)).toArray := by
  apply Array.ext_getElem?
  intro j
  unfold fv
  rw [List.map_replicate]
  by_cases h : j < n
  · simp [madeCells, h, Nat.mod_one]
  · simp [madeCells, h]
theorem onesF (k : Nat) : fv (List.replicate k one64) ++ [Value.float .f64 4607182418800017408] = fv (List.replicate (k + 1) one64) := by rw [replicate_succ', fv_append]; rfl
theorem ord_le {a b : Nat} (ha : a < inf64) (hb : b < inf64) (h : a ≤ b) : (FloatKind.f64.format.order a b == some .lt || FloatKind.f64.format.order a b == some .eq) = true := by
  rw [show FloatKind.f64.format.order a b = _ from order_pos ha hb]
  by_cases h1 : a < b
  · rw [if_pos h1]; rfl
  · rw [if_neg h1, if_pos (by omega)]; rfl
theorem ord_ge0 {a : Nat} (ha : a < inf64) : (FloatKind.f64.format.order a 0 == some .gt || FloatKind.f64.format.order a 0 == some .eq) = true := by
  rw [show FloatKind.f64.format.order a 0 = _ from order_pos ha (by decide), if_neg (by omega)]
  by_cases h1 : a = 0
  · rw [if_pos h1]; rfl
  · rw [if_neg h1]; rfl
theorem ord_ne {a : Nat} (ha : a < inf64) : (FloatKind.f64.format.order a a != some .eq) = false := by
  rw [show FloatKind.f64.format.order a a = _ from order_pos ha ha, if_neg (Nat.lt_irrefl _), if_pos rfl]; rfl
theorem ord_m0 : (FloatKind.f64.format.order 0 ms64 == some .eq) = true := by kernel_rfl
theorem ord_mod {p : Nat} (h : Good p) : (FloatKind.f64.format.order (p % ms64) p == some .eq) = true := by
  rcases h with h | rfl
  · have hp : p < inf64 := Nat.lt_of_le_of_lt h (by decide)
    rw [lt_ms hp]; exact ord_self p hp
  · rw [ms_mod]; exact ord_m0
set_option maxRecDepth 20000 in
set_option maxHeartbeats 2000000 in
theorem risks_walk0 (A : Option Addr) (n c : Nat) (l : List Nat) (w : World) (hr : Rd w w.heap.size A n (fv l)) (hlt : ∀ y ∈ l, y < 2 ^ 64) :
    Calls Try.prog 12 #[.slice A n c] w fun e w' => e = .returned (.bool true) ∧ Below w.heap.size w w' := by
  have HH := Hd.mk (And.intro hr hlt)
  clear hr hlt
  go_enter Try.func12, Try.ntmps12
  go_wp2_with fail
  refine (awake_any w).mono ?_
  rintro e w1 ⟨rfl, hb1⟩
  have H1 := Hd.mk hb1
  clear hb1
  go_wp2_with fail
  refine (within_any w1 A n c w.heap.size l (HH.out.1.below H1.out) H1.out.size HH.out.2).mono ?_
  rintro e w2 ⟨v, k, ps, rfl, hO, hk, hok, hlt⟩
  obtain ⟨A2, c2, rfl, hkc, _⟩ := own_form hO.own
  have hl : ps.length = k := by have := hO.own.1; rw [fv_len] at this; omega
  have H2 : Hd (w2.ownsRow w1.heap.size 24 1 (.slice A2 k c2) k (fv ps) ∧ ps.all okP = true ∧ (∀ p ∈ ps, Good p) ∧ ps.length = k ∧ Below w.heap.size w w2 ∧ (∀ y ∈ ps, y < 2 ^ 64)) :=
    ⟨hO.own, hok, all_good hlt hok, hl, H1.out.trans ((hO.below (fun k h => by cases h) (Nat.le_refl _)).mono H1.out.size), hlt⟩
  clear hO hok hl hlt
  have hmk := fun W => run_make_row' (P := Try.prog) 22 24 (.float .f64 0) 8 Try.underlying22 infoF rfl .i64 .i64 k (by omega) (by omega) W
  rw [madeF] at hmk
  go_wp2_with fail
  clear hmk
  obtain ⟨Z, hZ⟩ : ∃ Z, w2.heap.size = Z := ⟨_, rfl⟩
  have H3 : Hd (Rd (w2.alloc (.cells (fv (List.replicate k 0)).toArray 24)) (w2.alloc (.cells (fv (List.replicate k 0)).toArray 24)).heap.size (some ⟨Z, 0, none⟩) k (fv (List.replicate k 0)) ∧ Rd (w2.alloc (.cells (fv (List.replicate k 0)).toArray 24)) (w2.alloc (.cells (fv (List.replicate k 0)).toArray 24)).heap.size A2 k (fv ps) ∧ Below w.heap.size w (w2.alloc (.cells (fv (List.replicate k 0)).toArray 24))) := by
    refine ⟨?_, ((Rd.of_own H2.out.1).alloc (Nat.le_refl _) _).more (by simp), H2.out.2.2.2.2.1.alloc H2.out.2.2.2.2.1.size _⟩
    have := rd_lit (w := w2) (e := 24) (fv (List.replicate k 0))
    rw [fv_len, List.length_replicate, hZ] at this
    exact this.more (by simp [hZ])
  rw [hZ]
  obtain ⟨w3, hw3⟩ : ∃ w3, w2.alloc (.cells (fv (List.replicate k 0)).toArray 24) = w3 := ⟨_, rfl⟩
  rw [hw3] at H3 ⊢
  clear hw3 hZ
  go_loopw [5, 6] (fun s i wr => ∃ j : Nat, j ≤ k ∧ i = .int .i64 (j : Int) ∧ Onto w3 wr w3.heap.size 24 (.slice none 0 0) s j (fv (List.replicate j one64))) (fun _ i _ => k - (intOf i).toNat)
  case atStart => exact ⟨0, by omega, rfl, Onto.nil _ _ _⟩
  case round =>
    obtain ⟨j, hj, rfl, hO⟩ := hrel
    have H4 := Hd.mk hO
    clear hO
    by_cases hjk : j < k
    · have hji : (j : Int) < (k : Int) := by omega
      have h63 : Hd (j + 1 ≤ maxLen) := ⟨by unfold maxLen; omega⟩
      have hby : Hd ((j + 1) * 8 ≤ 140737488355328) := ⟨by omega⟩
      go_wp2_with (refine wpList_push elF rfl rfl (.tmp 30) (.const (.float .f64 4607182418800017408)) 31 rfl rfl rfl w3.heap.size u5 _ _ _ rfl rfl rfl rfl H4.out.own h63.out hby.out H4.out.size ?_; intro v2 w5 hO2)
      go_roundw
      case rel => exact ⟨j + 1, by omega, by go_num, by rw [← onesF]; exact H4.out.trans hO2⟩
      case measure => simp [intOf]; omega
    · have hjk2 : j = k := by omega
      subst hjk2
      obtain ⟨w4, hw4⟩ : ∃ w4 : World, w4 = wr := ⟨_, rfl⟩
      rw [← hw4] at H4 ⊢
      clear hw4
      have hb4 := H4.out.below (B := w3.heap.size) (fun k h => by cases h) (Nat.le_refl _)
      obtain ⟨A5, c5, rfl, _, _⟩ := own_form H4.out.own
      have H5 : Hd (Rd w4 w4.heap.size A2 j (fv ps) ∧ Rd w4 w4.heap.size (some ⟨Z, 0, none⟩) j (fv (List.replicate j 0)) ∧ Rd w4 w4.heap.size A5 j (fv (List.replicate j one64)) ∧ Below w.heap.size w w4) :=
        ⟨(H3.out.2.1.below hb4).more hb4.size, (H3.out.1.below hb4).more hb4.size, Rd.of_own H4.out.own, H3.out.2.2.trans (hb4.mono H3.out.2.2.size)⟩
      clear hb4
      go_wp2_with fail
      go_loopw [7, 8, 9, 10, 11, 12, 13, 14] (fun s i u9 u10 u11 u12 u13 u14 wr => ∃ m : Nat, m ≤ j + 2 ∧ i = .int .i64 (m : Int) ∧ s = .float .f64 (wasP ps m) ∧ Below w4.heap.size w4 wr) (fun _ i _ _ _ _ _ _ _ => j + 2 - (intOf i).toNat)
      case atStart => exact ⟨0, by omega, rfl, rfl, Below.refl _ _⟩
      case round =>
        obtain ⟨m, hm, rfl, rfl, hbw⟩ := hrel
        have H6 := Hd.mk hbw
        clear hbw
        obtain ⟨wo, hwo⟩ : ∃ wo : World, wo = wr := ⟨_, rfl⟩
        rw [← hwo] at H6 ⊢
        clear hwo
        by_cases hm2 : m < j + 2
        · have hmi : (m : Int) ≤ (j : Int) + 1 := by omega
          have HA : Hd (∀ W, Below w4.heap.size w4 W → Calls Try.prog 18 #[.slice A2 j c2, .int .i64 (m : Int)] W (fun e w' => e = .returned (.tuple #[.float .f64 (wasP ps (m + 1)), .int .i64 0]) ∧ Below W.heap.size W w') ∧
              Calls Try.prog 18 #[.slice (some ⟨Z, 0, none⟩) j j, .int .i64 (m : Int)] W (fun e w' => e = .returned (.tuple #[.float .f64 0, .int .i64 0]) ∧ Below W.heap.size W w') ∧
              Calls Try.prog 18 #[.slice A5 j c5, .int .i64 (m : Int)] W (fun e w' => e = .returned (.tuple #[.float .f64 (if m < j then one64 else 0), .int .i64 0]) ∧ Below W.heap.size W w')) := ⟨fun W hW => by
            have q1 := chance_any W A2 j c2 w4.heap.size ps (m : Int) (H5.out.1.below hW) hW.size H2.out.2.2.2.2.2 (by omega) (by omega) (by omega)
            have q2 := chance_any W (some ⟨Z, 0, none⟩) j j w4.heap.size (List.replicate j 0) (m : Int) (H5.out.2.1.below hW) hW.size (fun y hy => by rw [List.eq_of_mem_replicate hy]; decide) (by omega) (by omega) (by omega)
            have q3 := chance_any W A5 j c5 w4.heap.size (List.replicate j one64) (m : Int) (H5.out.2.2.1.below hW) hW.size (fun y hy => by rw [List.eq_of_mem_replicate hy]; decide) (by omega) (by omega) (by omega)
            rw [chanceP_ok (by rw [H2.out.2.2.2.1]; exact hk) H2.out.2.1] at q1
            rw [chance_zeros j m hk] at q2
            rw [chance_ones j m hk] at q3
            exact ⟨q1, q2, q3⟩⟩
          have hF1 := wasP_next (ps := ps) (by rw [H2.out.2.2.2.1]; exact hk) H2.out.2.2.1 m
          have hF2 := wasP_le ps m
          have hF3 : j ≤ m → wasP ps (m + 1) = 0 := fun h => wasP_end (by rw [H2.out.2.2.2.1]; exact h)
          obtain ⟨V, hV⟩ : ∃ V, wasP ps m = V := ⟨_, rfl⟩
          obtain ⟨F, hF⟩ : ∃ F, wasP ps (m + 1) = F := ⟨_, rfl⟩
          rw [hV] at hF1 hF2 ⊢
          rw [hF] at hF1 hF3 HA
          have HF := Hd.mk hF
          have hi : one64 < inf64 := by decide
          have f1 := ord_le (a := F) (b := V) (by omega) (by omega) hF1
          have f2 := ord_ge0 (a := F) (by omega)
          have f3 := ord_ne (a := 0) (by decide)
          have f4 : (FloatKind.f64.format.order 4607182418800017408 4607182418800017408 != some .eq) = false := ord_ne (a := one64) hi
          clear hV hF hF1 hF2 hi
          go_wp2_with fail
          refine (HA.out wo H6.out).1.mono ?_
          rintro e w5 ⟨rfl, hb5⟩
          have H7 := Hd.mk (H6.out.trans (hb5.mono H6.out.size))
          clear hb5
          go_wp2_with fail
          refine (HA.out w5 H7.out).2.1.mono ?_
          rintro e w6 ⟨rfl, hb6⟩
          have H8 := Hd.mk (H7.out.trans (hb6.mono H7.out.size))
          clear hb6
          go_wp2_with fail
          refine (HA.out w6 H8.out).2.2.mono ?_
          rintro e w7 ⟨rfl, hb7⟩
          have H9 := Hd.mk (H8.out.trans (hb7.mono H8.out.size))
          clear hb7 HA
          by_cases hmj : m < j
          · rw [if_pos hmj]
            have hmj1 : (m : Int) < (j : Int) := by omega
            have hmj2 : decide ((j : Int) ≤ (m : Int)) = false := decide_eq_false (by omega)
            clear hF3
            go_wp2_with fail
            go_roundw
            case rel => exact ⟨m + 1, by omega, by go_num, by rw [HF.out], H9.out⟩
            case measure => simp [intOf]; omega
          · rw [if_neg hmj]
            have hmj1 : (j : Int) ≤ (m : Int) := by omega
            have hmj2 : decide ((m : Int) < (j : Int)) = false := decide_eq_false (by omega)
            have hF0 : F = 0 := hF3 (by omega)
            subst hF0
            clear hF3
            go_wp2_with fail
            go_roundw
            case rel => exact ⟨m + 1, by omega, by go_num, by rw [HF.out], H9.out⟩
            case measure => simp [intOf]; omega
        · have hmi : ¬ (m : Int) ≤ (j : Int) + 1 := by omega
          by_cases hj0 : 0 < j
          · have hj0i : (0 : Int) < (j : Int) := by omega
            have s1 := fun W => run_cut_to (P := Try.prog) (w := W) elF A2 j c2 1 (by omega)
            have hgd : Good (ps.getD 0 0) := H2.out.2.2.1 _ (by rw [List.getD_eq_getElem?_getD, List.getElem?_eq_getElem (by rw [H2.out.2.2.2.1]; exact hj0)]; exact List.getElem_mem _)
            have hokp : okP (ps.getD 0 0) = true := List.all_eq_true.1 H2.out.2.1 _ (by rw [List.getD_eq_getElem?_getD, List.getElem?_eq_getElem (by rw [H2.out.2.2.2.1]; exact hj0)]; exact List.getElem_mem _)
            have hlt0 := fl_lt H2.out.2.2.2.2.2 0
            obtain ⟨g, off, u, hA, _, hx, hc⟩ := (H5.out.1.below H6.out).at_ hj0
            rw [fv_get _ _ (by rw [H2.out.2.2.2.1]; exact hj0)] at hx
            injection hx with hx
            subst hx
            have hR : Rd wo w4.heap.size A2 1 (fv [ps.getD 0 0]) := by
              have := (H5.out.1.below H6.out).take (h := 1) (by omega)
              rw [fv, ← List.map_take] at this
              have e : ps.take 1 = [ps.getD 0 0] := by
                have hps := H2.out.2.2.2.1
                cases ps with
                | nil => simp at hps; omega
                | cons a t => rfl
              rw [e] at this
              exact this
            have q1 := chance_any wo A2 1 c2 w4.heap.size [ps.getD 0 0] 0 hR H6.out.size (by simpa using hlt0) (by decide) (by decide) (by decide)
            rw [chance_one hokp hgd] at q1
            have f1 := ord_mod hgd
            have HQ := Hd.mk q1
            have hc2 := fun W (hW : Below wo.heap.size wo W) => (hW.cell (p := ⟨g, off + 0, none⟩) (by subst hA; exact World.block_lt_of_cell? wo _ hc)).trans hc
            have HC := Hd.mk hc2
            subst hA
            obtain ⟨P, hP⟩ : ∃ P, ps.getD 0 0 = P := ⟨_, rfl⟩
            rw [hP] at HQ HC f1
            clear hc hc2 q1 hR hgd hokp hlt0 hP
            go_wp2_with fail
            refine HQ.out.mono ?_
            rintro e w5 ⟨rfl, hb5⟩
            have hcc : w5.cell? ⟨g, off, none⟩ = some (.float .f64 P) := HC.out w5 hb5
            have HB := Hd.mk hb5
            clear hb5
            go_wp2_with fail
            go_ret
            exact ⟨rfl, H5.out.2.2.2.trans ((H6.out.trans (HB.out.mono H6.out.size)).mono H5.out.2.2.2.size)⟩
          · have hj0i : ¬ (0 : Int) < (j : Int) := by omega
            go_wp2_with fail
            go_ret
            exact ⟨rfl, H5.out.2.2.2.trans (H6.out.mono H5.out.2.2.2.size)⟩
theorem risks_walk (A : Option Addr) (n c : Nat) (l : List Nat) (w : World) (hr : Rd w w.heap.size A n (fv l)) (hlt : ∀ y ∈ l, y < 2 ^ 64) (hn : n * 8 ≤ 140737488351232) :
    Calls Try.prog 12 #[.slice A n c] w fun e w' => e = .returned (.bool true) ∧ Below w.heap.size w w' := risks_walk0 A n c l w hr hlt
end Go.Proofs.Ytknpcbekaodlkaa
