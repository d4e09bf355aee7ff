/- Contract of health.Chance: what the reference's computes. -/
import Derived.Test.YtknpcbekaodlkaaRefChance
import Derived.RegionTactic
import Derived.ChangeAlike
namespace Go.Proofs.Ytknpcbekaodlkaa
open Go.RowKit
set_option linter.unusedVariables false
theorem row_down {w : World} {G t M D : Nat} {R L : List Nat} {v : Value} (h : w.rowIs G t M (fun i => if D < i then fl R i else fl L i)) (hD : 0 < D) (hv : v = fl R D) :
    (w.setCell ⟨G, D, none⟩ v).rowIs G t M (fun i => if D - 1 < i then fl R i else fl L i) :=
  (h.set D v).congr fun i hi => by
    by_cases e : i = D
    · subst e; rw [if_pos rfl, if_pos (by omega), hv]
    · rw [if_neg e]
      by_cases h2 : D < i
      · rw [if_pos h2, if_pos (by omega)]
      · rw [if_neg h2, if_neg (by omega)]
theorem row_last {w : World} {G t M : Nat} {R L : List Nat} {v : Value} (h : w.rowIs G t M (fun i => if 0 < i then fl R i else fl L i)) (hv : v = fl R 0) :
    (w.setCell ⟨G, 0, none⟩ v).rowIs G t M (fl R) :=
  (h.set 0 v).congr fun i hi => by
    by_cases e : i = 0
    · subst e; rw [if_pos rfl, hv]
    · rw [if_neg e, if_pos (by omega)]
theorem fl_out (L : List Nat) (k : Nat) (h : L.length ≤ k) : fl L k = .float .f64 0 := by unfold fl; rw [getD_out L k h]
theorem run_min1 {P : Program} (w : World) (a : Nat) (ha : a < inf64) (ats : Array TypeId) (ty : TypeId) : (Builtin.min_ ats ty #[.float .f64 a, .float .f64 4607182418800017408]).run P w = .ok (.float .f64 (min a one64)) w := by
  have ho := order_one ha
  have hm : (Builtin.min_ ats ty #[.float .f64 a, .float .f64 4607182418800017408]) = ([Value.float .f64 4607182418800017408].foldlM Builtin.min2 (.float .f64 a) : Sem Value) := rfl
  rw [hm, List.foldlM_cons]
  have h2 : Builtin.min2 (.float .f64 a) (.float .f64 4607182418800017408) = (pure (.float .f64 (min a one64)) : Sem Value) := by
    rcases Nat.lt_trichotomy a one64 with h | h | h
    · rw [if_pos h] at ho
      simp only [Builtin.min2, ho]
      rw [Nat.min_eq_left (by omega)]
    · rw [if_neg (by omega), if_pos h] at ho
      simp only [Builtin.min2, ho]
      rw [Nat.min_eq_left (by omega)]
      have : (if (FloatKind.f64.decode a).neg then a else 4607182418800017408) = a := by
        split
        · rfl
        · exact h.symm
      rw [this]
    · rw [if_neg (by omega), if_neg (by omega)] at ho
      simp only [Builtin.min2, ho]
      rw [Nat.min_eq_right (by omega)]; rfl
  rw [h2]
  rfl
set_option maxHeartbeats 1000000 in
theorem chance_any (w : World) (A : Option Addr) (n c B : Nat) (ps : List Nat) (N : Int) (hr : Rd w B A n (fv ps)) (hB : B ≤ w.heap.size) (hp : ∀ y ∈ ps, y < 2 ^ 64) (hn : n ≤ 140737488355328) (hN1 : -9223372036854775808 ≤ N) (hN2 : N ≤ 9223372036854775807) :
    Calls Try.prog 18 #[.slice A n c, .int .i64 N] w fun e w' => e = .returned (.tuple #[.float .f64 (chanceP ps N).1, .int .i64 (chanceP ps N).2]) ∧ Below w.heap.size w w' := by
  have hl : ps.length = n := by have := hr.1; rw [fv_len] at this; exact this
  have HH : Hd (Rd w B A n (fv ps) ∧ B ≤ w.heap.size ∧ (∀ y ∈ ps, y < 2 ^ 64) ∧ ps.length = n) := ⟨hr, hB, hp, hl⟩
  clear hr hB hp hl
  go_enter Try.func18, Try.ntmps18
  by_cases h255 : 255 < n
  · have hi : (255 : Int) < (n : Int) := by omega
    have HE : Hd (chanceP ps N = (0, 3)) := ⟨by unfold chanceP; rw [if_pos (by rw [HH.out.2.2.2]; exact h255)]⟩
    go_wp2
    go_ret2
    exact ⟨by rw [HE.out]; rfl, Below.refl _ _⟩
  have hi : ¬ (255 : Int) < (n : Int) := by omega
  go_wp2_with fail
  go_loop [19] (fun i => ∃ k : Nat, k ≤ n ∧ i = .int .i64 k ∧ (ps.take k).all okP = true) (fun i => n - (intOf i).toNat)
  case atStart => exact ⟨0, by omega, rfl, rfl⟩
  case round =>
    obtain ⟨k, hk, rfl, hall⟩ := hrel
    have HA := Hd.mk hall
    clear hall
    by_cases hlt : k < n
    · have hki : (k : Int) < (n : Int) := by omega
      obtain ⟨g, off, u, hA, _, hx, hc⟩ := HH.out.1.at_ hlt
      rw [fv_get _ _ (by rw [HH.out.2.2.2]; exact hlt)] at hx
      injection hx with hx
      subst hx hA
      obtain ⟨x, hx⟩ : ∃ x, ps.getD k 0 = x := ⟨_, rfl⟩
      rw [hx] at hc
      have HX := Hd.mk hx
      clear hx
      rcases hge : geP x with _ | _
      · have hq : (FloatKind.f64.format.order x 0 == some .gt || FloatKind.f64.format.order x 0 == some .eq) = false := hge
        have HE : Hd (chanceP ps N = (0, 2)) := ⟨by
          unfold chanceP
          rw [if_neg (by rw [HH.out.2.2.2]; exact h255), if_pos (not_all (k := k) (by rw [HH.out.2.2.2]; exact hlt) (by rw [HX.out]; unfold okP; rw [hge]; rfl))]⟩
        clear hge
        go_wp2
        go_ret2
        exact ⟨by rw [HE.out]; rfl, Below.refl _ _⟩
      · have hq : (FloatKind.f64.format.order x 0 == some .gt || FloatKind.f64.format.order x 0 == some .eq) = true := hge
        rcases hle : leP x with _ | _
        · have hq2 : (FloatKind.f64.format.order x 4607182418800017408 == some .lt || FloatKind.f64.format.order x 4607182418800017408 == some .eq) = false := hle
          have HE : Hd (chanceP ps N = (0, 2)) := ⟨by
            unfold chanceP
            rw [if_neg (by rw [HH.out.2.2.2]; exact h255), if_pos (not_all (k := k) (by rw [HH.out.2.2.2]; exact hlt) (by rw [HX.out]; unfold okP; rw [hge, hle]; rfl))]⟩
          clear hge hle
          go_wp2
          go_ret2
          exact ⟨by rw [HE.out]; rfl, Below.refl _ _⟩
        · have hq2 : (FloatKind.f64.format.order x 4607182418800017408 == some .lt || FloatKind.f64.format.order x 4607182418800017408 == some .eq) = true := hle
          have HO : Hd (okP x = true) := ⟨by unfold okP; rw [hge, hle]; rfl⟩
          clear hge hle
          go_wp2
          go_round
          case rel => exact ⟨k + 1, by omega, by go_num, all_take (by rw [HH.out.2.2.2]; exact hlt) HA.out (by rw [HX.out]; exact HO.out)⟩
          case measure => simp [intOf]; omega
    · have hkn : k = n := by omega
      subst hkn
      have HG : Hd (ps.all okP = true) := ⟨by have := HA.out; rwa [List.take_of_length_le (by rw [HH.out.2.2.2]; exact Nat.le_refl _)] at this⟩
      clear HA
      by_cases hN : N < 0
      · have HE : Hd (chanceP ps N = (0, 2)) := ⟨by
          unfold chanceP
          rw [if_neg (by rw [HH.out.2.2.2]; exact h255), if_neg (by rw [HG.out]; simp), if_pos hN]⟩
        go_wp2
        go_ret2
        exact ⟨by rw [HE.out]; rfl, Below.refl _ _⟩
      have HE : Hd (chanceP ps N = (min (sumP (distP ps) ((k : Int) - N).toNat) one64, 0) ∧ ps.length = k) := ⟨by
        unfold chanceP
        rw [if_neg (by rw [HH.out.2.2.2]; exact h255), if_neg (by rw [HG.out]; simp), if_neg hN, HH.out.2.2.2], HH.out.2.2.2⟩
      have HP : Hd (∀ p ∈ ps, Good p) := ⟨all_good HH.out.2.2.1 HG.out⟩
      have hmk := run_make_row' (P := Try.prog) 22 24 (.float .f64 0) 8 Try.underlying22 infoF rfl .i64 .i64 (k + 1) (by omega) (by omega) w
      obtain ⟨M, hM⟩ : ∃ M, k + 1 = M := ⟨_, rfl⟩
      rw [hM] at hmk
      have hMi : (k : Int) + 1 = (M : Int) := by omega
      have hM0 : (0 : Int) < (M : Int) := by omega
      obtain ⟨W1, hW1⟩ : ∃ W1, w.alloc (.cells (madeCells #[.float .f64 0] M) 24) = W1 := ⟨_, rfl⟩
      obtain ⟨G, hG⟩ : ∃ G, w.heap.size = G := ⟨_, rfl⟩
      have h1 : W1.rowIs G 24 M (fun _ => .float .f64 0) := by rw [← hW1, ← hG]; exact World.rowIs_made w _ _ _
      have hb1 : Below w.heap.size w W1 := by rw [← hW1]; exact (Below.refl _ _).alloc (Nat.le_refl _) _
      have hst := fun v => st_float (P := Try.prog) W1 G 0 v _ (h1.cell (by omega)) (h1.frozen 0)
      have hg0 : W1.cell? ⟨G, 0, none⟩ = some (.float .f64 0) := h1.cell (by omega)
      have hf0 := h1.frozen 0
      have H0 : Hd ((W1.setCell ⟨G, 0, none⟩ (.float .f64 4607182418800017408)).rowIs G 24 M (fl (distP (ps.take 0))) ∧ Below w.heap.size w (W1.setCell ⟨G, 0, none⟩ (.float .f64 4607182418800017408))) :=
        ⟨(h1.set 0 _).congr (fun i hi => by
          by_cases e : i = 0
          · subst e; rfl
          · rw [if_neg e, fl_out _ _ (by show 1 ≤ i; omega)]), hb1.setCell (by show w.heap.size ≤ G; omega) _⟩
      have HM : Hd (k + 1 = M ∧ w.heap.size = G) := ⟨hM, hG⟩
      rw [hW1, hG] at hmk
      clear h1 hb1 hM
      go_wp2_with fail
      obtain ⟨W2, hW2⟩ : ∃ W2, W1.setCell ⟨G, 0, none⟩ (.float .f64 4607182418800017408) = W2 := ⟨_, rfl⟩
      rw [hW2] at H0 ⊢
      clear hW2 hst hg0 hf0 hmk
      go_loopw [41] (fun i wr => ∃ j : Nat, j ≤ k ∧ i = .int .i64 j ∧ wr.rowIs G 24 M (fl (distP (ps.take j))) ∧ Below w.heap.size w wr) (fun i _ => k - (intOf i).toNat)
      case atStart => exact ⟨0, by omega, rfl, H0.out.1, H0.out.2⟩
      case round =>
        obtain ⟨j, hj, rfl, hrow, hbel⟩ := hrel
        have HR := Hd.mk (And.intro hrow hbel)
        clear hrow hbel
        by_cases hjk : j < k
        · have hji : (j : Int) < (k : Int) := by omega
          obtain ⟨g, off, u, hA, _, hx, hc⟩ := (HH.out.1.below (HR.out.2.mono HH.out.2.1)).at_ hjk
          rw [fv_get _ _ (by rw [HE.out.2]; exact hjk)] at hx
          injection hx with hx
          subst hx hA
          have hdn := distP_next ps j (by rw [HE.out.2]; exact hjk)
          have hgx : Good (ps.getD j 0) := HP.out _ (by
            rw [List.getD_eq_getElem?_getD, List.getElem?_eq_getElem (by rw [HE.out.2]; exact hjk)]; exact List.getElem_mem _)
          have hfin : ∀ q, (distP (ps.take j)).getD q 0 < inf64 := fun q => distP_fin (by rw [List.length_take, HE.out.2]; omega) (fun p hp => HP.out p (List.mem_of_mem_take hp)) q
          have hlen : (distP (ps.take j)).length = j + 1 := by rw [distP_len, List.length_take, HE.out.2]; omega
          obtain ⟨x, hx⟩ : ∃ x, ps.getD j 0 = x := ⟨_, rfl⟩
          rw [hx] at hc hdn hgx
          obtain ⟨L, hL⟩ : ∃ L, distP (ps.take j) = L := ⟨_, rfl⟩
          rw [hL] at HR hdn hfin hlen
          have HX := Hd.mk (And.intro hdn (And.intro hgx (And.intro hfin hlen)))
          clear hx hdn hgx hfin hlen hL
          obtain ⟨wo, hwo⟩ : ∃ wo : World, wo = wr := ⟨_, rfl⟩
          rw [← hwo] at HR ⊢
          rw [← hwo] at hc
          clear hwo
          have hj1 : (j : Int) + 1 = ((j + 1 : Nat) : Int) := by omega
          obtain ⟨m, hm⟩ : ∃ m, j + 1 = m := ⟨_, rfl⟩
          rw [hm] at hj1
          have HJ := Hd.mk hm
          clear hm
          go_wp2_with fail
          go_loopw [11] (fun q wi => ∃ d : Nat, d ≤ m ∧ q = .int .i64 d ∧ wi.rowIs G 24 M (fun i => if d < i then fl (rowP L x) i else fl L i) ∧ Below w.heap.size w wi) (fun q _ => (intOf q).toNat)
          case atStart =>
            refine ⟨m, by omega, rfl, HR.out.1.congr fun i hi => ?_, HR.out.2⟩
            split
            · rw [fl_out L i (by rw [HX.out.2.2.2]; have := HJ.out; omega), fl_out _ i (by rw [rowP_len, HX.out.2.2.2]; have := HJ.out; omega)]
            · rfl
          case round =>
            obtain ⟨d, hd, rfl, hR1, hR3⟩ := hrel
            have HI := Hd.mk (And.intro hR1 hR3)
            clear hR1 hR3
            have hQ1 := f1m_le x
            have hQi : f1m x < inf64 := Nat.lt_of_le_of_lt hQ1 (by decide)
            have hm1 := fun w => run_f1m (P := Try.prog) w 24 HX.out.2.1
            obtain ⟨Q, hQ⟩ : ∃ Q, f1m x = Q := ⟨_, rfl⟩
            rw [hQ] at hQ1 hQi hm1
            have hmM : m < M := by have := HJ.out; have := HM.out.1; omega
            by_cases hd0 : 0 < d
            · obtain ⟨d, rfl⟩ : ∃ d', d = d' + 1 := ⟨d - 1, by omega⟩
              have hc1 : wr.cell? ⟨G, d + 1, none⟩ = some (fl L (d + 1)) := by have := HI.out.1.cell (i := d + 1) (by omega); rwa [if_neg (by omega)] at this
              have hc2 : wr.cell? ⟨G, d, none⟩ = some (fl L d) := by have := HI.out.1.cell (i := d) (by omega); rwa [if_neg (by omega)] at this
              have hfz := HI.out.1.frozen (d + 1)
              have hv : cellP L x (d + 1) = fadd (fmul (L.getD (d + 1) 0) Q) (fmulp (L.getD d 0) x) := by unfold cellP; rw [if_neg (by omega), hQ, Nat.add_sub_cancel]
              have hf1 := HX.out.2.2.1 (d + 1)
              have hf2 := HX.out.2.2.1 d
              unfold fl at hc1 hc2
              obtain ⟨D, hD⟩ : ∃ D, d + 1 = D := ⟨_, rfl⟩
              rw [hD] at HI hc1 hfz hv hf1 hd ⊢
              obtain ⟨y, hy⟩ : ∃ y, L.getD D 0 = y := ⟨_, rfl⟩
              obtain ⟨y2, hy2⟩ : ∃ y, L.getD d 0 = y := ⟨_, rfl⟩
              rw [hy] at hc1 hv hf1
              rw [hy2] at hc2 hv hf2
              have hDd : (D : Int) - 1 = (d : Int) := by omega
              have hD0 : (0 : Int) < (D : Int) := by omega
              have hDM : (D : Int) < (M : Int) := by omega
              have hdM : (d : Int) < (M : Int) := by omega
              have e1 := fun w => run_fmul (P := Try.prog) w 24 hf1 hQi
              have e3 := fun w => run_fmulp (P := Try.prog) w 24 hf2 HX.out.2.1
              have e2 := fun w => run_fadd (P := Try.prog) w 24 (a := fmul y Q) (b := fmulp y2 x) (fmul_lt hf1 hQ1) (fmulp_arg hf2 HX.out.2.1)
              have hst := fun w' (h1 : w'.cell? ⟨G, D, none⟩ = some (.float .f64 y)) (h2 : w'.frozen? ⟨G, D, none⟩ = false) => st_float (P := Try.prog) w' G D (fadd (fmul y Q) (fmulp y2 x)) _ h1 h2
              have hst1 := hst wr hc1 hfz
              have hst2 := hst wr.drew hc1 hfz
              have HV := Hd.mk (And.intro hv hD)
              clear hv hD hy hy2 hf1 hf2 hQ1 hQi hQ hst
              go_wp2_with fail
              go_region
              all_goals
                go_wp2
                go_roundw
                case rel => exact ⟨d, by omega, by go_num, by have h := row_down HI.out.1 (by omega) (fl_row L x D _ (by rw [HX.out.2.2.2]; have := HJ.out; omega) HV.out.1); rw [show D - 1 = d by omega] at h; exact h, (HI.out.2.setCell (p := ⟨G, D, none⟩) (by show w.heap.size ≤ G; have := HM.out.2; omega) _).drew⟩
                case measure => simp [intOf]; omega
            · have hd0 : d = 0 := by omega
              subst hd0
              have hc1 : wr.cell? ⟨G, 0, none⟩ = some (fl L 0) := by have := HI.out.1.cell (i := 0) (by omega); rwa [if_neg (by omega)] at this
              have hfz := HI.out.1.frozen 0
              have hf1 := HX.out.2.2.1 0
              have hv : cellP L x 0 = fmul (L.getD 0 0) Q := by unfold cellP; rw [if_pos rfl, hQ]; exact fadd_zero (Nat.le_of_lt (fmul_lt hf1 hQ1))
              unfold fl at hc1
              obtain ⟨y, hy⟩ : ∃ y, L.getD 0 0 = y := ⟨_, rfl⟩
              rw [hy] at hc1 hv hf1
              have e1 := fun w => run_fmul (P := Try.prog) w 24 hf1 hQi
              have hst := fun v => st_float (P := Try.prog) wr G 0 v _ hc1 hfz
              have hi0 : ¬ (0 : Int) < ((0 : Nat) : Int) := by omega
              have HV := Hd.mk hv
              clear hv hy hf1 hQ1 hQi hQ
              go_wp2
              go_roundw
              case rel => exact ⟨j + 1, by omega, by go_num, by rw [HX.out.1]; exact row_last HI.out.1 (fl_row L x 0 _ (by rw [HX.out.2.2.2]; omega) HV.out), HI.out.2.setCell (by show w.heap.size ≤ G; have := HM.out.2; omega) _⟩
              case measure => simp [intOf]; omega
        · have hjk2 : j = k := by omega
          subst hjk2
          have HD : Hd (wr.rowIs G 24 M (fl (distP ps)) ∧ Below w.heap.size w wr ∧ (distP ps).length = M) :=
            ⟨by have := HR.out.1; rwa [List.take_of_length_le (by rw [HE.out.2]; exact Nat.le_refl _)] at this, HR.out.2, by rw [distP_len, HE.out.2]; exact HM.out.1⟩
          clear HR
          go_wp2_with fail
          have h255k : j ≤ 255 := by omega
          have HF : Hd ((∀ q, (distP ps).getD q 0 < inf64) ∧ ∀ q, q ≤ 256 → sumP (distP ps) q < inf64) := ⟨fun q => distP_fin (by rw [HE.out.2]; omega) HP.out q, fun q hq => sumP_fin (by rw [HE.out.2]; omega) HP.out q hq⟩
          have hMj : j + 1 = M := HM.out.1
          go_loop [12, 13] (fun s i => ∃ q d : Nat, d + q = j ∧ q ≤ ((j : Int) - N).toNat ∧ i = .int .i64 (d : Int) ∧ s = .float .f64 (sumP (distP ps) q)) (fun _ i => (intOf i).toNat)
          case atStart => exact ⟨0, j, by omega, by omega, rfl, rfl⟩
          case round =>
            obtain ⟨q, d, hdq, hq, rfl, rfl⟩ := hrel
            by_cases hNd : N < (d : Int)
            · obtain ⟨d, rfl⟩ : ∃ d', d = d' + 1 := ⟨d - 1, by omega⟩
              have hcd : wr.cell? ⟨G, d + 1, none⟩ = some (.float .f64 ((distP ps).getD (d + 1) 0)) := HD.out.1.cell (by omega)
              have hsn : sumP (distP ps) (q + 1) = fadd (sumP (distP ps) q) ((distP ps).getD (d + 1) 0) := by
                show fadd _ _ = _
                rw [HD.out.2.2, show M - 1 - q = d + 1 by omega]
              have f1 := HF.out.1 (d + 1)
              have f2 := HF.out.2 q (by omega)
              obtain ⟨D, hD⟩ : ∃ D, d + 1 = D := ⟨_, rfl⟩
              rw [hD] at hNd hcd hsn f1 ⊢
              have hDd : (D : Int) - 1 = (d : Int) := by omega
              have hDm : (D : Int) < (M : Int) := by omega
              have hDm2 : D < M := by omega
              obtain ⟨y, hy⟩ : ∃ y, (distP ps).getD D 0 = y := ⟨_, rfl⟩
              obtain ⟨S, hS⟩ : ∃ S, sumP (distP ps) q = S := ⟨_, rfl⟩
              rw [hy] at hcd hsn f1
              rw [hS] at hsn f2 ⊢
              have e1 := fun w => run_fadd (P := Try.prog) w 24 f2 (.inl f1)
              have HS := Hd.mk (And.intro hsn hD)
              have HQ := Hd.mk hdq
              clear hsn f1 f2 hD hy hS hdq
              go_wp2
              go_round
              case rel => exact ⟨q + 1, d, by have := HQ.out; have := HS.out.2; omega, by have := HQ.out; have := HS.out.2; omega, by go_num, by rw [HS.out.1]⟩
              case measure => simp [intOf]; omega
            · have hqq : q = ((j : Int) - N).toNat := by omega
              have f2 := HF.out.2 q (by omega)
              have HE2 : Hd (chanceP ps N = (min (sumP (distP ps) q) one64, 0)) := ⟨by rw [HE.out.1, hqq]⟩
              obtain ⟨S, hS⟩ : ∃ S, sumP (distP ps) q = S := ⟨_, rfl⟩
              rw [hS] at HE2 f2 ⊢
              have hmin := fun (w : World) ats ty => run_min1 (P := Try.prog) w S f2 ats ty
              clear hqq hS f2
              go_wp2
              go_ret2
              exact ⟨by rw [HE2.out]; rfl, by have := HD.out.2.1; rwa [HM.out.2] at this⟩
end Go.Proofs.Ytknpcbekaodlkaa
