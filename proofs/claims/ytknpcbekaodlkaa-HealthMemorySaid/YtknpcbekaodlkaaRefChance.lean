/- Contract of the reference's Chance. -/
import Derived.Test.YtknpcbekaodlkaaChanceP
import Derived.Test.YtknpcbekaodlkaaArgFloat
import Derived.Test.YtknpcbekaodlkaaMem2
import Derived.Deep.OwnRows
import Derived.BigQuiet
namespace Go.Proofs.Ytknpcbekaodlkaa
open Go.RowKit
set_option linter.unusedVariables false
theorem infoF : (Try.prog.info? 24).map (fun i => (i.zero, i.size, i.bytes)) = some (some (.float .f64 0), 1, 8) := by kernel_rfl
theorem elF : El Try.prog 22 24 8 (.float .f64 0) := ⟨Try.underlying22, info_parts infoF, rfl⟩
/-- The float in cell i of the numbers L. -/
def fl (L : List Nat) (i : Nat) : Value := .float .f64 (L.getD i 0)
theorem all_take {ps : List Nat} {k : Nat} (hk : k < ps.length) (h : (ps.take k).all okP = true) (h1 : okP (ps.getD k 0) = true) : (ps.take (k + 1)).all okP = true := by
  rw [List.getD_eq_getElem?_getD, List.getElem?_eq_getElem hk, Option.getD_some] at h1
  rw [List.take_succ_eq_append_getElem hk, List.all_append, h, List.all_cons, h1]; rfl
theorem not_all {ps : List Nat} {k : Nat} (hk : k < ps.length) (h1 : okP (ps.getD k 0) = false) : ps.all okP = false := by
  rw [List.getD_eq_getElem?_getD, List.getElem?_eq_getElem hk, Option.getD_some] at h1
  rcases hb : ps.all okP with _ | _
  · rfl
  · have := List.all_eq_true.1 hb _ (List.getElem_mem hk); rw [h1] at this; cases this
theorem fl_lt {ps : List Nat} (h : ∀ y ∈ ps, y < 2 ^ 64) (k : Nat) : ps.getD k 0 < 2 ^ 64 := by
  have := getD_le (L := ps) (m := 2 ^ 64 - 1) (fun x hx => by have := h x hx; omega) k
  omega
theorem all_good {ps : List Nat} (h : ∀ y ∈ ps, y < 2 ^ 64) (ha : ps.all okP = true) : ∀ p ∈ ps, Good p := fun p hp => okP_good (h p hp) (List.all_eq_true.1 ha p hp)
theorem st_float {P : Program} (w : World) (g i v : Nat) (old : Value) (hc : w.cell? ⟨g, i, none⟩ = some old) (hf : w.frozen? ⟨g, i, none⟩ = false) :
    (store ⟨g, i, none⟩ (.float .f64 v)).run P w = .ok () (w.setCell ⟨g, i, none⟩ (.float .f64 v)) := by
  rw [run_store _ _ _ _ _ rfl, hc]; simp [hf]
theorem row_step {w : World} {G t M r : Nat} {R : List Nat} {z v : Value} (h : w.rowIs G t M (fun i => if i < r then fl R i else z)) (hv : v = fl R r) :
    (w.setCell ⟨G, r, none⟩ v).rowIs G t M (fun i => if i < r + 1 then fl R i else z) :=
  (h.set r v).congr fun i hi => by
    by_cases e : i = r
    · subst e; rw [if_pos rfl, if_pos (by omega), hv]
    · rw [if_neg e]
      by_cases h2 : i < r
      · rw [if_pos h2, if_pos (by omega)]
      · rw [if_neg h2, if_neg (by omega)]
theorem fl_row (L : List Nat) (p k v : Nat) (h : k < L.length + 1) (hv : cellP L p k = v) : (Value.float .f64 v) = fl (rowP L p) k := by
  unfold fl; rw [rowP_get L p k h, hv]
theorem getD_out (L : List Nat) (k : Nat) (h : L.length ≤ k) : L.getD k 0 = 0 := by
  rw [List.getD_eq_getElem?_getD, List.getElem?_eq_none h]; rfl
set_option maxHeartbeats 1000000 in
theorem refChance_any (w : World) (A : Option Addr) (n c B : Nat) (ps : List Nat) (N : Int) (hr : Rd w B A n (fv ps)) (hB : B ≤ w.heap.size) (hp : ∀ y ∈ ps, y < 2 ^ 64) (hn : n ≤ 140737488355328) (hN1 : -9223372036854775808 ≤ N) (hN2 : N ≤ 9223372036854775807) :
    Calls Try.prog 17 #[.slice A n c, .int .i64 N] w fun e w' => e = .returned (.tuple #[.float .f64 (chanceP ps N).1, .int .i64 (chanceP ps N).2]) ∧ Below w.heap.size w w' := by
  have hl : ps.length = n := by have := hr.1; rw [fv_len] at this; exact this
  have HH : Hd (Rd w B A n (fv ps) ∧ B ≤ w.heap.size ∧ (∀ y ∈ ps, y < 2 ^ 64) ∧ ps.length = n) := ⟨hr, hB, hp, hl⟩
  clear hr hB hp hl
  go_enter Try.func17, Try.ntmps17
  by_cases h255 : 255 < n
  · have hi : (255 : Int) < (n : Int) := by omega
    have HE : Hd (chanceP ps N = (0, 3)) := ⟨by unfold chanceP; rw [if_pos (by rw [HH.out.2.2.2]; exact h255)]⟩
    go_wp2
    go_ret2
    exact ⟨by rw [HE.out]; rfl, Below.refl _ _⟩
  have hi : ¬ (255 : Int) < (n : Int) := by omega
  go_wp2_with fail
  go_loop [6] (fun i => ∃ k : Nat, k ≤ n ∧ i = .int .i64 k ∧ (ps.take k).all okP = true) (fun i => n - (intOf i).toNat)
  case atStart => exact ⟨0, by omega, rfl, rfl⟩
  case round =>
    obtain ⟨k, hk, rfl, hall⟩ := hrel
    have HA := Hd.mk hall
    clear hall
    by_cases hlt : k < n
    · have hki : (k : Int) < (n : Int) := by omega
      obtain ⟨g, off, u, hA, _, hx, hc⟩ := HH.out.1.at_ hlt
      rw [fv_get _ _ (by rw [HH.out.2.2.2]; exact hlt)] at hx
      injection hx with hx
      subst hx hA
      obtain ⟨x, hx⟩ : ∃ x, ps.getD k 0 = x := ⟨_, rfl⟩
      rw [hx] at hc
      have HX := Hd.mk hx
      clear hx
      rcases hge : geP x with _ | _
      · have hq : (FloatKind.f64.format.order x 0 == some .gt || FloatKind.f64.format.order x 0 == some .eq) = false := hge
        have HE : Hd (chanceP ps N = (0, 2)) := ⟨by
          unfold chanceP
          rw [if_neg (by rw [HH.out.2.2.2]; exact h255), if_pos (not_all (k := k) (by rw [HH.out.2.2.2]; exact hlt) (by rw [HX.out]; unfold okP; rw [hge]; rfl))]⟩
        clear hge
        go_wp2
        go_ret2
        exact ⟨by rw [HE.out]; rfl, Below.refl _ _⟩
      · have hq : (FloatKind.f64.format.order x 0 == some .gt || FloatKind.f64.format.order x 0 == some .eq) = true := hge
        rcases hle : leP x with _ | _
        · have hq2 : (FloatKind.f64.format.order x 4607182418800017408 == some .lt || FloatKind.f64.format.order x 4607182418800017408 == some .eq) = false := hle
          have HE : Hd (chanceP ps N = (0, 2)) := ⟨by
            unfold chanceP
            rw [if_neg (by rw [HH.out.2.2.2]; exact h255), if_pos (not_all (k := k) (by rw [HH.out.2.2.2]; exact hlt) (by rw [HX.out]; unfold okP; rw [hge, hle]; rfl))]⟩
          clear hge hle
          go_wp2
          go_ret2
          exact ⟨by rw [HE.out]; rfl, Below.refl _ _⟩
        · have hq2 : (FloatKind.f64.format.order x 4607182418800017408 == some .lt || FloatKind.f64.format.order x 4607182418800017408 == some .eq) = true := hle
          have HO : Hd (okP x = true) := ⟨by unfold okP; rw [hge, hle]; rfl⟩
          clear hge hle
          go_wp2
          go_round
          case rel => exact ⟨k + 1, by omega, by go_num, all_take (by rw [HH.out.2.2.2]; exact hlt) HA.out (by rw [HX.out]; exact HO.out)⟩
          case measure => simp [intOf]; omega
    · have hkn : k = n := by omega
      subst hkn
      have HG : Hd (ps.all okP = true) := ⟨by have := HA.out; rwa [List.take_of_length_le (by rw [HH.out.2.2.2]; exact Nat.le_refl _)] at this⟩
      clear HA
      by_cases hN : N < 0
      · have HE : Hd (chanceP ps N = (0, 2)) := ⟨by
          unfold chanceP
          rw [if_neg (by rw [HH.out.2.2.2]; exact h255), if_neg (by rw [HG.out]; simp), if_pos hN]⟩
        go_wp2
        go_ret2
        exact ⟨by rw [HE.out]; rfl, Below.refl _ _⟩
      have HE : Hd (chanceP ps N = (min (sumP (distP ps) ((k : Int) - N).toNat) one64, 0) ∧ ps.length = k) := ⟨by
        unfold chanceP
        rw [if_neg (by rw [HH.out.2.2.2]; exact h255), if_neg (by rw [HG.out]; simp), if_neg hN, HH.out.2.2.2], HH.out.2.2.2⟩
      have HP : Hd (∀ p ∈ ps, Good p) := ⟨all_good HH.out.2.2.1 HG.out⟩
      have hb1 := fun w => run_build1 (w := w) elF (.float .f64 4607182418800017408) rfl
      have H0 : Hd ((w.alloc (.cells #[.float .f64 4607182418800017408] 24)).rowIs w.heap.size 24 1 (fl (distP (ps.take 0))) ∧ Below w.heap.size w (w.alloc (.cells #[.float .f64 4607182418800017408] 24))) :=
        ⟨World.rowIs_alloc w _ _ _ (fun i hi => by obtain rfl : i = 0 := by simpa using hi
                                                   rfl), (Below.refl _ _).alloc (Nat.le_refl _) _⟩
      go_wp2_with fail
      go_loopw [7, 8] (fun s i wr => ∃ (j b : Nat), j ≤ k ∧ i = .int .i64 j ∧ s = .slice (some ⟨b, 0, none⟩) (j + 1) (j + 1) ∧ w.heap.size ≤ b ∧ wr.rowIs b 24 (j + 1) (fl (distP (ps.take j))) ∧ Below w.heap.size w wr) (fun _ i _ => k - (intOf i).toNat)
      case atStart => exact ⟨0, _, by omega, rfl, rfl, Nat.le_refl _, H0.out.1, H0.out.2⟩
      case round =>
        obtain ⟨j, b, hj, rfl, rfl, hb, hrow, hbel⟩ := hrel
        have HR := Hd.mk (And.intro hrow hbel)
        clear hrow hbel
        by_cases hjk : j < k
        · have hji : (j : Int) < (k : Int) := by omega
          obtain ⟨g, off, u, hA, _, hx, hc⟩ := (HH.out.1.below (HR.out.2.mono HH.out.2.1)).at_ hjk
          rw [fv_get _ _ (by rw [HE.out.2]; exact hjk)] at hx
          injection hx with hx
          subst hx hA
          have hdn := distP_next ps j (by rw [HE.out.2]; exact hjk)
          have hgx : Good (ps.getD j 0) := HP.out _ (by
            rw [List.getD_eq_getElem?_getD, List.getElem?_eq_getElem (by rw [HE.out.2]; exact hjk)]; exact List.getElem_mem _)
          have hfin : ∀ q, (distP (ps.take j)).getD q 0 < inf64 := fun q => distP_fin (by rw [List.length_take, HE.out.2]; omega) (fun p hp => HP.out p (List.mem_of_mem_take hp)) q
          have hlen : (distP (ps.take j)).length = j + 1 := by rw [distP_len, List.length_take, HE.out.2]; omega
          obtain ⟨x, hx⟩ : ∃ x, ps.getD j 0 = x := ⟨_, rfl⟩
          rw [hx] at hc hdn hgx
          obtain ⟨L, hL⟩ : ∃ L, distP (ps.take j) = L := ⟨_, rfl⟩
          rw [hL] at HR hdn hfin hlen
          have HX := Hd.mk (And.intro hdn (And.intro hgx (And.intro hfin hlen)))
          clear hx hdn hgx hfin hlen hL
          have hm1 := fun w => run_f1m (P := Try.prog) w 24 HX.out.2.1
          obtain ⟨m, hm⟩ : ∃ m, j + 1 = m := ⟨_, rfl⟩
          obtain ⟨M, hM⟩ : ∃ M, m + 1 = M := ⟨_, rfl⟩
          rw [hm] at HR HX ⊢
          have hMk : M ≤ 257 := by omega
          have hj2 : ((m : Int) + 1) = (M : Int) := by omega
          have hmk := fun w => run_make_row' (P := Try.prog) 22 24 (.float .f64 0) 8 Try.underlying22 infoF rfl .i64 .i64 M (by omega) (by omega) w
          have HM : Hd ((wr.alloc (.cells (madeCells #[.float .f64 0] M) 24)).rowIs wr.heap.size 24 M (fun i => if i < 0 then fl (rowP L x) i else .float .f64 0) ∧
              (wr.alloc (.cells (madeCells #[.float .f64 0] M) 24)).rowIs b 24 m (fl L) ∧ Below w.heap.size w (wr.alloc (.cells (madeCells #[.float .f64 0] M) 24)) ∧ w.heap.size ≤ wr.heap.size ∧ b < wr.heap.size) :=
            ⟨(World.rowIs_made wr _ _ _).congr (fun i hi => by rw [if_neg (by omega)]), HR.out.1.alloc _, HR.out.2.alloc HR.out.2.size _, HR.out.2.size, HR.out.1.lt⟩
          have HJ : Hd (m = j + 1 ∧ M = j + 1 + 1) := ⟨by omega, by omega⟩
          clear hm hM HR
          go_wp2_with fail
          obtain ⟨G, hG⟩ : ∃ G, wr.heap.size = G := ⟨_, rfl⟩
          rw [hG] at HM ⊢
          have HG2 := Hd.mk hG
          clear hG
          go_loopw [12] (fun q wi => ∃ r : Nat, r ≤ M ∧ q = .int .i64 r ∧ wi.rowIs G 24 M (fun i => if i < r then fl (rowP L x) i else .float .f64 0) ∧ wi.rowIs b 24 m (fl L) ∧ Below w.heap.size w wi) (fun q _ => M - (intOf q).toNat)
          case atStart => exact ⟨0, by omega, rfl, HM.out.1, HM.out.2.1, HM.out.2.2.1⟩
          case round =>
            obtain ⟨r, hr, rfl, hR1, hR2, hR3⟩ := hrel
            have HI := Hd.mk (And.intro hR1 (And.intro hR2 hR3))
            clear hR1 hR2 hR3
            have hfz := HI.out.1.frozen r
            have hgc : r < M → wr.cell? ⟨G, r, none⟩ = some (.float .f64 0) := fun h => by have := HI.out.1.cell h; rwa [if_neg (Nat.lt_irrefl r)] at this
            obtain ⟨Q, hQ⟩ : ∃ Q, f1m x = Q := ⟨_, rfl⟩
            have hQ1 : Q ≤ one64 := by rw [← hQ]; exact f1m_le x
            have hQi : Q < inf64 := Nat.lt_of_le_of_lt hQ1 (by decide)
            rw [hQ]
            rcases Nat.eq_zero_or_pos r with h0 | h0
            · subst h0
              have hrm : ((0 : Nat) : Int) < (m : Int) := by have := HJ.out; omega
              have hrM : ((0 : Nat) : Int) < (M : Int) := by have := HJ.out; omega
              have hg0 := hgc (by have := HJ.out; omega)
              have hst := fun v => st_float (P := Try.prog) wr G 0 v _ hg0 hfz
              clear hgc
              have hc1 : wr.cell? ⟨b, 0, none⟩ = some (.float .f64 (L.getD 0 0)) := HI.out.2.1.cell (by have := HJ.out; omega)
              have hf1 := HX.out.2.2.1 0
              have hv : cellP L x 0 = fadd (fmul (L.getD 0 0) Q) 0 := by unfold cellP; rw [if_pos rfl, hQ]
              obtain ⟨y, hy⟩ : ∃ y, L.getD 0 0 = y := ⟨_, rfl⟩
              rw [hy] at hc1 hv hf1
              have e1 := fun w => run_fmul (P := Try.prog) w 24 hf1 hQi
              have e2 := fun w => run_fadd (P := Try.prog) w 24 (a := fmul y Q) (b := 0) (fmul_lt hf1 hQ1) (.inl (by decide))
              have HV := Hd.mk hv
              clear hv hy hQ hf1 hQ1 hQi
              go_wp2
              go_roundw
              case rel => exact ⟨0 + 1, by omega, by go_num, row_step HI.out.1 (fl_row _ _ _ _ (by rw [HX.out.2.2.2]; have := HJ.out; omega) HV.out), HI.out.2.1.setOther (by show b ≠ G; have := HM.out.2.2.2.2; omega) _, HI.out.2.2.setCell (by show w.heap.size ≤ G; have := HM.out.2.2.2.1; omega) _⟩
              case measure => simp [intOf]; omega
            · obtain ⟨r, rfl⟩ : ∃ r', r = r' + 1 := ⟨r - 1, by omega⟩
              obtain ⟨R, hR⟩ : ∃ R, r + 1 = R := ⟨_, rfl⟩
              rw [hR] at HI hfz hgc ⊢
              have hd : (R : Int) - 1 = (r : Int) := by omega
              have hR0 : (0 : Int) < (R : Int) := by omega
              have hc2 : r < m → wr.cell? ⟨b, r, none⟩ = some (.float .f64 (L.getD r 0)) := fun h => HI.out.2.1.cell h
              by_cases hrM : R < M
              · have hrMi : (R : Int) < (M : Int) := by omega
                have hc3 := hc2 (by have := HJ.out; omega)
                have hg0 := hgc hrM
                have hst := fun v => st_float (P := Try.prog) wr G R v _ hg0 hfz
                clear hgc
                have hrmi : (r : Int) < (m : Int) := by have := HJ.out; omega
                have hf2 := HX.out.2.2.1 r
                have hf1 := HX.out.2.2.1 R
                have hv : cellP L x R = fadd (fmul (L.getD R 0) Q) (fmulp (L.getD r 0) x) := by unfold cellP; rw [if_neg (by omega), hQ, show R - 1 = r by omega]
                clear hc2
                obtain ⟨y2, hy2⟩ : ∃ y, L.getD r 0 = y := ⟨_, rfl⟩
                rw [hy2] at hc3 hv hf2
                have e3 := fun w => run_fmulp (P := Try.prog) w 24 hf2 HX.out.2.1
                have hp2 := fmulp_arg hf2 HX.out.2.1
                by_cases hrm : R < m
                · have hrmi2 : (R : Int) < (m : Int) := by omega
                  have hc1 : wr.cell? ⟨b, R, none⟩ = some (.float .f64 (L.getD R 0)) := HI.out.2.1.cell hrm
                  obtain ⟨y, hy⟩ : ∃ y, L.getD R 0 = y := ⟨_, rfl⟩
                  rw [hy] at hc1 hv hf1
                  have e1 := fun w => run_fmul (P := Try.prog) w 24 hf1 hQi
                  have e2 := fun w => run_fadd (P := Try.prog) w 24 (a := fmul y Q) (b := fmulp y2 x) (fmul_lt hf1 hQ1) hp2
                  have HV := Hd.mk hv
                  have HRr := Hd.mk hR
                  clear hv hy hQ hf1 hQ1 hQi hy2 hf2 hp2 hR hrm
                  go_wp2
                  go_roundw
                  case rel => exact ⟨R + 1, by omega, by go_num, row_step HI.out.1 (fl_row _ _ _ _ (by rw [HX.out.2.2.2]; have := HJ.out; omega) HV.out), HI.out.2.1.setOther (by show b ≠ G; have := HM.out.2.2.2.2; omega) _, HI.out.2.2.setCell (by show w.heap.size ≤ G; have := HM.out.2.2.2.1; omega) _⟩
                  case measure => simp [intOf]; omega
                · have hrmi2 : ¬ (R : Int) < (m : Int) := by omega
                  rw [getD_out L R (by rw [HX.out.2.2.2]; have := HJ.out; omega), fmul_zero] at hv
                  have e2 := fun w => run_fadd (P := Try.prog) w 24 (a := 0) (b := fmulp y2 x) (by decide) hp2
                  have HV := Hd.mk hv
                  have HRr := Hd.mk hR
                  clear hv hQ hf1 hQ1 hQi hy2 hf2 hp2 hR hrm
                  go_wp2
                  go_roundw
                  case rel => exact ⟨R + 1, by omega, by go_num, row_step HI.out.1 (fl_row _ _ _ _ (by rw [HX.out.2.2.2]; have := HJ.out; omega) HV.out), HI.out.2.1.setOther (by show b ≠ G; have := HM.out.2.2.2.2; omega) _, HI.out.2.2.setCell (by show w.heap.size ≤ G; have := HM.out.2.2.2.1; omega) _⟩
                  case measure => simp [intOf]; omega
              · have hRM : R = M := by omega
                subst hRM
                have hrow : wr.rowIs G 24 R (fl (rowP L x)) := HI.out.1.congr fun i hi => by rw [if_pos hi]
                have HW := Hd.mk hrow
                clear hc2 hfz hgc hQ hQ1 hQi hrow
                go_wp2
                go_roundw
                case rel => exact ⟨j + 1, G, by omega, by go_num, by rw [← HJ.out.2], by have := HM.out.2.2.2.1; omega, by rw [← HJ.out.2, ← HJ.out.1, HX.out.1]; exact HW.out, HI.out.2.2⟩
                case measure => simp [intOf]; omega
        · have hjk2 : j = k := by omega
          subst hjk2
          obtain ⟨m, hm⟩ : ∃ m, j + 1 = m := ⟨_, rfl⟩
          rw [hm] at HR ⊢
          have hmi : (m : Int) - 1 = (j : Int) := by omega
          have HD : Hd (wr.rowIs b 24 m (fl (distP ps)) ∧ Below w.heap.size w wr ∧ (distP ps).length = m) :=
            ⟨by have := HR.out.1; rwa [List.take_of_length_le (by rw [HE.out.2]; exact Nat.le_refl _)] at this, HR.out.2, by rw [distP_len, HE.out.2]; exact hm⟩
          clear HR
          go_wp2_with fail
          have h255k : j ≤ 255 := by omega
          have HF : Hd ((∀ q, (distP ps).getD q 0 < inf64) ∧ ∀ q, q ≤ 256 → sumP (distP ps) q < inf64) := ⟨fun q => distP_fin (by rw [HE.out.2]; omega) HP.out q, fun q hq => sumP_fin (by rw [HE.out.2]; omega) HP.out q hq⟩
          go_loop [15, 16] (fun s i => ∃ q d : Nat, d + q = j ∧ q ≤ ((j : Int) - N).toNat ∧ i = .int .i64 (d : Int) ∧ s = .float .f64 (sumP (distP ps) q)) (fun _ i => (intOf i).toNat)
          case atStart => exact ⟨0, j, by omega, by omega, rfl, rfl⟩
          case round =>
            obtain ⟨q, d, hdq, hq, rfl, rfl⟩ := hrel
            by_cases hNd : N < (d : Int)
            · obtain ⟨d, rfl⟩ : ∃ d', d = d' + 1 := ⟨d - 1, by omega⟩
              have hcd : wr.cell? ⟨b, d + 1, none⟩ = some (.float .f64 ((distP ps).getD (d + 1) 0)) := HD.out.1.cell (by omega)
              have hsn : sumP (distP ps) (q + 1) = fadd (sumP (distP ps) q) ((distP ps).getD (d + 1) 0) := by
                show fadd _ _ = _
                rw [HD.out.2.2, show m - 1 - q = d + 1 by omega]
              have f1 := HF.out.1 (d + 1)
              have f2 := HF.out.2 q (by omega)
              obtain ⟨D, hD⟩ : ∃ D, d + 1 = D := ⟨_, rfl⟩
              rw [hD] at hNd hcd hsn f1 ⊢
              have hDd : (D : Int) - 1 = (d : Int) := by omega
              have hDm : (D : Int) < (m : Int) := by omega
              have hDm2 : D < m := by omega
              obtain ⟨y, hy⟩ : ∃ y, (distP ps).getD D 0 = y := ⟨_, rfl⟩
              obtain ⟨S, hS⟩ : ∃ S, sumP (distP ps) q = S := ⟨_, rfl⟩
              rw [hy] at hcd hsn f1
              rw [hS] at hsn f2 ⊢
              have e1 := fun w => run_fadd (P := Try.prog) w 24 f2 (.inl f1)
              have HS := Hd.mk (And.intro hsn hD)
              have HQ := Hd.mk hdq
              clear hsn f1 f2 hD hy hS hdq
              go_wp2
              go_round
              case rel => exact ⟨q + 1, d, by have := HQ.out; have := HS.out.2; omega, by have := HQ.out; have := HS.out.2; omega, by go_num, by rw [HS.out.1]⟩
              case measure => simp [intOf]; omega
            · have hqq : q = ((j : Int) - N).toNat := by omega
              have f2 := HF.out.2 q (by omega)
              have HE2 : Hd (chanceP ps N = (min (sumP (distP ps) q) one64, 0)) := ⟨by rw [HE.out.1, hqq]⟩
              obtain ⟨S, hS⟩ : ∃ S, sumP (distP ps) q = S := ⟨_, rfl⟩
              rw [hS] at HE2 f2 ⊢
              have ho := order_one f2
              clear hqq hS
              by_cases hS1 : one64 < S
              · rw [if_neg (by omega), if_neg (by omega)] at ho
                have ho2 : (FloatKind.f64.format.order S 4607182418800017408 == some .gt) = true := by rw [ho]; rfl
                have hr1 : min S one64 = 4607182418800017408 := Nat.min_eq_right (by omega)
                rw [hr1] at HE2
                clear ho hS1 f2 hr1
                go_wp2
                go_ret2
                exact ⟨by rw [HE2.out]; rfl, HD.out.2.1⟩
              · have ho2 : (FloatKind.f64.format.order S 4607182418800017408 == some .gt) = false := by
                  rw [ho]
                  by_cases h : S < one64
                  · rw [if_pos h]; rfl
                  · rw [if_neg h, if_pos (by omega)]; rfl
                have hr1 : min S one64 = S := Nat.min_eq_left (by omega)
                rw [hr1] at HE2
                clear ho hS1 f2 hr1
                go_wp2
                go_ret2
                exact ⟨by rw [HE2.out]; rfl, HD.out.2.1⟩
end Go.Proofs.Ytknpcbekaodlkaa
