/- The walk of VotesFew: it returns true for every input. (tools/fewgen.py prints it.) -/
import Derived.Test.YtplpaipmkpjgfaaFewP
import Derived.Deep.CutRange
import Derived.Deep.Cut
namespace Go.Proofs.Ytplpaipmkpjgfaa
open Go.RowKit
set_option linter.unusedVariables false
set_option linter.unusedSimpArgs false
/-- Cells that stay. -/
theorem keepF {w5 W W' : World} {P : (World → Prop)} (hP : ∀ W, Below w5.heap.size w5 W → P W) (h : Below w5.heap.size w5 W) (hb : Below W.heap.size W W') : Below w5.heap.size w5 W' := h.trans (hb.mono h.size)
theorem keep7 {w5 W W' : World} {g1 g2 i0 i1 i2 i3 j0 j1 j2 : Nat} {a0 a1 a2 a3 b0 b1 b2 : Value} (hg : g1 < w5.heap.size) (hg2 : g2 < w5.heap.size)
    (h : Below w5.heap.size w5 W ∧ W.cell? ⟨g1, i0, none⟩ = some a0 ∧ W.cell? ⟨g1, i1, none⟩ = some a1 ∧ W.cell? ⟨g1, i2, none⟩ = some a2 ∧ W.cell? ⟨g1, i3, none⟩ = some a3 ∧ W.cell? ⟨g2, j0, none⟩ = some b0 ∧ W.cell? ⟨g2, j1, none⟩ = some b1 ∧ W.cell? ⟨g2, j2, none⟩ = some b2) (hb : Below W.heap.size W W') :
    Below w5.heap.size w5 W' ∧ W'.cell? ⟨g1, i0, none⟩ = some a0 ∧ W'.cell? ⟨g1, i1, none⟩ = some a1 ∧ W'.cell? ⟨g1, i2, none⟩ = some a2 ∧ W'.cell? ⟨g1, i3, none⟩ = some a3 ∧ W'.cell? ⟨g2, j0, none⟩ = some b0 ∧ W'.cell? ⟨g2, j1, none⟩ = some b1 ∧ W'.cell? ⟨g2, j2, none⟩ = some b2 := by
  obtain ⟨h0, h1, h2, h3, h4, h5, h6, h7⟩ := h
  have k : ∀ {q i : Nat} {u : Value}, q < w5.heap.size → W.cell? ⟨q, i, none⟩ = some u → W'.cell? ⟨q, i, none⟩ = some u := fun {q i u} hq hc => (hb.cell (p := ⟨q, i, none⟩) (Nat.lt_of_lt_of_le hq h0.size)).trans hc
  exact ⟨h0.trans (hb.mono h0.size), k hg h1, k hg h2, k hg h3, k hg h4, k hg2 h5, k hg2 h6, k hg2 h7⟩
theorem keep4 {w5 W W' : World} {g1 i0 i1 i2 i3 : Nat} {a0 a1 a2 a3 : Value} (hg : g1 < w5.heap.size)
    (h : Below w5.heap.size w5 W ∧ W.cell? ⟨g1, i0, none⟩ = some a0 ∧ W.cell? ⟨g1, i1, none⟩ = some a1 ∧ W.cell? ⟨g1, i2, none⟩ = some a2 ∧ W.cell? ⟨g1, i3, none⟩ = some a3) (hb : Below W.heap.size W W') :
    Below w5.heap.size w5 W' ∧ W'.cell? ⟨g1, i0, none⟩ = some a0 ∧ W'.cell? ⟨g1, i1, none⟩ = some a1 ∧ W'.cell? ⟨g1, i2, none⟩ = some a2 ∧ W'.cell? ⟨g1, i3, none⟩ = some a3 := by
  obtain ⟨h0, h1, h2, h3, h4⟩ := h
  have k : ∀ {q i : Nat} {u : Value}, q < w5.heap.size → W.cell? ⟨q, i, none⟩ = some u → W'.cell? ⟨q, i, none⟩ = some u := fun {q i u} hq hc => (hb.cell (p := ⟨q, i, none⟩) (Nat.lt_of_lt_of_le hq h0.size)).trans hc
  exact ⟨h0.trans (hb.mono h0.size), k hg h1, k hg h2, k hg h3, k hg h4⟩
theorem tot_take_le (S : Nat → Sn) (n : Nat) : ∀ (l : List Wr) (i : Nat), tot S n (l.take i) ≤ tot S n l
  | [], i => by simp [tot]
  | x :: r, 0 => by simp [tot]
  | x :: r, i + 1 => by have := tot_take_le S n r i; simp only [List.take_succ_cons, tot]; omega
set_option maxRecDepth 20000 in
set_option maxHeartbeats 40000000 in
theorem few_walk (A : Option Addr) (n c : Nat) (S : Nat → Sn) (B : Nat → List (List Nat)) (k m b : Int) (w : World) (hA : SeenA w A n S B) :
    Calls Try.prog 7 #[.agg #[.int .i64 k, .int .i64 m, .int .i64 b], .slice A n c] w fun e w' => e = .returned (.bool true) ∧ Below w.heap.size w w' := by
  have HA := Hd.mk hA.view
  have hn := hA.lenA
  clear hA
  have H1 := Hd.mk (PSt.start w k m b)
  go_enter Try.func7, Try.ntmps7
  go_wp2_with fail
  obtain ⟨w1, hw1⟩ : ∃ w1, w.alloc (.cells #[.int .i64 k, .int .i64 m, .int .i64 b] 34) = w1 := ⟨_, rfl⟩
  rw [hw1] at H1 ⊢
  clear hw1
  refine (awake_any w1).mono ?_
  rintro e w2 ⟨rfl, hb2⟩
  have H2 := Hd.mk (H1.out.keep hb2)
  clear hb2 H1
  go_wp2_with (refine at_load ?_; refine wpList_load_row rfl 34 (.tmp 2) rfl w.heap.size rfl 34 #[.int .i64 k, .int .i64 m, .int .i64 b] (0, 0) _ H2.out.sh Try.underlying34 rfl infoSh ?_)
  refine (reffits_any w2 k m b).mono ?_
  rintro e w3 ⟨rfl, hb3⟩
  have H3 := Hd.mk (H2.out.keep hb3)
  have HV3 : Hd (∀ W, Below w3.heap.size w3 W → View W w.heap.size A n S ∧ w.heap.size ≤ W.heap.size) := ⟨fun W hW => have hb := H3.out.bel.trans (hW.mono H3.out.bel.size); ⟨HA.out.below hb, hb.size⟩⟩
  clear hb3 H2
  have c0 := H3.out.c0
  have c1 := H3.out.c1
  rcases q : fitsR k m b with _ | _
  · have HQ : Hd (judgeP S n k m b = (3, (0, 0, 0), [])) := ⟨judge_bad (by unfold fitsB; rw [q]; rfl)⟩
    clear q
    go_wp2_with (refine at_load ?_; refine wpList_load_row rfl 34 (.tmp 2) rfl w.heap.size rfl 34 #[.int .i64 k, .int .i64 m, .int .i64 b] (0, 0) _ H3.out.sh Try.underlying34 rfl infoSh ?_)
    have hj := judge_any w3 w.heap.size n c A S (HV3.out w3 (Below.refl _ _)).1 (HV3.out w3 (Below.refl _ _)).2 hn k m b
    rw [HQ.out] at hj
    refine hj.mono ?_
    clear hj
    rintro e w4 ⟨P, rfl, ho4, hb4⟩
    obtain ⟨A4, c4, rfl, _, _⟩ := own_form ho4
    rw [show verV (3, (0, 0, 0), []) (.slice A4 ((3, (0, 0, 0), []) : Int × Wr × List Int).2.2.length c4) = #[.int .i64 3, .int .i64 0, .int .i64 0, .int .i64 0, .slice A4 0 c4] from rfl]
    have H4 := Hd.mk (H3.out.keep hb4)
    clear hb4 ho4 H3 HV3
    go_wp2_with (refine at_store (x := .tmp 7) ?_; refine wpList_boxed rfl 27 (.tmp 7) (.tmp 37) rfl w4.heap.size rfl #[.int .i64 3, .int .i64 0, .int .i64 0, .int .i64 0, .slice A4 0 c4] rfl rfl infoV2 rfl (by simp [Value.oneCell']) ?_; intro w5 HW5
                 have H5 := Hd.mk (H4.out.keep HW5.out.2.1)
                 have b0 : w5.cell? ⟨w4.heap.size, 0, none⟩ = some (.int .i64 3) := by rw [cell_of_row _ _ _ _ _ _ HW5.out.1]; rfl
                 have b4 : w5.cell? ⟨w4.heap.size, 4, none⟩ = some (.slice A4 0 c4) := by rw [cell_of_row _ _ _ _ _ _ HW5.out.1]; rfl)
    go_ret
    exact ⟨rfl, H5.out.bel⟩
  · obtain ⟨r1, r2, r3, r4, r5, r6⟩ := of_decide_eq_true (show decide _ = true from q)
    rcases Decidable.em ((n : Int) ≠ k + m) with hnk | hnk
    · have HQ : Hd (judgeP S n k m b = (3, (0, 0, 0), [])) := ⟨judge_bad (by unfold fitsB; rw [q]; simp [hnk])⟩
      have qn : ((n : Int) != k + m) = true := by simp; exact hnk
      clear q hnk
      go_wp2_with (refine at_load ?_; refine wpList_load_row rfl 34 (.tmp 2) rfl w.heap.size rfl 34 #[.int .i64 k, .int .i64 m, .int .i64 b] (0, 0) _ H3.out.sh Try.underlying34 rfl infoSh ?_)
      have hj := judge_any w3 w.heap.size n c A S (HV3.out w3 (Below.refl _ _)).1 (HV3.out w3 (Below.refl _ _)).2 hn k m b
      rw [HQ.out] at hj
      refine hj.mono ?_
      clear hj
      rintro e w4 ⟨P, rfl, ho4, hb4⟩
      obtain ⟨A4, c4, rfl, _, _⟩ := own_form ho4
      rw [show verV (3, (0, 0, 0), []) (.slice A4 ((3, (0, 0, 0), []) : Int × Wr × List Int).2.2.length c4) = #[.int .i64 3, .int .i64 0, .int .i64 0, .int .i64 0, .slice A4 0 c4] from rfl]
      have H4 := Hd.mk (H3.out.keep hb4)
      clear hb4 ho4 H3 HV3
      go_wp2_with (refine at_store (x := .tmp 7) ?_; refine wpList_boxed rfl 27 (.tmp 7) (.tmp 37) rfl w4.heap.size rfl #[.int .i64 3, .int .i64 0, .int .i64 0, .int .i64 0, .slice A4 0 c4] rfl rfl infoV2 rfl (by simp [Value.oneCell']) ?_; intro w5 HW5
                   have H5 := Hd.mk (H4.out.keep HW5.out.2.1)
                   have b0 : w5.cell? ⟨w4.heap.size, 0, none⟩ = some (.int .i64 3) := by rw [cell_of_row _ _ _ _ _ _ HW5.out.1]; rfl
                   have b4 : w5.cell? ⟨w4.heap.size, 4, none⟩ = some (.slice A4 0 c4) := by rw [cell_of_row _ _ _ _ _ _ HW5.out.1]; rfl)
      go_ret
      exact ⟨rfl, H5.out.bel⟩
    have hnk : (n : Int) = k + m := by omega
    have HQ : Hd (fitsB k m b n = true) := ⟨by unfold fitsB; rw [q, hnk]; simp⟩
    have qn : ((n : Int) != k + m) = false := by simp [hnk]
    clear q hnk
    go_wp2_with fail
    refine (groups_any w3 w.heap.size n c A S (HV3.out w3 (Below.refl _ _)).1 (HV3.out w3 (Below.refl _ _)).2 hn).mono ?_
    rintro e w4 ⟨v, f, gl, rfl, hO⟩
    obtain ⟨L, hL⟩ : ∃ L, grpL S n = L := ⟨_, rfl⟩
    have hLn : L.length ≤ n := hL ▸ grpL_le S n
    have HL := Hd.mk hL
    have hG := hO.gl.low (base' := w.heap.size + 1) (by have := H3.out.big; omega)
    rw [hL] at hG
    have H4 := Hd.mk (And.intro (H3.out.keep hO.bel) hG)
    clear hL hO hG H3 HV3 c0 c1
    obtain ⟨A9, c9, hv9, _, _⟩ := ownN_form H4.out.2.out
    rw [hv9] at H4 ⊢
    clear hv9
    go_wp2_with fail
    go_loopw [9, 10, 11, 12] (fun cv ev av iv wr => ∃ j : Nat, j ≤ L.length ∧ iv = .int .i64 (j : Int) ∧ cv = .int .i64 (big S n k (L.take j) : Int) ∧ ev = .int .i64 (exa S n k (L.take j) : Int) ∧ av = .int .i64 (tot S n (L.take j) : Int) ∧ PSt w wr k m b ∧ GL (w.heap.size + 1) wr S n f (.slice A9 L.length c9) L) (fun _ _ _ iv _ => L.length - (intOf iv).toNat)
    case atStart => exact ⟨0, by omega, rfl, rfl, rfl, rfl, H4.out.1, H4.out.2⟩
    case round =>
      clear H4
      obtain ⟨j, hj, rfl, rfl, rfl, rfl, h1, h2⟩ := hrel
      have H4 := Hd.mk (And.intro h1 h2)
      clear h1 h2
      by_cases hlt : j < L.length
      · have hji : (j : Int) < (L.length : Int) := by omega
        have hsn : L.take (j + 1) = L.take j ++ [L.getD j (0, 0, 0)] := by rw [List.take_add_one, List.getElem?_eq_getElem hlt, List.getD_eq_getElem?_getD, List.getElem?_eq_getElem hlt]; rfl
        obtain ⟨x, hx⟩ : ∃ x, L.getD j (0, 0, 0) = x := ⟨_, rfl⟩
        have HXM : Hd (x ∈ L) := ⟨hx ▸ getD_mem hlt⟩
        obtain ⟨g, c9', hv, _, hg, hr⟩ := H4.out.2.at_ hlt
        rw [hx] at hr hsn
        injection hv with hv1 hv2 hv3
        subst hv1 hv3
        obtain ⟨D1, d1, hf, _, _⟩ := own_form (H4.out.2.rows x HXM.out)
        change f x = .slice D1 (cnt S n x) d1 at hf
        have hbs := big_snoc S n k (L.take j) x
        have hes := exa_snoc S n k (L.take j) x
        have hts := tot_snoc S n (L.take j) x
        have htl := tot_take_le S n L (j + 1)
        rw [← hsn] at hbs hes hts
        have hbj := big_le S n k (L.take j)
        have hej := exa_big S n k (L.take j)
        have htg := tot_grp S n
        rw [HL.out] at htg
        have hsh := shardN_le S n
        obtain ⟨mm, hmm⟩ : ∃ mm, cnt S n x = mm := ⟨_, rfl⟩
        have hmn : mm ≤ n := hmm ▸ cnt_le _ _ _
        rw [hmm] at hf hbs hes hts
        have HXE := Hd.mk hx
        obtain ⟨ek, ck, sk⟩ := x
        have HC : Hd (encG f (ek, ck, sk) = [.int .i64 ek, .int .i64 ck, .int .i64 sk, .slice D1 mm d1]) := ⟨by unfold encG; rw [hf]⟩
        rw [HC.out] at hr
        have HR := Hd.mk hr
        have HG := Hd.mk hg
        have HVW : Hd (∀ W, Below wr.heap.size wr W → View W w.heap.size A n S ∧ w.heap.size ≤ W.heap.size) := ⟨fun W hW => have hb := H4.out.1.bel.trans (hW.mono H4.out.1.bel.size); ⟨HA.out.below hb, hb.size⟩⟩
        have HSH : Hd (∀ W, Below wr.heap.size wr W → Calls Try.prog 26 #[.slice A n c, .agg #[.int .i64 ek, .int .i64 ck], .int .i64 sk] W fun e w' => e = .returned (.int .i64 (mm : Int)) ∧ Below W.heap.size W w') := ⟨fun W hW => by
          have h := shows_any W w.heap.size n c A S (HVW.out W hW).1 (HVW.out W hW).2 hn ek ck sk
          rw [hmm] at h
          exact h⟩
        have HX4 : Hd (∀ W, Below wr.heap.size wr W → W.cell? ⟨g, j * 4, none⟩ = some (.int .i64 ek) ∧ W.cell? ⟨g, j * 4 + 1, none⟩ = some (.int .i64 ck) ∧ W.cell? ⟨g, j * 4 + 2, none⟩ = some (.int .i64 sk) ∧ W.cell? ⟨g, j * 4 + 3, none⟩ = some (.slice D1 mm d1)) := ⟨fun W hW => by
          have kk : ∀ {i : Nat} {u : Value}, wr.cell? ⟨g, i, none⟩ = some u → W.cell? ⟨g, i, none⟩ = some u := fun {i u} hc => (hW.cell (p := ⟨g, i, none⟩) HG.out).trans hc
          exact ⟨kk (HR.out 0 _ rfl), kk (HR.out 1 _ rfl), kk (HR.out 2 _ rfl), kk (HR.out 3 _ rfl)⟩⟩
        have HS0 : Hd (∀ W, Below wr.heap.size wr W → PSt w W k m b) := ⟨fun W hW => H4.out.1.keep hW⟩
        obtain ⟨Bj, hBj⟩ : ∃ q, big S n k (L.take j) = q := ⟨_, rfl⟩
        obtain ⟨Ej, hEj⟩ : ∃ q, exa S n k (L.take j) = q := ⟨_, rfl⟩
        obtain ⟨Tj, hTj⟩ : ∃ q, tot S n (L.take j) = q := ⟨_, rfl⟩
        rw [hBj] at hbs hbj hej ⊢
        rw [hEj] at hes hej ⊢
        rw [hTj] at hts ⊢
        rw [List.length_take] at hbj
        have hTn : Tj + mm ≤ n := by omega
        have hBn : Bj ≤ n := by omega
        have hEn : Ej ≤ n := by omega
        have HSN := Hd.mk (And.intro hbs (And.intro hes hts))
        clear hbs hes hts hbj hej htg hsh htl hBj hEj hTj hsn hv2 hx hr hg hf hmm
        obtain ⟨x0, x1, x2, x3⟩ := HX4.out wr (Below.refl _ _)
        go_upto_region 16 with fail
        go_cut [111] from 49 to 133 (fun r wx => r = .bool false ∧ Below wr.heap.size wr wx)
        case first =>
          rcases Nat.eq_zero_or_pos j with hj00 | hj0
          · have hj0 : ¬ ((0 : Int) < (j : Int)) := by omega
            have hL0 : 0 < L.length := by omega
            have HX5 : Hd (∀ W, Below wr.heap.size wr W → W.cell? ⟨g, 0, none⟩ = some (.int .i64 ek) ∧ W.cell? ⟨g, 1, none⟩ = some (.int .i64 ck) ∧ W.cell? ⟨g, 2, none⟩ = some (.int .i64 sk) ∧ W.cell? ⟨g, 3, none⟩ = some (.slice D1 mm d1)) := ⟨fun W hW => by have h := HX4.out W hW; rw [hj00] at h; exact h⟩
            clear hj0
            subst hj00
            clear x0 x1 x2 x3
            refine wp_region_held_drew (S := fun W => Below wr.heap.size wr W) (by kernel_rfl) ((Below.refl _ _).drew) (fun hHeld => ?_)
            refine wpAnyH_take (i := 0) (oi := ?oi101) (v := ?v101) ?hi101 (by kernel_rfl) (by kernel_rfl) (by kernel_rfl) ?hQ101 (Or.inl ⟨?hw101, ?hy101⟩) (by assumption) ?rest101
            case hi101 => simp only [List.getElem?_toArray, List.getElem?_cons_succ, List.getElem?_cons_zero]; rfl
            case hQ101 => exact fun _ _ _ h => h
            case hw101 => rfl
            case hy101 => (intro W hW; obtain ⟨q0, q1, q2, q3⟩ := HX5.out W hW; go_simp; all_goals rfl)
            simp only [Act.put, List.setIfInBounds_toArray, List.set_cons_zero, List.set_cons_succ]
            refine wpAnyH_take (i := 1) (oi := ?oi102) (v := ?v102) ?hi102 (by kernel_rfl) (by kernel_rfl) (by kernel_rfl) ?hQ102 (Or.inl ⟨?hw102, ?hy102⟩) (by assumption) ?rest102
            case hi102 => simp only [List.getElem?_toArray, List.getElem?_cons_succ, List.getElem?_cons_zero]; rfl
            case hQ102 => exact fun _ _ _ h => h
            case hw102 => rfl
            case hy102 => (intro W hW; obtain ⟨q0, q1, q2, q3⟩ := HX5.out W hW; go_simp; all_goals rfl)
            simp only [Act.put, List.setIfInBounds_toArray, List.set_cons_zero, List.set_cons_succ]
            refine wpAnyH_take (i := 2) (oi := ?oi103) (v := ?v103) ?hi103 (by kernel_rfl) (by kernel_rfl) (by kernel_rfl) ?hQ103 (Or.inl ⟨?hw103, ?hy103⟩) (by assumption) ?rest103
            case hi103 => simp only [List.getElem?_toArray, List.getElem?_cons_succ, List.getElem?_cons_zero]; rfl
            case hQ103 => exact fun _ _ _ h => h
            case hw103 => rfl
            case hy103 => (intro W hW; obtain ⟨q0, q1, q2, q3⟩ := HX5.out W hW; go_simp; all_goals rfl)
            simp only [Act.put, List.setIfInBounds_toArray, List.set_cons_zero, List.set_cons_succ]
            refine wpAnyH_take (i := 3) (oi := ?oi104) (v := ?v104) ?hi104 (by kernel_rfl) (by kernel_rfl) (by kernel_rfl) ?hQ104 (Or.inr ⟨?hw104, ?hv104⟩) (by assumption) ?rest104
            case hi104 => simp only [List.getElem?_toArray, List.getElem?_cons_succ, List.getElem?_cons_zero]; rfl
            case hQ104 => exact fun _ _ _ h => h
            case hw104 => rfl
            case hv104 => rfl
            simp only [Act.put, List.setIfInBounds_toArray, List.set_cons_zero, List.set_cons_succ]
            refine wpAnyH_take (i := 4) (oi := ?oi105) (v := ?v105) ?hi105 (by kernel_rfl) (by kernel_rfl) (by kernel_rfl) ?hQ105 (Or.inr ⟨?hw105, ?hv105⟩) (by assumption) ?rest105
            case hi105 => simp only [List.getElem?_toArray, List.getElem?_cons_succ, List.getElem?_cons_zero]; rfl
            case hQ105 => exact fun _ _ _ h => h
            case hw105 => rfl
            case hv105 => rfl
            simp only [Act.put, List.setIfInBounds_toArray, List.set_cons_zero, List.set_cons_succ]
            refine wpAnyH_take (i := 5) (oi := ?oi106) (v := ?v106) ?hi106 (by kernel_rfl) (by kernel_rfl) (by kernel_rfl) ?hQ106 (Or.inr ⟨?hw106, ?hv106⟩) (by assumption) ?rest106
            case hi106 => simp only [List.getElem?_toArray, List.getElem?_cons_succ, List.getElem?_cons_zero]; rfl
            case hQ106 => exact fun _ _ _ h => h
            case hw106 => rfl
            case hv106 => rfl
            simp only [Act.put, List.setIfInBounds_toArray, List.set_cons_zero, List.set_cons_succ]
            refine wpAnyH_take (i := 6) (oi := ?oi107) (v := ?v107) ?hi107 (by kernel_rfl) (by kernel_rfl) (by kernel_rfl) ?hQ107 (Or.inr ⟨?hw107, ?hv107⟩) (by assumption) ?rest107
            case hi107 => simp only [List.getElem?_toArray, List.getElem?_cons_succ, List.getElem?_cons_zero]; rfl
            case hQ107 => exact fun _ _ _ h => h
            case hw107 => rfl
            case hv107 => rfl
            simp only [Act.put, List.setIfInBounds_toArray, List.set_cons_zero, List.set_cons_succ]
            refine wpAnyH_take (i := 7) (oi := ?oi108) (v := ?v108) ?hi108 (by kernel_rfl) (by kernel_rfl) (by kernel_rfl) ?hQ108 (Or.inr ⟨?hw108, ?hv108⟩) (by assumption) ?rest108
            case hi108 => simp only [List.getElem?_toArray, List.getElem?_cons_succ, List.getElem?_cons_zero]; rfl
            case hQ108 => exact fun _ _ _ h => h
            case hw108 => rfl
            case hv108 => rfl
            simp only [Act.put, List.setIfInBounds_toArray, List.set_cons_zero, List.set_cons_succ]
            refine wpAnyH_take (i := 8) (oi := ?oi109) (v := ?v109) ?hi109 (by kernel_rfl) (by kernel_rfl) (by kernel_rfl) ?hQ109 (Or.inr ⟨?hw109, ?hv109⟩) (by assumption) ?rest109
            case hi109 => simp only [List.getElem?_toArray, List.getElem?_cons_succ, List.getElem?_cons_zero]; rfl
            case hQ109 => exact fun _ _ _ h => h
            case hw109 => rfl
            case hv109 => rfl
            simp only [Act.put, List.setIfInBounds_toArray, List.set_cons_zero, List.set_cons_succ]
            refine wpAnyH_take (i := 9) (oi := ?oi110) (v := ?v110) ?hi110 (by kernel_rfl) (by kernel_rfl) (by kernel_rfl) ?hQ110 (Or.inr ⟨?hw110, ?hv110⟩) (by assumption) ?rest110
            case hi110 => simp only [List.getElem?_toArray, List.getElem?_cons_succ, List.getElem?_cons_zero]; rfl
            case hQ110 => exact fun _ _ _ h => h
            case hw110 => rfl
            case hv110 => rfl
            simp only [Act.put, List.setIfInBounds_toArray, List.set_cons_zero, List.set_cons_succ]
            refine wpAnyH_take (i := 10) (oi := ?oi111) (v := ?v111) ?hi111 (by kernel_rfl) (by kernel_rfl) (by kernel_rfl) ?hQ111 (Or.inr ⟨?hw111, ?hv111⟩) (by assumption) ?rest111
            case hi111 => simp only [List.getElem?_toArray, List.getElem?_cons_succ, List.getElem?_cons_zero]; rfl
            case hQ111 => exact fun _ _ _ h => h
            case hw111 => rfl
            case hv111 => rfl
            simp only [Act.put, List.setIfInBounds_toArray, List.set_cons_zero, List.set_cons_succ]
            refine wpAnyH_take (i := 11) (oi := ?oi112) (v := ?v112) ?hi112 (by kernel_rfl) (by kernel_rfl) (by kernel_rfl) ?hQ112 (Or.inr ⟨?hw112, ?hv112⟩) (by assumption) ?rest112
            case hi112 => simp only [List.getElem?_toArray, List.getElem?_cons_succ, List.getElem?_cons_zero]; rfl
            case hQ112 => exact fun _ _ _ h => h
            case hw112 => rfl
            case hv112 => rfl
            simp only [Act.put, List.setIfInBounds_toArray, List.set_cons_zero, List.set_cons_succ]
            refine wpAnyH_take (i := 12) (oi := ?oi113) (v := ?v113) ?hi113 (by kernel_rfl) (by kernel_rfl) (by kernel_rfl) ?hQ113 (Or.inr ⟨?hw113, ?hv113⟩) (by assumption) ?rest113
            case hi113 => simp only [List.getElem?_toArray, List.getElem?_cons_succ, List.getElem?_cons_zero]; rfl
            case hQ113 => exact fun _ _ _ h => h
            case hw113 => rfl
            case hv113 => rfl
            simp only [Act.put, List.setIfInBounds_toArray, List.set_cons_zero, List.set_cons_succ]
            refine wpAnyH_take (i := 13) (oi := ?oi114) (v := ?v114) ?hi114 (by kernel_rfl) (by kernel_rfl) (by kernel_rfl) ?hQ114 (Or.inr ⟨?hw114, ?hv114⟩) (by assumption) ?rest114
            case hi114 => simp only [List.getElem?_toArray, List.getElem?_cons_succ, List.getElem?_cons_zero]; rfl
            case hQ114 => exact fun _ _ _ h => h
            case hw114 => rfl
            case hv114 => rfl
            simp only [Act.put, List.setIfInBounds_toArray, List.set_cons_zero, List.set_cons_succ]
            refine wpAnyH_take (i := 14) (oi := ?oi115) (v := ?v115) ?hi115 (by kernel_rfl) (by kernel_rfl) (by kernel_rfl) ?hQ115 (Or.inr ⟨?hw115, ?hv115⟩) (by assumption) ?rest115
            case hi115 => simp only [List.getElem?_toArray, List.getElem?_cons_succ, List.getElem?_cons_zero]; rfl
            case hQ115 => exact fun _ _ _ h => h
            case hw115 => rfl
            case hv115 => rfl
            simp only [Act.put, List.setIfInBounds_toArray, List.set_cons_zero, List.set_cons_succ]
            refine wpAnyH_take (i := 15) (oi := ?oi116) (v := ?v116) ?hi116 (by kernel_rfl) (by kernel_rfl) (by kernel_rfl) ?hQ116 (Or.inr ⟨?hw116, ?hv116⟩) (by assumption) ?rest116
            case hi116 => simp only [List.getElem?_toArray, List.getElem?_cons_succ, List.getElem?_cons_zero]; rfl
            case hQ116 => exact fun _ _ _ h => h
            case hw116 => rfl
            case hv116 => rfl
            simp only [Act.put, List.setIfInBounds_toArray, List.set_cons_zero, List.set_cons_succ]
            refine wpAnyH_take (i := 16) (oi := ?oi117) (v := ?v117) ?hi117 (by kernel_rfl) (by kernel_rfl) (by kernel_rfl) ?hQ117 (Or.inr ⟨?hw117, ?hv117⟩) (by assumption) ?rest117
            case hi117 => simp only [List.getElem?_toArray, List.getElem?_cons_succ, List.getElem?_cons_zero]; rfl
            case hQ117 => exact fun _ _ _ h => h
            case hw117 => rfl
            case hv117 => rfl
            simp only [Act.put, List.setIfInBounds_toArray, List.set_cons_zero, List.set_cons_succ]
            refine wpAnyH_take (i := 17) (oi := ?oi118) (v := ?v118) ?hi118 (by kernel_rfl) (by kernel_rfl) (by kernel_rfl) ?hQ118 (Or.inr ⟨?hw118, ?hv118⟩) (by assumption) ?rest118
            case hi118 => simp only [List.getElem?_toArray, List.getElem?_cons_succ, List.getElem?_cons_zero]; rfl
            case hQ118 => exact fun _ _ _ h => h
            case hw118 => rfl
            case hv118 => rfl
            simp only [Act.put, List.setIfInBounds_toArray, List.set_cons_zero, List.set_cons_succ]
            refine wpAnyH_take (i := 18) (oi := ?oi119) (v := ?v119) ?hi119 (by kernel_rfl) (by kernel_rfl) (by kernel_rfl) ?hQ119 (Or.inr ⟨?hw119, ?hv119⟩) (by assumption) ?rest119
            case hi119 => simp only [List.getElem?_toArray, List.getElem?_cons_succ, List.getElem?_cons_zero]; rfl
            case hQ119 => exact fun _ _ _ h => h
            case hw119 => rfl
            case hv119 => rfl
            simp only [Act.put, List.setIfInBounds_toArray, List.set_cons_zero, List.set_cons_succ]
            refine wpAnyH_take (i := 19) (oi := ?oi120) (v := ?v120) ?hi120 (by kernel_rfl) (by kernel_rfl) (by kernel_rfl) ?hQ120 (Or.inr ⟨?hw120, ?hv120⟩) (by assumption) ?rest120
            case hi120 => simp only [List.getElem?_toArray, List.getElem?_cons_succ, List.getElem?_cons_zero]; rfl
            case hQ120 => exact fun _ _ _ h => h
            case hw120 => rfl
            case hv120 => rfl
            simp only [Act.put, List.setIfInBounds_toArray, List.set_cons_zero, List.set_cons_succ]
            refine wpAnyH_take (i := 20) (oi := ?oi121) (v := ?v121) ?hi121 (by kernel_rfl) (by kernel_rfl) (by kernel_rfl) ?hQ121 (Or.inr ⟨?hw121, ?hv121⟩) (by assumption) ?rest121
            case hi121 => simp only [List.getElem?_toArray, List.getElem?_cons_succ, List.getElem?_cons_zero]; rfl
            case hQ121 => exact fun _ _ _ h => h
            case hw121 => rfl
            case hv121 => rfl
            simp only [Act.put, List.setIfInBounds_toArray, List.set_cons_zero, List.set_cons_succ]
            refine wpAnyH_take (i := 21) (oi := ?oi122) (v := ?v122) ?hi122 (by kernel_rfl) (by kernel_rfl) (by kernel_rfl) ?hQ122 (Or.inr ⟨?hw122, ?hv122⟩) (by assumption) ?rest122
            case hi122 => simp only [List.getElem?_toArray, List.getElem?_cons_succ, List.getElem?_cons_zero]; rfl
            case hQ122 => exact fun _ _ _ h => h
            case hw122 => rfl
            case hv122 => rfl
            simp only [Act.put, List.setIfInBounds_toArray, List.set_cons_zero, List.set_cons_succ]
            refine wpAnyH_take (i := 22) (oi := ?oi123) (v := ?v123) ?hi123 (by kernel_rfl) (by kernel_rfl) (by kernel_rfl) ?hQ123 (Or.inr ⟨?hw123, ?hv123⟩) (by assumption) ?rest123
            case hi123 => simp only [List.getElem?_toArray, List.getElem?_cons_succ, List.getElem?_cons_zero]; rfl
            case hQ123 => exact fun _ _ _ h => h
            case hw123 => rfl
            case hv123 => rfl
            simp only [Act.put, List.setIfInBounds_toArray, List.set_cons_zero, List.set_cons_succ]
            refine wpAnyH_take (i := 23) (oi := ?oi124) (v := ?v124) ?hi124 (by kernel_rfl) (by kernel_rfl) (by kernel_rfl) ?hQ124 (Or.inr ⟨?hw124, ?hv124⟩) (by assumption) ?rest124
            case hi124 => simp only [List.getElem?_toArray, List.getElem?_cons_succ, List.getElem?_cons_zero]; rfl
            case hQ124 => exact fun _ _ _ h => h
            case hw124 => rfl
            case hv124 => rfl
            simp only [Act.put, List.setIfInBounds_toArray, List.set_cons_zero, List.set_cons_succ]
            refine wpAnyH_take (i := 24) (oi := ?oi125) (v := ?v125) ?hi125 (by kernel_rfl) (by kernel_rfl) (by kernel_rfl) ?hQ125 (Or.inr ⟨?hw125, ?hv125⟩) (by assumption) ?rest125
            case hi125 => simp only [List.getElem?_toArray, List.getElem?_cons_succ, List.getElem?_cons_zero]; rfl
            case hQ125 => exact fun _ _ _ h => h
            case hw125 => rfl
            case hv125 => rfl
            simp only [Act.put, List.setIfInBounds_toArray, List.set_cons_zero, List.set_cons_succ]
            refine wpAnyH_take (i := 25) (oi := ?oi126) (v := ?v126) ?hi126 (by kernel_rfl) (by kernel_rfl) (by kernel_rfl) ?hQ126 (Or.inr ⟨?hw126, ?hv126⟩) (by assumption) ?rest126
            case hi126 => simp only [List.getElem?_toArray, List.getElem?_cons_succ, List.getElem?_cons_zero]; rfl
            case hQ126 => exact fun _ _ _ h => h
            case hw126 => rfl
            case hv126 => rfl
            simp only [Act.put, List.setIfInBounds_toArray, List.set_cons_zero, List.set_cons_succ]
            refine wpAnyH_take (i := 26) (oi := ?oi127) (v := ?v127) ?hi127 (by kernel_rfl) (by kernel_rfl) (by kernel_rfl) ?hQ127 (Or.inr ⟨?hw127, ?hv127⟩) (by assumption) ?rest127
            case hi127 => simp only [List.getElem?_toArray, List.getElem?_cons_succ, List.getElem?_cons_zero]; rfl
            case hQ127 => exact fun _ _ _ h => h
            case hw127 => rfl
            case hv127 => rfl
            simp only [Act.put, List.setIfInBounds_toArray, List.set_cons_zero, List.set_cons_succ]
            refine wpAnyH_take (i := 27) (oi := ?oi128) (v := ?v128) ?hi128 (by kernel_rfl) (by kernel_rfl) (by kernel_rfl) ?hQ128 (Or.inl ⟨?hw128, ?hy128⟩) (by assumption) ?rest128
            case hi128 => simp only [List.getElem?_toArray, List.getElem?_cons_succ, List.getElem?_cons_zero]; rfl
            case hQ128 => exact fun _ _ _ h => h
            case hw128 => rfl
            case hy128 => (intro W hW; obtain ⟨q0, q1, q2, q3⟩ := HX5.out W hW; go_simp; all_goals rfl)
            simp only [Act.put, List.setIfInBounds_toArray, List.set_cons_zero, List.set_cons_succ]
            refine wpAnyH_take (i := 28) (oi := ?oi129) (v := ?v129) ?hi129 (by kernel_rfl) (by kernel_rfl) (by kernel_rfl) ?hQ129 (Or.inl ⟨?hw129, ?hy129⟩) (by assumption) ?rest129
            case hi129 => simp only [List.getElem?_toArray, List.getElem?_cons_succ, List.getElem?_cons_zero]; rfl
            case hQ129 => exact fun _ _ _ h => h
            case hw129 => rfl
            case hy129 => (intro W hW; obtain ⟨q0, q1, q2, q3⟩ := HX5.out W hW; go_simp; all_goals rfl)
            simp only [Act.put, List.setIfInBounds_toArray, List.set_cons_zero, List.set_cons_succ]
            refine wpAnyH_take (i := 29) (oi := ?oi130) (v := ?v130) ?hi130 (by kernel_rfl) (by kernel_rfl) (by kernel_rfl) ?hQ130 (Or.inl ⟨?hw130, ?hy130⟩) (by assumption) ?rest130
            case hi130 => simp only [List.getElem?_toArray, List.getElem?_cons_succ, List.getElem?_cons_zero]; rfl
            case hQ130 => exact fun _ _ _ h => h
            case hw130 => rfl
            case hy130 => (intro W hW; obtain ⟨q0, q1, q2, q3⟩ := HX5.out W hW; go_simp; all_goals rfl)
            simp only [Act.put, List.setIfInBounds_toArray, List.set_cons_zero, List.set_cons_succ]
            refine wpAnyH_take (i := 30) (oi := ?oi131) (v := ?v131) ?hi131 (by kernel_rfl) (by kernel_rfl) (by kernel_rfl) ?hQ131 (Or.inl ⟨?hw131, ?hy131⟩) (by assumption) ?rest131
            case hi131 => simp only [List.getElem?_toArray, List.getElem?_cons_succ, List.getElem?_cons_zero]; rfl
            case hQ131 => exact fun _ _ _ h => h
            case hw131 => rfl
            case hy131 => (intro W hW; obtain ⟨q0, q1, q2, q3⟩ := HX5.out W hW; go_simp; all_goals rfl)
            simp only [Act.put, List.setIfInBounds_toArray, List.set_cons_zero, List.set_cons_succ]
            refine wpAnyH_take (i := 31) (oi := ?oi132) (v := ?v132) ?hi132 (by kernel_rfl) (by kernel_rfl) (by kernel_rfl) ?hQ132 (Or.inl ⟨?hw132, ?hy132⟩) (by assumption) ?rest132
            case hi132 => simp only [List.getElem?_toArray, List.getElem?_cons_succ, List.getElem?_cons_zero]; rfl
            case hQ132 => exact fun _ _ _ h => h
            case hw132 => rfl
            case hy132 => (intro W hW; obtain ⟨q0, q1, q2, q3⟩ := HX5.out W hW; go_simp; all_goals rfl)
            simp only [Act.put, List.setIfInBounds_toArray, List.set_cons_zero, List.set_cons_succ]
            refine wpAnyH_take (i := 32) (oi := ?oi133) (v := ?v133) ?hi133 (by kernel_rfl) (by kernel_rfl) (by kernel_rfl) ?hQ133 (Or.inl ⟨?hw133, ?hy133⟩) (by assumption) ?rest133
            case hi133 => simp only [List.getElem?_toArray, List.getElem?_cons_succ, List.getElem?_cons_zero]; rfl
            case hQ133 => exact fun _ _ _ h => h
            case hw133 => rfl
            case hy133 => (intro W hW; obtain ⟨q0, q1, q2, q3⟩ := HX5.out W hW; go_simp; all_goals rfl)
            simp only [Act.put, List.setIfInBounds_toArray, List.set_cons_zero, List.set_cons_succ]
            refine wpAnyH_take (i := 33) (oi := ?oi134) (v := ?v134) ?hi134 (by kernel_rfl) (by kernel_rfl) (by kernel_rfl) ?hQ134 (Or.inl ⟨?hw134, ?hy134⟩) (by assumption) ?rest134
            case hi134 => simp only [List.getElem?_toArray, List.getElem?_cons_succ, List.getElem?_cons_zero]; rfl
            case hQ134 => exact fun _ _ _ h => h
            case hw134 => rfl
            case hy134 => (intro W hW; obtain ⟨q0, q1, q2, q3⟩ := HX5.out W hW; go_simp; all_goals rfl)
            simp only [Act.put, List.setIfInBounds_toArray, List.set_cons_zero, List.set_cons_succ]
            refine wpAnyH_take (i := 34) (oi := ?oi135) (v := ?v135) ?hi135 (by kernel_rfl) (by kernel_rfl) (by kernel_rfl) ?hQ135 (Or.inl ⟨?hw135, ?hy135⟩) (by assumption) ?rest135
            case hi135 => simp only [List.getElem?_toArray, List.getElem?_cons_succ, List.getElem?_cons_zero]; rfl
            case hQ135 => exact fun _ _ _ h => h
            case hw135 => rfl
            case hy135 => (intro W hW; obtain ⟨q0, q1, q2, q3⟩ := HX5.out W hW; go_simp; all_goals rfl)
            simp only [Act.put, List.setIfInBounds_toArray, List.set_cons_zero, List.set_cons_succ]
            refine wpAnyH_take (i := 35) (oi := ?oi136) (v := ?v136) ?hi136 (by kernel_rfl) (by kernel_rfl) (by kernel_rfl) ?hQ136 (Or.inl ⟨?hw136, ?hy136⟩) (by assumption) ?rest136
            case hi136 => simp only [List.getElem?_toArray, List.getElem?_cons_succ, List.getElem?_cons_zero]; rfl
            case hQ136 => exact fun _ _ _ h => h
            case hw136 => rfl
            case hy136 => (intro W hW; obtain ⟨q0, q1, q2, q3⟩ := HX5.out W hW; go_simp; all_goals rfl)
            simp only [Act.put, List.setIfInBounds_toArray, List.set_cons_zero, List.set_cons_succ]
            refine wpAnyH_take (i := 36) (oi := ?oi137) (v := ?v137) ?hi137 (by kernel_rfl) (by kernel_rfl) (by kernel_rfl) ?hQ137 (Or.inl ⟨?hw137, ?hy137⟩) (by assumption) ?rest137
            case hi137 => simp only [List.getElem?_toArray, List.getElem?_cons_succ, List.getElem?_cons_zero]; rfl
            case hQ137 => exact fun _ _ _ h => h
            case hw137 => rfl
            case hy137 => (intro W hW; obtain ⟨q0, q1, q2, q3⟩ := HX5.out W hW; go_simp; all_goals rfl)
            simp only [Act.put, List.setIfInBounds_toArray, List.set_cons_zero, List.set_cons_succ]
            refine wpAnyH_take (i := 37) (oi := ?oi138) (v := ?v138) ?hi138 (by kernel_rfl) (by kernel_rfl) (by kernel_rfl) ?hQ138 (Or.inl ⟨?hw138, ?hy138⟩) (by assumption) ?rest138
            case hi138 => simp only [List.getElem?_toArray, List.getElem?_cons_succ, List.getElem?_cons_zero]; rfl
            case hQ138 => exact fun _ _ _ h => h
            case hw138 => rfl
            case hy138 => (intro W hW; obtain ⟨q0, q1, q2, q3⟩ := HX5.out W hW; go_simp; all_goals rfl)
            simp only [Act.put, List.setIfInBounds_toArray, List.set_cons_zero, List.set_cons_succ]
            refine wpAnyH_take (i := 38) (oi := ?oi139) (v := ?v139) ?hi139 (by kernel_rfl) (by kernel_rfl) (by kernel_rfl) ?hQ139 (Or.inl ⟨?hw139, ?hy139⟩) (by assumption) ?rest139
            case hi139 => simp only [List.getElem?_toArray, List.getElem?_cons_succ, List.getElem?_cons_zero]; rfl
            case hQ139 => exact fun _ _ _ h => h
            case hw139 => rfl
            case hy139 => (intro W hW; obtain ⟨q0, q1, q2, q3⟩ := HX5.out W hW; go_simp; all_goals rfl)
            simp only [Act.put, List.setIfInBounds_toArray, List.set_cons_zero, List.set_cons_succ]
            refine wpAnyH_take (i := 39) (oi := ?oi140) (v := ?v140) ?hi140 (by kernel_rfl) (by kernel_rfl) (by kernel_rfl) ?hQ140 (Or.inl ⟨?hw140, ?hy140⟩) (by assumption) ?rest140
            case hi140 => simp only [List.getElem?_toArray, List.getElem?_cons_succ, List.getElem?_cons_zero]; rfl
            case hQ140 => exact fun _ _ _ h => h
            case hw140 => rfl
            case hy140 => (intro W hW; obtain ⟨q0, q1, q2, q3⟩ := HX5.out W hW; go_simp; all_goals rfl)
            simp only [Act.put, List.setIfInBounds_toArray, List.set_cons_zero, List.set_cons_succ]
            refine wpAnyH_take (i := 40) (oi := ?oi141) (v := ?v141) ?hi141 (by kernel_rfl) (by kernel_rfl) (by kernel_rfl) ?hQ141 (Or.inl ⟨?hw141, ?hy141⟩) (by assumption) ?rest141
            case hi141 => simp only [List.getElem?_toArray, List.getElem?_cons_succ, List.getElem?_cons_zero]; rfl
            case hQ141 => exact fun _ _ _ h => h
            case hw141 => rfl
            case hy141 => (intro W hW; obtain ⟨q0, q1, q2, q3⟩ := HX5.out W hW; go_simp; all_goals rfl)
            simp only [Act.put, List.setIfInBounds_toArray, List.set_cons_zero, List.set_cons_succ]
            refine wpAnyH_take (i := 41) (oi := ?oi142) (v := ?v142) ?hi142 (by kernel_rfl) (by kernel_rfl) (by kernel_rfl) ?hQ142 (Or.inl ⟨?hw142, ?hy142⟩) (by assumption) ?rest142
            case hi142 => simp only [List.getElem?_toArray, List.getElem?_cons_succ, List.getElem?_cons_zero]; rfl
            case hQ142 => exact fun _ _ _ h => h
            case hw142 => rfl
            case hy142 => (intro W hW; obtain ⟨q0, q1, q2, q3⟩ := HX5.out W hW; go_simp; all_goals rfl)
            simp only [Act.put, List.setIfInBounds_toArray, List.set_cons_zero, List.set_cons_succ]
            refine wpAnyH_take (i := 42) (oi := ?oi143) (v := ?v143) ?hi143 (by kernel_rfl) (by kernel_rfl) (by kernel_rfl) ?hQ143 (Or.inl ⟨?hw143, ?hy143⟩) (by assumption) ?rest143
            case hi143 => simp only [List.getElem?_toArray, List.getElem?_cons_succ, List.getElem?_cons_zero]; rfl
            case hQ143 => exact fun _ _ _ h => h
            case hw143 => rfl
            case hy143 => (intro W hW; obtain ⟨q0, q1, q2, q3⟩ := HX5.out W hW; go_simp; all_goals rfl)
            simp only [Act.put, List.setIfInBounds_toArray, List.set_cons_zero, List.set_cons_succ]
            refine wpAnyH_take (i := 43) (oi := ?oi144) (v := ?v144) ?hi144 (by kernel_rfl) (by kernel_rfl) (by kernel_rfl) ?hQ144 (Or.inl ⟨?hw144, ?hy144⟩) (by assumption) ?rest144
            case hi144 => simp only [List.getElem?_toArray, List.getElem?_cons_succ, List.getElem?_cons_zero]; rfl
            case hQ144 => exact fun _ _ _ h => h
            case hw144 => rfl
            case hy144 => (intro W hW; obtain ⟨q0, q1, q2, q3⟩ := HX5.out W hW; go_simp; all_goals rfl)
            simp only [Act.put, List.setIfInBounds_toArray, List.set_cons_zero, List.set_cons_succ]
            refine wpAnyH_take (i := 44) (oi := ?oi145) (v := ?v145) ?hi145 (by kernel_rfl) (by kernel_rfl) (by kernel_rfl) ?hQ145 (Or.inl ⟨?hw145, ?hy145⟩) (by assumption) ?rest145
            case hi145 => simp only [List.getElem?_toArray, List.getElem?_cons_succ, List.getElem?_cons_zero]; rfl
            case hQ145 => exact fun _ _ _ h => h
            case hw145 => rfl
            case hy145 => (intro W hW; obtain ⟨q0, q1, q2, q3⟩ := HX5.out W hW; go_simp; all_goals rfl)
            simp only [Act.put, List.setIfInBounds_toArray, List.set_cons_zero, List.set_cons_succ]
            refine wpAnyH_take (i := 45) (oi := ?oi146) (v := ?v146) ?hi146 (by kernel_rfl) (by kernel_rfl) (by kernel_rfl) ?hQ146 (Or.inl ⟨?hw146, ?hy146⟩) (by assumption) ?rest146
            case hi146 => simp only [List.getElem?_toArray, List.getElem?_cons_succ, List.getElem?_cons_zero]; rfl
            case hQ146 => exact fun _ _ _ h => h
            case hw146 => rfl
            case hy146 => (intro W hW; obtain ⟨q0, q1, q2, q3⟩ := HX5.out W hW; go_simp; all_goals rfl)
            simp only [Act.put, List.setIfInBounds_toArray, List.set_cons_zero, List.set_cons_succ]
            refine wpAnyH_ready (rs := [46]) (by kernel_rfl) (by simp) ?_
            refine AllReadyH.cons (i := 46) (o := ?o147) ?ho147 (fun Kq hK => ?step147) AllReadyH.nil
            case ho147 => simp only [List.getElem?_toArray, List.getElem?_cons_succ, List.getElem?_cons_zero]; rfl
            go_simp
            (go_at_call 26; refine (HSH.out _ hHeld).mono ?_; rintro e w8 ⟨rfl, hb⟩)
            have hF : Below wr.heap.size wr w8 := hHeld.trans (hb.mono hHeld.size)
            refine hK.out _ _ hF (fun _ => ?_)
            clear hK Kq hHeld hb
            have hHeld := hF
            clear hF
            try simp only [Act.put, List.setIfInBounds_toArray, List.set_cons_zero, List.set_cons_succ]
            refine wpAnyH_take (i := 47) (oi := ?oi148) (v := ?v148) ?hi148 (by kernel_rfl) (by kernel_rfl) (by kernel_rfl) ?hQ148 (Or.inl ⟨?hw148, ?hy148⟩) (by assumption) ?rest148
            case hi148 => simp only [List.getElem?_toArray, List.getElem?_cons_succ, List.getElem?_cons_zero]; rfl
            case hQ148 => exact fun _ _ _ h => h
            case hw148 => rfl
            case hy148 => (intro W hW; obtain ⟨q0, q1, q2, q3⟩ := HX5.out W hW; go_simp; all_goals rfl)
            simp only [Act.put, List.setIfInBounds_toArray, List.set_cons_zero, List.set_cons_succ]
            refine wpAnyH_take (i := 48) (oi := ?oi149) (v := ?v149) ?hi149 (by kernel_rfl) (by kernel_rfl) (by kernel_rfl) ?hQ149 (Or.inl ⟨?hw149, ?hy149⟩) (by assumption) ?rest149
            case hi149 => simp only [List.getElem?_toArray, List.getElem?_cons_succ, List.getElem?_cons_zero]; rfl
            case hQ149 => exact fun _ _ _ h => h
            case hw149 => rfl
            case hy149 => (intro W hW; obtain ⟨q0, q1, q2, q3⟩ := HX5.out W hW; go_simp; all_goals rfl)
            simp only [Act.put, List.setIfInBounds_toArray, List.set_cons_zero, List.set_cons_succ]
            refine wpAnyH_done (by kernel_rfl) ?_ _
            have H9 : Hd (Below wr.heap.size wr w8) := ⟨hHeld⟩
            clear hHeld
            (try go_wp2_with fail)
            go_meet
            exact ⟨rfl, H9.out⟩
          · obtain ⟨i3, hi3⟩ : ∃ i3, j = i3 + 1 := ⟨j - 1, by omega⟩
            have h3j : i3 < L.length := by omega
            obtain ⟨gv, cv, hvv, _, hgv, hrv⟩ := H4.out.2.at_ (i := i3) h3j
            injection hvv with hv1 hv2 hv3
            injection hv1 with hv1
            injection hv1 with hv1
            subst hv1
            obtain ⟨e3, q3, s3, hx3⟩ : ∃ a b c, L.getD i3 (0, 0, 0) = (a, b, c) := ⟨_, _, _, rfl⟩
            rw [hx3] at hrv
            have hold : olderW (ek, ck, sk) (e3, q3, s3) := by
              have h := grpL_desc (S := S) (n := n) (a := i3) (b := j) (by omega) (by rw [HL.out]; exact hlt)
              rw [HL.out, HXE.out, hx3] at h
              exact h
            have HOL : Hd (∀ W, Calls Try.prog 27 #[.agg #[.int .i64 ek, .int .i64 ck], .int .i64 sk, .agg #[.int .i64 e3, .int .i64 q3], .int .i64 s3] W fun e w' => e = .returned (.bool true) ∧ Below W.heap.size W w') := ⟨fun W => by
              have h := older_any W ek ck sk e3 q3 s3
              rw [decide_eq_true hold] at h
              exact h⟩
            have y0 : wr.cell? ⟨g, i3 * 4, none⟩ = some (.int .i64 e3) := hrv 0 _ rfl
            have y1 : wr.cell? ⟨g, i3 * 4 + 1, none⟩ = some (.int .i64 q3) := hrv 1 _ rfl
            have y2 : wr.cell? ⟨g, i3 * 4 + 2, none⟩ = some (.int .i64 s3) := hrv 2 _ rfl
            have HY4 : Hd (∀ W, Below wr.heap.size wr W → W.cell? ⟨g, i3 * 4, none⟩ = some (.int .i64 e3) ∧ W.cell? ⟨g, i3 * 4 + 1, none⟩ = some (.int .i64 q3) ∧ W.cell? ⟨g, i3 * 4 + 2, none⟩ = some (.int .i64 s3)) := ⟨fun W hW => by
              have kk : ∀ {i : Nat} {u : Value}, wr.cell? ⟨g, i, none⟩ = some u → W.cell? ⟨g, i, none⟩ = some u := fun {i u} hc => (hW.cell (p := ⟨g, i, none⟩) HG.out).trans hc
              exact ⟨kk y0, kk y1, kk y2⟩⟩
            have s1 : IntKind.i64.wrap (i3 : Int) = (i3 : Int) := IntWalk.i64_in _ (by omega)
            have s2 : (j : Int) - 1 = (i3 : Int) := by omega
            have hj0 : (0 : Int) < (j : Int) := by omega
            have hij : (i3 : Int) < (L.length : Int) := by omega
            clear hold hrv hx3 hi3 hgv hv2 hv3 x0 x1 x2 x3 y0 y1 y2
            refine wp_region_held_drew (S := fun W => Below wr.heap.size wr W) (by kernel_rfl) ((Below.refl _ _).drew) (fun hHeld => ?_)
            refine wpAnyH_take (i := 0) (oi := ?oi201) (v := ?v201) ?hi201 (by kernel_rfl) (by kernel_rfl) (by kernel_rfl) ?hQ201 (Or.inl ⟨?hw201, ?hy201⟩) (by assumption) ?rest201
            case hi201 => simp only [List.getElem?_toArray, List.getElem?_cons_succ, List.getElem?_cons_zero]; rfl
            case hQ201 => exact fun _ _ _ h => h
            case hw201 => rfl
            case hy201 => (intro W hW; obtain ⟨q0, q1, q2, q3⟩ := HX4.out W hW; obtain ⟨q4, q5, q6⟩ := HY4.out W hW; go_simp; all_goals rfl)
            simp only [Act.put, List.setIfInBounds_toArray, List.set_cons_zero, List.set_cons_succ]
            refine wpAnyH_take (i := 1) (oi := ?oi202) (v := ?v202) ?hi202 (by kernel_rfl) (by kernel_rfl) (by kernel_rfl) ?hQ202 (Or.inl ⟨?hw202, ?hy202⟩) (by assumption) ?rest202
            case hi202 => simp only [List.getElem?_toArray, List.getElem?_cons_succ, List.getElem?_cons_zero]; rfl
            case hQ202 => exact fun _ _ _ h => h
            case hw202 => rfl
            case hy202 => (intro W hW; obtain ⟨q0, q1, q2, q3⟩ := HX4.out W hW; obtain ⟨q4, q5, q6⟩ := HY4.out W hW; go_simp; all_goals rfl)
            simp only [Act.put, List.setIfInBounds_toArray, List.set_cons_zero, List.set_cons_succ]
            refine wpAnyH_take (i := 2) (oi := ?oi203) (v := ?v203) ?hi203 (by kernel_rfl) (by kernel_rfl) (by kernel_rfl) ?hQ203 (Or.inl ⟨?hw203, ?hy203⟩) (by assumption) ?rest203
            case hi203 => simp only [List.getElem?_toArray, List.getElem?_cons_succ, List.getElem?_cons_zero]; rfl
            case hQ203 => exact fun _ _ _ h => h
            case hw203 => rfl
            case hy203 => (intro W hW; obtain ⟨q0, q1, q2, q3⟩ := HX4.out W hW; obtain ⟨q4, q5, q6⟩ := HY4.out W hW; go_simp; all_goals rfl)
            simp only [Act.put, List.setIfInBounds_toArray, List.set_cons_zero, List.set_cons_succ]
            refine wpAnyH_take (i := 3) (oi := ?oi204) (v := ?v204) ?hi204 (by kernel_rfl) (by kernel_rfl) (by kernel_rfl) ?hQ204 (Or.inl ⟨?hw204, ?hy204⟩) (by assumption) ?rest204
            case hi204 => simp only [List.getElem?_toArray, List.getElem?_cons_succ, List.getElem?_cons_zero]; rfl
            case hQ204 => exact fun _ _ _ h => h
            case hw204 => rfl
            case hy204 => (intro W hW; obtain ⟨q0, q1, q2, q3⟩ := HX4.out W hW; obtain ⟨q4, q5, q6⟩ := HY4.out W hW; go_simp; all_goals rfl)
            simp only [Act.put, List.setIfInBounds_toArray, List.set_cons_zero, List.set_cons_succ]
            refine wpAnyH_take (i := 4) (oi := ?oi205) (v := ?v205) ?hi205 (by kernel_rfl) (by kernel_rfl) (by kernel_rfl) ?hQ205 (Or.inl ⟨?hw205, ?hy205⟩) (by assumption) ?rest205
            case hi205 => simp only [List.getElem?_toArray, List.getElem?_cons_succ, List.getElem?_cons_zero]; rfl
            case hQ205 => exact fun _ _ _ h => h
            case hw205 => rfl
            case hy205 => (intro W hW; obtain ⟨q0, q1, q2, q3⟩ := HX4.out W hW; obtain ⟨q4, q5, q6⟩ := HY4.out W hW; go_simp; all_goals rfl)
            simp only [Act.put, List.setIfInBounds_toArray, List.set_cons_zero, List.set_cons_succ]
            refine wpAnyH_take (i := 5) (oi := ?oi206) (v := ?v206) ?hi206 (by kernel_rfl) (by kernel_rfl) (by kernel_rfl) ?hQ206 (Or.inl ⟨?hw206, ?hy206⟩) (by assumption) ?rest206
            case hi206 => simp only [List.getElem?_toArray, List.getElem?_cons_succ, List.getElem?_cons_zero]; rfl
            case hQ206 => exact fun _ _ _ h => h
            case hw206 => rfl
            case hy206 => (intro W hW; obtain ⟨q0, q1, q2, q3⟩ := HX4.out W hW; obtain ⟨q4, q5, q6⟩ := HY4.out W hW; go_simp; all_goals rfl)
            simp only [Act.put, List.setIfInBounds_toArray, List.set_cons_zero, List.set_cons_succ]
            refine wpAnyH_take (i := 6) (oi := ?oi207) (v := ?v207) ?hi207 (by kernel_rfl) (by kernel_rfl) (by kernel_rfl) ?hQ207 (Or.inl ⟨?hw207, ?hy207⟩) (by assumption) ?rest207
            case hi207 => simp only [List.getElem?_toArray, List.getElem?_cons_succ, List.getElem?_cons_zero]; rfl
            case hQ207 => exact fun _ _ _ h => h
            case hw207 => rfl
            case hy207 => (intro W hW; obtain ⟨q0, q1, q2, q3⟩ := HX4.out W hW; obtain ⟨q4, q5, q6⟩ := HY4.out W hW; go_simp; all_goals rfl)
            simp only [Act.put, List.setIfInBounds_toArray, List.set_cons_zero, List.set_cons_succ]
            refine wpAnyH_take (i := 7) (oi := ?oi208) (v := ?v208) ?hi208 (by kernel_rfl) (by kernel_rfl) (by kernel_rfl) ?hQ208 (Or.inl ⟨?hw208, ?hy208⟩) (by assumption) ?rest208
            case hi208 => simp only [List.getElem?_toArray, List.getElem?_cons_succ, List.getElem?_cons_zero]; rfl
            case hQ208 => exact fun _ _ _ h => h
            case hw208 => rfl
            case hy208 => (intro W hW; obtain ⟨q0, q1, q2, q3⟩ := HX4.out W hW; obtain ⟨q4, q5, q6⟩ := HY4.out W hW; go_simp; all_goals rfl)
            simp only [Act.put, List.setIfInBounds_toArray, List.set_cons_zero, List.set_cons_succ]
            refine wpAnyH_take (i := 8) (oi := ?oi209) (v := ?v209) ?hi209 (by kernel_rfl) (by kernel_rfl) (by kernel_rfl) ?hQ209 (Or.inl ⟨?hw209, ?hy209⟩) (by assumption) ?rest209
            case hi209 => simp only [List.getElem?_toArray, List.getElem?_cons_succ, List.getElem?_cons_zero]; rfl
            case hQ209 => exact fun _ _ _ h => h
            case hw209 => rfl
            case hy209 => (intro W hW; obtain ⟨q0, q1, q2, q3⟩ := HX4.out W hW; obtain ⟨q4, q5, q6⟩ := HY4.out W hW; go_simp; all_goals rfl)
            simp only [Act.put, List.setIfInBounds_toArray, List.set_cons_zero, List.set_cons_succ]
            refine wpAnyH_take (i := 9) (oi := ?oi210) (v := ?v210) ?hi210 (by kernel_rfl) (by kernel_rfl) (by kernel_rfl) ?hQ210 (Or.inl ⟨?hw210, ?hy210⟩) (by assumption) ?rest210
            case hi210 => simp only [List.getElem?_toArray, List.getElem?_cons_succ, List.getElem?_cons_zero]; rfl
            case hQ210 => exact fun _ _ _ h => h
            case hw210 => rfl
            case hy210 => (intro W hW; obtain ⟨q0, q1, q2, q3⟩ := HX4.out W hW; obtain ⟨q4, q5, q6⟩ := HY4.out W hW; go_simp; all_goals rfl)
            simp only [Act.put, List.setIfInBounds_toArray, List.set_cons_zero, List.set_cons_succ]
            refine wpAnyH_take (i := 10) (oi := ?oi211) (v := ?v211) ?hi211 (by kernel_rfl) (by kernel_rfl) (by kernel_rfl) ?hQ211 (Or.inl ⟨?hw211, ?hy211⟩) (by assumption) ?rest211
            case hi211 => simp only [List.getElem?_toArray, List.getElem?_cons_succ, List.getElem?_cons_zero]; rfl
            case hQ211 => exact fun _ _ _ h => h
            case hw211 => rfl
            case hy211 => (intro W hW; obtain ⟨q0, q1, q2, q3⟩ := HX4.out W hW; obtain ⟨q4, q5, q6⟩ := HY4.out W hW; go_simp; all_goals rfl)
            simp only [Act.put, List.setIfInBounds_toArray, List.set_cons_zero, List.set_cons_succ]
            refine wpAnyH_take (i := 11) (oi := ?oi212) (v := ?v212) ?hi212 (by kernel_rfl) (by kernel_rfl) (by kernel_rfl) ?hQ212 (Or.inl ⟨?hw212, ?hy212⟩) (by assumption) ?rest212
            case hi212 => simp only [List.getElem?_toArray, List.getElem?_cons_succ, List.getElem?_cons_zero]; rfl
            case hQ212 => exact fun _ _ _ h => h
            case hw212 => rfl
            case hy212 => (intro W hW; obtain ⟨q0, q1, q2, q3⟩ := HX4.out W hW; obtain ⟨q4, q5, q6⟩ := HY4.out W hW; go_simp; all_goals rfl)
            simp only [Act.put, List.setIfInBounds_toArray, List.set_cons_zero, List.set_cons_succ]
            refine wpAnyH_take (i := 12) (oi := ?oi213) (v := ?v213) ?hi213 (by kernel_rfl) (by kernel_rfl) (by kernel_rfl) ?hQ213 (Or.inl ⟨?hw213, ?hy213⟩) (by assumption) ?rest213
            case hi213 => simp only [List.getElem?_toArray, List.getElem?_cons_succ, List.getElem?_cons_zero]; rfl
            case hQ213 => exact fun _ _ _ h => h
            case hw213 => rfl
            case hy213 => (intro W hW; obtain ⟨q0, q1, q2, q3⟩ := HX4.out W hW; obtain ⟨q4, q5, q6⟩ := HY4.out W hW; go_simp; all_goals rfl)
            simp only [Act.put, List.setIfInBounds_toArray, List.set_cons_zero, List.set_cons_succ]
            refine wpAnyH_take (i := 13) (oi := ?oi214) (v := ?v214) ?hi214 (by kernel_rfl) (by kernel_rfl) (by kernel_rfl) ?hQ214 (Or.inl ⟨?hw214, ?hy214⟩) (by assumption) ?rest214
            case hi214 => simp only [List.getElem?_toArray, List.getElem?_cons_succ, List.getElem?_cons_zero]; rfl
            case hQ214 => exact fun _ _ _ h => h
            case hw214 => rfl
            case hy214 => (intro W hW; obtain ⟨q0, q1, q2, q3⟩ := HX4.out W hW; obtain ⟨q4, q5, q6⟩ := HY4.out W hW; go_simp; all_goals rfl)
            simp only [Act.put, List.setIfInBounds_toArray, List.set_cons_zero, List.set_cons_succ]
            refine wpAnyH_take (i := 14) (oi := ?oi215) (v := ?v215) ?hi215 (by kernel_rfl) (by kernel_rfl) (by kernel_rfl) ?hQ215 (Or.inl ⟨?hw215, ?hy215⟩) (by assumption) ?rest215
            case hi215 => simp only [List.getElem?_toArray, List.getElem?_cons_succ, List.getElem?_cons_zero]; rfl
            case hQ215 => exact fun _ _ _ h => h
            case hw215 => rfl
            case hy215 => (intro W hW; obtain ⟨q0, q1, q2, q3⟩ := HX4.out W hW; obtain ⟨q4, q5, q6⟩ := HY4.out W hW; go_simp; all_goals rfl)
            simp only [Act.put, List.setIfInBounds_toArray, List.set_cons_zero, List.set_cons_succ]
            refine wpAnyH_take (i := 15) (oi := ?oi216) (v := ?v216) ?hi216 (by kernel_rfl) (by kernel_rfl) (by kernel_rfl) ?hQ216 (Or.inl ⟨?hw216, ?hy216⟩) (by assumption) ?rest216
            case hi216 => simp only [List.getElem?_toArray, List.getElem?_cons_succ, List.getElem?_cons_zero]; rfl
            case hQ216 => exact fun _ _ _ h => h
            case hw216 => rfl
            case hy216 => (intro W hW; obtain ⟨q0, q1, q2, q3⟩ := HX4.out W hW; obtain ⟨q4, q5, q6⟩ := HY4.out W hW; go_simp; all_goals rfl)
            simp only [Act.put, List.setIfInBounds_toArray, List.set_cons_zero, List.set_cons_succ]
            refine wpAnyH_take (i := 16) (oi := ?oi217) (v := ?v217) ?hi217 (by kernel_rfl) (by kernel_rfl) (by kernel_rfl) ?hQ217 (Or.inl ⟨?hw217, ?hy217⟩) (by assumption) ?rest217
            case hi217 => simp only [List.getElem?_toArray, List.getElem?_cons_succ, List.getElem?_cons_zero]; rfl
            case hQ217 => exact fun _ _ _ h => h
            case hw217 => rfl
            case hy217 => (intro W hW; obtain ⟨q0, q1, q2, q3⟩ := HX4.out W hW; obtain ⟨q4, q5, q6⟩ := HY4.out W hW; go_simp; all_goals rfl)
            simp only [Act.put, List.setIfInBounds_toArray, List.set_cons_zero, List.set_cons_succ]
            refine wpAnyH_take (i := 17) (oi := ?oi218) (v := ?v218) ?hi218 (by kernel_rfl) (by kernel_rfl) (by kernel_rfl) ?hQ218 (Or.inl ⟨?hw218, ?hy218⟩) (by assumption) ?rest218
            case hi218 => simp only [List.getElem?_toArray, List.getElem?_cons_succ, List.getElem?_cons_zero]; rfl
            case hQ218 => exact fun _ _ _ h => h
            case hw218 => rfl
            case hy218 => (intro W hW; obtain ⟨q0, q1, q2, q3⟩ := HX4.out W hW; obtain ⟨q4, q5, q6⟩ := HY4.out W hW; go_simp; all_goals rfl)
            simp only [Act.put, List.setIfInBounds_toArray, List.set_cons_zero, List.set_cons_succ]
            refine wpAnyH_take (i := 18) (oi := ?oi219) (v := ?v219) ?hi219 (by kernel_rfl) (by kernel_rfl) (by kernel_rfl) ?hQ219 (Or.inl ⟨?hw219, ?hy219⟩) (by assumption) ?rest219
            case hi219 => simp only [List.getElem?_toArray, List.getElem?_cons_succ, List.getElem?_cons_zero]; rfl
            case hQ219 => exact fun _ _ _ h => h
            case hw219 => rfl
            case hy219 => (intro W hW; obtain ⟨q0, q1, q2, q3⟩ := HX4.out W hW; obtain ⟨q4, q5, q6⟩ := HY4.out W hW; go_simp; all_goals rfl)
            simp only [Act.put, List.setIfInBounds_toArray, List.set_cons_zero, List.set_cons_succ]
            refine wpAnyH_take (i := 19) (oi := ?oi220) (v := ?v220) ?hi220 (by kernel_rfl) (by kernel_rfl) (by kernel_rfl) ?hQ220 (Or.inl ⟨?hw220, ?hy220⟩) (by assumption) ?rest220
            case hi220 => simp only [List.getElem?_toArray, List.getElem?_cons_succ, List.getElem?_cons_zero]; rfl
            case hQ220 => exact fun _ _ _ h => h
            case hw220 => rfl
            case hy220 => (intro W hW; obtain ⟨q0, q1, q2, q3⟩ := HX4.out W hW; obtain ⟨q4, q5, q6⟩ := HY4.out W hW; go_simp; all_goals rfl)
            simp only [Act.put, List.setIfInBounds_toArray, List.set_cons_zero, List.set_cons_succ]
            refine wpAnyH_take (i := 20) (oi := ?oi221) (v := ?v221) ?hi221 (by kernel_rfl) (by kernel_rfl) (by kernel_rfl) ?hQ221 (Or.inl ⟨?hw221, ?hy221⟩) (by assumption) ?rest221
            case hi221 => simp only [List.getElem?_toArray, List.getElem?_cons_succ, List.getElem?_cons_zero]; rfl
            case hQ221 => exact fun _ _ _ h => h
            case hw221 => rfl
            case hy221 => (intro W hW; obtain ⟨q0, q1, q2, q3⟩ := HX4.out W hW; obtain ⟨q4, q5, q6⟩ := HY4.out W hW; go_simp; all_goals rfl)
            simp only [Act.put, List.setIfInBounds_toArray, List.set_cons_zero, List.set_cons_succ]
            refine wpAnyH_take (i := 21) (oi := ?oi222) (v := ?v222) ?hi222 (by kernel_rfl) (by kernel_rfl) (by kernel_rfl) ?hQ222 (Or.inl ⟨?hw222, ?hy222⟩) (by assumption) ?rest222
            case hi222 => simp only [List.getElem?_toArray, List.getElem?_cons_succ, List.getElem?_cons_zero]; rfl
            case hQ222 => exact fun _ _ _ h => h
            case hw222 => rfl
            case hy222 => (intro W hW; obtain ⟨q0, q1, q2, q3⟩ := HX4.out W hW; obtain ⟨q4, q5, q6⟩ := HY4.out W hW; go_simp; all_goals rfl)
            simp only [Act.put, List.setIfInBounds_toArray, List.set_cons_zero, List.set_cons_succ]
            refine wpAnyH_take (i := 22) (oi := ?oi223) (v := ?v223) ?hi223 (by kernel_rfl) (by kernel_rfl) (by kernel_rfl) ?hQ223 (Or.inl ⟨?hw223, ?hy223⟩) (by assumption) ?rest223
            case hi223 => simp only [List.getElem?_toArray, List.getElem?_cons_succ, List.getElem?_cons_zero]; rfl
            case hQ223 => exact fun _ _ _ h => h
            case hw223 => rfl
            case hy223 => (intro W hW; obtain ⟨q0, q1, q2, q3⟩ := HX4.out W hW; obtain ⟨q4, q5, q6⟩ := HY4.out W hW; go_simp; all_goals rfl)
            simp only [Act.put, List.setIfInBounds_toArray, List.set_cons_zero, List.set_cons_succ]
            refine wpAnyH_take (i := 23) (oi := ?oi224) (v := ?v224) ?hi224 (by kernel_rfl) (by kernel_rfl) (by kernel_rfl) ?hQ224 (Or.inl ⟨?hw224, ?hy224⟩) (by assumption) ?rest224
            case hi224 => simp only [List.getElem?_toArray, List.getElem?_cons_succ, List.getElem?_cons_zero]; rfl
            case hQ224 => exact fun _ _ _ h => h
            case hw224 => rfl
            case hy224 => (intro W hW; obtain ⟨q0, q1, q2, q3⟩ := HX4.out W hW; obtain ⟨q4, q5, q6⟩ := HY4.out W hW; go_simp; all_goals rfl)
            simp only [Act.put, List.setIfInBounds_toArray, List.set_cons_zero, List.set_cons_succ]
            refine wpAnyH_take (i := 24) (oi := ?oi225) (v := ?v225) ?hi225 (by kernel_rfl) (by kernel_rfl) (by kernel_rfl) ?hQ225 (Or.inl ⟨?hw225, ?hy225⟩) (by assumption) ?rest225
            case hi225 => simp only [List.getElem?_toArray, List.getElem?_cons_succ, List.getElem?_cons_zero]; rfl
            case hQ225 => exact fun _ _ _ h => h
            case hw225 => rfl
            case hy225 => (intro W hW; obtain ⟨q0, q1, q2, q3⟩ := HX4.out W hW; obtain ⟨q4, q5, q6⟩ := HY4.out W hW; go_simp; all_goals rfl)
            simp only [Act.put, List.setIfInBounds_toArray, List.set_cons_zero, List.set_cons_succ]
            refine wpAnyH_ready (rs := [25]) (by kernel_rfl) (by simp) ?_
            refine AllReadyH.cons (i := 25) (o := ?o226) ?ho226 (fun Kq hK => ?step226) AllReadyH.nil
            case ho226 => simp only [List.getElem?_toArray, List.getElem?_cons_succ, List.getElem?_cons_zero]; rfl
            go_simp
            (go_at_call 27; refine (HOL.out _).mono ?_; rintro e w7 ⟨rfl, hb⟩)
            have hF : Below wr.heap.size wr w7 := hHeld.trans (hb.mono hHeld.size)
            refine hK.out _ _ hF (fun _ => ?_)
            clear hK Kq hHeld hb
            have hHeld := hF
            clear hF
            try simp only [Act.put, List.setIfInBounds_toArray, List.set_cons_zero, List.set_cons_succ]
            refine wpAnyH_take (i := 26) (oi := ?oi227) (v := ?v227) ?hi227 (by kernel_rfl) (by kernel_rfl) (by kernel_rfl) ?hQ227 (Or.inl ⟨?hw227, ?hy227⟩) (by assumption) ?rest227
            case hi227 => simp only [List.getElem?_toArray, List.getElem?_cons_succ, List.getElem?_cons_zero]; rfl
            case hQ227 => exact fun _ _ _ h => h
            case hw227 => rfl
            case hy227 => (intro W hW; obtain ⟨q0, q1, q2, q3⟩ := HX4.out W hW; obtain ⟨q4, q5, q6⟩ := HY4.out W hW; go_simp; all_goals rfl)
            simp only [Act.put, List.setIfInBounds_toArray, List.set_cons_zero, List.set_cons_succ]
            refine wpAnyH_take (i := 27) (oi := ?oi228) (v := ?v228) ?hi228 (by kernel_rfl) (by kernel_rfl) (by kernel_rfl) ?hQ228 (Or.inl ⟨?hw228, ?hy228⟩) (by assumption) ?rest228
            case hi228 => simp only [List.getElem?_toArray, List.getElem?_cons_succ, List.getElem?_cons_zero]; rfl
            case hQ228 => exact fun _ _ _ h => h
            case hw228 => rfl
            case hy228 => (intro W hW; obtain ⟨q0, q1, q2, q3⟩ := HX4.out W hW; obtain ⟨q4, q5, q6⟩ := HY4.out W hW; go_simp; all_goals rfl)
            simp only [Act.put, List.setIfInBounds_toArray, List.set_cons_zero, List.set_cons_succ]
            refine wpAnyH_take (i := 28) (oi := ?oi229) (v := ?v229) ?hi229 (by kernel_rfl) (by kernel_rfl) (by kernel_rfl) ?hQ229 (Or.inl ⟨?hw229, ?hy229⟩) (by assumption) ?rest229
            case hi229 => simp only [List.getElem?_toArray, List.getElem?_cons_succ, List.getElem?_cons_zero]; rfl
            case hQ229 => exact fun _ _ _ h => h
            case hw229 => rfl
            case hy229 => (intro W hW; obtain ⟨q0, q1, q2, q3⟩ := HX4.out W hW; obtain ⟨q4, q5, q6⟩ := HY4.out W hW; go_simp; all_goals rfl)
            simp only [Act.put, List.setIfInBounds_toArray, List.set_cons_zero, List.set_cons_succ]
            refine wpAnyH_take (i := 29) (oi := ?oi230) (v := ?v230) ?hi230 (by kernel_rfl) (by kernel_rfl) (by kernel_rfl) ?hQ230 (Or.inl ⟨?hw230, ?hy230⟩) (by assumption) ?rest230
            case hi230 => simp only [List.getElem?_toArray, List.getElem?_cons_succ, List.getElem?_cons_zero]; rfl
            case hQ230 => exact fun _ _ _ h => h
            case hw230 => rfl
            case hy230 => (intro W hW; obtain ⟨q0, q1, q2, q3⟩ := HX4.out W hW; obtain ⟨q4, q5, q6⟩ := HY4.out W hW; go_simp; all_goals rfl)
            simp only [Act.put, List.setIfInBounds_toArray, List.set_cons_zero, List.set_cons_succ]
            refine wpAnyH_take (i := 30) (oi := ?oi231) (v := ?v231) ?hi231 (by kernel_rfl) (by kernel_rfl) (by kernel_rfl) ?hQ231 (Or.inl ⟨?hw231, ?hy231⟩) (by assumption) ?rest231
            case hi231 => simp only [List.getElem?_toArray, List.getElem?_cons_succ, List.getElem?_cons_zero]; rfl
            case hQ231 => exact fun _ _ _ h => h
            case hw231 => rfl
            case hy231 => (intro W hW; obtain ⟨q0, q1, q2, q3⟩ := HX4.out W hW; obtain ⟨q4, q5, q6⟩ := HY4.out W hW; go_simp; all_goals rfl)
            simp only [Act.put, List.setIfInBounds_toArray, List.set_cons_zero, List.set_cons_succ]
            refine wpAnyH_take (i := 31) (oi := ?oi232) (v := ?v232) ?hi232 (by kernel_rfl) (by kernel_rfl) (by kernel_rfl) ?hQ232 (Or.inl ⟨?hw232, ?hy232⟩) (by assumption) ?rest232
            case hi232 => simp only [List.getElem?_toArray, List.getElem?_cons_succ, List.getElem?_cons_zero]; rfl
            case hQ232 => exact fun _ _ _ h => h
            case hw232 => rfl
            case hy232 => (intro W hW; obtain ⟨q0, q1, q2, q3⟩ := HX4.out W hW; obtain ⟨q4, q5, q6⟩ := HY4.out W hW; go_simp; all_goals rfl)
            simp only [Act.put, List.setIfInBounds_toArray, List.set_cons_zero, List.set_cons_succ]
            refine wpAnyH_take (i := 32) (oi := ?oi233) (v := ?v233) ?hi233 (by kernel_rfl) (by kernel_rfl) (by kernel_rfl) ?hQ233 (Or.inl ⟨?hw233, ?hy233⟩) (by assumption) ?rest233
            case hi233 => simp only [List.getElem?_toArray, List.getElem?_cons_succ, List.getElem?_cons_zero]; rfl
            case hQ233 => exact fun _ _ _ h => h
            case hw233 => rfl
            case hy233 => (intro W hW; obtain ⟨q0, q1, q2, q3⟩ := HX4.out W hW; obtain ⟨q4, q5, q6⟩ := HY4.out W hW; go_simp; all_goals rfl)
            simp only [Act.put, List.setIfInBounds_toArray, List.set_cons_zero, List.set_cons_succ]
            refine wpAnyH_take (i := 33) (oi := ?oi234) (v := ?v234) ?hi234 (by kernel_rfl) (by kernel_rfl) (by kernel_rfl) ?hQ234 (Or.inl ⟨?hw234, ?hy234⟩) (by assumption) ?rest234
            case hi234 => simp only [List.getElem?_toArray, List.getElem?_cons_succ, List.getElem?_cons_zero]; rfl
            case hQ234 => exact fun _ _ _ h => h
            case hw234 => rfl
            case hy234 => (intro W hW; obtain ⟨q0, q1, q2, q3⟩ := HX4.out W hW; obtain ⟨q4, q5, q6⟩ := HY4.out W hW; go_simp; all_goals rfl)
            simp only [Act.put, List.setIfInBounds_toArray, List.set_cons_zero, List.set_cons_succ]
            refine wpAnyH_take (i := 34) (oi := ?oi235) (v := ?v235) ?hi235 (by kernel_rfl) (by kernel_rfl) (by kernel_rfl) ?hQ235 (Or.inl ⟨?hw235, ?hy235⟩) (by assumption) ?rest235
            case hi235 => simp only [List.getElem?_toArray, List.getElem?_cons_succ, List.getElem?_cons_zero]; rfl
            case hQ235 => exact fun _ _ _ h => h
            case hw235 => rfl
            case hy235 => (intro W hW; obtain ⟨q0, q1, q2, q3⟩ := HX4.out W hW; obtain ⟨q4, q5, q6⟩ := HY4.out W hW; go_simp; all_goals rfl)
            simp only [Act.put, List.setIfInBounds_toArray, List.set_cons_zero, List.set_cons_succ]
            refine wpAnyH_take (i := 35) (oi := ?oi236) (v := ?v236) ?hi236 (by kernel_rfl) (by kernel_rfl) (by kernel_rfl) ?hQ236 (Or.inl ⟨?hw236, ?hy236⟩) (by assumption) ?rest236
            case hi236 => simp only [List.getElem?_toArray, List.getElem?_cons_succ, List.getElem?_cons_zero]; rfl
            case hQ236 => exact fun _ _ _ h => h
            case hw236 => rfl
            case hy236 => (intro W hW; obtain ⟨q0, q1, q2, q3⟩ := HX4.out W hW; obtain ⟨q4, q5, q6⟩ := HY4.out W hW; go_simp; all_goals rfl)
            simp only [Act.put, List.setIfInBounds_toArray, List.set_cons_zero, List.set_cons_succ]
            refine wpAnyH_take (i := 36) (oi := ?oi237) (v := ?v237) ?hi237 (by kernel_rfl) (by kernel_rfl) (by kernel_rfl) ?hQ237 (Or.inl ⟨?hw237, ?hy237⟩) (by assumption) ?rest237
            case hi237 => simp only [List.getElem?_toArray, List.getElem?_cons_succ, List.getElem?_cons_zero]; rfl
            case hQ237 => exact fun _ _ _ h => h
            case hw237 => rfl
            case hy237 => (intro W hW; obtain ⟨q0, q1, q2, q3⟩ := HX4.out W hW; obtain ⟨q4, q5, q6⟩ := HY4.out W hW; go_simp; all_goals rfl)
            simp only [Act.put, List.setIfInBounds_toArray, List.set_cons_zero, List.set_cons_succ]
            refine wpAnyH_take (i := 37) (oi := ?oi238) (v := ?v238) ?hi238 (by kernel_rfl) (by kernel_rfl) (by kernel_rfl) ?hQ238 (Or.inl ⟨?hw238, ?hy238⟩) (by assumption) ?rest238
            case hi238 => simp only [List.getElem?_toArray, List.getElem?_cons_succ, List.getElem?_cons_zero]; rfl
            case hQ238 => exact fun _ _ _ h => h
            case hw238 => rfl
            case hy238 => (intro W hW; obtain ⟨q0, q1, q2, q3⟩ := HX4.out W hW; obtain ⟨q4, q5, q6⟩ := HY4.out W hW; go_simp; all_goals rfl)
            simp only [Act.put, List.setIfInBounds_toArray, List.set_cons_zero, List.set_cons_succ]
            refine wpAnyH_take (i := 38) (oi := ?oi239) (v := ?v239) ?hi239 (by kernel_rfl) (by kernel_rfl) (by kernel_rfl) ?hQ239 (Or.inl ⟨?hw239, ?hy239⟩) (by assumption) ?rest239
            case hi239 => simp only [List.getElem?_toArray, List.getElem?_cons_succ, List.getElem?_cons_zero]; rfl
            case hQ239 => exact fun _ _ _ h => h
            case hw239 => rfl
            case hy239 => (intro W hW; obtain ⟨q0, q1, q2, q3⟩ := HX4.out W hW; obtain ⟨q4, q5, q6⟩ := HY4.out W hW; go_simp; all_goals rfl)
            simp only [Act.put, List.setIfInBounds_toArray, List.set_cons_zero, List.set_cons_succ]
            refine wpAnyH_take (i := 39) (oi := ?oi240) (v := ?v240) ?hi240 (by kernel_rfl) (by kernel_rfl) (by kernel_rfl) ?hQ240 (Or.inl ⟨?hw240, ?hy240⟩) (by assumption) ?rest240
            case hi240 => simp only [List.getElem?_toArray, List.getElem?_cons_succ, List.getElem?_cons_zero]; rfl
            case hQ240 => exact fun _ _ _ h => h
            case hw240 => rfl
            case hy240 => (intro W hW; obtain ⟨q0, q1, q2, q3⟩ := HX4.out W hW; obtain ⟨q4, q5, q6⟩ := HY4.out W hW; go_simp; all_goals rfl)
            simp only [Act.put, List.setIfInBounds_toArray, List.set_cons_zero, List.set_cons_succ]
            refine wpAnyH_take (i := 40) (oi := ?oi241) (v := ?v241) ?hi241 (by kernel_rfl) (by kernel_rfl) (by kernel_rfl) ?hQ241 (Or.inl ⟨?hw241, ?hy241⟩) (by assumption) ?rest241
            case hi241 => simp only [List.getElem?_toArray, List.getElem?_cons_succ, List.getElem?_cons_zero]; rfl
            case hQ241 => exact fun _ _ _ h => h
            case hw241 => rfl
            case hy241 => (intro W hW; obtain ⟨q0, q1, q2, q3⟩ := HX4.out W hW; obtain ⟨q4, q5, q6⟩ := HY4.out W hW; go_simp; all_goals rfl)
            simp only [Act.put, List.setIfInBounds_toArray, List.set_cons_zero, List.set_cons_succ]
            refine wpAnyH_take (i := 41) (oi := ?oi242) (v := ?v242) ?hi242 (by kernel_rfl) (by kernel_rfl) (by kernel_rfl) ?hQ242 (Or.inl ⟨?hw242, ?hy242⟩) (by assumption) ?rest242
            case hi242 => simp only [List.getElem?_toArray, List.getElem?_cons_succ, List.getElem?_cons_zero]; rfl
            case hQ242 => exact fun _ _ _ h => h
            case hw242 => rfl
            case hy242 => (intro W hW; obtain ⟨q0, q1, q2, q3⟩ := HX4.out W hW; obtain ⟨q4, q5, q6⟩ := HY4.out W hW; go_simp; all_goals rfl)
            simp only [Act.put, List.setIfInBounds_toArray, List.set_cons_zero, List.set_cons_succ]
            refine wpAnyH_take (i := 42) (oi := ?oi243) (v := ?v243) ?hi243 (by kernel_rfl) (by kernel_rfl) (by kernel_rfl) ?hQ243 (Or.inl ⟨?hw243, ?hy243⟩) (by assumption) ?rest243
            case hi243 => simp only [List.getElem?_toArray, List.getElem?_cons_succ, List.getElem?_cons_zero]; rfl
            case hQ243 => exact fun _ _ _ h => h
            case hw243 => rfl
            case hy243 => (intro W hW; obtain ⟨q0, q1, q2, q3⟩ := HX4.out W hW; obtain ⟨q4, q5, q6⟩ := HY4.out W hW; go_simp; all_goals rfl)
            simp only [Act.put, List.setIfInBounds_toArray, List.set_cons_zero, List.set_cons_succ]
            refine wpAnyH_take (i := 43) (oi := ?oi244) (v := ?v244) ?hi244 (by kernel_rfl) (by kernel_rfl) (by kernel_rfl) ?hQ244 (Or.inl ⟨?hw244, ?hy244⟩) (by assumption) ?rest244
            case hi244 => simp only [List.getElem?_toArray, List.getElem?_cons_succ, List.getElem?_cons_zero]; rfl
            case hQ244 => exact fun _ _ _ h => h
            case hw244 => rfl
            case hy244 => (intro W hW; obtain ⟨q0, q1, q2, q3⟩ := HX4.out W hW; obtain ⟨q4, q5, q6⟩ := HY4.out W hW; go_simp; all_goals rfl)
            simp only [Act.put, List.setIfInBounds_toArray, List.set_cons_zero, List.set_cons_succ]
            refine wpAnyH_take (i := 44) (oi := ?oi245) (v := ?v245) ?hi245 (by kernel_rfl) (by kernel_rfl) (by kernel_rfl) ?hQ245 (Or.inl ⟨?hw245, ?hy245⟩) (by assumption) ?rest245
            case hi245 => simp only [List.getElem?_toArray, List.getElem?_cons_succ, List.getElem?_cons_zero]; rfl
            case hQ245 => exact fun _ _ _ h => h
            case hw245 => rfl
            case hy245 => (intro W hW; obtain ⟨q0, q1, q2, q3⟩ := HX4.out W hW; obtain ⟨q4, q5, q6⟩ := HY4.out W hW; go_simp; all_goals rfl)
            simp only [Act.put, List.setIfInBounds_toArray, List.set_cons_zero, List.set_cons_succ]
            refine wpAnyH_take (i := 45) (oi := ?oi246) (v := ?v246) ?hi246 (by kernel_rfl) (by kernel_rfl) (by kernel_rfl) ?hQ246 (Or.inl ⟨?hw246, ?hy246⟩) (by assumption) ?rest246
            case hi246 => simp only [List.getElem?_toArray, List.getElem?_cons_succ, List.getElem?_cons_zero]; rfl
            case hQ246 => exact fun _ _ _ h => h
            case hw246 => rfl
            case hy246 => (intro W hW; obtain ⟨q0, q1, q2, q3⟩ := HX4.out W hW; obtain ⟨q4, q5, q6⟩ := HY4.out W hW; go_simp; all_goals rfl)
            simp only [Act.put, List.setIfInBounds_toArray, List.set_cons_zero, List.set_cons_succ]
            refine wpAnyH_ready (rs := [46]) (by kernel_rfl) (by simp) ?_
            refine AllReadyH.cons (i := 46) (o := ?o247) ?ho247 (fun Kq hK => ?step247) AllReadyH.nil
            case ho247 => simp only [List.getElem?_toArray, List.getElem?_cons_succ, List.getElem?_cons_zero]; rfl
            go_simp
            (go_at_call 26; refine (HSH.out _ hHeld).mono ?_; rintro e w8 ⟨rfl, hb⟩)
            have hF : Below wr.heap.size wr w8 := hHeld.trans (hb.mono hHeld.size)
            refine hK.out _ _ hF (fun _ => ?_)
            clear hK Kq hHeld hb
            have hHeld := hF
            clear hF
            try simp only [Act.put, List.setIfInBounds_toArray, List.set_cons_zero, List.set_cons_succ]
            refine wpAnyH_take (i := 47) (oi := ?oi248) (v := ?v248) ?hi248 (by kernel_rfl) (by kernel_rfl) (by kernel_rfl) ?hQ248 (Or.inl ⟨?hw248, ?hy248⟩) (by assumption) ?rest248
            case hi248 => simp only [List.getElem?_toArray, List.getElem?_cons_succ, List.getElem?_cons_zero]; rfl
            case hQ248 => exact fun _ _ _ h => h
            case hw248 => rfl
            case hy248 => (intro W hW; obtain ⟨q0, q1, q2, q3⟩ := HX4.out W hW; obtain ⟨q4, q5, q6⟩ := HY4.out W hW; go_simp; all_goals rfl)
            simp only [Act.put, List.setIfInBounds_toArray, List.set_cons_zero, List.set_cons_succ]
            refine wpAnyH_take (i := 48) (oi := ?oi249) (v := ?v249) ?hi249 (by kernel_rfl) (by kernel_rfl) (by kernel_rfl) ?hQ249 (Or.inl ⟨?hw249, ?hy249⟩) (by assumption) ?rest249
            case hi249 => simp only [List.getElem?_toArray, List.getElem?_cons_succ, List.getElem?_cons_zero]; rfl
            case hQ249 => exact fun _ _ _ h => h
            case hw249 => rfl
            case hy249 => (intro W hW; obtain ⟨q0, q1, q2, q3⟩ := HX4.out W hW; obtain ⟨q4, q5, q6⟩ := HY4.out W hW; go_simp; all_goals rfl)
            simp only [Act.put, List.setIfInBounds_toArray, List.set_cons_zero, List.set_cons_succ]
            refine wpAnyH_done (by kernel_rfl) ?_ _
            have H9 : Hd (Below wr.heap.size wr w8) := ⟨hHeld⟩
            clear hHeld
            (try go_wp2_with fail)
            go_meet
            exact ⟨rfl, H9.out⟩
        case rest =>
          obtain ⟨rfl, hbc⟩ := hcut
          have HBC := Hd.mk hbc
          obtain ⟨z0, z1, z2, z3⟩ := HX4.out wc hbc
          have t0 := (HS0.out wc hbc).c0
          clear hbc x0 x1 x2 x3
          by_cases hk : k ≤ (mm : Int)
          · by_cases hm : (mm : Int) = k
            · have qe : ((mm : Int) == k) = true := by simp [hm]
              have hm' := Hd.mk hm
              clear hm
              go_wp2_with fail
              go_quiet (fail)
              have HB9 : Hd (Below wr.heap.size wr (wc.drewN nq)) := ⟨below_drewN HBC.out _⟩
              obtain ⟨w5, hw5⟩ : ∃ w5, wc.drewN nq = w5 := ⟨_, rfl⟩
              rw [hw5] at HB9 ⊢
              clear hw5 nq z0 z1 z2 z3 t0
              obtain ⟨z0, z1, z2, z3⟩ := HX4.out w5 HB9.out
              have t0 := (HS0.out w5 HB9.out).c0
              go_wp2_with fail
              go_quiet (fail)
              have HB8 : Hd (Below wr.heap.size wr (w5.drewN nq)) := ⟨below_drewN HB9.out _⟩
              go_wp2_with fail
              go_roundw
              case rel =>
                refine ⟨j + 1, by omega, by go_num, ?_, ?_, ?_, HS0.out _ HB8.out, H4.out.2.keep HB8.out⟩
                · rw [HSN.out.1, if_pos (by omega)]; go_num
                · rw [HSN.out.2.1, if_pos hm'.out]; go_num
                · rw [HSN.out.2.2]; go_num
              case measure => simp [intOf]; omega
            · have qe : ((mm : Int) == k) = false := by simp [hm]
              go_wp2_with fail
              go_quiet (fail)
              have HB9 : Hd (Below wr.heap.size wr (wc.drewN nq)) := ⟨below_drewN HBC.out _⟩
              obtain ⟨w5, hw5⟩ : ∃ w5, wc.drewN nq = w5 := ⟨_, rfl⟩
              rw [hw5] at HB9 ⊢
              clear hw5 nq z0 z1 z2 z3 t0
              obtain ⟨z0, z1, z2, z3⟩ := HX4.out w5 HB9.out
              have t0 := (HS0.out w5 HB9.out).c0
              go_wp2_with fail
              go_quiet (fail)
              have HB8 : Hd (Below wr.heap.size wr (w5.drewN nq)) := ⟨below_drewN HB9.out _⟩
              go_wp2_with fail
              go_roundw
              case rel =>
                refine ⟨j + 1, by omega, by go_num, ?_, ?_, ?_, HS0.out _ HB8.out, H4.out.2.keep HB8.out⟩
                · rw [HSN.out.1, if_pos (by omega)]; go_num
                · rw [HSN.out.2.1, if_neg (by omega)]; go_num
                · rw [HSN.out.2.2]; go_num
              case measure => simp [intOf]; omega
          · have hm : ¬ (mm : Int) = k := by omega
            have qe : ((mm : Int) == k) = false := by simp [hm]
            go_wp2_with fail
            go_quiet (fail)
            have HB9 : Hd (Below wr.heap.size wr (wc.drewN nq)) := ⟨below_drewN HBC.out _⟩
            obtain ⟨w5, hw5⟩ : ∃ w5, wc.drewN nq = w5 := ⟨_, rfl⟩
            rw [hw5] at HB9 ⊢
            clear hw5 nq z0 z1 z2 z3 t0
            obtain ⟨z0, z1, z2, z3⟩ := HX4.out w5 HB9.out
            have t0 := (HS0.out w5 HB9.out).c0
            go_wp2_with fail
            go_quiet (fail)
            have HB8 : Hd (Below wr.heap.size wr (w5.drewN nq)) := ⟨below_drewN HB9.out _⟩
            go_wp2_with fail
            go_roundw
            case rel =>
              refine ⟨j + 1, by omega, by go_num, ?_, ?_, ?_, HS0.out _ HB8.out, H4.out.2.keep HB8.out⟩
              · rw [HSN.out.1, if_neg (by omega)]; go_num
              · rw [HSN.out.2.1, if_neg (by omega)]; go_num
              · rw [HSN.out.2.2]; go_num
            case measure => simp [intOf]; omega
      · have hjn : j = L.length := by omega
        subst hjn
        have hfb := few_big (S := S) HQ.out
        have htg := tot_grp S n
        rw [HL.out] at hfb htg
        have hsh := shardN_le S n
        rw [List.take_length, htg]
        obtain ⟨Bc, hBc⟩ : ∃ q, big S n k L = q := ⟨_, rfl⟩
        obtain ⟨Ec, hEc⟩ : ∃ q, exa S n k L = q := ⟨_, rfl⟩
        rw [hBc, hEc] at hfb
        rw [hBc, hEc]
        have HBC := Hd.mk (And.intro hBc hfb)
        clear hBc hEc hfb htg
        obtain ⟨sN, hsN⟩ : ∃ z, shardN S n = z := ⟨_, rfl⟩
        have HSN := Hd.mk hsN
        rw [hsN] at hsh ⊢
        clear hsN
        obtain ⟨wo, hwo⟩ : ∃ wo, wo = wr := ⟨_, rfl⟩
        rw [← hwo] at H4 ⊢
        clear hwo
        go_wp2_with fail
        go_loopw [13, 14] (fun sv iv wr => ∃ q : Nat, q ≤ n ∧ iv = .int .i64 (q : Int) ∧ sv = .int .i64 (shardN S q : Int) ∧ wr = wo) (fun _ iv _ => n - (intOf iv).toNat)
        case atStart => exact ⟨0, by omega, rfl, rfl, rfl⟩
        case round =>
          obtain ⟨q, hq, rfl, rfl, rfl⟩ := hrel
          have hsq := shardN_le S q
          have HSQ := Hd.mk (shardN_next S q)
          obtain ⟨sq, hsq2⟩ : ∃ z, shardN S q = z := ⟨_, rfl⟩
          rw [hsq2] at hsq HSQ ⊢
          have HSQ2 := Hd.mk hsq2
          clear hsq2
          by_cases hqn : q < n
          · have hqi : (q : Int) < (n : Int) := by omega
            obtain ⟨g, off, rfl, hg, d0, _, _, _, _, _, _⟩ := (HA.out.below H4.out.1.bel).at_ hqn
            obtain ⟨kd, hkd⟩ : ∃ z, (S q).kind = z := ⟨_, rfl⟩
            rw [hkd] at d0 HSQ
            clear hkd hg
            by_cases h2 : kd = 2
            · subst h2
              go_wp2_with fail
              go_roundw
              case rel => exact ⟨q + 1, by omega, by go_num, by rw [HSQ.out, if_pos rfl]; go_num, by first | rfl | trivial⟩
              case measure => simp [intOf]; omega
            · have h2' : (kd == 2) = false := by simp [h2]
              go_wp2_with fail
              go_roundw
              case rel => exact ⟨q + 1, by omega, by go_num, by rw [HSQ.out, if_neg h2], by first | rfl | trivial⟩
              case measure => simp [intOf]; omega
          · have hqn2 : q = n := by omega
            subst hqn2
            obtain rfl : sq = sN := HSQ2.out.symm.trans HSN.out
            clear HSQ HSQ2 HSN
            go_upto_region 28 with fail
            go_cut [169] from 148 (fun r wx => r = .bool false ∧ wx = wr)
            case first =>
              have c0 := H4.out.1.c0
              have c1 := H4.out.1.c1
              rcases (show Bc = 0 ∨ Bc = 1 ∨ Bc = 2 by have := HBC.out.2.1; omega) with rfl | rfl | rfl
              · go_wp2_with fail
                go_meet
                exact ⟨rfl, rfl⟩
              · go_wp2_with fail
                go_meet
                exact ⟨rfl, rfl⟩
              · obtain ⟨e1, e2⟩ := HBC.out.2.2 rfl
                subst e2
                have qkm : (k != m) = false := by simp [e1]
                clear e1
                go_wp2_with fail
                go_meet
                exact ⟨rfl, rfl⟩
            case rest =>
              obtain ⟨rfl, rfl⟩ := hcut
              go_wp2_with (refine at_load ?_; refine wpList_load_row rfl 34 (.tmp 2) rfl w.heap.size rfl 34 #[.int .i64 k, .int .i64 m, .int .i64 b] (0, 0) _ H4.out.1.sh Try.underlying34 rfl infoSh ?_)
              have hj := judge_any wc w.heap.size q c A S (HA.out.below H4.out.1.bel) H4.out.1.bel.size hn k m b
              rcases ht : topW S q k L with _ | x
              · have hB0 : Bc = 0 := by rw [← HBC.out.1]; exact (top_big L).1 ht
                subst hB0
                obtain ⟨⟨vk, ⟨ep, ct, sz⟩, pl⟩, hr⟩ : ∃ r, judgeP S q k m b = r := ⟨_, rfl⟩
                have hvk : vk ≠ 1 := by have h := judge_none HQ.out (by rw [HL.out]; exact ht); rw [hr] at h; exact h
                rw [hr] at hj
                refine hj.mono ?_
                clear hj hr
                rintro e w6 ⟨P, rfl, ho6, hb6⟩
                have HP1 := Hd.mk (own_one ho6)
                have H6 := Hd.mk (H4.out.1.keep hb6)
                clear ho6 hb6
                have qvk : (vk != 1) = true := by simp [hvk]
                clear hvk
                rw [show verV (vk, (ep, ct, sz), pl) P = #[.int .i64 vk, .int .i64 ep, .int .i64 ct, .int .i64 sz, P] from rfl]
                go_wp2_with (refine at_store (x := .tmp 15) ?_; refine wpList_boxed rfl 27 (.tmp 15) (.tmp 172) rfl w6.heap.size rfl #[.int .i64 vk, .int .i64 ep, .int .i64 ct, .int .i64 sz, P] rfl rfl infoV2 rfl (ver_one HP1.out) ?_; intro w7 HW7
                             have H7 := Hd.mk (H6.out.keep HW7.out.2.1)
                             have b0 : w7.cell? ⟨w6.heap.size, 0, none⟩ = some (.int .i64 vk) := by rw [cell_of_row _ _ _ _ _ _ HW7.out.1]; rfl)
                go_ret
                exact ⟨rfl, H7.out.bel⟩
              · have hB0 : Bc ≠ 0 := fun e => by have h := (top_big (S := S) (n := q) (k := k) L).2 (HBC.out.1.trans e); rw [ht] at h; cases h
                obtain ⟨hk, hfst⟩ := top_first L (HL.out ▸ (isGrp_grpL S q).1) ht
                have hstc := stale_cnt S x.1 x.2.1 x.2.2 q
                change _ + cnt S q x = q at hstc
                rw [judge_top HQ.out (by rw [HL.out]; exact ht)] at hj
                have HT := Hd.mk (And.intro ht hfst)
                clear ht hfst
                obtain ⟨ep, ct, sz⟩ := x
                obtain ⟨mm, hmm⟩ : ∃ z, cnt S q (ep, ct, sz) = z := ⟨_, rfl⟩
                have hmn : mm ≤ q := hmm ▸ cnt_le _ _ _
                refine hj.mono ?_
                clear hj
                rintro e w6 ⟨P, rfl, ho6, hb6⟩
                obtain ⟨A6, c6, rfl, _, _⟩ := own_form ho6
                rw [show verV (1, (ep, ct, sz), plc S (ep, ct, sz) q) (.slice A6 ((1, (ep, ct, sz), plc S (ep, ct, sz) q) : Int × Wr × List Int).2.2.length c6) = #[.int .i64 1, .int .i64 ep, .int .i64 ct, .int .i64 sz, .slice A6 (cnt S q (ep, ct, sz)) c6] from rfl]
                rw [hmm] at hk hstc ⊢
                have HMM := Hd.mk hmm
                have H6 := Hd.mk (And.intro (H4.out.1.keep hb6) (H4.out.2.keep hb6))
                clear ho6 hb6 hmm
                have qB : ((Bc : Int) == 0) = false := by simp [hB0]
                clear hB0
                go_upto_region 33 with (refine at_store (x := .tmp 15) ?_; refine wpList_boxed rfl 27 (.tmp 15) (.tmp 172) rfl w6.heap.size rfl #[.int .i64 1, .int .i64 ep, .int .i64 ct, .int .i64 sz, .slice A6 mm c6] rfl rfl infoV2 rfl (by simp [Value.oneCell']) ?_; intro wr HW7)
                have H7 := Hd.mk (And.intro (H6.out.1.keep HW7.out.2.1) (H6.out.2.keep HW7.out.2.1))
                have HVW : Hd (∀ W, Below wr.heap.size wr W → View W w.heap.size A q S ∧ w.heap.size ≤ W.heap.size) := ⟨fun W hW => have hb := H7.out.1.bel.trans (hW.mono H7.out.1.bel.size); ⟨HA.out.below hb, hb.size⟩⟩
                have HSH : Hd (∀ W, Below wr.heap.size wr W → Calls Try.prog 26 #[.slice A q c, .agg #[.int .i64 ep, .int .i64 ct], .int .i64 sz] W fun e w' => e = .returned (.int .i64 (mm : Int)) ∧ Below W.heap.size W w') := ⟨fun W hW => by
                  have h := shows_any W w.heap.size q c A S (HVW.out W hW).1 (HVW.out W hW).2 hn ep ct sz
                  rw [HMM.out] at h
                  exact h⟩
                have HBX : Hd (∀ W, Below wr.heap.size wr W → W.heap[w6.heap.size]? = some (.cells #[.int .i64 1, .int .i64 ep, .int .i64 ct, .int .i64 sz, .slice A6 mm c6] 27 (0, 0))) := ⟨fun W hW => (hW.block _ (Array.getElem?_eq_some_iff.1 HW7.out.1).1).trans HW7.out.1⟩
                have HC5 : Hd (∀ W, Below wr.heap.size wr W → W.cell? ⟨w6.heap.size, 0, none⟩ = some (.int .i64 1) ∧ W.cell? ⟨w6.heap.size, 1, none⟩ = some (.int .i64 ep) ∧ W.cell? ⟨w6.heap.size, 2, none⟩ = some (.int .i64 ct) ∧ W.cell? ⟨w6.heap.size, 3, none⟩ = some (.int .i64 sz) ∧ W.cell? ⟨w6.heap.size, 4, none⟩ = some (.slice A6 mm c6) ∧ W.cell? ⟨w.heap.size, 0, none⟩ = some (.int .i64 k)) := ⟨fun W hW => by
                  have h := HBX.out W hW
                  refine ⟨?_, ?_, ?_, ?_, ?_, (H7.out.1.keep hW).c0⟩ <;> (rw [cell_of_row _ _ _ _ _ _ h]; rfl)⟩
                have hk' : ¬ (mm : Int) < k := by omega
                clear HW7 H6
                refine wp_region_held_drew (S := fun W => Below wr.heap.size wr W) (by kernel_rfl) ((Below.refl _ _).drew) (fun hHeld => ?_)
                refine wpAnyH_take (i := 0) (oi := ?oi301) (v := ?v301) ?hi301 (by kernel_rfl) (by kernel_rfl) (by kernel_rfl) ?hQ301 (Or.inl ⟨?hw301, ?hy301⟩) (by assumption) ?rest301
                case hi301 => simp only [List.getElem?_toArray, List.getElem?_cons_succ, List.getElem?_cons_zero]; rfl
                case hQ301 => exact fun _ _ _ h => h
                case hw301 => rfl
                case hy301 => (intro W hW; obtain ⟨q0, q1, q2, q3, q4, q5⟩ := HC5.out W hW; go_simp; all_goals rfl)
                simp only [Act.put, List.setIfInBounds_toArray, List.set_cons_zero, List.set_cons_succ]
                refine wpAnyH_take (i := 1) (oi := ?oi302) (v := ?v302) ?hi302 (by kernel_rfl) (by kernel_rfl) (by kernel_rfl) ?hQ302 (Or.inl ⟨?hw302, ?hy302⟩) (by assumption) ?rest302
                case hi302 => simp only [List.getElem?_toArray, List.getElem?_cons_succ, List.getElem?_cons_zero]; rfl
                case hQ302 => exact fun _ _ _ h => h
                case hw302 => rfl
                case hy302 => (intro W hW; obtain ⟨q0, q1, q2, q3, q4, q5⟩ := HC5.out W hW; go_simp; all_goals rfl)
                simp only [Act.put, List.setIfInBounds_toArray, List.set_cons_zero, List.set_cons_succ]
                refine wpAnyH_take (i := 2) (oi := ?oi303) (v := ?v303) ?hi303 (by kernel_rfl) (by kernel_rfl) (by kernel_rfl) ?hQ303 (Or.inl ⟨?hw303, ?hy303⟩) (by assumption) ?rest303
                case hi303 => simp only [List.getElem?_toArray, List.getElem?_cons_succ, List.getElem?_cons_zero]; rfl
                case hQ303 => exact fun _ _ _ h => h
                case hw303 => rfl
                case hy303 => (intro W hW; obtain ⟨q0, q1, q2, q3, q4, q5⟩ := HC5.out W hW; go_simp; all_goals rfl)
                simp only [Act.put, List.setIfInBounds_toArray, List.set_cons_zero, List.set_cons_succ]
                refine wpAnyH_take (i := 3) (oi := ?oi304) (v := ?v304) ?hi304 (by kernel_rfl) (by kernel_rfl) (by kernel_rfl) ?hQ304 (Or.inl ⟨?hw304, ?hy304⟩) (by assumption) ?rest304
                case hi304 => simp only [List.getElem?_toArray, List.getElem?_cons_succ, List.getElem?_cons_zero]; rfl
                case hQ304 => exact fun _ _ _ h => h
                case hw304 => rfl
                case hy304 => (intro W hW; obtain ⟨q0, q1, q2, q3, q4, q5⟩ := HC5.out W hW; go_simp; all_goals rfl)
                simp only [Act.put, List.setIfInBounds_toArray, List.set_cons_zero, List.set_cons_succ]
                refine wpAnyH_take (i := 4) (oi := ?oi305) (v := ?v305) ?hi305 (by kernel_rfl) (by kernel_rfl) (by kernel_rfl) ?hQ305 (Or.inl ⟨?hw305, ?hy305⟩) (by assumption) ?rest305
                case hi305 => simp only [List.getElem?_toArray, List.getElem?_cons_succ, List.getElem?_cons_zero]; rfl
                case hQ305 => exact fun _ _ _ h => h
                case hw305 => rfl
                case hy305 => (intro W hW; obtain ⟨q0, q1, q2, q3, q4, q5⟩ := HC5.out W hW; go_simp; all_goals rfl)
                simp only [Act.put, List.setIfInBounds_toArray, List.set_cons_zero, List.set_cons_succ]
                refine wpAnyH_take (i := 5) (oi := ?oi306) (v := ?v306) ?hi306 (by kernel_rfl) (by kernel_rfl) (by kernel_rfl) ?hQ306 (Or.inl ⟨?hw306, ?hy306⟩) (by assumption) ?rest306
                case hi306 => simp only [List.getElem?_toArray, List.getElem?_cons_succ, List.getElem?_cons_zero]; rfl
                case hQ306 => exact fun _ _ _ h => h
                case hw306 => rfl
                case hy306 => (intro W hW; obtain ⟨q0, q1, q2, q3, q4, q5⟩ := HC5.out W hW; go_simp; all_goals rfl)
                simp only [Act.put, List.setIfInBounds_toArray, List.set_cons_zero, List.set_cons_succ]
                refine wpAnyH_take (i := 6) (oi := ?oi307) (v := ?v307) ?hi307 (by kernel_rfl) (by kernel_rfl) (by kernel_rfl) ?hQ307 (Or.inl ⟨?hw307, ?hy307⟩) (by assumption) ?rest307
                case hi307 => simp only [List.getElem?_toArray, List.getElem?_cons_succ, List.getElem?_cons_zero]; rfl
                case hQ307 => exact fun _ _ _ h => h
                case hw307 => rfl
                case hy307 => (intro W hW; obtain ⟨q0, q1, q2, q3, q4, q5⟩ := HC5.out W hW; go_simp; all_goals rfl)
                simp only [Act.put, List.setIfInBounds_toArray, List.set_cons_zero, List.set_cons_succ]
                refine wpAnyH_take (i := 7) (oi := ?oi308) (v := ?v308) ?hi308 (by kernel_rfl) (by kernel_rfl) (by kernel_rfl) ?hQ308 (Or.inl ⟨?hw308, ?hy308⟩) (by assumption) ?rest308
                case hi308 => simp only [List.getElem?_toArray, List.getElem?_cons_succ, List.getElem?_cons_zero]; rfl
                case hQ308 => exact fun _ _ _ h => h
                case hw308 => rfl
                case hy308 => (intro W hW; obtain ⟨q0, q1, q2, q3, q4, q5⟩ := HC5.out W hW; go_simp; all_goals rfl)
                simp only [Act.put, List.setIfInBounds_toArray, List.set_cons_zero, List.set_cons_succ]
                refine wpAnyH_take (i := 8) (oi := ?oi309) (v := ?v309) ?hi309 (by kernel_rfl) (by kernel_rfl) (by kernel_rfl) ?hQ309 (Or.inl ⟨?hw309, ?hy309⟩) (by assumption) ?rest309
                case hi309 => simp only [List.getElem?_toArray, List.getElem?_cons_succ, List.getElem?_cons_zero]; rfl
                case hQ309 => exact fun _ _ _ h => h
                case hw309 => rfl
                case hy309 => (intro W hW; obtain ⟨q0, q1, q2, q3, q4, q5⟩ := HC5.out W hW; go_simp; all_goals rfl)
                simp only [Act.put, List.setIfInBounds_toArray, List.set_cons_zero, List.set_cons_succ]
                refine wpAnyH_take (i := 9) (oi := ?oi310) (v := ?v310) ?hi310 (by kernel_rfl) (by kernel_rfl) (by kernel_rfl) ?hQ310 (Or.inl ⟨?hw310, ?hy310⟩) (by assumption) ?rest310
                case hi310 => simp only [List.getElem?_toArray, List.getElem?_cons_succ, List.getElem?_cons_zero]; rfl
                case hQ310 => exact fun _ _ _ h => h
                case hw310 => rfl
                case hy310 => (intro W hW; obtain ⟨q0, q1, q2, q3, q4, q5⟩ := HC5.out W hW; go_simp; all_goals rfl)
                simp only [Act.put, List.setIfInBounds_toArray, List.set_cons_zero, List.set_cons_succ]
                refine wpAnyH_take (i := 10) (oi := ?oi311) (v := ?v311) ?hi311 (by kernel_rfl) (by kernel_rfl) (by kernel_rfl) ?hQ311 (Or.inl ⟨?hw311, ?hy311⟩) (by assumption) ?rest311
                case hi311 => simp only [List.getElem?_toArray, List.getElem?_cons_succ, List.getElem?_cons_zero]; rfl
                case hQ311 => exact fun _ _ _ h => h
                case hw311 => rfl
                case hy311 => (intro W hW; obtain ⟨q0, q1, q2, q3, q4, q5⟩ := HC5.out W hW; go_simp; all_goals rfl)
                simp only [Act.put, List.setIfInBounds_toArray, List.set_cons_zero, List.set_cons_succ]
                refine wpAnyH_take (i := 11) (oi := ?oi312) (v := ?v312) ?hi312 (by kernel_rfl) (by kernel_rfl) (by kernel_rfl) ?hQ312 (Or.inl ⟨?hw312, ?hy312⟩) (by assumption) ?rest312
                case hi312 => simp only [List.getElem?_toArray, List.getElem?_cons_succ, List.getElem?_cons_zero]; rfl
                case hQ312 => exact fun _ _ _ h => h
                case hw312 => rfl
                case hy312 => (intro W hW; obtain ⟨q0, q1, q2, q3, q4, q5⟩ := HC5.out W hW; go_simp; all_goals rfl)
                simp only [Act.put, List.setIfInBounds_toArray, List.set_cons_zero, List.set_cons_succ]
                refine wpAnyH_take (i := 12) (oi := ?oi313) (v := ?v313) ?hi313 (by kernel_rfl) (by kernel_rfl) (by kernel_rfl) ?hQ313 (Or.inl ⟨?hw313, ?hy313⟩) (by assumption) ?rest313
                case hi313 => simp only [List.getElem?_toArray, List.getElem?_cons_succ, List.getElem?_cons_zero]; rfl
                case hQ313 => exact fun _ _ _ h => h
                case hw313 => rfl
                case hy313 => (intro W hW; obtain ⟨q0, q1, q2, q3, q4, q5⟩ := HC5.out W hW; go_simp; all_goals rfl)
                simp only [Act.put, List.setIfInBounds_toArray, List.set_cons_zero, List.set_cons_succ]
                refine wpAnyH_take (i := 13) (oi := ?oi314) (v := ?v314) ?hi314 (by kernel_rfl) (by kernel_rfl) (by kernel_rfl) ?hQ314 (Or.inl ⟨?hw314, ?hy314⟩) (by assumption) ?rest314
                case hi314 => simp only [List.getElem?_toArray, List.getElem?_cons_succ, List.getElem?_cons_zero]; rfl
                case hQ314 => exact fun _ _ _ h => h
                case hw314 => rfl
                case hy314 => (intro W hW; obtain ⟨q0, q1, q2, q3, q4, q5⟩ := HC5.out W hW; go_simp; all_goals rfl)
                simp only [Act.put, List.setIfInBounds_toArray, List.set_cons_zero, List.set_cons_succ]
                refine wpAnyH_take (i := 14) (oi := ?oi315) (v := ?v315) ?hi315 (by kernel_rfl) (by kernel_rfl) (by kernel_rfl) ?hQ315 (Or.inl ⟨?hw315, ?hy315⟩) (by assumption) ?rest315
                case hi315 => simp only [List.getElem?_toArray, List.getElem?_cons_succ, List.getElem?_cons_zero]; rfl
                case hQ315 => exact fun _ _ _ h => h
                case hw315 => rfl
                case hy315 => (intro W hW; obtain ⟨q0, q1, q2, q3, q4, q5⟩ := HC5.out W hW; go_simp; all_goals rfl)
                simp only [Act.put, List.setIfInBounds_toArray, List.set_cons_zero, List.set_cons_succ]
                refine wpAnyH_take (i := 15) (oi := ?oi316) (v := ?v316) ?hi316 (by kernel_rfl) (by kernel_rfl) (by kernel_rfl) ?hQ316 (Or.inl ⟨?hw316, ?hy316⟩) (by assumption) ?rest316
                case hi316 => simp only [List.getElem?_toArray, List.getElem?_cons_succ, List.getElem?_cons_zero]; rfl
                case hQ316 => exact fun _ _ _ h => h
                case hw316 => rfl
                case hy316 => (intro W hW; obtain ⟨q0, q1, q2, q3, q4, q5⟩ := HC5.out W hW; go_simp; all_goals rfl)
                simp only [Act.put, List.setIfInBounds_toArray, List.set_cons_zero, List.set_cons_succ]
                refine wpAnyH_take (i := 16) (oi := ?oi317) (v := ?v317) ?hi317 (by kernel_rfl) (by kernel_rfl) (by kernel_rfl) ?hQ317 (Or.inl ⟨?hw317, ?hy317⟩) (by assumption) ?rest317
                case hi317 => simp only [List.getElem?_toArray, List.getElem?_cons_succ, List.getElem?_cons_zero]; rfl
                case hQ317 => exact fun _ _ _ h => h
                case hw317 => rfl
                case hy317 => (intro W hW; obtain ⟨q0, q1, q2, q3, q4, q5⟩ := HC5.out W hW; go_simp; all_goals rfl)
                simp only [Act.put, List.setIfInBounds_toArray, List.set_cons_zero, List.set_cons_succ]
                refine wpAnyH_take (i := 17) (oi := ?oi318) (v := ?v318) ?hi318 (by kernel_rfl) (by kernel_rfl) (by kernel_rfl) ?hQ318 (Or.inl ⟨?hw318, ?hy318⟩) (by assumption) ?rest318
                case hi318 => simp only [List.getElem?_toArray, List.getElem?_cons_succ, List.getElem?_cons_zero]; rfl
                case hQ318 => exact fun _ _ _ h => h
                case hw318 => rfl
                case hy318 => (intro W hW; obtain ⟨q0, q1, q2, q3, q4, q5⟩ := HC5.out W hW; go_simp; all_goals rfl)
                simp only [Act.put, List.setIfInBounds_toArray, List.set_cons_zero, List.set_cons_succ]
                refine wpAnyH_take (i := 18) (oi := ?oi319) (v := ?v319) ?hi319 (by kernel_rfl) (by kernel_rfl) (by kernel_rfl) ?hQ319 (Or.inl ⟨?hw319, ?hy319⟩) (by assumption) ?rest319
                case hi319 => simp only [List.getElem?_toArray, List.getElem?_cons_succ, List.getElem?_cons_zero]; rfl
                case hQ319 => exact fun _ _ _ h => h
                case hw319 => rfl
                case hy319 => (intro W hW; obtain ⟨q0, q1, q2, q3, q4, q5⟩ := HC5.out W hW; go_simp; all_goals rfl)
                simp only [Act.put, List.setIfInBounds_toArray, List.set_cons_zero, List.set_cons_succ]
                refine wpAnyH_take (i := 19) (oi := ?oi320) (v := ?v320) ?hi320 (by kernel_rfl) (by kernel_rfl) (by kernel_rfl) ?hQ320 (Or.inl ⟨?hw320, ?hy320⟩) (by assumption) ?rest320
                case hi320 => simp only [List.getElem?_toArray, List.getElem?_cons_succ, List.getElem?_cons_zero]; rfl
                case hQ320 => exact fun _ _ _ h => h
                case hw320 => rfl
                case hy320 => (intro W hW; obtain ⟨q0, q1, q2, q3, q4, q5⟩ := HC5.out W hW; go_simp; all_goals rfl)
                simp only [Act.put, List.setIfInBounds_toArray, List.set_cons_zero, List.set_cons_succ]
                refine wpAnyH_ready (rs := [20]) (by kernel_rfl) (by simp) ?_
                refine AllReadyH.cons (i := 20) (o := ?o321) ?ho321 (fun Kq hK => ?step321) AllReadyH.nil
                case ho321 => simp only [List.getElem?_toArray, List.getElem?_cons_succ, List.getElem?_cons_zero]; rfl
                go_simp
                (go_at_call 26; refine (HSH.out _ hHeld).mono ?_; rintro e w8 ⟨rfl, hb⟩)
                have hF : Below wr.heap.size wr w8 := hHeld.trans (hb.mono hHeld.size)
                refine hK.out _ _ hF (fun _ => ?_)
                clear hK Kq hHeld hb
                have hHeld := hF
                clear hF
                try simp only [Act.put, List.setIfInBounds_toArray, List.set_cons_zero, List.set_cons_succ]
                refine wpAnyH_take (i := 21) (oi := ?oi322) (v := ?v322) ?hi322 (by kernel_rfl) (by kernel_rfl) (by kernel_rfl) ?hQ322 (Or.inl ⟨?hw322, ?hy322⟩) (by assumption) ?rest322
                case hi322 => simp only [List.getElem?_toArray, List.getElem?_cons_succ, List.getElem?_cons_zero]; rfl
                case hQ322 => exact fun _ _ _ h => h
                case hw322 => rfl
                case hy322 => (intro W hW; obtain ⟨q0, q1, q2, q3, q4, q5⟩ := HC5.out W hW; go_simp; all_goals rfl)
                simp only [Act.put, List.setIfInBounds_toArray, List.set_cons_zero, List.set_cons_succ]
                refine wpAnyH_take (i := 22) (oi := ?oi323) (v := ?v323) ?hi323 (by kernel_rfl) (by kernel_rfl) (by kernel_rfl) ?hQ323 (Or.inl ⟨?hw323, ?hy323⟩) (by assumption) ?rest323
                case hi323 => simp only [List.getElem?_toArray, List.getElem?_cons_succ, List.getElem?_cons_zero]; rfl
                case hQ323 => exact fun _ _ _ h => h
                case hw323 => rfl
                case hy323 => (intro W hW; obtain ⟨q0, q1, q2, q3, q4, q5⟩ := HC5.out W hW; go_simp; all_goals rfl)
                simp only [Act.put, List.setIfInBounds_toArray, List.set_cons_zero, List.set_cons_succ]
                refine wpAnyH_done (by kernel_rfl) ?_ _
                have HB8 : Hd (Below wr.heap.size wr w8) := ⟨hHeld⟩
                clear hHeld hk' HSH
                obtain ⟨w7, hw7⟩ : ∃ w7, w7 = wr := ⟨_, rfl⟩
                rw [← hw7] at HB8 HC5 HBX HVW H7
                clear hw7
                go_wp2_with fail
                go_loopw [16] (fun iv wr => ∃ j : Nat, j ≤ L.length ∧ iv = .int .i64 (j : Int) ∧ Below w7.heap.size w7 wr) (fun iv _ => L.length - (intOf iv).toNat)
                case atStart => exact ⟨0, by omega, rfl, HB8.out⟩
                case round =>
                  clear HB8
                  obtain ⟨j, hj, rfl, hb⟩ := hrel
                  have HB := Hd.mk hb
                  clear hb
                  by_cases hlt : j < L.length
                  · have hji : (j : Int) < (L.length : Int) := by omega
                    obtain ⟨x, hx⟩ : ∃ x, L.getD j (0, 0, 0) = x := ⟨_, rfl⟩
                    have HXM : Hd (x ∈ L) := ⟨hx ▸ getD_mem hlt⟩
                    have hGL := H7.out.2.keep HB.out
                    obtain ⟨g, c9', hv, _, hg, hr⟩ := hGL.at_ hlt
                    rw [hx] at hr
                    injection hv with hv1 hv2 hv3
                    subst hv1 hv3
                    obtain ⟨D1, d1, hf, _, _⟩ := own_form (hGL.rows x HXM.out)
                    change f x = .slice D1 (cnt S q x) d1 at hf
                    have hno := HT.out.2 x HXM.out
                    obtain ⟨m2, hm2⟩ : ∃ z, cnt S q x = z := ⟨_, rfl⟩
                    have hmn2 : m2 ≤ q := hm2 ▸ cnt_le _ _ _
                    rw [hm2] at hf hno
                    obtain ⟨e2, q2, s2⟩ := x
                    have hce : encG f (e2, q2, s2) = [.int .i64 e2, .int .i64 q2, .int .i64 s2, .slice D1 m2 d1] := by unfold encG; rw [hf]
                    rw [hce] at hr
                    have HR := Hd.mk hr
                    have HG := Hd.mk hg
                    have HX4 : Hd (∀ W, Below wr.heap.size wr W → W.cell? ⟨g, j * 4, none⟩ = some (.int .i64 e2) ∧ W.cell? ⟨g, j * 4 + 1, none⟩ = some (.int .i64 q2) ∧ W.cell? ⟨g, j * 4 + 2, none⟩ = some (.int .i64 s2) ∧ W.cell? ⟨g, j * 4 + 3, none⟩ = some (.slice D1 m2 d1)) := ⟨fun W hW => by
                      have kk : ∀ {i : Nat} {u : Value}, wr.cell? ⟨g, i, none⟩ = some u → W.cell? ⟨g, i, none⟩ = some u := fun {i u} hc => (hW.cell (p := ⟨g, i, none⟩) HG.out).trans hc
                      exact ⟨kk (HR.out 0 _ rfl), kk (HR.out 1 _ rfl), kk (HR.out 2 _ rfl), kk (HR.out 3 _ rfl)⟩⟩
                    have HC6 : Hd (∀ W, Below wr.heap.size wr W → _) := ⟨fun W hW => HC5.out W (HB.out.trans (hW.mono HB.out.size))⟩
                    clear hr hg hf hce hv2 hx hm2 hGL
                    by_cases hk2 : k ≤ (m2 : Int)
                    · have hno := hno hk2
                      have HOL : Hd (∀ W, Calls Try.prog 27 #[.agg #[.int .i64 ep, .int .i64 ct], .int .i64 sz, .agg #[.int .i64 e2, .int .i64 q2], .int .i64 s2] W fun e w' => e = .returned (.bool false) ∧ Below W.heap.size W w') := ⟨fun W => by
                        have h := older_any W ep ct sz e2 q2 s2
                        rw [decide_eq_false hno] at h
                        exact h⟩
                      clear hno
                      go_upto_region 38 with fail
                      refine wp_region_held_drew (S := fun W => Below wr.heap.size wr W) (by kernel_rfl) ((Below.refl _ _).drew) (fun hHeld => ?_)
                      refine wpAnyH_take (i := 0) (oi := ?oi401) (v := ?v401) ?hi401 (by kernel_rfl) (by kernel_rfl) (by kernel_rfl) ?hQ401 (Or.inl ⟨?hw401, ?hy401⟩) (by assumption) ?rest401
                      case hi401 => simp only [List.getElem?_toArray, List.getElem?_cons_succ, List.getElem?_cons_zero]; rfl
                      case hQ401 => exact fun _ _ _ h => h
                      case hw401 => rfl
                      case hy401 => (intro W hW; obtain ⟨q0, q1, q2, q3, q4, q5⟩ := HC6.out W hW; obtain ⟨p0, p1, p2, p3⟩ := HX4.out W hW; go_simp; all_goals rfl)
                      simp only [Act.put, List.setIfInBounds_toArray, List.set_cons_zero, List.set_cons_succ]
                      refine wpAnyH_take (i := 1) (oi := ?oi402) (v := ?v402) ?hi402 (by kernel_rfl) (by kernel_rfl) (by kernel_rfl) ?hQ402 (Or.inl ⟨?hw402, ?hy402⟩) (by assumption) ?rest402
                      case hi402 => simp only [List.getElem?_toArray, List.getElem?_cons_succ, List.getElem?_cons_zero]; rfl
                      case hQ402 => exact fun _ _ _ h => h
                      case hw402 => rfl
                      case hy402 => (intro W hW; obtain ⟨q0, q1, q2, q3, q4, q5⟩ := HC6.out W hW; obtain ⟨p0, p1, p2, p3⟩ := HX4.out W hW; go_simp; all_goals rfl)
                      simp only [Act.put, List.setIfInBounds_toArray, List.set_cons_zero, List.set_cons_succ]
                      refine wpAnyH_take (i := 2) (oi := ?oi403) (v := ?v403) ?hi403 (by kernel_rfl) (by kernel_rfl) (by kernel_rfl) ?hQ403 (Or.inl ⟨?hw403, ?hy403⟩) (by assumption) ?rest403
                      case hi403 => simp only [List.getElem?_toArray, List.getElem?_cons_succ, List.getElem?_cons_zero]; rfl
                      case hQ403 => exact fun _ _ _ h => h
                      case hw403 => rfl
                      case hy403 => (intro W hW; obtain ⟨q0, q1, q2, q3, q4, q5⟩ := HC6.out W hW; obtain ⟨p0, p1, p2, p3⟩ := HX4.out W hW; go_simp; all_goals rfl)
                      simp only [Act.put, List.setIfInBounds_toArray, List.set_cons_zero, List.set_cons_succ]
                      refine wpAnyH_take (i := 3) (oi := ?oi404) (v := ?v404) ?hi404 (by kernel_rfl) (by kernel_rfl) (by kernel_rfl) ?hQ404 (Or.inl ⟨?hw404, ?hy404⟩) (by assumption) ?rest404
                      case hi404 => simp only [List.getElem?_toArray, List.getElem?_cons_succ, List.getElem?_cons_zero]; rfl
                      case hQ404 => exact fun _ _ _ h => h
                      case hw404 => rfl
                      case hy404 => (intro W hW; obtain ⟨q0, q1, q2, q3, q4, q5⟩ := HC6.out W hW; obtain ⟨p0, p1, p2, p3⟩ := HX4.out W hW; go_simp; all_goals rfl)
                      simp only [Act.put, List.setIfInBounds_toArray, List.set_cons_zero, List.set_cons_succ]
                      refine wpAnyH_take (i := 4) (oi := ?oi405) (v := ?v405) ?hi405 (by kernel_rfl) (by kernel_rfl) (by kernel_rfl) ?hQ405 (Or.inl ⟨?hw405, ?hy405⟩) (by assumption) ?rest405
                      case hi405 => simp only [List.getElem?_toArray, List.getElem?_cons_succ, List.getElem?_cons_zero]; rfl
                      case hQ405 => exact fun _ _ _ h => h
                      case hw405 => rfl
                      case hy405 => (intro W hW; obtain ⟨q0, q1, q2, q3, q4, q5⟩ := HC6.out W hW; obtain ⟨p0, p1, p2, p3⟩ := HX4.out W hW; go_simp; all_goals rfl)
                      simp only [Act.put, List.setIfInBounds_toArray, List.set_cons_zero, List.set_cons_succ]
                      refine wpAnyH_take (i := 5) (oi := ?oi406) (v := ?v406) ?hi406 (by kernel_rfl) (by kernel_rfl) (by kernel_rfl) ?hQ406 (Or.inl ⟨?hw406, ?hy406⟩) (by assumption) ?rest406
                      case hi406 => simp only [List.getElem?_toArray, List.getElem?_cons_succ, List.getElem?_cons_zero]; rfl
                      case hQ406 => exact fun _ _ _ h => h
                      case hw406 => rfl
                      case hy406 => (intro W hW; obtain ⟨q0, q1, q2, q3, q4, q5⟩ := HC6.out W hW; obtain ⟨p0, p1, p2, p3⟩ := HX4.out W hW; go_simp; all_goals rfl)
                      simp only [Act.put, List.setIfInBounds_toArray, List.set_cons_zero, List.set_cons_succ]
                      refine wpAnyH_take (i := 6) (oi := ?oi407) (v := ?v407) ?hi407 (by kernel_rfl) (by kernel_rfl) (by kernel_rfl) ?hQ407 (Or.inl ⟨?hw407, ?hy407⟩) (by assumption) ?rest407
                      case hi407 => simp only [List.getElem?_toArray, List.getElem?_cons_succ, List.getElem?_cons_zero]; rfl
                      case hQ407 => exact fun _ _ _ h => h
                      case hw407 => rfl
                      case hy407 => (intro W hW; obtain ⟨q0, q1, q2, q3, q4, q5⟩ := HC6.out W hW; obtain ⟨p0, p1, p2, p3⟩ := HX4.out W hW; go_simp; all_goals rfl)
                      simp only [Act.put, List.setIfInBounds_toArray, List.set_cons_zero, List.set_cons_succ]
                      refine wpAnyH_take (i := 7) (oi := ?oi408) (v := ?v408) ?hi408 (by kernel_rfl) (by kernel_rfl) (by kernel_rfl) ?hQ408 (Or.inl ⟨?hw408, ?hy408⟩) (by assumption) ?rest408
                      case hi408 => simp only [List.getElem?_toArray, List.getElem?_cons_succ, List.getElem?_cons_zero]; rfl
                      case hQ408 => exact fun _ _ _ h => h
                      case hw408 => rfl
                      case hy408 => (intro W hW; obtain ⟨q0, q1, q2, q3, q4, q5⟩ := HC6.out W hW; obtain ⟨p0, p1, p2, p3⟩ := HX4.out W hW; go_simp; all_goals rfl)
                      simp only [Act.put, List.setIfInBounds_toArray, List.set_cons_zero, List.set_cons_succ]
                      refine wpAnyH_take (i := 8) (oi := ?oi409) (v := ?v409) ?hi409 (by kernel_rfl) (by kernel_rfl) (by kernel_rfl) ?hQ409 (Or.inl ⟨?hw409, ?hy409⟩) (by assumption) ?rest409
                      case hi409 => simp only [List.getElem?_toArray, List.getElem?_cons_succ, List.getElem?_cons_zero]; rfl
                      case hQ409 => exact fun _ _ _ h => h
                      case hw409 => rfl
                      case hy409 => (intro W hW; obtain ⟨q0, q1, q2, q3, q4, q5⟩ := HC6.out W hW; obtain ⟨p0, p1, p2, p3⟩ := HX4.out W hW; go_simp; all_goals rfl)
                      simp only [Act.put, List.setIfInBounds_toArray, List.set_cons_zero, List.set_cons_succ]
                      refine wpAnyH_take (i := 9) (oi := ?oi410) (v := ?v410) ?hi410 (by kernel_rfl) (by kernel_rfl) (by kernel_rfl) ?hQ410 (Or.inl ⟨?hw410, ?hy410⟩) (by assumption) ?rest410
                      case hi410 => simp only [List.getElem?_toArray, List.getElem?_cons_succ, List.getElem?_cons_zero]; rfl
                      case hQ410 => exact fun _ _ _ h => h
                      case hw410 => rfl
                      case hy410 => (intro W hW; obtain ⟨q0, q1, q2, q3, q4, q5⟩ := HC6.out W hW; obtain ⟨p0, p1, p2, p3⟩ := HX4.out W hW; go_simp; all_goals rfl)
                      simp only [Act.put, List.setIfInBounds_toArray, List.set_cons_zero, List.set_cons_succ]
                      refine wpAnyH_take (i := 10) (oi := ?oi411) (v := ?v411) ?hi411 (by kernel_rfl) (by kernel_rfl) (by kernel_rfl) ?hQ411 (Or.inl ⟨?hw411, ?hy411⟩) (by assumption) ?rest411
                      case hi411 => simp only [List.getElem?_toArray, List.getElem?_cons_succ, List.getElem?_cons_zero]; rfl
                      case hQ411 => exact fun _ _ _ h => h
                      case hw411 => rfl
                      case hy411 => (intro W hW; obtain ⟨q0, q1, q2, q3, q4, q5⟩ := HC6.out W hW; obtain ⟨p0, p1, p2, p3⟩ := HX4.out W hW; go_simp; all_goals rfl)
                      simp only [Act.put, List.setIfInBounds_toArray, List.set_cons_zero, List.set_cons_succ]
                      refine wpAnyH_take (i := 11) (oi := ?oi412) (v := ?v412) ?hi412 (by kernel_rfl) (by kernel_rfl) (by kernel_rfl) ?hQ412 (Or.inl ⟨?hw412, ?hy412⟩) (by assumption) ?rest412
                      case hi412 => simp only [List.getElem?_toArray, List.getElem?_cons_succ, List.getElem?_cons_zero]; rfl
                      case hQ412 => exact fun _ _ _ h => h
                      case hw412 => rfl
                      case hy412 => (intro W hW; obtain ⟨q0, q1, q2, q3, q4, q5⟩ := HC6.out W hW; obtain ⟨p0, p1, p2, p3⟩ := HX4.out W hW; go_simp; all_goals rfl)
                      simp only [Act.put, List.setIfInBounds_toArray, List.set_cons_zero, List.set_cons_succ]
                      refine wpAnyH_take (i := 12) (oi := ?oi413) (v := ?v413) ?hi413 (by kernel_rfl) (by kernel_rfl) (by kernel_rfl) ?hQ413 (Or.inl ⟨?hw413, ?hy413⟩) (by assumption) ?rest413
                      case hi413 => simp only [List.getElem?_toArray, List.getElem?_cons_succ, List.getElem?_cons_zero]; rfl
                      case hQ413 => exact fun _ _ _ h => h
                      case hw413 => rfl
                      case hy413 => (intro W hW; obtain ⟨q0, q1, q2, q3, q4, q5⟩ := HC6.out W hW; obtain ⟨p0, p1, p2, p3⟩ := HX4.out W hW; go_simp; all_goals rfl)
                      simp only [Act.put, List.setIfInBounds_toArray, List.set_cons_zero, List.set_cons_succ]
                      refine wpAnyH_take (i := 13) (oi := ?oi414) (v := ?v414) ?hi414 (by kernel_rfl) (by kernel_rfl) (by kernel_rfl) ?hQ414 (Or.inl ⟨?hw414, ?hy414⟩) (by assumption) ?rest414
                      case hi414 => simp only [List.getElem?_toArray, List.getElem?_cons_succ, List.getElem?_cons_zero]; rfl
                      case hQ414 => exact fun _ _ _ h => h
                      case hw414 => rfl
                      case hy414 => (intro W hW; obtain ⟨q0, q1, q2, q3, q4, q5⟩ := HC6.out W hW; obtain ⟨p0, p1, p2, p3⟩ := HX4.out W hW; go_simp; all_goals rfl)
                      simp only [Act.put, List.setIfInBounds_toArray, List.set_cons_zero, List.set_cons_succ]
                      refine wpAnyH_take (i := 14) (oi := ?oi415) (v := ?v415) ?hi415 (by kernel_rfl) (by kernel_rfl) (by kernel_rfl) ?hQ415 (Or.inl ⟨?hw415, ?hy415⟩) (by assumption) ?rest415
                      case hi415 => simp only [List.getElem?_toArray, List.getElem?_cons_succ, List.getElem?_cons_zero]; rfl
                      case hQ415 => exact fun _ _ _ h => h
                      case hw415 => rfl
                      case hy415 => (intro W hW; obtain ⟨q0, q1, q2, q3, q4, q5⟩ := HC6.out W hW; obtain ⟨p0, p1, p2, p3⟩ := HX4.out W hW; go_simp; all_goals rfl)
                      simp only [Act.put, List.setIfInBounds_toArray, List.set_cons_zero, List.set_cons_succ]
                      refine wpAnyH_take (i := 15) (oi := ?oi416) (v := ?v416) ?hi416 (by kernel_rfl) (by kernel_rfl) (by kernel_rfl) ?hQ416 (Or.inl ⟨?hw416, ?hy416⟩) (by assumption) ?rest416
                      case hi416 => simp only [List.getElem?_toArray, List.getElem?_cons_succ, List.getElem?_cons_zero]; rfl
                      case hQ416 => exact fun _ _ _ h => h
                      case hw416 => rfl
                      case hy416 => (intro W hW; obtain ⟨q0, q1, q2, q3, q4, q5⟩ := HC6.out W hW; obtain ⟨p0, p1, p2, p3⟩ := HX4.out W hW; go_simp; all_goals rfl)
                      simp only [Act.put, List.setIfInBounds_toArray, List.set_cons_zero, List.set_cons_succ]
                      refine wpAnyH_take (i := 16) (oi := ?oi417) (v := ?v417) ?hi417 (by kernel_rfl) (by kernel_rfl) (by kernel_rfl) ?hQ417 (Or.inl ⟨?hw417, ?hy417⟩) (by assumption) ?rest417
                      case hi417 => simp only [List.getElem?_toArray, List.getElem?_cons_succ, List.getElem?_cons_zero]; rfl
                      case hQ417 => exact fun _ _ _ h => h
                      case hw417 => rfl
                      case hy417 => (intro W hW; obtain ⟨q0, q1, q2, q3, q4, q5⟩ := HC6.out W hW; obtain ⟨p0, p1, p2, p3⟩ := HX4.out W hW; go_simp; all_goals rfl)
                      simp only [Act.put, List.setIfInBounds_toArray, List.set_cons_zero, List.set_cons_succ]
                      refine wpAnyH_take (i := 17) (oi := ?oi418) (v := ?v418) ?hi418 (by kernel_rfl) (by kernel_rfl) (by kernel_rfl) ?hQ418 (Or.inl ⟨?hw418, ?hy418⟩) (by assumption) ?rest418
                      case hi418 => simp only [List.getElem?_toArray, List.getElem?_cons_succ, List.getElem?_cons_zero]; rfl
                      case hQ418 => exact fun _ _ _ h => h
                      case hw418 => rfl
                      case hy418 => (intro W hW; obtain ⟨q0, q1, q2, q3, q4, q5⟩ := HC6.out W hW; obtain ⟨p0, p1, p2, p3⟩ := HX4.out W hW; go_simp; all_goals rfl)
                      simp only [Act.put, List.setIfInBounds_toArray, List.set_cons_zero, List.set_cons_succ]
                      refine wpAnyH_take (i := 18) (oi := ?oi419) (v := ?v419) ?hi419 (by kernel_rfl) (by kernel_rfl) (by kernel_rfl) ?hQ419 (Or.inl ⟨?hw419, ?hy419⟩) (by assumption) ?rest419
                      case hi419 => simp only [List.getElem?_toArray, List.getElem?_cons_succ, List.getElem?_cons_zero]; rfl
                      case hQ419 => exact fun _ _ _ h => h
                      case hw419 => rfl
                      case hy419 => (intro W hW; obtain ⟨q0, q1, q2, q3, q4, q5⟩ := HC6.out W hW; obtain ⟨p0, p1, p2, p3⟩ := HX4.out W hW; go_simp; all_goals rfl)
                      simp only [Act.put, List.setIfInBounds_toArray, List.set_cons_zero, List.set_cons_succ]
                      refine wpAnyH_take (i := 19) (oi := ?oi420) (v := ?v420) ?hi420 (by kernel_rfl) (by kernel_rfl) (by kernel_rfl) ?hQ420 (Or.inl ⟨?hw420, ?hy420⟩) (by assumption) ?rest420
                      case hi420 => simp only [List.getElem?_toArray, List.getElem?_cons_succ, List.getElem?_cons_zero]; rfl
                      case hQ420 => exact fun _ _ _ h => h
                      case hw420 => rfl
                      case hy420 => (intro W hW; obtain ⟨q0, q1, q2, q3, q4, q5⟩ := HC6.out W hW; obtain ⟨p0, p1, p2, p3⟩ := HX4.out W hW; go_simp; all_goals rfl)
                      simp only [Act.put, List.setIfInBounds_toArray, List.set_cons_zero, List.set_cons_succ]
                      refine wpAnyH_take (i := 20) (oi := ?oi421) (v := ?v421) ?hi421 (by kernel_rfl) (by kernel_rfl) (by kernel_rfl) ?hQ421 (Or.inl ⟨?hw421, ?hy421⟩) (by assumption) ?rest421
                      case hi421 => simp only [List.getElem?_toArray, List.getElem?_cons_succ, List.getElem?_cons_zero]; rfl
                      case hQ421 => exact fun _ _ _ h => h
                      case hw421 => rfl
                      case hy421 => (intro W hW; obtain ⟨q0, q1, q2, q3, q4, q5⟩ := HC6.out W hW; obtain ⟨p0, p1, p2, p3⟩ := HX4.out W hW; go_simp; all_goals rfl)
                      simp only [Act.put, List.setIfInBounds_toArray, List.set_cons_zero, List.set_cons_succ]
                      refine wpAnyH_take (i := 21) (oi := ?oi422) (v := ?v422) ?hi422 (by kernel_rfl) (by kernel_rfl) (by kernel_rfl) ?hQ422 (Or.inl ⟨?hw422, ?hy422⟩) (by assumption) ?rest422
                      case hi422 => simp only [List.getElem?_toArray, List.getElem?_cons_succ, List.getElem?_cons_zero]; rfl
                      case hQ422 => exact fun _ _ _ h => h
                      case hw422 => rfl
                      case hy422 => (intro W hW; obtain ⟨q0, q1, q2, q3, q4, q5⟩ := HC6.out W hW; obtain ⟨p0, p1, p2, p3⟩ := HX4.out W hW; go_simp; all_goals rfl)
                      simp only [Act.put, List.setIfInBounds_toArray, List.set_cons_zero, List.set_cons_succ]
                      refine wpAnyH_take (i := 22) (oi := ?oi423) (v := ?v423) ?hi423 (by kernel_rfl) (by kernel_rfl) (by kernel_rfl) ?hQ423 (Or.inl ⟨?hw423, ?hy423⟩) (by assumption) ?rest423
                      case hi423 => simp only [List.getElem?_toArray, List.getElem?_cons_succ, List.getElem?_cons_zero]; rfl
                      case hQ423 => exact fun _ _ _ h => h
                      case hw423 => rfl
                      case hy423 => (intro W hW; obtain ⟨q0, q1, q2, q3, q4, q5⟩ := HC6.out W hW; obtain ⟨p0, p1, p2, p3⟩ := HX4.out W hW; go_simp; all_goals rfl)
                      simp only [Act.put, List.setIfInBounds_toArray, List.set_cons_zero, List.set_cons_succ]
                      refine wpAnyH_take (i := 23) (oi := ?oi424) (v := ?v424) ?hi424 (by kernel_rfl) (by kernel_rfl) (by kernel_rfl) ?hQ424 (Or.inl ⟨?hw424, ?hy424⟩) (by assumption) ?rest424
                      case hi424 => simp only [List.getElem?_toArray, List.getElem?_cons_succ, List.getElem?_cons_zero]; rfl
                      case hQ424 => exact fun _ _ _ h => h
                      case hw424 => rfl
                      case hy424 => (intro W hW; obtain ⟨q0, q1, q2, q3, q4, q5⟩ := HC6.out W hW; obtain ⟨p0, p1, p2, p3⟩ := HX4.out W hW; go_simp; all_goals rfl)
                      simp only [Act.put, List.setIfInBounds_toArray, List.set_cons_zero, List.set_cons_succ]
                      refine wpAnyH_ready (rs := [24]) (by kernel_rfl) (by simp) ?_
                      refine AllReadyH.cons (i := 24) (o := ?o425) ?ho425 (fun Kq hK => ?step425) AllReadyH.nil
                      case ho425 => simp only [List.getElem?_toArray, List.getElem?_cons_succ, List.getElem?_cons_zero]; rfl
                      go_simp
                      (go_at_call 27; refine (HOL.out _).mono ?_; rintro e w8 ⟨rfl, hb⟩)
                      have hF : Below wr.heap.size wr w8 := hHeld.trans (hb.mono hHeld.size)
                      refine hK.out _ _ hF (fun _ => ?_)
                      clear hK Kq hHeld hb
                      have hHeld := hF
                      clear hF
                      try simp only [Act.put, List.setIfInBounds_toArray, List.set_cons_zero, List.set_cons_succ]
                      refine wpAnyH_take (i := 25) (oi := ?oi426) (v := ?v426) ?hi426 (by kernel_rfl) (by kernel_rfl) (by kernel_rfl) ?hQ426 (Or.inl ⟨?hw426, ?hy426⟩) (by assumption) ?rest426
                      case hi426 => simp only [List.getElem?_toArray, List.getElem?_cons_succ, List.getElem?_cons_zero]; rfl
                      case hQ426 => exact fun _ _ _ h => h
                      case hw426 => rfl
                      case hy426 => (intro W hW; obtain ⟨q0, q1, q2, q3, q4, q5⟩ := HC6.out W hW; obtain ⟨p0, p1, p2, p3⟩ := HX4.out W hW; go_simp; all_goals rfl)
                      simp only [Act.put, List.setIfInBounds_toArray, List.set_cons_zero, List.set_cons_succ]
                      refine wpAnyH_done (by kernel_rfl) ?_ _
                      have H9 : Hd (Below wr.heap.size wr w8) := ⟨hHeld⟩
                      clear hHeld
                      go_wp2_with fail
                      go_roundw
                      case rel => exact ⟨j + 1, by omega, by go_num, HB.out.trans (H9.out.mono HB.out.size)⟩
                      case measure => simp [intOf]; omega
                    · clear hno
                      go_upto_region 38 with fail
                      refine wp_region_held_drew (S := fun W => Below wr.heap.size wr W) (by kernel_rfl) ((Below.refl _ _).drew) (fun hHeld => ?_)
                      refine wpAnyH_take (i := 0) (oi := ?oi501) (v := ?v501) ?hi501 (by kernel_rfl) (by kernel_rfl) (by kernel_rfl) ?hQ501 (Or.inl ⟨?hw501, ?hy501⟩) (by assumption) ?rest501
                      case hi501 => simp only [List.getElem?_toArray, List.getElem?_cons_succ, List.getElem?_cons_zero]; rfl
                      case hQ501 => exact fun _ _ _ h => h
                      case hw501 => rfl
                      case hy501 => (intro W hW; obtain ⟨q0, q1, q2, q3, q4, q5⟩ := HC6.out W hW; obtain ⟨p0, p1, p2, p3⟩ := HX4.out W hW; go_simp; all_goals rfl)
                      simp only [Act.put, List.setIfInBounds_toArray, List.set_cons_zero, List.set_cons_succ]
                      refine wpAnyH_take (i := 1) (oi := ?oi502) (v := ?v502) ?hi502 (by kernel_rfl) (by kernel_rfl) (by kernel_rfl) ?hQ502 (Or.inl ⟨?hw502, ?hy502⟩) (by assumption) ?rest502
                      case hi502 => simp only [List.getElem?_toArray, List.getElem?_cons_succ, List.getElem?_cons_zero]; rfl
                      case hQ502 => exact fun _ _ _ h => h
                      case hw502 => rfl
                      case hy502 => (intro W hW; obtain ⟨q0, q1, q2, q3, q4, q5⟩ := HC6.out W hW; obtain ⟨p0, p1, p2, p3⟩ := HX4.out W hW; go_simp; all_goals rfl)
                      simp only [Act.put, List.setIfInBounds_toArray, List.set_cons_zero, List.set_cons_succ]
                      refine wpAnyH_take (i := 2) (oi := ?oi503) (v := ?v503) ?hi503 (by kernel_rfl) (by kernel_rfl) (by kernel_rfl) ?hQ503 (Or.inl ⟨?hw503, ?hy503⟩) (by assumption) ?rest503
                      case hi503 => simp only [List.getElem?_toArray, List.getElem?_cons_succ, List.getElem?_cons_zero]; rfl
                      case hQ503 => exact fun _ _ _ h => h
                      case hw503 => rfl
                      case hy503 => (intro W hW; obtain ⟨q0, q1, q2, q3, q4, q5⟩ := HC6.out W hW; obtain ⟨p0, p1, p2, p3⟩ := HX4.out W hW; go_simp; all_goals rfl)
                      simp only [Act.put, List.setIfInBounds_toArray, List.set_cons_zero, List.set_cons_succ]
                      refine wpAnyH_take (i := 3) (oi := ?oi504) (v := ?v504) ?hi504 (by kernel_rfl) (by kernel_rfl) (by kernel_rfl) ?hQ504 (Or.inl ⟨?hw504, ?hy504⟩) (by assumption) ?rest504
                      case hi504 => simp only [List.getElem?_toArray, List.getElem?_cons_succ, List.getElem?_cons_zero]; rfl
                      case hQ504 => exact fun _ _ _ h => h
                      case hw504 => rfl
                      case hy504 => (intro W hW; obtain ⟨q0, q1, q2, q3, q4, q5⟩ := HC6.out W hW; obtain ⟨p0, p1, p2, p3⟩ := HX4.out W hW; go_simp; all_goals rfl)
                      simp only [Act.put, List.setIfInBounds_toArray, List.set_cons_zero, List.set_cons_succ]
                      refine wpAnyH_take (i := 4) (oi := ?oi505) (v := ?v505) ?hi505 (by kernel_rfl) (by kernel_rfl) (by kernel_rfl) ?hQ505 (Or.inl ⟨?hw505, ?hy505⟩) (by assumption) ?rest505
                      case hi505 => simp only [List.getElem?_toArray, List.getElem?_cons_succ, List.getElem?_cons_zero]; rfl
                      case hQ505 => exact fun _ _ _ h => h
                      case hw505 => rfl
                      case hy505 => (intro W hW; obtain ⟨q0, q1, q2, q3, q4, q5⟩ := HC6.out W hW; obtain ⟨p0, p1, p2, p3⟩ := HX4.out W hW; go_simp; all_goals rfl)
                      simp only [Act.put, List.setIfInBounds_toArray, List.set_cons_zero, List.set_cons_succ]
                      refine wpAnyH_take (i := 5) (oi := ?oi506) (v := ?v506) ?hi506 (by kernel_rfl) (by kernel_rfl) (by kernel_rfl) ?hQ506 (Or.inl ⟨?hw506, ?hy506⟩) (by assumption) ?rest506
                      case hi506 => simp only [List.getElem?_toArray, List.getElem?_cons_succ, List.getElem?_cons_zero]; rfl
                      case hQ506 => exact fun _ _ _ h => h
                      case hw506 => rfl
                      case hy506 => (intro W hW; obtain ⟨q0, q1, q2, q3, q4, q5⟩ := HC6.out W hW; obtain ⟨p0, p1, p2, p3⟩ := HX4.out W hW; go_simp; all_goals rfl)
                      simp only [Act.put, List.setIfInBounds_toArray, List.set_cons_zero, List.set_cons_succ]
                      refine wpAnyH_take (i := 6) (oi := ?oi507) (v := ?v507) ?hi507 (by kernel_rfl) (by kernel_rfl) (by kernel_rfl) ?hQ507 (Or.inl ⟨?hw507, ?hy507⟩) (by assumption) ?rest507
                      case hi507 => simp only [List.getElem?_toArray, List.getElem?_cons_succ, List.getElem?_cons_zero]; rfl
                      case hQ507 => exact fun _ _ _ h => h
                      case hw507 => rfl
                      case hy507 => (intro W hW; obtain ⟨q0, q1, q2, q3, q4, q5⟩ := HC6.out W hW; obtain ⟨p0, p1, p2, p3⟩ := HX4.out W hW; go_simp; all_goals rfl)
                      simp only [Act.put, List.setIfInBounds_toArray, List.set_cons_zero, List.set_cons_succ]
                      refine wpAnyH_take (i := 7) (oi := ?oi508) (v := ?v508) ?hi508 (by kernel_rfl) (by kernel_rfl) (by kernel_rfl) ?hQ508 (Or.inl ⟨?hw508, ?hy508⟩) (by assumption) ?rest508
                      case hi508 => simp only [List.getElem?_toArray, List.getElem?_cons_succ, List.getElem?_cons_zero]; rfl
                      case hQ508 => exact fun _ _ _ h => h
                      case hw508 => rfl
                      case hy508 => (intro W hW; obtain ⟨q0, q1, q2, q3, q4, q5⟩ := HC6.out W hW; obtain ⟨p0, p1, p2, p3⟩ := HX4.out W hW; go_simp; all_goals rfl)
                      simp only [Act.put, List.setIfInBounds_toArray, List.set_cons_zero, List.set_cons_succ]
                      refine wpAnyH_take (i := 8) (oi := ?oi509) (v := ?v509) ?hi509 (by kernel_rfl) (by kernel_rfl) (by kernel_rfl) ?hQ509 (Or.inl ⟨?hw509, ?hy509⟩) (by assumption) ?rest509
                      case hi509 => simp only [List.getElem?_toArray, List.getElem?_cons_succ, List.getElem?_cons_zero]; rfl
                      case hQ509 => exact fun _ _ _ h => h
                      case hw509 => rfl
                      case hy509 => (intro W hW; obtain ⟨q0, q1, q2, q3, q4, q5⟩ := HC6.out W hW; obtain ⟨p0, p1, p2, p3⟩ := HX4.out W hW; go_simp; all_goals rfl)
                      simp only [Act.put, List.setIfInBounds_toArray, List.set_cons_zero, List.set_cons_succ]
                      refine wpAnyH_take (i := 9) (oi := ?oi510) (v := ?v510) ?hi510 (by kernel_rfl) (by kernel_rfl) (by kernel_rfl) ?hQ510 (Or.inl ⟨?hw510, ?hy510⟩) (by assumption) ?rest510
                      case hi510 => simp only [List.getElem?_toArray, List.getElem?_cons_succ, List.getElem?_cons_zero]; rfl
                      case hQ510 => exact fun _ _ _ h => h
                      case hw510 => rfl
                      case hy510 => (intro W hW; obtain ⟨q0, q1, q2, q3, q4, q5⟩ := HC6.out W hW; obtain ⟨p0, p1, p2, p3⟩ := HX4.out W hW; go_simp; all_goals rfl)
                      simp only [Act.put, List.setIfInBounds_toArray, List.set_cons_zero, List.set_cons_succ]
                      refine wpAnyH_take (i := 10) (oi := ?oi511) (v := ?v511) ?hi511 (by kernel_rfl) (by kernel_rfl) (by kernel_rfl) ?hQ511 (Or.inr ⟨?hw511, ?hv511⟩) (by assumption) ?rest511
                      case hi511 => simp only [List.getElem?_toArray, List.getElem?_cons_succ, List.getElem?_cons_zero]; rfl
                      case hQ511 => exact fun _ _ _ h => h
                      case hw511 => rfl
                      case hv511 => rfl
                      simp only [Act.put, List.setIfInBounds_toArray, List.set_cons_zero, List.set_cons_succ]
                      refine wpAnyH_take (i := 11) (oi := ?oi512) (v := ?v512) ?hi512 (by kernel_rfl) (by kernel_rfl) (by kernel_rfl) ?hQ512 (Or.inr ⟨?hw512, ?hv512⟩) (by assumption) ?rest512
                      case hi512 => simp only [List.getElem?_toArray, List.getElem?_cons_succ, List.getElem?_cons_zero]; rfl
                      case hQ512 => exact fun _ _ _ h => h
                      case hw512 => rfl
                      case hv512 => rfl
                      simp only [Act.put, List.setIfInBounds_toArray, List.set_cons_zero, List.set_cons_succ]
                      refine wpAnyH_take (i := 12) (oi := ?oi513) (v := ?v513) ?hi513 (by kernel_rfl) (by kernel_rfl) (by kernel_rfl) ?hQ513 (Or.inr ⟨?hw513, ?hv513⟩) (by assumption) ?rest513
                      case hi513 => simp only [List.getElem?_toArray, List.getElem?_cons_succ, List.getElem?_cons_zero]; rfl
                      case hQ513 => exact fun _ _ _ h => h
                      case hw513 => rfl
                      case hv513 => rfl
                      simp only [Act.put, List.setIfInBounds_toArray, List.set_cons_zero, List.set_cons_succ]
                      refine wpAnyH_take (i := 13) (oi := ?oi514) (v := ?v514) ?hi514 (by kernel_rfl) (by kernel_rfl) (by kernel_rfl) ?hQ514 (Or.inr ⟨?hw514, ?hv514⟩) (by assumption) ?rest514
                      case hi514 => simp only [List.getElem?_toArray, List.getElem?_cons_succ, List.getElem?_cons_zero]; rfl
                      case hQ514 => exact fun _ _ _ h => h
                      case hw514 => rfl
                      case hv514 => rfl
                      simp only [Act.put, List.setIfInBounds_toArray, List.set_cons_zero, List.set_cons_succ]
                      refine wpAnyH_take (i := 14) (oi := ?oi515) (v := ?v515) ?hi515 (by kernel_rfl) (by kernel_rfl) (by kernel_rfl) ?hQ515 (Or.inr ⟨?hw515, ?hv515⟩) (by assumption) ?rest515
                      case hi515 => simp only [List.getElem?_toArray, List.getElem?_cons_succ, List.getElem?_cons_zero]; rfl
                      case hQ515 => exact fun _ _ _ h => h
                      case hw515 => rfl
                      case hv515 => rfl
                      simp only [Act.put, List.setIfInBounds_toArray, List.set_cons_zero, List.set_cons_succ]
                      refine wpAnyH_take (i := 15) (oi := ?oi516) (v := ?v516) ?hi516 (by kernel_rfl) (by kernel_rfl) (by kernel_rfl) ?hQ516 (Or.inr ⟨?hw516, ?hv516⟩) (by assumption) ?rest516
                      case hi516 => simp only [List.getElem?_toArray, List.getElem?_cons_succ, List.getElem?_cons_zero]; rfl
                      case hQ516 => exact fun _ _ _ h => h
                      case hw516 => rfl
                      case hv516 => rfl
                      simp only [Act.put, List.setIfInBounds_toArray, List.set_cons_zero, List.set_cons_succ]
                      refine wpAnyH_take (i := 16) (oi := ?oi517) (v := ?v517) ?hi517 (by kernel_rfl) (by kernel_rfl) (by kernel_rfl) ?hQ517 (Or.inr ⟨?hw517, ?hv517⟩) (by assumption) ?rest517
                      case hi517 => simp only [List.getElem?_toArray, List.getElem?_cons_succ, List.getElem?_cons_zero]; rfl
                      case hQ517 => exact fun _ _ _ h => h
                      case hw517 => rfl
                      case hv517 => rfl
                      simp only [Act.put, List.setIfInBounds_toArray, List.set_cons_zero, List.set_cons_succ]
                      refine wpAnyH_take (i := 17) (oi := ?oi518) (v := ?v518) ?hi518 (by kernel_rfl) (by kernel_rfl) (by kernel_rfl) ?hQ518 (Or.inr ⟨?hw518, ?hv518⟩) (by assumption) ?rest518
                      case hi518 => simp only [List.getElem?_toArray, List.getElem?_cons_succ, List.getElem?_cons_zero]; rfl
                      case hQ518 => exact fun _ _ _ h => h
                      case hw518 => rfl
                      case hv518 => rfl
                      simp only [Act.put, List.setIfInBounds_toArray, List.set_cons_zero, List.set_cons_succ]
                      refine wpAnyH_take (i := 18) (oi := ?oi519) (v := ?v519) ?hi519 (by kernel_rfl) (by kernel_rfl) (by kernel_rfl) ?hQ519 (Or.inr ⟨?hw519, ?hv519⟩) (by assumption) ?rest519
                      case hi519 => simp only [List.getElem?_toArray, List.getElem?_cons_succ, List.getElem?_cons_zero]; rfl
                      case hQ519 => exact fun _ _ _ h => h
                      case hw519 => rfl
                      case hv519 => rfl
                      simp only [Act.put, List.setIfInBounds_toArray, List.set_cons_zero, List.set_cons_succ]
                      refine wpAnyH_take (i := 19) (oi := ?oi520) (v := ?v520) ?hi520 (by kernel_rfl) (by kernel_rfl) (by kernel_rfl) ?hQ520 (Or.inr ⟨?hw520, ?hv520⟩) (by assumption) ?rest520
                      case hi520 => simp only [List.getElem?_toArray, List.getElem?_cons_succ, List.getElem?_cons_zero]; rfl
                      case hQ520 => exact fun _ _ _ h => h
                      case hw520 => rfl
                      case hv520 => rfl
                      simp only [Act.put, List.setIfInBounds_toArray, List.set_cons_zero, List.set_cons_succ]
                      refine wpAnyH_take (i := 20) (oi := ?oi521) (v := ?v521) ?hi521 (by kernel_rfl) (by kernel_rfl) (by kernel_rfl) ?hQ521 (Or.inr ⟨?hw521, ?hv521⟩) (by assumption) ?rest521
                      case hi521 => simp only [List.getElem?_toArray, List.getElem?_cons_succ, List.getElem?_cons_zero]; rfl
                      case hQ521 => exact fun _ _ _ h => h
                      case hw521 => rfl
                      case hv521 => rfl
                      simp only [Act.put, List.setIfInBounds_toArray, List.set_cons_zero, List.set_cons_succ]
                      refine wpAnyH_take (i := 21) (oi := ?oi522) (v := ?v522) ?hi522 (by kernel_rfl) (by kernel_rfl) (by kernel_rfl) ?hQ522 (Or.inr ⟨?hw522, ?hv522⟩) (by assumption) ?rest522
                      case hi522 => simp only [List.getElem?_toArray, List.getElem?_cons_succ, List.getElem?_cons_zero]; rfl
                      case hQ522 => exact fun _ _ _ h => h
                      case hw522 => rfl
                      case hv522 => rfl
                      simp only [Act.put, List.setIfInBounds_toArray, List.set_cons_zero, List.set_cons_succ]
                      refine wpAnyH_take (i := 22) (oi := ?oi523) (v := ?v523) ?hi523 (by kernel_rfl) (by kernel_rfl) (by kernel_rfl) ?hQ523 (Or.inr ⟨?hw523, ?hv523⟩) (by assumption) ?rest523
                      case hi523 => simp only [List.getElem?_toArray, List.getElem?_cons_succ, List.getElem?_cons_zero]; rfl
                      case hQ523 => exact fun _ _ _ h => h
                      case hw523 => rfl
                      case hv523 => rfl
                      simp only [Act.put, List.setIfInBounds_toArray, List.set_cons_zero, List.set_cons_succ]
                      refine wpAnyH_take (i := 23) (oi := ?oi524) (v := ?v524) ?hi524 (by kernel_rfl) (by kernel_rfl) (by kernel_rfl) ?hQ524 (Or.inr ⟨?hw524, ?hv524⟩) (by assumption) ?rest524
                      case hi524 => simp only [List.getElem?_toArray, List.getElem?_cons_succ, List.getElem?_cons_zero]; rfl
                      case hQ524 => exact fun _ _ _ h => h
                      case hw524 => rfl
                      case hv524 => rfl
                      simp only [Act.put, List.setIfInBounds_toArray, List.set_cons_zero, List.set_cons_succ]
                      refine wpAnyH_take (i := 24) (oi := ?oi525) (v := ?v525) ?hi525 (by kernel_rfl) (by kernel_rfl) (by kernel_rfl) ?hQ525 (Or.inr ⟨?hw525, ?hv525⟩) (by assumption) ?rest525
                      case hi525 => simp only [List.getElem?_toArray, List.getElem?_cons_succ, List.getElem?_cons_zero]; rfl
                      case hQ525 => exact fun _ _ _ h => h
                      case hw525 => rfl
                      case hv525 => rfl
                      simp only [Act.put, List.setIfInBounds_toArray, List.set_cons_zero, List.set_cons_succ]
                      refine wpAnyH_take (i := 25) (oi := ?oi526) (v := ?v526) ?hi526 (by kernel_rfl) (by kernel_rfl) (by kernel_rfl) ?hQ526 (Or.inl ⟨?hw526, ?hy526⟩) (by assumption) ?rest526
                      case hi526 => simp only [List.getElem?_toArray, List.getElem?_cons_succ, List.getElem?_cons_zero]; rfl
                      case hQ526 => exact fun _ _ _ h => h
                      case hw526 => rfl
                      case hy526 => (intro W hW; obtain ⟨q0, q1, q2, q3, q4, q5⟩ := HC6.out W hW; obtain ⟨p0, p1, p2, p3⟩ := HX4.out W hW; go_simp; all_goals rfl)
                      simp only [Act.put, List.setIfInBounds_toArray, List.set_cons_zero, List.set_cons_succ]
                      refine wpAnyH_done (by kernel_rfl) ?_ _
                      go_wp2_with fail
                      go_roundw
                      case rel => exact ⟨j + 1, by omega, by go_num, HB.out.trans (hHeld.mono HB.out.size)⟩
                      case measure => simp [intOf]; omega
                  · have hjn : j = L.length := by omega
                    subst hjn
                    have hbx := HBX.out wr HB.out
                    have HBW := Hd.mk hbx
                    clear hbx
                    go_wp2_with (refine at_load ?_; refine wpList_load_row rfl 27 (.tmp 15) rfl w6.heap.size rfl 27 #[.int .i64 1, .int .i64 ep, .int .i64 ct, .int .i64 sz, .slice A6 mm c6] (0, 0) _ HBW.out Try.underlying27 rfl infoV2 ?_)
                    have hst := stale_any wr w.heap.size q c A S (HVW.out wr HB.out).1 (HVW.out wr HB.out).2 hn 1 ep ct sz (.slice A6 mm c6)
                    obtain ⟨sl, hsl⟩ : ∃ z, (staleP S 1 ep ct sz q).length = z := ⟨_, rfl⟩
                    rw [hsl] at hst hstc
                    refine hst.mono ?_
                    clear hst
                    rintro e w9 ⟨A9', c9', rfl, hb9, _⟩
                    have HB9 : Hd (Below w7.heap.size w7 w9) := ⟨HB.out.trans (hb9.mono HB.out.size)⟩
                    obtain ⟨_, _, _, _, t4, _⟩ := HC5.out w9 HB9.out
                    have hsum : (sl : Int) + (mm : Int) = (q : Int) := by omega
                    clear hb9 hsl hstc
                    go_wp2_with fail
                    go_ret
                    exact ⟨rfl, H7.out.1.bel.trans (HB9.out.mono H7.out.1.bel.size)⟩
end Go.Proofs.Ytplpaipmkpjgfaa
