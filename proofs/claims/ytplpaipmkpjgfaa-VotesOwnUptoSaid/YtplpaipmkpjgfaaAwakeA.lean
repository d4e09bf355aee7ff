/- Contract of awake: it returns true. -/
import Derived.Test.YtplpaipmkpjgfaaBuild3
namespace Go.Proofs.Ytplpaipmkpjgfaa
open Go.RowKit
set_option linter.unusedVariables false
set_option linter.unusedSimpArgs false
def tri (a b c : Sn) (i : Nat) : Sn := match i with | 0 => a | 1 => b | _ => c
def kindSn (k : Int) : Sn := ⟨k, 0, hdr0, .slice none 0 0⟩
def aw1 : Nat → Sn := tri (shW (1, 9, 5)) (shW (1, 3, 5)) (shW (1, 3, 5))
def aw2 : Nat → Sn := tri (kindSn 1) (kindSn 1) (kindSn 1)
def aw3 : Nat → Sn := tri (kindSn 4) (kindSn 1) (kindSn 3)
theorem tri_ok {a b c : Sn} (ha : SnOk a) (hb : SnOk b) (hc : SnOk c) : ∀ r, r < 3 → SnOk (tri a b c r) := fun r hr => by
  rcases r with _ | _ | _ | r
  · exact ha
  · exact hb
  · exact hc
  · omega
theorem kind_ok {k : Int} (h : J64 k) : SnOk (kindSn k) := ⟨h, by show J64 0; unfold J64; decide, by show J64 0; unfold J64; decide, by show J64 0; unfold J64; decide, ⟨_, _, _, rfl⟩⟩
theorem aw1_ok : ∀ r, r < 3 → SnOk (aw1 r) := tri_ok (shW_ok (by unfold J64; decide) (by unfold J64; decide) (by unfold J64; decide)) (shW_ok (by unfold J64; decide) (by unfold J64; decide) (by unfold J64; decide)) (shW_ok (by unfold J64; decide) (by unfold J64; decide) (by unfold J64; decide))
theorem aw2_ok : ∀ r, r < 3 → SnOk (aw2 r) := tri_ok (kind_ok (by unfold J64; decide)) (kind_ok (by unfold J64; decide)) (kind_ok (by unfold J64; decide))
theorem aw3_ok : ∀ r, r < 3 → SnOk (aw3 r) := tri_ok (kind_ok (by unfold J64; decide)) (kind_ok (by unfold J64; decide)) (kind_ok (by unfold J64; decide))
theorem grp_of_wrs {S : Nat → Sn} {n : Nat} {l : List Wr} (h : wrs S n = l) (hp : l.Pairwise (fun x y => olderW y x)) : grpL S n = l :=
  (IsGrp.eq (S := S) (l := l) ⟨hp, fun x => by rw [← h]; exact wrs_mem S x n⟩).symm
theorem aw1_grp : grpL aw1 3 = [(1, 9, 5), (1, 3, 5)] := grp_of_wrs (by decide) (by simp [olderW])
theorem aw2_grp : grpL aw2 3 = [] := grp_of_wrs (by decide) (by simp)
theorem aw3_grp : grpL aw3 3 = [] := grp_of_wrs (by decide) (by simp)
theorem aw1_judge : judgeP aw1 3 2 1 1 = (1, (1, 3, 5), [1, 2]) := by unfold judgeP; rw [aw1_grp]; decide
theorem aw2_judge : judgeP aw2 3 2 1 1 = (2, (0, 0, 0), []) := by unfold judgeP; rw [aw2_grp]; decide
theorem aw3_judge : judgeP aw3 3 2 1 1 = (3, (0, 0, 0), []) := by unfold judgeP; rw [aw3_grp]; decide
theorem aw1_poss : possP aw1 3 2 1 1 = ([(1, 3, 5)], false) := by unfold possP; rw [aw1_grp]; decide
theorem aw1_stale : staleP aw1 1 1 3 5 3 = [0] := by decide
/-- What stands, underway. -/
structure Aw (w wr : World) (Q g : Nat) (A6 : Option Addr) (c6 b0 : Nat) : Prop where
  sh : PSt w wr 2 1 1
  vw : View wr Q (some ⟨g, 0, none⟩) 3 aw1
  Qle : Q ≤ wr.heap.size
  own : wr.ownsRow Q 3 1 (.slice A6 2 c6) 2 (iz [1, 2])
  box : wr.heap[b0]? = some (.cells #[.int .i64 1, .int .i64 1, .int .i64 3, .int .i64 5, .slice A6 2 c6] 27 (0, 0))
theorem Aw.keep {w wr w' : World} {Q g c6 b0 : Nat} {A6 : Option Addr} (H : Aw w wr Q g A6 c6 b0) (b : Below wr.heap.size wr w') : Aw w w' Q g A6 c6 b0 :=
  ⟨H.sh.keep b, H.vw.below (b.mono H.Qle), Nat.le_trans H.Qle b.size, own_belowS H.own b, (b.block _ (Array.getElem?_eq_some_iff.1 H.box).1).trans H.box⟩
theorem cell_keep {wr w' : World} {g i : Nat} {v : Value} (h : wr.cell? ⟨g, i, none⟩ = some v) (b : Below wr.heap.size wr w') : w'.cell? ⟨g, i, none⟩ = some v :=
  (b.cell (p := ⟨g, i, none⟩) (by have := World.block_lt_of_cell? wr _ h; simpa using this)).trans h
set_option maxRecDepth 20000 in
set_option maxHeartbeats 8000000 in
theorem awake_any (w : World) : Calls Try.prog 23 #[] w fun e w' => e = .returned (.bool true) ∧ Below w.heap.size w w' := by
  go_enter Try.func23, Try.ntmps23
  go_wp2_with fail
  have H1 := Hd.mk (PSt.start w 2 1 1)
  obtain ⟨w1, hw1⟩ : ∃ w1, w.alloc (.cells #[.int .i64 2, .int .i64 1, .int .i64 1] 34) = w1 := ⟨_, rfl⟩
  rw [hw1] at H1 ⊢
  clear hw1
  refine (shownL_any _ 9 5).mono ?_
  rintro e w2 ⟨rfl, hb2⟩
  have H2 := Hd.mk (H1.out.keep hb2)
  clear hb2 H1
  go_wp2_with fail
  refine (shownL_any _ 3 5).mono ?_
  rintro e w3 ⟨rfl, hb3⟩
  have H3 := Hd.mk (H2.out.keep hb3)
  clear hb3 H2
  go_wp2_with fail
  refine (shownL_any _ 3 5).mono ?_
  rintro e w4 ⟨rfl, hb4⟩
  have H4 := Hd.mk (H3.out.keep hb4)
  clear hb4 H3
  go_wp2_with (first
    | (refine at_buildSlice ?_; refine wpList_build3 elS rfl (.tmp 11) (.tmp 12) (.tmp 13) rfl 14 rfl (shW (1, 9, 5)).cells (shW (1, 3, 5)).cells (shW (1, 3, 5)).cells rfl rfl rfl rfl rfl rfl ?_; intro w5 HW5
       have H5 := Hd.mk (H4.out.keep HW5.out.2.1))
    | (refine at_load ?_; refine wpList_load_row rfl 34 (.tmp 1) rfl w.heap.size rfl 34 #[.int .i64 2, .int .i64 1, .int .i64 1] (0, 0) _ H5.out.sh Try.underlying34 rfl infoSh ?_))
  have hj := judge_any w5 w5.heap.size 3 3 (some ⟨w4.heap.size, 0, none⟩) aw1 (view3 HW5.out.1 aw1_ok) (Nat.le_refl _) (by decide) 2 1 1
  rw [aw1_judge] at hj
  refine hj.mono ?_
  clear hj
  rintro e w6 ⟨P, rfl, ho6, hb6⟩
  obtain ⟨A6, c6, rfl, _, _⟩ := own_form ho6
  rw [show verV (1, (1, 3, 5), [1, 2]) (.slice A6 ((1, (1, 3, 5), [1, 2]) : Int × Wr × List Int).2.2.length c6) = #[.int .i64 1, .int .i64 1, .int .i64 3, .int .i64 5, .slice A6 2 c6] from rfl]
  have H6 : Hd (PSt w w6 2 1 1 ∧ View w6 w5.heap.size (some ⟨w4.heap.size, 0, none⟩) 3 aw1 ∧ w5.heap.size ≤ w6.heap.size ∧ w6.ownsRow w5.heap.size 3 1 (.slice A6 2 c6) 2 (iz [1, 2])) := ⟨H5.out.keep hb6, (view3 HW5.out.1 aw1_ok).below hb6, hb6.size, ho6⟩
  clear ho6 hb6 H5 HW5 H4
  go_wp2_with (first
    | (refine at_store (x := .tmp 3) ?_; refine wpList_boxed rfl 27 (.tmp 3) (.tmp 17) rfl w6.heap.size rfl #[.int .i64 1, .int .i64 1, .int .i64 3, .int .i64 5, .slice A6 2 c6] rfl rfl infoV2 rfl (by simp [Value.oneCell']) ?_; intro w7 HW7
       have H7 : Hd (Aw w w7 w5.heap.size w4.heap.size A6 c6 w6.heap.size) := ⟨⟨H6.out.1.keep HW7.out.2.1, H6.out.2.1.below (HW7.out.2.1.mono H6.out.2.2.1), Nat.le_trans H6.out.2.2.1 HW7.out.2.1.size, own_belowS H6.out.2.2.2 HW7.out.2.1, HW7.out.1⟩⟩)
    | (refine at_load ?_; refine wpList_load_row rfl 34 (.tmp 1) rfl w.heap.size rfl 34 #[.int .i64 2, .int .i64 1, .int .i64 1] (0, 0) _ H7.out.sh.sh Try.underlying34 rfl infoSh ?_)
    | (refine at_buildSlice ?_; refine wpList_build3 elS rfl (.tmp 19) (.tmp 20) (.tmp 21) rfl 22 rfl (kindSn 1).cells (kindSn 1).cells (kindSn 1).cells rfl rfl rfl rfl rfl rfl ?_; intro w8 HW8
       have H8 := Hd.mk (H7.out.keep HW8.out.2.1)))
  have hj := judge_any w8 w8.heap.size 3 3 (some ⟨w7.heap.size, 0, none⟩) aw2 (view3 HW8.out.1 aw2_ok) (Nat.le_refl _) (by decide) 2 1 1
  rw [aw2_judge] at hj
  refine hj.mono ?_
  clear hj
  rintro e w9 ⟨P, rfl, ho9, hb9⟩
  obtain ⟨A9, c9, rfl, _, _⟩ := own_form ho9
  rw [show verV (2, (0, 0, 0), []) (.slice A9 ((2, (0, 0, 0), []) : Int × Wr × List Int).2.2.length c9) = #[.int .i64 2, .int .i64 0, .int .i64 0, .int .i64 0, .slice A9 0 c9] from rfl]
  have H9 := Hd.mk (H8.out.keep hb9)
  clear ho9 hb9 H8 HW8 H7 HW7 H6
  go_wp2_with (first
    | (refine at_store (x := .tmp 4) ?_; refine wpList_boxed rfl 27 (.tmp 4) (.tmp 23) rfl w9.heap.size rfl #[.int .i64 2, .int .i64 0, .int .i64 0, .int .i64 0, .slice A9 0 c9] rfl rfl infoV2 rfl (by simp [Value.oneCell']) ?_; intro w10 HW10
       have H10 := Hd.mk (H9.out.keep HW10.out.2.1)
       have HN10 : Hd (w10.cell? ⟨w9.heap.size, 0, none⟩ = some (.int .i64 2)) := ⟨by rw [cell_of_row _ _ _ _ _ _ HW10.out.1]; rfl⟩)
    | (refine at_load ?_; refine wpList_load_row rfl 34 (.tmp 1) rfl w.heap.size rfl 34 #[.int .i64 2, .int .i64 1, .int .i64 1] (0, 0) _ H10.out.sh.sh Try.underlying34 rfl infoSh ?_)
    | (refine at_buildSlice ?_; refine wpList_build3 elS rfl (.tmp 25) (.tmp 26) (.tmp 27) rfl 28 rfl (kindSn 4).cells (kindSn 1).cells (kindSn 3).cells rfl rfl rfl rfl rfl rfl ?_; intro w11 HW11
       have H11 := Hd.mk (H10.out.keep HW11.out.2.1)
       have HN11 := Hd.mk (cell_keep HN10.out HW11.out.2.1)))
  have hj := judge_any w11 w11.heap.size 3 3 (some ⟨w10.heap.size, 0, none⟩) aw3 (view3 HW11.out.1 aw3_ok) (Nat.le_refl _) (by decide) 2 1 1
  rw [aw3_judge] at hj
  refine hj.mono ?_
  clear hj
  rintro e w12 ⟨P, rfl, ho12, hb12⟩
  obtain ⟨A12, c12, rfl, _, _⟩ := own_form ho12
  rw [show verV (3, (0, 0, 0), []) (.slice A12 ((3, (0, 0, 0), []) : Int × Wr × List Int).2.2.length c12) = #[.int .i64 3, .int .i64 0, .int .i64 0, .int .i64 0, .slice A12 0 c12] from rfl]
  have H12 := Hd.mk (And.intro (H11.out.keep hb12) (cell_keep HN11.out hb12))
  clear ho12 hb12 H11 HW11 H10 HW10 H9 HN11 HN10
  go_wp2_with (refine at_store (x := .tmp 5) ?_; refine wpList_boxed rfl 27 (.tmp 5) (.tmp 29) rfl w12.heap.size rfl #[.int .i64 3, .int .i64 0, .int .i64 0, .int .i64 0, .slice A12 0 c12] rfl rfl infoV2 rfl (by simp [Value.oneCell']) ?_; intro w13 HW13)
  have H13 : Hd (Aw w w13 w5.heap.size w4.heap.size A6 c6 w6.heap.size ∧ w13.cell? ⟨w9.heap.size, 0, none⟩ = some (.int .i64 2) ∧ w13.cell? ⟨w12.heap.size, 0, none⟩ = some (.int .i64 3)) := ⟨H12.out.1.keep HW13.out.2.1, cell_keep H12.out.2 HW13.out.2.1, by rw [cell_of_row _ _ _ _ _ _ HW13.out.1]; rfl⟩
  clear H12 HW13
  refine (groups_any w13 w5.heap.size 3 3 _ aw1 H13.out.1.vw H13.out.1.Qle (by decide)).mono ?_
  rintro e w14 ⟨v14, f14, gl, rfl, hO⟩
  have hG := hO.gl
  rw [aw1_grp] at hG
  obtain ⟨g14, c14, rfl, _, _, hr14⟩ := hG.at_ (i := 0) (by decide)
  have H14 : Hd (Aw w w14 w5.heap.size w4.heap.size A6 c6 w6.heap.size ∧ w14.cell? ⟨w9.heap.size, 0, none⟩ = some (.int .i64 2) ∧ w14.cell? ⟨w12.heap.size, 0, none⟩ = some (.int .i64 3) ∧ w14.cell? ⟨g14, 1, none⟩ = some (.int .i64 9)) := ⟨H13.out.1.keep hO.bel, cell_keep H13.out.2.1 hO.bel, cell_keep H13.out.2.2 hO.bel, hr14 1 _ rfl⟩
  clear hO hG hr14 H13
  go_wp2_with (refine at_load ?_; refine wpList_load_row rfl 34 (.tmp 1) rfl w.heap.size rfl 34 #[.int .i64 2, .int .i64 1, .int .i64 1] (0, 0) _ H14.out.1.sh.sh Try.underlying34 rfl infoSh ?_)
  have hp := possible_any w14 w5.heap.size 3 3 _ aw1 H14.out.1.vw H14.out.1.Qle (by decide) 2 1 1
  rw [aw1_poss] at hp
  refine hp.mono ?_
  clear hp
  rintro e w15 ⟨v15, rfl, ⟨f15, hG15⟩, hb15⟩
  obtain ⟨A15, c15, hv15, _, _⟩ := ownN_form hG15.out
  change v15 = .slice A15 1 c15 at hv15
  subst hv15
  have H15 : Hd (Aw w w15 w5.heap.size w4.heap.size A6 c6 w6.heap.size ∧ w15.cell? ⟨w9.heap.size, 0, none⟩ = some (.int .i64 2) ∧ w15.cell? ⟨w12.heap.size, 0, none⟩ = some (.int .i64 3) ∧ w15.cell? ⟨g14, 1, none⟩ = some (.int .i64 9)) := ⟨H14.out.1.keep hb15, cell_keep H14.out.2.1 hb15, cell_keep H14.out.2.2.1 hb15, cell_keep H14.out.2.2.2 hb15⟩
  clear hG15 hb15 H14
  go_wp2_with (refine at_load ?_; refine wpList_load_row rfl 27 (.tmp 3) rfl w6.heap.size rfl 27 #[.int .i64 1, .int .i64 1, .int .i64 3, .int .i64 5, .slice A6 2 c6] (0, 0) _ H15.out.1.box Try.underlying27 rfl infoV2 ?_)
  have hs := stale_any w15 w5.heap.size 3 3 _ aw1 H15.out.1.vw H15.out.1.Qle (by decide) 1 1 3 5 (.slice A6 2 c6)
  rw [aw1_stale] at hs
  refine hs.mono ?_
  clear hs
  rintro e w16 ⟨A16, c16, rfl, hb16, hr16⟩
  have H16 : Hd (Aw w w16 w5.heap.size w4.heap.size A6 c6 w6.heap.size ∧ w16.cell? ⟨w9.heap.size, 0, none⟩ = some (.int .i64 2) ∧ w16.cell? ⟨w12.heap.size, 0, none⟩ = some (.int .i64 3) ∧ w16.cell? ⟨g14, 1, none⟩ = some (.int .i64 9) ∧ Rd w16 w16.heap.size A16 1 (iz [0])) := ⟨H15.out.1.keep hb16, cell_keep H15.out.2.1 hb16, cell_keep H15.out.2.2.1 hb16, cell_keep H15.out.2.2.2 hb16, hr16⟩
  clear hb16 hr16 H15
  have k0 : w16.cell? ⟨w6.heap.size, 0, none⟩ = some (.int .i64 1) := by rw [cell_of_row _ _ _ _ _ _ H16.out.1.box]; rfl
  have k1 : w16.cell? ⟨w6.heap.size, 2, none⟩ = some (.int .i64 3) := by rw [cell_of_row _ _ _ _ _ _ H16.out.1.box]; rfl
  have k2 : w16.cell? ⟨w6.heap.size, 3, none⟩ = some (.int .i64 5) := by rw [cell_of_row _ _ _ _ _ _ H16.out.1.box]; rfl
  have k3 : w16.cell? ⟨w6.heap.size, 4, none⟩ = some (.slice A6 2 c6) := by rw [cell_of_row _ _ _ _ _ _ H16.out.1.box]; rfl
  go_wp2_with fail
  refine (sameInts_any _ (w16.heap.size + 1) 2 c6 2 A6 _ [1, 2] (((Rd.of_own H16.out.1.own).alloc (Nat.le_refl _) _).more (by omega)) (rd_lit (w := w16) (e := 3) (iz [1, 2])) (by simp) (by decide)).mono ?_
  rintro e w17 ⟨rfl, hb17⟩
  have hb : Below w16.heap.size w16 w17 := ((Below.refl _ _).alloc (Nat.le_refl _) _).trans (hb17.mono (by simp))
  have n2 := cell_keep H16.out.2.1 hb
  have n3 := cell_keep H16.out.2.2.1 hb
  have n9 := cell_keep H16.out.2.2.2.1 hb
  have H17 := Hd.mk (And.intro (H16.out.1.sh.keep hb) ((H16.out.2.2.2.2.below hb).more hb.size))
  clear hb17 hb k0 k1 k2 k3
  go_wp2_with fail
  refine (sameInts_any _ (w17.heap.size + 1) 1 c16 1 A16 _ [0] ((H17.out.2.alloc (Nat.le_refl _) _).more (by omega)) (rd_lit (w := w17) (e := 3) (iz [0])) (by simp) (by decide)).mono ?_
  rintro e w18 ⟨rfl, hb18⟩
  have HF := Hd.mk (H17.out.1.bel.trans ((((Below.refl _ _).alloc (Nat.le_refl _) _).trans (hb18.mono (by simp))).mono H17.out.1.bel.size))
  clear hb18
  go_wp2_with fail
  go_ret
  exact ⟨rfl, HF.out⟩
end Go.Proofs.Ytplpaipmkpjgfaa
