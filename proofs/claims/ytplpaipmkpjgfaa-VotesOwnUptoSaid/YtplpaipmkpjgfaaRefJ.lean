/- The contract of the reference's Judge. -/
import Derived.Test.YtplpaipmkpjgfaaRefG
namespace Go.Proofs.Ytplpaipmkpjgfaa
open Go.RowKit
set_option linter.unusedVariables false
set_option linter.unusedSimpArgs false
set_option maxRecDepth 20000 in
set_option maxHeartbeats 20000000 in
theorem refjudge_any (w : World) (Q n c : Nat) (A : Option Addr) (S : Nat → Sn) (hv : View w Q A n S) (hQ : Q ≤ w.heap.size) (hn : n * 120 ≤ 140737488351232) (k m b : Int) :
    Calls Try.prog 15 #[.agg #[.int .i64 k, .int .i64 m, .int .i64 b], .slice A n c] w fun e w' => ∃ P, e = .returned (.agg (verV (judgeP S n k m b) P)) ∧ w'.ownsRow w.heap.size 3 1 P (judgeP S n k m b).2.2.length (iz (judgeP S n k m b).2.2) ∧ Below w.heap.size w w' := by
  have HH : Hd (View w Q A n S ∧ Q ≤ w.heap.size) := ⟨hv, hQ⟩
  have HJ : Hd (∀ r, r = judgeP S n k m b → ∀ (e : Ending) (w' : World), (∃ P, e = .returned (.agg (verV r P)) ∧ w'.ownsRow w.heap.size 3 1 P r.2.2.length (iz r.2.2) ∧ Below w.heap.size w w') → ∃ P, e = .returned (.agg (verV (judgeP S n k m b) P)) ∧ w'.ownsRow w.heap.size 3 1 P (judgeP S n k m b).2.2.length (iz (judgeP S n k m b).2.2) ∧ Below w.heap.size w w') := ⟨fun r h e w' h2 => by subst h; exact h2⟩
  clear hv hQ
  have H1 := Hd.mk (JSt.start w k m b)
  go_enter Try.func15, Try.ntmps15
  go_wp2_with fail
  obtain ⟨w1, hw1⟩ : ∃ w1, ((w.alloc (.cells #[.int .i64 k, .int .i64 m, .int .i64 b] 34)).alloc (.cells #[.int .i64 0, .int .i64 0, .int .i64 0, .int .i64 0, .slice none 0 0] 27)) = w1 := ⟨_, rfl⟩
  rw [hw1] at H1 ⊢
  clear hw1
  refine (reffits_any w1 k m b).mono ?_
  rintro e w2 ⟨rfl, hb2⟩
  have H2 := Hd.mk (H1.out.keep hb2)
  clear H1 hb2
  rcases q : fitsR k m b with _ | _
  · have HQ : Hd ((3, (0, 0, 0), []) = judgeP S n k m b) := ⟨by unfold judgeP fitsB; rw [q, if_neg (by simp)]⟩
    clear q
    go_wp2_with (refine at_store ?_; refine wpList_stored rfl 27 (.tmp 4) (.tmp 22) rfl (w.heap.size + 1) #[.int .i64 3, .int .i64 0, .int .i64 0, .int .i64 0, .slice none 0 0] rfl rfl _ _ H2.out.ve infoV2 rfl (by simp [Value.oneCell']) ?_; intro w3 HW3)
    (try simp only [Exit.inBlock, Exit.then])
    refine bodyPost_ret (results_cell1 rfl _ _ (w.heap.size + 1) 27 #[.int .i64 3, .int .i64 0, .int .i64 0, .int .i64 0, .slice none 0 0] (0, 0) _ rfl HW3.out.1 Try.underlying27 rfl infoV2) rfl ?_
    exact HJ.out _ HQ.out _ _ ⟨_, rfl, World.ownsRow_nil _ _ _ _, H2.out.done HW3.out.2.1⟩
  · obtain ⟨r1, r2, r3, r4, r5, r6⟩ := of_decide_eq_true (show decide _ = true from q)
    rcases Decidable.em ((n : Int) ≠ k + m) with hnk | hnk
    · have HQ : Hd ((3, (0, 0, 0), []) = judgeP S n k m b) := ⟨by unfold judgeP fitsB; rw [q, if_neg (by simp [hnk])]⟩
      have qn : ((n : Int) != k + m) = true := by simp; exact hnk
      have c0 := H2.out.c0
      have c1 := H2.out.c1
      clear q hnk
      go_wp2_with (refine at_store ?_; refine wpList_stored rfl 27 (.tmp 4) (.tmp 22) rfl (w.heap.size + 1) #[.int .i64 3, .int .i64 0, .int .i64 0, .int .i64 0, .slice none 0 0] rfl rfl _ _ H2.out.ve infoV2 rfl (by simp [Value.oneCell']) ?_; intro w3 HW3)
      (try simp only [Exit.inBlock, Exit.then])
      refine bodyPost_ret (results_cell1 rfl _ _ (w.heap.size + 1) 27 #[.int .i64 3, .int .i64 0, .int .i64 0, .int .i64 0, .slice none 0 0] (0, 0) _ rfl HW3.out.1 Try.underlying27 rfl infoV2) rfl ?_
      exact HJ.out _ HQ.out _ _ ⟨_, rfl, World.ownsRow_nil _ _ _ _, H2.out.done HW3.out.2.1⟩
    have hnk : (n : Int) = k + m := by omega
    have HQ : Hd (fitsB k m b n = true) := ⟨by unfold fitsB; rw [q, hnk]; simp⟩
    have qn : ((n : Int) != k + m) = false := by simp [hnk]
    have c0 := H2.out.c0
    have c1 := H2.out.c1
    clear q
    go_wp2_with fail
    refine (refgroups_any w2 Q n c A S (HH.out.1.below (H2.out.bel.mono HH.out.2)) (Nat.le_trans HH.out.2 H2.out.bel.size) hn).mono ?_
    rintro e w3 ⟨v, rfl, ⟨f, hO⟩, hb3⟩
    have H3 := Hd.mk (And.intro (H2.out.keep hb3) (hO.low (base' := w.heap.size + 2) (by have := H2.out.big; omega)))
    clear hO H2 hb3 c0 c1
    obtain ⟨L, hL⟩ : ∃ L, grpL S n = L := ⟨_, rfl⟩
    have hLn : L.length ≤ n := hL ▸ grpL_le S n
    have HL := Hd.mk hL
    rw [hL] at H3
    clear hL
    obtain ⟨A9, c9, hv9, _, _⟩ := ownN_form H3.out.2.out
    rw [hv9] at H3 ⊢
    clear hv9
    go_wp2_with fail
    go_loopw [7] (fun i wr => ∃ j : Nat, j ≤ L.length ∧ i = .int .i64 (j : Int) ∧ JSt w wr k m b ∧ GLT 77 (w.heap.size + 2) wr S n f (.slice A9 L.length c9) L ∧ topW S n k L = topW S n k (L.drop j)) (fun i _ => L.length - (intOf i).toNat)
    case atStart => exact ⟨0, by omega, rfl, H3.out.1, H3.out.2, rfl⟩
    case round =>
      clear H3
      obtain ⟨j, hj, rfl, h1, h2, h3⟩ := hrel
      have H4 := Hd.mk (And.intro h1 (And.intro h2 h3))
      clear h1 h2 h3
      by_cases hlt : j < L.length
      · have hji : (j : Int) < (L.length : Int) := by omega
        obtain ⟨x, hx⟩ : ∃ x, L.getD j (0, 0, 0) = x := ⟨_, rfl⟩
        have hxd := hx
        obtain ⟨g, c9', hv, _, hg, hr⟩ := H4.out.2.1.at_ hlt
        rw [hx] at hr
        injection hv with hv1 hv2 hv3
        subst hv1 hv3
        have htd := top_drop (S := S) (n := n) (K := k) hlt
        rw [hx] at htd
        have HX := Hd.mk hx
        have HR := Hd.mk hr
        have HT := Hd.mk htd
        clear hx hr htd
        have hxm : x ∈ L := hxd ▸ getD_mem hlt
        have HXM := Hd.mk hxm
        clear hxm hxd
        obtain ⟨A1, c1, hf, _, _⟩ := own_form (H4.out.2.1.rows x HXM.out)
        have HF := Hd.mk hf
        clear hf
        obtain ⟨ek, ck, sk⟩ := x
        obtain ⟨mm, hmm⟩ : ∃ mm, (plc S (ek, ck, sk) n).length = mm := ⟨_, rfl⟩
        have HM := Hd.mk hmm
        have hmn : mm ≤ n := hmm ▸ plc_le _ _ _
        rw [hmm] at HF
        have HC : Hd (encG f (ek, ck, sk) = [.int .i64 ek, .int .i64 ck, .int .i64 sk, .slice A1 mm c1]) := ⟨by unfold encG; rw [HF.out]⟩
        rw [HC.out] at HR
        have HN : Hd ((cnt S n (ek, ck, sk) : Int) = (mm : Int)) := ⟨by unfold cnt; rw [hmm]⟩
        rw [HN.out] at HT
        clear hmm
        by_cases hk : k ≤ (mm : Int)
        · have HT1 : Hd (topW S n k L = some (ek, ck, sk)) := ⟨by rw [H4.out.2.2, HT.out, if_pos hk]⟩
          clear HT
          have x0 : wr.cell? ⟨g, j * 4, none⟩ = some (.int .i64 ek) := HR.out 0 _ rfl
          have x1 : wr.cell? ⟨g, j * 4 + 1, none⟩ = some (.int .i64 ck) := HR.out 1 _ rfl
          have x2 : wr.cell? ⟨g, j * 4 + 2, none⟩ = some (.int .i64 sk) := HR.out 2 _ rfl
          have x3 : wr.cell? ⟨g, j * 4 + 3, none⟩ = some (.slice A1 mm c1) := HR.out 3 _ rfl
          have s0 := H4.out.1.c0
          go_wp2_with fail
          go_quiet (fail)
          obtain ⟨w5, hw5⟩ : ∃ w5, wr.drewN nq = w5 := ⟨_, rfl⟩
          have HB5 : Hd (Below wr.heap.size wr w5) := ⟨hw5 ▸ below_drewN (Below.refl _ _) _⟩
          have x0 : w5.cell? ⟨g, j * 4, none⟩ = some (.int .i64 ek) := hw5 ▸ x0
          have x1 : w5.cell? ⟨g, j * 4 + 1, none⟩ = some (.int .i64 ck) := hw5 ▸ x1
          have x2 : w5.cell? ⟨g, j * 4 + 2, none⟩ = some (.int .i64 sk) := hw5 ▸ x2
          have x3 : w5.cell? ⟨g, j * 4 + 3, none⟩ = some (.slice A1 mm c1) := hw5 ▸ x3
          rw [hw5]
          clear hw5
          have H5 := Hd.mk (H4.out.1.keep HB5.out)
          have H6 := Hd.mk (H5.out.keep ((Below.refl _ _).drew))
          go_wp2_with fail
          refine wp_region_still_tail 16 (by kernel_rfl) (by kernel_rfl) ?_
          simp only [List.take_succ_cons, List.take_zero, List.drop_succ_cons, List.drop_zero]
          repeat still_step
          refine wpStill_nil ?_
          change wpList _ _ _ _ _ w5.drew
          go_wp2_with (refine at_store ?_; refine wpList_stored rfl 27 (.tmp 4) (.tmp 55) rfl (w.heap.size + 1) #[.int .i64 1, .int .i64 ek, .int .i64 ck, .int .i64 sk, .slice A1 mm c1] rfl rfl _ _ H6.out.ve infoV2 rfl (by simp [Value.oneCell']) ?_; intro w6 HW6)
          have HQ2 : Hd ((1, (ek, ck, sk), plc S (ek, ck, sk) n) = judgeP S n k m b) := ⟨by unfold judgeP; rw [if_pos HQ.out, HL.out, HT1.out]⟩
          have HO : Hd (w6.ownsRow (w.heap.size + 2) 3 1 (.slice A1 mm c1) mm (iz (plc S (ek, ck, sk) n))) := ⟨by
            have h := H4.out.2.1.rows (ek, ck, sk) HXM.out
            rw [HF.out, HM.out] at h
            exact (own_belowS h (HB5.out.drew)).kept HW6.out.2.1 (own_ne h (by omega))⟩
          (try simp only [Exit.inBlock, Exit.then])
          refine bodyPost_ret (results_cell1 rfl _ _ (w.heap.size + 1) 27 #[.int .i64 1, .int .i64 ek, .int .i64 ck, .int .i64 sk, .slice A1 mm c1] (0, 0) _ rfl HW6.out.1 Try.underlying27 rfl infoV2) rfl ?_
          exact HJ.out _ HQ2.out _ _ ⟨_, rfl, by rw [HM.out]; exact own_low HO.out (by omega), H6.out.done HW6.out.2.1⟩
        · have HT1 : Hd (topW S n k L = topW S n k (L.drop (j + 1))) := ⟨by rw [H4.out.2.2, HT.out, if_neg hk]⟩
          clear HT
          have x0 : wr.cell? ⟨g, j * 4, none⟩ = some (.int .i64 ek) := HR.out 0 _ rfl
          have x1 : wr.cell? ⟨g, j * 4 + 1, none⟩ = some (.int .i64 ck) := HR.out 1 _ rfl
          have x2 : wr.cell? ⟨g, j * 4 + 2, none⟩ = some (.int .i64 sk) := HR.out 2 _ rfl
          have x3 : wr.cell? ⟨g, j * 4 + 3, none⟩ = some (.slice A1 mm c1) := HR.out 3 _ rfl
          have s0 := H4.out.1.c0
          go_wp2_with fail
          go_quiet (fail)
          obtain ⟨w5, hw5⟩ : ∃ w5, wr.drewN nq = w5 := ⟨_, rfl⟩
          have HB5 : Hd (Below wr.heap.size wr w5) := ⟨hw5 ▸ below_drewN (Below.refl _ _) _⟩
          have x0 : w5.cell? ⟨g, j * 4, none⟩ = some (.int .i64 ek) := hw5 ▸ x0
          have x1 : w5.cell? ⟨g, j * 4 + 1, none⟩ = some (.int .i64 ck) := hw5 ▸ x1
          have x2 : w5.cell? ⟨g, j * 4 + 2, none⟩ = some (.int .i64 sk) := hw5 ▸ x2
          have x3 : w5.cell? ⟨g, j * 4 + 3, none⟩ = some (.slice A1 mm c1) := hw5 ▸ x3
          rw [hw5]
          clear hw5
          have H5 := Hd.mk (H4.out.1.keep HB5.out)
          have H6 := Hd.mk (H5.out.keep ((Below.refl _ _).drew))
          go_wp2_with fail
          go_roundw
          case rel => exact ⟨j + 1, by omega, by go_num, H5.out, H4.out.2.1.keep HB5.out, HT1.out⟩
          case measure => simp [intOf]; omega
      · have hjn : j = L.length := by omega
        subst hjn
        have HT1 : Hd (topW S n k L = none) := ⟨by rw [H4.out.2.2, List.drop_length]; rfl⟩
        go_wp2_with fail
        have HHid : Hd (∀ W, Below wr.heap.size wr W → Calls Try.prog 34 #[.slice A n c] W fun e w' => e = .returned (.int .i64 (hidN S n : Int)) ∧ Below W.heap.size W w') := ⟨fun W hW => refhidden_any W w.heap.size n c A S (((HH.out.1.below (H4.out.1.bel.mono HH.out.2)).more HH.out.2).below (hW.mono H4.out.1.bel.size)) (Nat.le_trans H4.out.1.bel.size hW.size) hn⟩
        have hle := hidN_le S n
        have HHN : Hd (∀ z, z = (hidN S n : Int) → (if z ≤ m then ((2, (0, 0, 0), []) : Int × Wr × List Int) else (3, (0, 0, 0), [])) = judgeP S n k m b) := ⟨fun z hz => by unfold judgeP; rw [if_pos HQ.out, HL.out, HT1.out, hz]⟩
        obtain ⟨hd, hhd⟩ : ∃ hd, hidN S n = hd := ⟨_, rfl⟩
        rw [hhd] at HHid HHN hle
        have HG := Hd.mk H4.out.1.big
        clear hhd
        go_region_held3 (fun W => Below wr.heap.size wr W ∧ W.cell? ⟨w.heap.size, 1, none⟩ = some (.int .i64 m))
          (first | (exact keepS (by have := HG.out; omega) (by assumption) hb) | (exact ⟨(Below.refl _ _).drew, H4.out.1.c1⟩))
          (first | (go_at_call 34; refine (HHid.out _ (by first | assumption | exact And.left (by assumption))).mono ?_; rintro e w' ⟨rfl, hb⟩))
        have H9 : Hd (JSt w w' k m b) := ⟨H4.out.1.keep (And.left (by assumption))⟩
        by_cases hm : (hd : Int) ≤ m
        · have HQ3 : Hd ((2, (0, 0, 0), []) = judgeP S n k m b) := ⟨by rw [← HHN.out _ rfl, if_pos hm]⟩
          go_wp2_with (refine at_store ?_; refine wpList_stored rfl 27 (.tmp 4) (.tmp 61) rfl (w.heap.size + 1) #[.int .i64 2, .int .i64 0, .int .i64 0, .int .i64 0, .slice none 0 0] rfl rfl _ _ H9.out.ve infoV2 rfl (by simp [Value.oneCell']) ?_; intro w7 HW7)
          (try simp only [Exit.inBlock, Exit.then])
          refine bodyPost_ret (results_cell1 rfl _ _ (w.heap.size + 1) 27 #[.int .i64 2, .int .i64 0, .int .i64 0, .int .i64 0, .slice none 0 0] (0, 0) _ rfl HW7.out.1 Try.underlying27 rfl infoV2) rfl ?_
          exact HJ.out _ HQ3.out _ _ ⟨_, rfl, World.ownsRow_nil _ _ _ _, H9.out.done HW7.out.2.1⟩
        · have HQ3 : Hd ((3, (0, 0, 0), []) = judgeP S n k m b) := ⟨by rw [← HHN.out _ rfl, if_neg hm]⟩
          go_wp2_with (refine at_store ?_; refine wpList_stored rfl 27 (.tmp 4) (.tmp 62) rfl (w.heap.size + 1) #[.int .i64 3, .int .i64 0, .int .i64 0, .int .i64 0, .slice none 0 0] rfl rfl _ _ H9.out.ve infoV2 rfl (by simp [Value.oneCell']) ?_; intro w7 HW7)
          (try simp only [Exit.inBlock, Exit.then])
          refine bodyPost_ret (results_cell1 rfl _ _ (w.heap.size + 1) 27 #[.int .i64 3, .int .i64 0, .int .i64 0, .int .i64 0, .slice none 0 0] (0, 0) _ rfl HW7.out.1 Try.underlying27 rfl infoV2) rfl ?_
          exact HJ.out _ HQ3.out _ _ ⟨_, rfl, World.ownsRow_nil _ _ _ _, H9.out.done HW7.out.2.1⟩
end Go.Proofs.Ytplpaipmkpjgfaa
