/- The contract of the program's Judge. -/
import Derived.Test.YtplpaipmkpjgfaaJudgeB
namespace Go.Proofs.Ytplpaipmkpjgfaa
open Go.RowKit
set_option linter.unusedVariables false
set_option linter.unusedSimpArgs false
def verV (r : Int × Wr × List Int) (P : Value) : Array Value := #[.int .i64 r.1, .int .i64 r.2.1.1, .int .i64 r.2.1.2.1, .int .i64 r.2.1.2.2, P]
/-- The shape's box and the answer's, underway. -/
structure JSt (w wr : World) (k m b : Int) : Prop where
  sh : wr.heap[w.heap.size]? = some (.cells #[.int .i64 k, .int .i64 m, .int .i64 b] 34 (0, 0))
  ve : wr.heap[w.heap.size + 1]? = some (.cells #[.int .i64 0, .int .i64 0, .int .i64 0, .int .i64 0, .slice none 0 0] 27 (0, 0))
  bel : Below w.heap.size w wr
section
variable {w wr w' : World} {k m b : Int}
theorem JSt.big (H : JSt w wr k m b) : w.heap.size + 1 < wr.heap.size := (Array.getElem?_eq_some_iff.1 H.ve).1
theorem JSt.keep (H : JSt w wr k m b) (hb : Below wr.heap.size wr w') : JSt w w' k m b :=
  ⟨(hb.block _ (by have := H.big; omega)).trans H.sh, (hb.block _ H.big).trans H.ve, H.bel.trans (hb.mono H.bel.size)⟩
theorem JSt.c0 (H : JSt w wr k m b) : wr.cell? ⟨w.heap.size, 0, none⟩ = some (.int .i64 k) := by rw [cell_of_row _ _ _ _ _ _ H.sh]; rfl
theorem JSt.c1 (H : JSt w wr k m b) : wr.cell? ⟨w.heap.size, 1, none⟩ = some (.int .i64 m) := by rw [cell_of_row _ _ _ _ _ _ H.sh]; rfl
theorem JSt.start (w : World) (k m b : Int) : JSt w ((w.alloc (.cells #[.int .i64 k, .int .i64 m, .int .i64 b] 34)).alloc (.cells #[.int .i64 0, .int .i64 0, .int .i64 0, .int .i64 0, .slice none 0 0] 27)) k m b := by
  refine ⟨by rw [Go.Deep.blk_alloc_lt _ _ _ (by simp)]; exact heap_alloc_new _ _, ?_, ((Below.refl _ _).alloc (Nat.le_refl _) _).alloc (by simp) _⟩
  have := heap_alloc_new (w.alloc (.cells #[.int .i64 k, .int .i64 m, .int .i64 b] 34)) (.cells #[.int .i64 0, .int .i64 0, .int .i64 0, .int .i64 0, .slice none 0 0] 27)
  rw [World.size_alloc] at this
  exact this
/-- Behind the answer's store. -/
theorem JSt.done (H : JSt w wr k m b) (hg : wr.grownBy w' (some (w.heap.size + 1))) : Below w.heap.size w w' := H.bel.grown hg H.bel.size fun g e => by injection e with e; omega
end
theorem keepS {w5 W W' : World} {g i : Nat} {u : Value} (hg : g < w5.heap.size) (h : Below w5.heap.size w5 W ∧ W.cell? ⟨g, i, none⟩ = some u) (hb : Below W.heap.size W W') : Below w5.heap.size w5 W' ∧ W'.cell? ⟨g, i, none⟩ = some u :=
  ⟨h.1.trans (hb.mono h.1.size), (hb.cell (p := ⟨g, i, none⟩) (Nat.lt_of_lt_of_le hg h.1.size)).trans h.2⟩
set_option maxRecDepth 20000 in
set_option maxHeartbeats 20000000 in
theorem judge_any (w : World) (Q n c : Nat) (A : Option Addr) (S : Nat → Sn) (hv : View w Q A n S) (hQ : Q ≤ w.heap.size) (hn : n * 120 ≤ 140737488351232) (k m b : Int) :
    Calls Try.prog 16 #[.agg #[.int .i64 k, .int .i64 m, .int .i64 b], .slice A n c] w fun e w' => ∃ P, e = .returned (.agg (verV (judgeP S n k m b) P)) ∧ w'.ownsRow w.heap.size 3 1 P (judgeP S n k m b).2.2.length (iz (judgeP S n k m b).2.2) ∧ Below w.heap.size w w' := by
  have HH : Hd (View w Q A n S ∧ Q ≤ w.heap.size) := ⟨hv, hQ⟩
  have HJ : Hd (∀ r, r = judgeP S n k m b → ∀ (e : Ending) (w' : World), (∃ P, e = .returned (.agg (verV r P)) ∧ w'.ownsRow w.heap.size 3 1 P r.2.2.length (iz r.2.2) ∧ Below w.heap.size w w') → ∃ P, e = .returned (.agg (verV (judgeP S n k m b) P)) ∧ w'.ownsRow w.heap.size 3 1 P (judgeP S n k m b).2.2.length (iz (judgeP S n k m b).2.2) ∧ Below w.heap.size w w') := ⟨fun r h e w' h2 => by subst h; exact h2⟩
  clear hv hQ
  have H1 := Hd.mk (JSt.start w k m b)
  go_enter Try.func16, Try.ntmps16
  go_wp2_with fail
  obtain ⟨w1, hw1⟩ : ∃ w1, ((w.alloc (.cells #[.int .i64 k, .int .i64 m, .int .i64 b] 34)).alloc (.cells #[.int .i64 0, .int .i64 0, .int .i64 0, .int .i64 0, .slice none 0 0] 27)) = w1 := ⟨_, rfl⟩
  rw [hw1] at H1 ⊢
  clear hw1
  refine (fits_any w1 k m b n).mono ?_
  rintro e w2 ⟨rfl, hb2⟩
  have H2 := Hd.mk (H1.out.keep hb2)
  clear H1 hb2
  rcases q : fitsB k m b n with _ | _
  · have HQ : Hd ((3, (0, 0, 0), []) = judgeP S n k m b) := ⟨by unfold judgeP; rw [if_neg (by rw [q]; decide)]⟩
    clear q
    go_wp2_with (refine at_store ?_; refine wpList_stored rfl 27 (.tmp 4) (.tmp 12) rfl (w.heap.size + 1) #[.int .i64 3, .int .i64 0, .int .i64 0, .int .i64 0, .slice none 0 0] rfl rfl _ _ H2.out.ve infoV2 rfl (by simp [Value.oneCell']) ?_; intro w3 HW3)
    (try simp only [Exit.inBlock, Exit.then])
    refine bodyPost_ret (results_cell1 rfl _ _ (w.heap.size + 1) 27 #[.int .i64 3, .int .i64 0, .int .i64 0, .int .i64 0, .slice none 0 0] (0, 0) _ rfl HW3.out.1 Try.underlying27 rfl infoV2) rfl ?_
    exact HJ.out _ HQ.out _ _ ⟨_, rfl, World.ownsRow_nil _ _ _ _, H2.out.done HW3.out.2.1⟩
  · have HQ : Hd (fitsB k m b n = true) := ⟨q⟩
    clear q
    go_wp2_with fail
    refine (groups_any w2 Q n c A S (HH.out.1.below (H2.out.bel.mono HH.out.2)) (Nat.le_trans HH.out.2 H2.out.bel.size) hn).mono ?_
    rintro e w3 ⟨v, f, gl, rfl, hO⟩
    have H3 := Hd.mk (And.intro (H2.out.keep (hO.bel)) (hO.gl.low (base' := w.heap.size + 2) (by have := H2.out.big; omega)))
    clear hO H2
    obtain ⟨L, hL⟩ : ∃ L, grpL S n = L := ⟨_, rfl⟩
    have hLn : L.length ≤ n := hL ▸ grpL_le S n
    have HL := Hd.mk hL
    rw [hL] at H3
    clear hL
    obtain ⟨A9, c9, hv9, _, _⟩ := ownN_form H3.out.2.out
    rw [hv9] at H3 ⊢
    clear hv9
    go_wp2_with fail
    go_loopw [16] (fun i wr => ∃ j : Nat, j ≤ L.length ∧ i = .int .i64 (j : Int) ∧ JSt w wr k m b ∧ GL (w.heap.size + 2) wr S n f (.slice A9 L.length c9) L ∧ topW S n k L = topW S n k (L.drop j)) (fun i _ => L.length - (intOf i).toNat)
    case atStart => exact ⟨0, by omega, rfl, H3.out.1, H3.out.2, rfl⟩
    case round =>
      clear H3
      obtain ⟨j, hj, rfl, h1, h2, h3⟩ := hrel
      have H4 := Hd.mk (And.intro h1 (And.intro h2 h3))
      clear h1 h2 h3
      by_cases hlt : j < L.length
      · have hji : (j : Int) < (L.length : Int) := by omega
        obtain ⟨x, hx⟩ : ∃ x, L.getD j (0, 0, 0) = x := ⟨_, rfl⟩
        have hxd := hx
        obtain ⟨g, c9', hv, _, hg, hr⟩ := H4.out.2.1.at_ hlt
        rw [hx] at hr
        injection hv with hv1 hv2 hv3
        subst hv1 hv3
        have htd := top_drop (S := S) (n := n) (K := k) hlt
        rw [hx] at htd
        have HX := Hd.mk hx
        have HR := Hd.mk hr
        have HT := Hd.mk htd
        clear hx hr htd
        have hxm : x ∈ L := hxd ▸ getD_mem hlt
        have HXM := Hd.mk hxm
        clear hxm hxd
        obtain ⟨A1, c1, hf, _, _⟩ := own_form (H4.out.2.1.rows x HXM.out)
        have HF := Hd.mk hf
        clear hf
        obtain ⟨ek, ck, sk⟩ := x
        obtain ⟨mm, hmm⟩ : ∃ mm, (plc S (ek, ck, sk) n).length = mm := ⟨_, rfl⟩
        have HM := Hd.mk hmm
        have hmn : mm ≤ n := hmm ▸ plc_le _ _ _
        rw [hmm] at HF
        have HC : Hd (encG f (ek, ck, sk) = [.int .i64 ek, .int .i64 ck, .int .i64 sk, .slice A1 mm c1]) := ⟨by unfold encG; rw [HF.out]⟩
        rw [HC.out] at HR
        have HN : Hd ((cnt S n (ek, ck, sk) : Int) = (mm : Int)) := ⟨by unfold cnt; rw [hmm]⟩
        rw [HN.out] at HT
        clear hmm
        by_cases hk : k ≤ (mm : Int)
        · have HT1 : Hd (topW S n k L = some (ek, ck, sk)) := ⟨by rw [H4.out.2.2, HT.out, if_pos hk]⟩
          clear HT
          go_wp2_with (first
            | (refine at_load ?_; refine wpList_load_mid rfl 62 (.tmp 18) rfl g (j * 4) rfl [.int .i64 ek, .int .i64 ck, .int .i64 sk, .slice A1 mm c1] _ HR.out Try.underlying62 rfl infoG ?_)
            | (refine at_store ?_; refine wpList_boxed rfl 62 (.tmp 6) (.tmp 19) rfl wr.heap.size rfl #[.int .i64 ek, .int .i64 ck, .int .i64 sk, .slice A1 mm c1] rfl rfl infoG rfl (by simp [Value.oneCell']) ?_; intro w5 HW5
               have H5 := Hd.mk (H4.out.1.keep HW5.out.2.1)
               have s0 := H5.out.c0
               have b0 : w5.cell? ⟨wr.heap.size, 0, none⟩ = some (.int .i64 ek) := by rw [cell_of_row _ _ _ _ _ _ HW5.out.1]; rfl
               have b1 : w5.cell? ⟨wr.heap.size, 1, none⟩ = some (.int .i64 ck) := by rw [cell_of_row _ _ _ _ _ _ HW5.out.1]; rfl
               have b2 : w5.cell? ⟨wr.heap.size, 2, none⟩ = some (.int .i64 sk) := by rw [cell_of_row _ _ _ _ _ _ HW5.out.1]; rfl
               have b3 : w5.cell? ⟨wr.heap.size, 3, none⟩ = some (.slice A1 mm c1) := by rw [cell_of_row _ _ _ _ _ _ HW5.out.1]; rfl)
            | (refine at_store ?_; refine wpList_stored rfl 27 (.tmp 4) (.tmp 32) rfl (w.heap.size + 1) #[.int .i64 1, .int .i64 ek, .int .i64 ck, .int .i64 sk, .slice A1 mm c1] rfl rfl _ _ H5.out.ve infoV2 rfl (by simp [Value.oneCell']) ?_; intro w6 HW6))
          have HQ2 : Hd ((1, (ek, ck, sk), plc S (ek, ck, sk) n) = judgeP S n k m b) := ⟨by unfold judgeP; rw [if_pos HQ.out, HL.out, HT1.out]⟩
          have HO : Hd (w6.ownsRow (w.heap.size + 2) 3 1 (.slice A1 mm c1) mm (iz (plc S (ek, ck, sk) n))) := ⟨by
            have h := H4.out.2.1.rows (ek, ck, sk) HXM.out
            rw [HF.out, HM.out] at h
            exact (own_belowS h HW5.out.2.1).kept HW6.out.2.1 (own_ne h (by omega))⟩
          (try simp only [Exit.inBlock, Exit.then])
          refine bodyPost_ret (results_cell1 rfl _ _ (w.heap.size + 1) 27 #[.int .i64 1, .int .i64 ek, .int .i64 ck, .int .i64 sk, .slice A1 mm c1] (0, 0) _ rfl HW6.out.1 Try.underlying27 rfl infoV2) rfl ?_
          exact HJ.out _ HQ2.out _ _ ⟨_, rfl, by rw [HM.out]; exact own_low HO.out (by omega), H5.out.done HW6.out.2.1⟩
        · have HT1 : Hd (topW S n k L = topW S n k (L.drop (j + 1))) := ⟨by rw [H4.out.2.2, HT.out, if_neg hk]⟩
          clear HT
          go_wp2_with (first
            | (refine at_load ?_; refine wpList_load_mid rfl 62 (.tmp 18) rfl g (j * 4) rfl [.int .i64 ek, .int .i64 ck, .int .i64 sk, .slice A1 mm c1] _ HR.out Try.underlying62 rfl infoG ?_)
            | (refine at_store ?_; refine wpList_boxed rfl 62 (.tmp 6) (.tmp 19) rfl wr.heap.size rfl #[.int .i64 ek, .int .i64 ck, .int .i64 sk, .slice A1 mm c1] rfl rfl infoG rfl (by simp [Value.oneCell']) ?_; intro w5 HW5
               have H5 := Hd.mk (H4.out.1.keep HW5.out.2.1)
               have s0 := H5.out.c0
               have b0 : w5.cell? ⟨wr.heap.size, 0, none⟩ = some (.int .i64 ek) := by rw [cell_of_row _ _ _ _ _ _ HW5.out.1]; rfl
               have b1 : w5.cell? ⟨wr.heap.size, 1, none⟩ = some (.int .i64 ck) := by rw [cell_of_row _ _ _ _ _ _ HW5.out.1]; rfl
               have b2 : w5.cell? ⟨wr.heap.size, 2, none⟩ = some (.int .i64 sk) := by rw [cell_of_row _ _ _ _ _ _ HW5.out.1]; rfl
               have b3 : w5.cell? ⟨wr.heap.size, 3, none⟩ = some (.slice A1 mm c1) := by rw [cell_of_row _ _ _ _ _ _ HW5.out.1]; rfl))
          go_roundw
          case rel => exact ⟨j + 1, by omega, by go_num, H5.out, H4.out.2.1.keep HW5.out.2.1, HT1.out⟩
          case measure => simp [intOf]; omega
      · have hjn : j = L.length := by omega
        subst hjn
        have HT1 : Hd (topW S n k L = none) := ⟨by rw [H4.out.2.2, List.drop_length]; rfl⟩
        go_wp2_with fail
        have HHid : Hd (∀ W, Below wr.heap.size wr W → Calls Try.prog 36 #[.slice A n c] W fun e w' => e = .returned (.int .i64 (hidN S n : Int)) ∧ Below W.heap.size W w') := ⟨fun W hW => hidden_any W w.heap.size n c A S (((HH.out.1.below (H4.out.1.bel.mono HH.out.2)).more HH.out.2).below (hW.mono H4.out.1.bel.size)) (Nat.le_trans H4.out.1.bel.size hW.size) hn⟩
        have hle := hidN_le S n
        have HHN : Hd (∀ z, z = (hidN S n : Int) → (if z ≤ m then ((2, (0, 0, 0), []) : Int × Wr × List Int) else (3, (0, 0, 0), [])) = judgeP S n k m b) := ⟨fun z hz => by unfold judgeP; rw [if_pos HQ.out, HL.out, HT1.out, hz]⟩
        obtain ⟨hd, hhd⟩ : ∃ hd, hidN S n = hd := ⟨_, rfl⟩
        rw [hhd] at HHid HHN hle
        have HG := Hd.mk H4.out.1.big
        clear hhd
        go_region_held3 (fun W => Below wr.heap.size wr W ∧ W.cell? ⟨w.heap.size, 1, none⟩ = some (.int .i64 m))
          (first | (exact keepS (by have := HG.out; omega) (by assumption) hb) | (exact ⟨(Below.refl _ _).drew, H4.out.1.c1⟩))
          (first | (go_at_call 36; refine (HHid.out _ (by first | assumption | exact And.left (by assumption))).mono ?_; rintro e w' ⟨rfl, hb⟩))
        have H9 : Hd (JSt w w' k m b) := ⟨H4.out.1.keep (And.left (by assumption))⟩
        by_cases hm : (hd : Int) ≤ m
        · have HQ3 : Hd ((2, (0, 0, 0), []) = judgeP S n k m b) := ⟨by rw [← HHN.out _ rfl, if_pos hm]⟩
          go_wp2_with (refine at_store ?_; refine wpList_stored rfl 27 (.tmp 4) (.tmp 39) rfl (w.heap.size + 1) #[.int .i64 2, .int .i64 0, .int .i64 0, .int .i64 0, .slice none 0 0] rfl rfl _ _ H9.out.ve infoV2 rfl (by simp [Value.oneCell']) ?_; intro w7 HW7)
          (try simp only [Exit.inBlock, Exit.then])
          refine bodyPost_ret (results_cell1 rfl _ _ (w.heap.size + 1) 27 #[.int .i64 2, .int .i64 0, .int .i64 0, .int .i64 0, .slice none 0 0] (0, 0) _ rfl HW7.out.1 Try.underlying27 rfl infoV2) rfl ?_
          exact HJ.out _ HQ3.out _ _ ⟨_, rfl, World.ownsRow_nil _ _ _ _, H9.out.done HW7.out.2.1⟩
        · have HQ3 : Hd ((3, (0, 0, 0), []) = judgeP S n k m b) := ⟨by rw [← HHN.out _ rfl, if_neg hm]⟩
          go_wp2_with (refine at_store ?_; refine wpList_stored rfl 27 (.tmp 4) (.tmp 40) rfl (w.heap.size + 1) #[.int .i64 3, .int .i64 0, .int .i64 0, .int .i64 0, .slice none 0 0] rfl rfl _ _ H9.out.ve infoV2 rfl (by simp [Value.oneCell']) ?_; intro w7 HW7)
          (try simp only [Exit.inBlock, Exit.then])
          refine bodyPost_ret (results_cell1 rfl _ _ (w.heap.size + 1) 27 #[.int .i64 3, .int .i64 0, .int .i64 0, .int .i64 0, .slice none 0 0] (0, 0) _ rfl HW7.out.1 Try.underlying27 rfl infoV2) rfl ?_
          exact HJ.out _ HQ3.out _ _ ⟨_, rfl, World.ownsRow_nil _ _ _ _, H9.out.done HW7.out.2.1⟩
end Go.Proofs.Ytplpaipmkpjgfaa
