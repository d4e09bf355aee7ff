/- The walk of VotesJudges: it returns true for every input. -/
import Derived.Test.YtplpaipmkpjgfaaRefJ
import Derived.Test.YtplpaipmkpjgfaaStaleWalk
namespace Go.Proofs.Ytplpaipmkpjgfaa
open Go.RowKit
set_option linter.unusedVariables false
set_option linter.unusedSimpArgs false
section
variable {S S' : Nat → Sn} {n : Nat}
theorem plc_congr (h : ∀ r, r < n → (S' r).kind = (S r).kind ∧ (S' r).hd = (S r).hd) (x : Wr) : plc S' x n = plc S x n := by
  unfold plc
  congr 1
  apply List.filter_congr
  intro r hr
  obtain ⟨h1, h2⟩ := h r (List.mem_range.1 hr)
  unfold shB showsP
  rw [h1, h2]
theorem hidN_congr (h : ∀ r, r < n → (S' r).kind = (S r).kind ∧ (S' r).hd = (S r).hd) : hidN S' n = hidN S n := by
  unfold hidN
  congr 1
  apply List.filter_congr
  intro r hr
  obtain ⟨h1, h2⟩ := h r (List.mem_range.1 hr)
  unfold hidB
  rw [h1]
theorem grpL_congr (h : ∀ r, r < n → (S' r).kind = (S r).kind ∧ (S' r).hd = (S r).hd) : grpL S' n = grpL S n :=
  (IsGrp.eq (S := S') (l := grpL S n) ⟨(isGrp_grpL S n).1, fun x => by rw [plc_congr h]; exact (isGrp_grpL S n).2 x⟩).symm
theorem topW_congr (h : ∀ r, r < n → (S' r).kind = (S r).kind ∧ (S' r).hd = (S r).hd) (K : Int) (l : List Wr) : topW S' n K l = topW S n K l := by
  unfold topW cnt
  simp only [plc_congr h]
theorem judgeP_congr (h : ∀ r, r < n → (S' r).kind = (S r).kind ∧ (S' r).hd = (S r).hd) (k m b : Int) : judgeP S' n k m b = judgeP S n k m b := by
  unfold judgeP
  simp only [grpL_congr h, topW_congr h, plc_congr h, hidN_congr h]
theorem possW_congr (h : ∀ r, r < n → (S' r).kind = (S r).kind ∧ (S' r).hd = (S r).hd) (k : Int) : ∀ l, possW S' n k l = possW S n k l
  | [] => rfl
  | x :: l => by
    unfold possW
    rw [possW_congr h k l]
    unfold cnt
    rw [plc_congr h, hidN_congr h]
theorem possP_congr (h : ∀ r, r < n → (S' r).kind = (S r).kind ∧ (S' r).hd = (S r).hd) (k m b : Int) : possP S' n k m b = possP S n k m b := by
  unfold possP
  rw [grpL_congr h, possW_congr h]
end
theorem judge_len (S : Nat → Sn) (n : Nat) (k m b : Int) : (judgeP S n k m b).2.2.length ≤ n := by
  unfold judgeP
  split
  · split
    · exact plc_le _ _ _
    · split <;> exact Nat.zero_le _
  · exact Nat.zero_le _
set_option maxRecDepth 20000 in
set_option maxHeartbeats 4000000 in
theorem sameverdict_any (w : World) (vk ep ct sz : Int) (l : List Int) (A1 A2 : Option Addr) (c1 c2 n : Nat) (hl : l.length = n) (h1 : Rd w w.heap.size A1 n (iz l)) (h2 : Rd w w.heap.size A2 n (iz l)) (hn : n * 120 ≤ 140737488351232) :
    Calls Try.prog 17 #[.agg #[.int .i64 vk, .int .i64 ep, .int .i64 ct, .int .i64 sz, .slice A1 n c1], .agg #[.int .i64 vk, .int .i64 ep, .int .i64 ct, .int .i64 sz, .slice A2 n c2]] w fun e w' => e = .returned (.bool true) ∧ Below w.heap.size w w' := by
  have HB : Hd (Below w.heap.size w ((w.alloc (.cells #[.int .i64 vk, .int .i64 ep, .int .i64 ct, .int .i64 sz, .slice A1 n c1] 27)).alloc (.cells #[.int .i64 vk, .int .i64 ep, .int .i64 ct, .int .i64 sz, .slice A2 n c2] 27))) := ⟨((Below.refl _ _).alloc (Nat.le_refl _) _).alloc (by simp) _⟩
  have HR : Hd (Rd w w.heap.size A1 n (iz l) ∧ Rd w w.heap.size A2 n (iz l)) := ⟨h1, h2⟩
  clear h1 h2
  go_enter Try.func17, Try.ntmps17
  go_wp2_with fail
  refine (sameInts_any _ w.heap.size n c1 c2 A1 A2 l (HR.out.1.below HB.out) (HR.out.2.below HB.out) HB.out.size (by omega)).mono ?_
  rintro e w2 ⟨rfl, hb⟩
  have HF := Hd.mk (HB.out.trans (hb.mono HB.out.size))
  clear hb
  go_wp2_with fail
  go_ret
  exact ⟨rfl, HF.out⟩
set_option maxRecDepth 20000 in
set_option maxHeartbeats 8000000 in
theorem judges_walk (A : Option Addr) (n c : Nat) (S : Nat → Sn) (B : Nat → List (List Nat)) (k m b : Int) (w : World) (hA : SeenA w A n S B) :
    Calls Try.prog 4 #[.agg #[.int .i64 k, .int .i64 m, .int .i64 b], .slice A n c] w fun e w' => e = .returned (.bool true) ∧ Below w.heap.size w w' := by
  have HA := Hd.mk hA
  have hn := hA.lenA
  clear hA
  have H1 := Hd.mk (PSt.start w k m b)
  go_enter Try.func4, Try.ntmps4
  go_wp2_with fail
  obtain ⟨w1, hw1⟩ : ∃ w1, w.alloc (.cells #[.int .i64 k, .int .i64 m, .int .i64 b] 34) = w1 := ⟨_, rfl⟩
  rw [hw1] at H1 ⊢
  clear hw1
  refine (refjudge_any w1 w.heap.size n c A S (HA.out.view.below H1.out.bel) H1.out.bel.size hn k m b).mono ?_
  have hjl := judge_len S n k m b
  have HJ := Hd.mk (rfl : judgeP S n k m b = judgeP S n k m b)
  obtain ⟨⟨vk, ⟨ep, ct, sz⟩, pl⟩, hr⟩ : ∃ r, judgeP S n k m b = r := ⟨_, rfl⟩
  rw [hr] at hjl ⊢
  rintro e w2 ⟨P, rfl, ho2, hb2⟩
  obtain ⟨A2, c2, rfl, _, _⟩ := own_form ho2
  change pl.length ≤ n at hjl
  obtain ⟨q, hq⟩ : ∃ q, pl.length = q := ⟨_, rfl⟩
  have H2 : Hd (PSt w w2 k m b ∧ w2.ownsRow w1.heap.size 3 1 (.slice A2 q c2) q (iz pl)) := ⟨H1.out.keep hb2, by rw [← hq]; exact ho2⟩
  have HQ : Hd (judgeP S n k m b = (vk, (ep, ct, sz), pl) ∧ pl.length = q) := ⟨hr, hq⟩
  rw [show verV (vk, (ep, ct, sz), pl) (.slice A2 ((vk, (ep, ct, sz), pl) : Int × Wr × List Int).2.2.length c2) = #[.int .i64 vk, .int .i64 ep, .int .i64 ct, .int .i64 sz, .slice A2 q c2] by rw [← hq]; rfl]
  rw [hq] at hjl
  clear ho2 hb2 hr hq HJ H1
  go_wp2_with (refine at_store ?_; refine wpList_boxed rfl 27 (.tmp 5) (.tmp 10) rfl w2.heap.size rfl #[.int .i64 vk, .int .i64 ep, .int .i64 ct, .int .i64 sz, .slice A2 q c2] rfl rfl infoV2 rfl (by simp [Value.oneCell']) ?_; intro w3 HW3)
  have H3 : Hd (PSt w w3 k m b ∧ w3.ownsRow w1.heap.size 3 1 (.slice A2 q c2) q (iz pl)) := ⟨H2.out.1.keep HW3.out.2.1, own_belowS H2.out.2 HW3.out.2.1⟩
  have hA3 : SeenA w3 A n S B := ⟨(HA.out.view.below H3.out.1.bel).more H3.out.1.bel.size, fun r hr => ((HA.out.blk r hr).below H3.out.1.bel).more H3.out.1.bel.size, HA.out.lenA, HA.out.lenB, HA.out.lenR⟩
  refine (lent_any w3 A n c S B hA3).mono ?_
  clear hA3 H2
  rintro e w4 ⟨A4, c4, rfl, hb4, hL4⟩
  have hs3 : w2.heap.size < w3.heap.size := by have := HW3.out.2.2; omega
  have H4 : Hd (PSt w w4 k m b ∧ w4.ownsRow w1.heap.size 3 1 (.slice A2 q c2) q (iz pl) ∧ Lent w4 w4.heap.size A4 n c4 S B ∧ w4.heap[w2.heap.size]? = some (.cells #[.int .i64 vk, .int .i64 ep, .int .i64 ct, .int .i64 sz, .slice A2 q c2] 27 (0, 0))) := ⟨H3.out.1.keep hb4, own_belowS H3.out.2 hb4, hL4, (hb4.block _ hs3).trans HW3.out.1⟩
  clear hb4 hL4 H3 HW3 hs3
  obtain ⟨S', hv', hc'⟩ := H4.out.2.2.1.view (fun r hr => by obtain ⟨_, _, _, _, _, h⟩ := HA.out.view r hr; exact h)
  have HV := Hd.mk (And.intro hv' hc')
  clear hv' hc'
  go_wp2_with (refine at_load ?_; refine wpList_load_row rfl 34 (.tmp 2) rfl w.heap.size rfl 34 #[.int .i64 k, .int .i64 m, .int .i64 b] (0, 0) _ H4.out.1.sh Try.underlying34 rfl infoSh ?_)
  have hJ := judge_any w4 w4.heap.size n c4 A4 S' HV.out.1 (Nat.le_refl _) hn k m b
  rw [judgeP_congr HV.out.2, HQ.out.1] at hJ
  refine hJ.mono ?_
  clear hJ
  rintro e w5 ⟨P, rfl, ho5, hb5⟩
  obtain ⟨A5, c5, rfl, _, _⟩ := own_form ho5
  have hq := HQ.out.2
  rw [show verV (vk, (ep, ct, sz), pl) (.slice A5 ((vk, (ep, ct, sz), pl) : Int × Wr × List Int).2.2.length c5) = #[.int .i64 vk, .int .i64 ep, .int .i64 ct, .int .i64 sz, .slice A5 q c5] by rw [← hq]; rfl]
  have H5 : Hd (Below w4.heap.size w4 w5 ∧ w5.ownsRow w4.heap.size 3 1 (.slice A5 q c5) q (iz pl)) := ⟨hb5, by rw [← hq]; exact ho5⟩
  clear ho5 hb5 hq
  go_wp2_with (first
    | (refine at_store ?_; refine wpList_boxed rfl 27 (.tmp 7) (.tmp 15) rfl w5.heap.size rfl #[.int .i64 vk, .int .i64 ep, .int .i64 ct, .int .i64 sz, .slice A5 q c5] rfl rfl infoV2 rfl (by simp [Value.oneCell']) ?_; intro w6 HW6
       have H6 : Hd (Below w4.heap.size w4 w6 ∧ w6.ownsRow w4.heap.size 3 1 (.slice A5 q c5) q (iz pl) ∧ w6.ownsRow w1.heap.size 3 1 (.slice A2 q c2) q (iz pl) ∧ w6.heap[w2.heap.size]? = some (.cells #[.int .i64 vk, .int .i64 ep, .int .i64 ct, .int .i64 sz, .slice A2 q c2] 27 (0, 0))) :=
         ⟨H5.out.1.trans (HW6.out.2.1.mono H5.out.1.size), own_belowS H5.out.2 HW6.out.2.1, own_belowS (own_belowS H4.out.2.1 H5.out.1) HW6.out.2.1, ((H5.out.1.trans (HW6.out.2.1.mono H5.out.1.size)).block _ (Array.getElem?_eq_some_iff.1 H4.out.2.2.2).1).trans H4.out.2.2.2⟩)
    | (refine at_load ?_; refine wpList_load_row rfl 27 (.tmp 7) rfl w5.heap.size rfl 27 #[.int .i64 vk, .int .i64 ep, .int .i64 ct, .int .i64 sz, .slice A5 q c5] (0, 0) _ HW6.out.1 Try.underlying27 rfl infoV2 ?_)
    | (refine at_load ?_; refine wpList_load_row rfl 27 (.tmp 5) rfl w2.heap.size rfl 27 #[.int .i64 vk, .int .i64 ep, .int .i64 ct, .int .i64 sz, .slice A2 q c2] (0, 0) _ H6.out.2.2.2 Try.underlying27 rfl infoV2 ?_))
  refine (sameverdict_any w6 vk ep ct sz pl A5 A2 c5 c2 q HQ.out.2 (Rd.of_own H6.out.2.1) (Rd.of_own H6.out.2.2.1) (by omega)).mono ?_
  rintro e w7 ⟨rfl, hb7⟩
  have H7 : Hd (Below w4.heap.size w4 w7) := ⟨H6.out.1.trans (hb7.mono H6.out.1.size)⟩
  clear hb7
  go_wp2_with fail
  have hL7 : Lent w7 w7.heap.size A4 n c4 S B := by
    obtain ⟨g, bl, e, hg, hc, h1, h2⟩ := H4.out.2.2.1.below H7.out
    exact ⟨g, bl, e, Nat.lt_of_lt_of_le hg H7.out.size, hc, fun r hr => ⟨(h1 r hr).1, (h1 r hr).2.keep (fun _ _ => rfl) fun g hg => Nat.lt_of_lt_of_le hg H7.out.size⟩, h2⟩
  have hb7 : Below w.heap.size w w7 := H4.out.1.bel.trans (H7.out.mono H4.out.1.bel.size)
  have hA7 : SeenA w7 A n S B := ⟨(HA.out.view.below hb7).more hb7.size, fun r hr => ((HA.out.blk r hr).below hb7).more hb7.size, HA.out.lenA, HA.out.lenB, HA.out.lenR⟩
  refine (kept_any w7 A4 A n c4 c S B hL7 hA7).mono ?_
  rintro e w8 ⟨rfl, hb8⟩
  have HF := Hd.mk (hb7.trans (hb8.mono hb7.size))
  clear hb7 hb8 hA7 hL7
  go_wp2_with fail
  go_ret
  exact ⟨rfl, HF.out⟩
end Go.Proofs.Ytplpaipmkpjgfaa
