/- The walk of VotesMoved: it returns true for every input. -/
import Derived.Test.YtplpaipmkpjgfaaMoveP
namespace Go.Proofs.Ytplpaipmkpjgfaa
open Go.RowKit
set_option linter.unusedVariables false
set_option linter.unusedSimpArgs false
/-- What stands, underway: the argument's box, the shape's, the first verdict's. -/
structure Mv (w wr : World) (k m b Ii Jj : Int) (A : Option Addr) (n c s0 b0 : Nat) (vs : List Value) : Prop where
  bx : wr.heap[w.heap.size]? = some (.cells #[.int .i64 k, .int .i64 m, .int .i64 b, .slice A n c, .int .i64 Ii, .int .i64 Jj] 65 (0, 0))
  sh : wr.heap[s0]? = some (.cells #[.int .i64 k, .int .i64 m, .int .i64 b] 34 (0, 0))
  ve : wr.heap[b0]? = some (.cells vs.toArray 27 (0, 0))
  bel : Below w.heap.size w wr
section
variable {w wr w' : World} {k m b Ii Jj : Int} {A : Option Addr} {n c s0 b0 base : Nat} {vs : List Value}
theorem Mv.lo (H : Mv w wr k m b Ii Jj A n c s0 b0 vs) : w.heap.size < wr.heap.size ∧ s0 < wr.heap.size ∧ b0 < wr.heap.size := ⟨(Array.getElem?_eq_some_iff.1 H.bx).1, (Array.getElem?_eq_some_iff.1 H.sh).1, (Array.getElem?_eq_some_iff.1 H.ve).1⟩
theorem Mv.keepB (H : Mv w wr k m b Ii Jj A n c s0 b0 vs) (hb : Below base wr w') (h1 : w.heap.size < base) (h2 : s0 < base) (h3 : b0 < base) : Mv w w' k m b Ii Jj A n c s0 b0 vs :=
  ⟨(hb.block _ h1).trans H.bx, (hb.block _ h2).trans H.sh, (hb.block _ h3).trans H.ve, H.bel.trans (hb.mono (by omega))⟩
theorem Mv.keep (H : Mv w wr k m b Ii Jj A n c s0 b0 vs) (hb : Below wr.heap.size wr w') : Mv w w' k m b Ii Jj A n c s0 b0 vs := H.keepB hb H.lo.1 H.lo.2.1 H.lo.2.2
end
set_option maxRecDepth 20000 in
set_option maxHeartbeats 40000000 in
theorem moved_walk (A : Option Addr) (n c : Nat) (S : Nat → Sn) (B : Nat → List (List Nat)) (k m b Ii Jj : Int) (w : World) (hA : SeenA w A n S B) :
    Calls Try.prog 8 #[.agg #[.int .i64 k, .int .i64 m, .int .i64 b, .slice A n c, .int .i64 Ii, .int .i64 Jj]] w fun e w' => e = .returned (.bool true) ∧ Below w.heap.size w w' := by
  have HA := Hd.mk hA
  have hn := hA.lenA
  clear hA
  go_enter Try.func8, Try.ntmps8
  go_wp2_with fail
  have H1 : Hd ((w.alloc (.cells #[.int .i64 k, .int .i64 m, .int .i64 b, .slice A n c, .int .i64 Ii, .int .i64 Jj] 65)).heap[w.heap.size]? = some (.cells #[.int .i64 k, .int .i64 m, .int .i64 b, .slice A n c, .int .i64 Ii, .int .i64 Jj] 65 (0, 0)) ∧ Below w.heap.size w (w.alloc (.cells #[.int .i64 k, .int .i64 m, .int .i64 b, .slice A n c, .int .i64 Ii, .int .i64 Jj] 65))) := ⟨heap_alloc_new _ _, (Below.refl _ _).alloc (Nat.le_refl _) _⟩
  obtain ⟨w1, hw1⟩ : ∃ w1, w.alloc (.cells #[.int .i64 k, .int .i64 m, .int .i64 b, .slice A n c, .int .i64 Ii, .int .i64 Jj] 65) = w1 := ⟨_, rfl⟩
  rw [hw1] at H1 ⊢
  clear hw1
  refine (awake_any w1).mono ?_
  rintro e w2 ⟨rfl, hb2⟩
  have H2 : Hd (w2.heap[w.heap.size]? = some (.cells #[.int .i64 k, .int .i64 m, .int .i64 b, .slice A n c, .int .i64 Ii, .int .i64 Jj] 65 (0, 0)) ∧ Below w.heap.size w w2) := ⟨(hb2.block _ (Array.getElem?_eq_some_iff.1 H1.out.1).1).trans H1.out.1, H1.out.2.trans (hb2.mono H1.out.2.size)⟩
  clear hb2 H1
  have hs2 : w.heap.size < w2.heap.size := (Array.getElem?_eq_some_iff.1 H2.out.1).1
  have m0 : w2.cell? ⟨w.heap.size, 0, none⟩ = some (.int .i64 k) := by rw [cell_of_row _ _ _ _ _ _ H2.out.1]; rfl
  have m1 : w2.cell? ⟨w.heap.size, 1, none⟩ = some (.int .i64 m) := by rw [cell_of_row _ _ _ _ _ _ H2.out.1]; rfl
  have m2 : w2.cell? ⟨w.heap.size, 2, none⟩ = some (.int .i64 b) := by rw [cell_of_row _ _ _ _ _ _ H2.out.1]; rfl
  have m3 : (w2.alloc (.cells #[.int .i64 k, .int .i64 m, .int .i64 b] 34)).cell? ⟨w.heap.size, 3, none⟩ = some (.slice A n c) := by rw [World.cell?_alloc_lt _ _ _ hs2, cell_of_row _ _ _ _ _ _ H2.out.1]; rfl
  have m4 : (w2.alloc (.cells #[.int .i64 k, .int .i64 m, .int .i64 b] 34)).cell? ⟨w.heap.size, 4, none⟩ = some (.int .i64 Ii) := by rw [World.cell?_alloc_lt _ _ _ hs2, cell_of_row _ _ _ _ _ _ H2.out.1]; rfl
  have m5 : (w2.alloc (.cells #[.int .i64 k, .int .i64 m, .int .i64 b] 34)).cell? ⟨w.heap.size, 5, none⟩ = some (.int .i64 Jj) := by rw [World.cell?_alloc_lt _ _ _ hs2, cell_of_row _ _ _ _ _ _ H2.out.1]; rfl
  go_wp2_with (refine at_load (x := .tmp 4) ?_; refine wpList_load_row rfl 34 (.tmp 4) rfl w2.heap.size rfl 34 #[.int .i64 k, .int .i64 m, .int .i64 b] (0, 0) _ (heap_alloc_new _ _) Try.underlying34 rfl infoSh ?_)
  have H3 : Hd ((w2.alloc (.cells #[.int .i64 k, .int .i64 m, .int .i64 b] 34)).heap[w.heap.size]? = some (.cells #[.int .i64 k, .int .i64 m, .int .i64 b, .slice A n c, .int .i64 Ii, .int .i64 Jj] 65 (0, 0)) ∧ (w2.alloc (.cells #[.int .i64 k, .int .i64 m, .int .i64 b] 34)).heap[w2.heap.size]? = some (.cells #[.int .i64 k, .int .i64 m, .int .i64 b] 34 (0, 0)) ∧ Below w.heap.size w (w2.alloc (.cells #[.int .i64 k, .int .i64 m, .int .i64 b] 34))) := ⟨(Go.Deep.blk_alloc_lt _ _ _ hs2).trans H2.out.1, heap_alloc_new _ _, H2.out.2.alloc H2.out.2.size _⟩
  obtain ⟨w3, hw3⟩ : ∃ w3, w2.alloc (.cells #[.int .i64 k, .int .i64 m, .int .i64 b] 34) = w3 := ⟨_, rfl⟩
  rw [hw3] at H3 ⊢
  clear hw3 m0 m1 m2 m3 m4 m5 H2
  have hj := judge_any w3 w.heap.size n c A S (HA.out.view.below H3.out.2.2) H3.out.2.2.size hn k m b
  obtain ⟨⟨vk, ⟨ep, ct, sz⟩, pl⟩, hr⟩ : ∃ r, judgeP S n k m b = r := ⟨_, rfl⟩
  rw [hr] at hj
  have HR := Hd.mk hr
  have hjl := judge_len S n k m b
  rw [hr] at hjl
  change pl.length ≤ n at hjl
  refine hj.mono ?_
  clear hj hr
  rintro e w4 ⟨P, rfl, ho4, hb4⟩
  obtain ⟨A4, c4, rfl, _, _⟩ := own_form ho4
  rw [show verV (vk, (ep, ct, sz), pl) (.slice A4 ((vk, (ep, ct, sz), pl) : Int × Wr × List Int).2.2.length c4) = #[.int .i64 vk, .int .i64 ep, .int .i64 ct, .int .i64 sz, .slice A4 pl.length c4] from rfl]
  obtain ⟨q1, hq1⟩ : ∃ q1, pl.length = q1 := ⟨_, rfl⟩
  have HQ1 := Hd.mk hq1
  rw [hq1] at hjl ⊢
  have H4 : Hd (w4.heap[w.heap.size]? = some (.cells #[.int .i64 k, .int .i64 m, .int .i64 b, .slice A n c, .int .i64 Ii, .int .i64 Jj] 65 (0, 0)) ∧ w4.heap[w2.heap.size]? = some (.cells #[.int .i64 k, .int .i64 m, .int .i64 b] 34 (0, 0)) ∧ Below w.heap.size w w4 ∧ w2.heap.size < w4.heap.size) := ⟨(hb4.block _ (Array.getElem?_eq_some_iff.1 H3.out.1).1).trans H3.out.1, (hb4.block _ (Array.getElem?_eq_some_iff.1 H3.out.2.1).1).trans H3.out.2.1, H3.out.2.2.trans (hb4.mono H3.out.2.2.size), Nat.lt_of_lt_of_le (Array.getElem?_eq_some_iff.1 H3.out.2.1).1 hb4.size⟩
  clear ho4 hb4 hq1 H3
  by_cases h1 : Ii < 0
  · skip
    go_wp2_with (refine at_store (x := .tmp 8) ?_; refine wpList_boxed rfl 27 (.tmp 8) (.tmp 26) rfl w4.heap.size rfl #[.int .i64 vk, .int .i64 ep, .int .i64 ct, .int .i64 sz, .slice A4 q1 c4] rfl rfl infoV2 rfl (by simp [Value.oneCell']) ?_; intro w5 HW5
                 have H5 : Hd (Mv w w5 k m b Ii Jj A n c w2.heap.size w4.heap.size [.int .i64 vk, .int .i64 ep, .int .i64 ct, .int .i64 sz, .slice A4 q1 c4]) := ⟨⟨(HW5.out.2.1.block _ (by have := H4.out.2.2.2; omega)).trans H4.out.1, (HW5.out.2.1.block _ H4.out.2.2.2).trans H4.out.2.1, HW5.out.1, H4.out.2.2.1.trans (HW5.out.2.1.mono H4.out.2.2.1.size)⟩⟩)
    go_ret
    exact ⟨rfl, H5.out.bel⟩
  by_cases h2 : Jj < 0
  · skip
    go_wp2_with (refine at_store (x := .tmp 8) ?_; refine wpList_boxed rfl 27 (.tmp 8) (.tmp 26) rfl w4.heap.size rfl #[.int .i64 vk, .int .i64 ep, .int .i64 ct, .int .i64 sz, .slice A4 q1 c4] rfl rfl infoV2 rfl (by simp [Value.oneCell']) ?_; intro w5 HW5
                 have H5 : Hd (Mv w w5 k m b Ii Jj A n c w2.heap.size w4.heap.size [.int .i64 vk, .int .i64 ep, .int .i64 ct, .int .i64 sz, .slice A4 q1 c4]) := ⟨⟨(HW5.out.2.1.block _ (by have := H4.out.2.2.2; omega)).trans H4.out.1, (HW5.out.2.1.block _ H4.out.2.2.2).trans H4.out.2.1, HW5.out.1, H4.out.2.2.1.trans (HW5.out.2.1.mono H4.out.2.2.1.size)⟩⟩)
    go_ret
    exact ⟨rfl, H5.out.bel⟩
  obtain ⟨i, rfl⟩ : ∃ i : Nat, Ii = (i : Int) := ⟨Ii.toNat, by omega⟩
  obtain ⟨j, rfl⟩ : ∃ j : Nat, Jj = (j : Int) := ⟨Jj.toNat, by omega⟩
  have hd1 : decide ((i : Int) < 0) = false := decide_eq_false (by omega)
  have hd2 : decide ((j : Int) < 0) = false := decide_eq_false (by omega)
  by_cases h3 : n ≤ i
  · have h3' : (n : Int) ≤ (i : Int) := by omega
    go_wp2_with (refine at_store (x := .tmp 8) ?_; refine wpList_boxed rfl 27 (.tmp 8) (.tmp 26) rfl w4.heap.size rfl #[.int .i64 vk, .int .i64 ep, .int .i64 ct, .int .i64 sz, .slice A4 q1 c4] rfl rfl infoV2 rfl (by simp [Value.oneCell']) ?_; intro w5 HW5
                 have H5 : Hd (Mv w w5 k m b (i : Int) (j : Int) A n c w2.heap.size w4.heap.size [.int .i64 vk, .int .i64 ep, .int .i64 ct, .int .i64 sz, .slice A4 q1 c4]) := ⟨⟨(HW5.out.2.1.block _ (by have := H4.out.2.2.2; omega)).trans H4.out.1, (HW5.out.2.1.block _ H4.out.2.2.2).trans H4.out.2.1, HW5.out.1, H4.out.2.2.1.trans (HW5.out.2.1.mono H4.out.2.2.1.size)⟩⟩)
    go_ret
    exact ⟨rfl, H5.out.bel⟩
  by_cases h4 : n ≤ j
  · have h3' : ¬ (n : Int) ≤ (i : Int) := by omega
    have h4' : (n : Int) ≤ (j : Int) := by omega
    go_wp2_with (refine at_store (x := .tmp 8) ?_; refine wpList_boxed rfl 27 (.tmp 8) (.tmp 26) rfl w4.heap.size rfl #[.int .i64 vk, .int .i64 ep, .int .i64 ct, .int .i64 sz, .slice A4 q1 c4] rfl rfl infoV2 rfl (by simp [Value.oneCell']) ?_; intro w5 HW5
                 have H5 : Hd (Mv w w5 k m b (i : Int) (j : Int) A n c w2.heap.size w4.heap.size [.int .i64 vk, .int .i64 ep, .int .i64 ct, .int .i64 sz, .slice A4 q1 c4]) := ⟨⟨(HW5.out.2.1.block _ (by have := H4.out.2.2.2; omega)).trans H4.out.1, (HW5.out.2.1.block _ H4.out.2.2.2).trans H4.out.2.1, HW5.out.1, H4.out.2.2.1.trans (HW5.out.2.1.mono H4.out.2.2.1.size)⟩⟩)
    go_ret
    exact ⟨rfl, H5.out.bel⟩
  have hi : i < n := by omega
  have hj : j < n := by omega
  have h3' : ¬ (n : Int) ≤ (i : Int) := by omega
  have h4' : ¬ (n : Int) ≤ (j : Int) := by omega
  have hi' : (i : Int) < (n : Int) := by omega
  have hj' : (j : Int) < (n : Int) := by omega
  go_wp2_with (refine at_store (x := .tmp 8) ?_; refine wpList_boxed rfl 27 (.tmp 8) (.tmp 26) rfl w4.heap.size rfl #[.int .i64 vk, .int .i64 ep, .int .i64 ct, .int .i64 sz, .slice A4 q1 c4] rfl rfl infoV2 rfl (by simp [Value.oneCell']) ?_; intro w5 HW5
               have H5 : Hd (Mv w w5 k m b (i : Int) (j : Int) A n c w2.heap.size w4.heap.size [.int .i64 vk, .int .i64 ep, .int .i64 ct, .int .i64 sz, .slice A4 q1 c4]) := ⟨⟨(HW5.out.2.1.block _ (by have := H4.out.2.2.2; omega)).trans H4.out.1, (HW5.out.2.1.block _ H4.out.2.2.2).trans H4.out.2.1, HW5.out.1, H4.out.2.2.1.trans (HW5.out.2.1.mono H4.out.2.2.1.size)⟩⟩)
  have hA5 := HA.out.keep H5.out.bel
  refine (copied_any w5 A n c S B hA5).mono ?_
  rintro e w6 ⟨A6, c6, bl, rfl, hO6⟩
  obtain ⟨g, rfl, hC6⟩ := hO6.cop (HA.out.view.ok) (by omega)
  have H6 := Hd.mk (And.intro (H5.out.keep hO6.1) hC6)
  have HLO := Hd.mk H5.out.lo
  clear hO6 hC6 hA5 H5 HW5 H4
  obtain ⟨gs, off, rfl, hgs, _, _, _, _, _, hrj, hokj⟩ := (HA.out.view.below H6.out.1.bel).at_ hj
  have HRJ := Hd.mk (And.intro hrj hokj)
  obtain ⟨gs', off', hA', _, di, _, _, _, _, hri, hoki⟩ := (HA.out.view.below H6.out.1.bel).at_ hi
  injection hA' with hA'
  injection hA' with hA' hA2
  subst hA' hA2
  have HRI := Hd.mk (And.intro hri hoki)
  have HKI : Hd (∀ W, Below w.heap.size w W → W.cell? ⟨gs, off + i * 19, none⟩ = some (.int .i64 (S i).kind)) := ⟨fun W hW => by obtain ⟨_, _, e, _, d, _⟩ := (HA.out.view.below hW).at_ hi; injection e with e; injection e with e e2; subst e e2; exact d⟩
  have HGS := Hd.mk hgs
  clear hrj hokj hri hoki di hgs
  obtain ⟨xj, hxj⟩ : ∃ xs, (S j).cells = xs := ⟨_, rfl⟩
  obtain ⟨xi, hxi⟩ : ∃ xs, (S i).cells = xs := ⟨_, rfl⟩
  have HXJ := Hd.mk hxj
  have HXI := Hd.mk hxi
  have HLJ : Hd ((Try.prog.info? 58).map (·.size) = some xj.length) := ⟨by rw [← hxj, Sn.len]; exact infoS⟩
  have HLI : Hd ((Try.prog.info? 58).map (·.size) = some xi.length) := ⟨by rw [← hxi, Sn.len]; exact infoS⟩
  rw [hxj] at HRJ
  rw [hxi] at HRI
  clear hxj hxi
  go_wp2_with (first
    | (refine at_load (x := .tmp 51) ?_; refine wpList_load_mid rfl 58 (.tmp 51) rfl gs (off + j * 19) rfl xj _ HRJ.out.1 Try.underlying58 rfl HLJ.out ?_)
    | (refine at_store (x := .tmp 53) ?_; refine wpList_setSn rfl (.tmp 53) (.tmp 52) rfl H6.out.2 i hi (S j) HRJ.out.2 rfl xj HXJ.out rfl ?_; intro w7 HW7
       have H7 : Hd (Mv w w7 k m b i j (some ⟨gs, off, none⟩) n c w2.heap.size w4.heap.size [.int .i64 vk, .int .i64 ep, .int .i64 ct, .int .i64 sz, .slice A4 q1 c4]) := ⟨H6.out.1.keepB HW7.out.2.1 HLO.out.1 HLO.out.2.1 HLO.out.2.2⟩
       have HRI7 : Hd (w7.rangeAt gs (off + i * 19) xi) := ⟨fun t v hv => (HW7.out.2.1.cell (p := ⟨gs, _, none⟩) (by have := HGS.out; have := HLO.out.1; show gs < w5.heap.size; omega)).trans (HRI.out.1 t v hv)⟩)
    | (refine at_load (x := .tmp 58) ?_; refine wpList_load_mid rfl 58 (.tmp 58) rfl gs (off + i * 19) rfl xi _ HRI7.out Try.underlying58 rfl HLI.out ?_)
    | (refine at_store (x := .tmp 60) ?_; refine wpList_setSn rfl (.tmp 60) (.tmp 59) rfl HW7.out.1 j hj (S i) HRI.out.2 rfl xi HXI.out rfl ?_; intro w8 HW8
       have H8 : Hd (Mv w w8 k m b i j (some ⟨gs, off, none⟩) n c w2.heap.size w4.heap.size [.int .i64 vk, .int .i64 ep, .int .i64 ct, .int .i64 sz, .slice A4 q1 c4]) := ⟨H7.out.keepB HW8.out.2.1 HLO.out.1 HLO.out.2.1 HLO.out.2.2⟩)
    | (refine at_load (x := .tmp 4) ?_; refine wpList_load_row rfl 34 (.tmp 4) rfl w2.heap.size rfl 34 #[.int .i64 k, .int .i64 m, .int .i64 b] (0, 0) _ H8.out.sh Try.underlying34 rfl infoSh ?_))
  have hj8 := judge_any w8 w8.heap.size n c6 (some ⟨g, 0, none⟩) _ HW8.out.1.view (Nat.le_refl _) hn k m b
  rw [judgeP_congr (S := swp S i j) (fun r hr => by unfold swp upd; split; exact ⟨rfl, rfl⟩; split <;> exact ⟨rfl, rfl⟩)] at hj8
  have hjc := judge_cnt (k := k) (m := m) (b := b) (fun x => cnt_swp S hi hj x) (hid_swp S hi hj)
  rw [HR.out] at hjc
  obtain ⟨⟨vk2, ⟨ep2, ct2, sz2⟩, pl2⟩, hr2⟩ : ∃ r, judgeP (swp S i j) n k m b = r := ⟨_, rfl⟩
  rw [hr2] at hjc hj8
  obtain ⟨e1, e2, e3⟩ := hjc
  change vk2 = vk at e1
  change (ep2, ct2, sz2) = (ep, ct, sz) at e2
  change pl2.length = pl.length at e3
  simp only [Prod.mk.injEq] at e2
  obtain ⟨e2, e4, e5⟩ := e2
  subst e1 e2 e4 e5
  rw [HQ1.out] at e3
  refine hj8.mono ?_
  clear hj8 hr2
  rintro e w9 ⟨P, rfl, ho9, hb9⟩
  obtain ⟨A9, c9, rfl, _, _⟩ := own_form ho9
  rw [show verV (vk2, (ep2, ct2, sz2), pl2) (.slice A9 ((vk2, (ep2, ct2, sz2), pl2) : Int × Wr × List Int).2.2.length c9) = #[.int .i64 vk2, .int .i64 ep2, .int .i64 ct2, .int .i64 sz2, .slice A9 pl2.length c9] from rfl]
  rw [e3]
  have H9 := Hd.mk (H8.out.keep hb9)
  clear ho9 hb9 e3 H8 HW8 HRI7 H7 HW7 H6
  have hq1n : q1 ≤ n := hjl
  have HKW := Hd.mk HKI.out
  obtain ⟨kd, hkd⟩ : ∃ z, (S i).kind = z := ⟨_, rfl⟩
  have HKD := Hd.mk hkd
  rw [hkd] at HKI
  clear hkd HKW
  by_cases hv : vk2 = 1
  · subst hv
    by_cases hk1 : kd = 1
    · subst hk1
      go_wp2_with (refine at_store (x := .tmp 10) ?_; refine wpList_boxed rfl 27 (.tmp 10) (.tmp 63) rfl w9.heap.size rfl #[.int .i64 1, .int .i64 ep2, .int .i64 ct2, .int .i64 sz2, .slice A9 q1 c9] rfl rfl infoV2 rfl (by simp [Value.oneCell']) ?_; intro w10 HW10
                   have H10 := Hd.mk (H9.out.keep HW10.out.2.1)
                   have a0 : w10.cell? ⟨w4.heap.size, 0, none⟩ = some (.int .i64 1) := by rw [cell_of_row _ _ _ _ _ _ H10.out.ve]; rfl
                   have a1 : w10.cell? ⟨w4.heap.size, 1, none⟩ = some (.int .i64 ep2) := by rw [cell_of_row _ _ _ _ _ _ H10.out.ve]; rfl
                   have a2 : w10.cell? ⟨w4.heap.size, 2, none⟩ = some (.int .i64 ct2) := by rw [cell_of_row _ _ _ _ _ _ H10.out.ve]; rfl
                   have a3 : w10.cell? ⟨w4.heap.size, 3, none⟩ = some (.int .i64 sz2) := by rw [cell_of_row _ _ _ _ _ _ H10.out.ve]; rfl
                   have a4 : w10.cell? ⟨w4.heap.size, 4, none⟩ = some (.slice A4 q1 c4) := by rw [cell_of_row _ _ _ _ _ _ H10.out.ve]; rfl
                   have b0 : w10.cell? ⟨w9.heap.size, 0, none⟩ = some (.int .i64 1) := by rw [cell_of_row _ _ _ _ _ _ HW10.out.1]; rfl
                   have b1 : w10.cell? ⟨w9.heap.size, 1, none⟩ = some (.int .i64 ep2) := by rw [cell_of_row _ _ _ _ _ _ HW10.out.1]; rfl
                   have b2 : w10.cell? ⟨w9.heap.size, 2, none⟩ = some (.int .i64 ct2) := by rw [cell_of_row _ _ _ _ _ _ HW10.out.1]; rfl
                   have b3 : w10.cell? ⟨w9.heap.size, 3, none⟩ = some (.int .i64 sz2) := by rw [cell_of_row _ _ _ _ _ _ HW10.out.1]; rfl
                   have b4 : w10.cell? ⟨w9.heap.size, 4, none⟩ = some (.slice A9 q1 c9) := by rw [cell_of_row _ _ _ _ _ _ HW10.out.1]; rfl
                   have dI := HKI.out w10 H10.out.bel)
      refine (copied_any w10 (some ⟨gs, off, none⟩) n c S B (HA.out.keep H10.out.bel)).mono ?_
      rintro e w11 ⟨A11, c11, bl2, rfl, hO11⟩
      obtain ⟨g2, rfl, hC11⟩ := hO11.cop (HA.out.view.ok) (by omega)
      have H11 := Hd.mk (And.intro (H10.out.keep hO11.1) hC11)
      have HLO10 := Hd.mk H10.out.lo
      clear hO11 hC11 a0 a1 a2 a3 a4 b0 b1 b2 b3 b4 dI H10 HW10 H9
      have a1 : w11.cell? ⟨w4.heap.size, 1, none⟩ = some (.int .i64 ep2) := by rw [cell_of_row _ _ _ _ _ _ H11.out.1.ve]; rfl
      have a2 : w11.cell? ⟨w4.heap.size, 2, none⟩ = some (.int .i64 ct2) := by rw [cell_of_row _ _ _ _ _ _ H11.out.1.ve]; rfl
      have a3 : w11.cell? ⟨w4.heap.size, 3, none⟩ = some (.int .i64 sz2) := by rw [cell_of_row _ _ _ _ _ _ H11.out.1.ve]; rfl
      have HOK : Hd (SnOk (shW (ep2, ct2, sz2))) := ⟨by
        obtain ⟨r, hr, e⟩ := wrs_src S (ep2, ct2, sz2) n ((wrs_mem S _ n).2 (((isGrp_grpL S n).2 _).1 (List.mem_of_find?_eq_some (judge_one HR.out).2.1)))
        have ok := HA.out.view.ok r hr
        have e1 : (S r).hd.epoch = ep2 := congrArg (·.1) e
        have e2 : (S r).hd.count = ct2 := congrArg (·.2.1) e
        have e3 : (S r).hd.size = sz2 := congrArg (·.2.2) e
        exact shW_ok (e1 ▸ ok.epoch) (e2 ▸ ok.count) (e3 ▸ ok.size)⟩
      go_wp2_with fail
      refine (shown_any w11 ep2 ct2 sz2).mono ?_
      rintro e w12 ⟨rfl, hb12⟩
      have H12 := Hd.mk (And.intro (H11.out.1.keep hb12) (H11.out.2.keep hb12))
      clear hb12 H11 a1 a2 a3
      obtain ⟨xs, hxs⟩ : ∃ xs, (shW (ep2, ct2, sz2)).cells = xs := ⟨_, rfl⟩
      have HXS := Hd.mk hxs
      rw [hxs]
      clear hxs
      go_wp2_with (first
        | (refine at_store (x := .tmp 112) ?_; refine wpList_setSn rfl (.tmp 112) (.tmp 111) rfl H12.out.2 i hi (shW (ep2, ct2, sz2)) HOK.out rfl xs HXS.out rfl ?_; intro w13 HW13
           have H13 : Hd (Mv w w13 k m b (i : Int) (j : Int) (some ⟨gs, off, none⟩) n c w2.heap.size w4.heap.size [.int .i64 1, .int .i64 ep2, .int .i64 ct2, .int .i64 sz2, .slice A4 q1 c4]) := ⟨H12.out.1.keepB HW13.out.2.1 HLO10.out.1 HLO10.out.2.1 HLO10.out.2.2⟩)
        | (refine at_load (x := .tmp 4) ?_; refine wpList_load_row rfl 34 (.tmp 4) rfl w2.heap.size rfl 34 #[.int .i64 k, .int .i64 m, .int .i64 b] (0, 0) _ H13.out.sh Try.underlying34 rfl infoSh ?_))
      have hj13 := judge_any w13 w13.heap.size n c11 (some ⟨g2, 0, none⟩) _ HW13.out.1.view (Nat.le_refl _) hn k m b
      rw [judgeP_congr (S := upd S i (shW (ep2, ct2, sz2))) (fun r hr => by unfold upd; split <;> exact ⟨rfl, rfl⟩)] at hj13
      obtain ⟨pl3, hr3, hl3⟩ := judge_more HR.out hi HKD.out
      rw [hr3] at hj13
      rw [HQ1.out] at hl3
      refine hj13.mono ?_
      clear hj13 hr3
      rintro e w14 ⟨P, rfl, ho14, hb14⟩
      obtain ⟨A14, c14, rfl, _, _⟩ := own_form ho14
      rw [show verV (1, (ep2, ct2, sz2), pl3) (.slice A14 ((1, (ep2, ct2, sz2), pl3) : Int × Wr × List Int).2.2.length c14) = #[.int .i64 1, .int .i64 ep2, .int .i64 ct2, .int .i64 sz2, .slice A14 pl3.length c14] from rfl]
      rw [hl3]
      have H14 := Hd.mk (H13.out.keep hb14)
      clear ho14 hb14 hl3 H13 HW13 H12
      go_wp2_with (refine at_store (x := .tmp 12) ?_; refine wpList_boxed rfl 27 (.tmp 12) (.tmp 115) rfl w14.heap.size rfl #[.int .i64 1, .int .i64 ep2, .int .i64 ct2, .int .i64 sz2, .slice A14 (q1 + 1) c14] rfl rfl infoV2 rfl (by simp [Value.oneCell']) ?_; intro w15 HW15
                   have H15 := Hd.mk (H14.out.keep HW15.out.2.1)
                   have a0 : w15.cell? ⟨w4.heap.size, 0, none⟩ = some (.int .i64 1) := by rw [cell_of_row _ _ _ _ _ _ H15.out.ve]; rfl
                   have a1 : w15.cell? ⟨w4.heap.size, 1, none⟩ = some (.int .i64 ep2) := by rw [cell_of_row _ _ _ _ _ _ H15.out.ve]; rfl
                   have a2 : w15.cell? ⟨w4.heap.size, 2, none⟩ = some (.int .i64 ct2) := by rw [cell_of_row _ _ _ _ _ _ H15.out.ve]; rfl
                   have a3 : w15.cell? ⟨w4.heap.size, 3, none⟩ = some (.int .i64 sz2) := by rw [cell_of_row _ _ _ _ _ _ H15.out.ve]; rfl
                   have a4 : w15.cell? ⟨w4.heap.size, 4, none⟩ = some (.slice A4 q1 c4) := by rw [cell_of_row _ _ _ _ _ _ H15.out.ve]; rfl
                   have b0 : w15.cell? ⟨w14.heap.size, 0, none⟩ = some (.int .i64 1) := by rw [cell_of_row _ _ _ _ _ _ HW15.out.1]; rfl
                   have b1 : w15.cell? ⟨w14.heap.size, 1, none⟩ = some (.int .i64 ep2) := by rw [cell_of_row _ _ _ _ _ _ HW15.out.1]; rfl
                   have b2 : w15.cell? ⟨w14.heap.size, 2, none⟩ = some (.int .i64 ct2) := by rw [cell_of_row _ _ _ _ _ _ HW15.out.1]; rfl
                   have b3 : w15.cell? ⟨w14.heap.size, 3, none⟩ = some (.int .i64 sz2) := by rw [cell_of_row _ _ _ _ _ _ HW15.out.1]; rfl
                   have b4 : w15.cell? ⟨w14.heap.size, 4, none⟩ = some (.slice A14 (q1 + 1) c14) := by rw [cell_of_row _ _ _ _ _ _ HW15.out.1]; rfl)
      go_ret
      exact ⟨rfl, H15.out.bel⟩
    · have qkd : (kd != 1) = true := by simp [hk1]
      clear hk1
      go_wp2_with (refine at_store (x := .tmp 10) ?_; refine wpList_boxed rfl 27 (.tmp 10) (.tmp 63) rfl w9.heap.size rfl #[.int .i64 1, .int .i64 ep2, .int .i64 ct2, .int .i64 sz2, .slice A9 q1 c9] rfl rfl infoV2 rfl (by simp [Value.oneCell']) ?_; intro w10 HW10
                   have H10 := Hd.mk (H9.out.keep HW10.out.2.1)
                   have a0 : w10.cell? ⟨w4.heap.size, 0, none⟩ = some (.int .i64 1) := by rw [cell_of_row _ _ _ _ _ _ H10.out.ve]; rfl
                   have a1 : w10.cell? ⟨w4.heap.size, 1, none⟩ = some (.int .i64 ep2) := by rw [cell_of_row _ _ _ _ _ _ H10.out.ve]; rfl
                   have a2 : w10.cell? ⟨w4.heap.size, 2, none⟩ = some (.int .i64 ct2) := by rw [cell_of_row _ _ _ _ _ _ H10.out.ve]; rfl
                   have a3 : w10.cell? ⟨w4.heap.size, 3, none⟩ = some (.int .i64 sz2) := by rw [cell_of_row _ _ _ _ _ _ H10.out.ve]; rfl
                   have a4 : w10.cell? ⟨w4.heap.size, 4, none⟩ = some (.slice A4 q1 c4) := by rw [cell_of_row _ _ _ _ _ _ H10.out.ve]; rfl
                   have b0 : w10.cell? ⟨w9.heap.size, 0, none⟩ = some (.int .i64 1) := by rw [cell_of_row _ _ _ _ _ _ HW10.out.1]; rfl
                   have b1 : w10.cell? ⟨w9.heap.size, 1, none⟩ = some (.int .i64 ep2) := by rw [cell_of_row _ _ _ _ _ _ HW10.out.1]; rfl
                   have b2 : w10.cell? ⟨w9.heap.size, 2, none⟩ = some (.int .i64 ct2) := by rw [cell_of_row _ _ _ _ _ _ HW10.out.1]; rfl
                   have b3 : w10.cell? ⟨w9.heap.size, 3, none⟩ = some (.int .i64 sz2) := by rw [cell_of_row _ _ _ _ _ _ HW10.out.1]; rfl
                   have b4 : w10.cell? ⟨w9.heap.size, 4, none⟩ = some (.slice A9 q1 c9) := by rw [cell_of_row _ _ _ _ _ _ HW10.out.1]; rfl
                   have dI := HKI.out w10 H10.out.bel)
      go_ret
      exact ⟨rfl, H10.out.bel⟩
  · have qvk : (vk2 != 1) = true := by simp [hv]
    clear hv
    go_wp2_with (refine at_store (x := .tmp 10) ?_; refine wpList_boxed rfl 27 (.tmp 10) (.tmp 63) rfl w9.heap.size rfl #[.int .i64 vk2, .int .i64 ep2, .int .i64 ct2, .int .i64 sz2, .slice A9 q1 c9] rfl rfl infoV2 rfl (by simp [Value.oneCell']) ?_; intro w10 HW10
                 have H10 := Hd.mk (H9.out.keep HW10.out.2.1)
                 have a0 : w10.cell? ⟨w4.heap.size, 0, none⟩ = some (.int .i64 vk2) := by rw [cell_of_row _ _ _ _ _ _ H10.out.ve]; rfl
                 have a1 : w10.cell? ⟨w4.heap.size, 1, none⟩ = some (.int .i64 ep2) := by rw [cell_of_row _ _ _ _ _ _ H10.out.ve]; rfl
                 have a2 : w10.cell? ⟨w4.heap.size, 2, none⟩ = some (.int .i64 ct2) := by rw [cell_of_row _ _ _ _ _ _ H10.out.ve]; rfl
                 have a3 : w10.cell? ⟨w4.heap.size, 3, none⟩ = some (.int .i64 sz2) := by rw [cell_of_row _ _ _ _ _ _ H10.out.ve]; rfl
                 have a4 : w10.cell? ⟨w4.heap.size, 4, none⟩ = some (.slice A4 q1 c4) := by rw [cell_of_row _ _ _ _ _ _ H10.out.ve]; rfl
                 have b0 : w10.cell? ⟨w9.heap.size, 0, none⟩ = some (.int .i64 vk2) := by rw [cell_of_row _ _ _ _ _ _ HW10.out.1]; rfl
                 have b1 : w10.cell? ⟨w9.heap.size, 1, none⟩ = some (.int .i64 ep2) := by rw [cell_of_row _ _ _ _ _ _ HW10.out.1]; rfl
                 have b2 : w10.cell? ⟨w9.heap.size, 2, none⟩ = some (.int .i64 ct2) := by rw [cell_of_row _ _ _ _ _ _ HW10.out.1]; rfl
                 have b3 : w10.cell? ⟨w9.heap.size, 3, none⟩ = some (.int .i64 sz2) := by rw [cell_of_row _ _ _ _ _ _ HW10.out.1]; rfl
                 have b4 : w10.cell? ⟨w9.heap.size, 4, none⟩ = some (.slice A9 q1 c9) := by rw [cell_of_row _ _ _ _ _ _ HW10.out.1]; rfl
                 have dI := HKI.out w10 H10.out.bel)
    go_ret
    exact ⟨rfl, H10.out.bel⟩
end Go.Proofs.Ytplpaipmkpjgfaa
