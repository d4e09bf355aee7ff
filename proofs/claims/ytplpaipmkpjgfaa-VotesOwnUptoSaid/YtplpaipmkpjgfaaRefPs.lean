/- The contract of the reference's Possible. (tools/possgen.py prints it.) -/
import Derived.Test.YtplpaipmkpjgfaaFillA
import Derived.Deep.CutRange
import Derived.Deep.Cut
namespace Go.Proofs.Ytplpaipmkpjgfaa
open Go.RowKit
set_option linter.unusedVariables false
set_option linter.unusedSimpArgs false
theorem step_boxed {P : Program} {ops : Array Oper} {o : Oper} {a : Act} {wr : World} {z : Array Value} {t : TypeId} {Q : Exit → Act → World → Prop} {K : Act → World → Prop} {Z : Prop} (hgd : o.guard = none) (ty : TypeId) (x y : Operand) (ho : o.op = .store ty x y)
    (N : Nat) (hN : wr.heap.size = N) (cells : Array Value) (hx : a.eval x = .pointer (some ⟨N, 0, none⟩)) (hy : a.eval y = .agg cells) (hi : (P.info? ty).map (·.size) = some cells.size) (hold : z.size = cells.size) (h1 : cells.all (·.oneCell') = true)
    (h : ∀ w2, Hd (w2.heap[N]? = some (.cells cells t (0, 0)) ∧ Below N wr w2 ∧ w2.heap.size = N + 1) → K (a.put o.dst undef) w2) :
    if Region.wanted o (yielded ops a.tmps) = true then Oper.wp P o a (wr.alloc (.cells z t)) K Q else Z := by
  subst hN
  have hw : Region.wanted o (yielded ops a.tmps) = true := by simp [Region.wanted, hgd]
  rw [if_pos hw]
  exact wp_store_row ty x y ho wr.heap.size cells hx hy t z (heap_alloc_new _ _) hi hold h1 (h _ ⟨setRow_heap _ _ _ _ _ _ (heap_alloc_new _ _), below_setRow ((Below.refl _ _).alloc (Nat.le_refl _) _) (Nat.le_refl _) _, by simp⟩)
theorem step_stored {P : Program} {ops : Array Oper} {o : Oper} {a : Act} {w : World} {Q : Exit → Act → World → Prop} {K : Act → World → Prop} {Z : Prop} (hgd : o.guard = none) (ty : TypeId) (x y : Operand) (ho : o.op = .store ty x y)
    (g : Nat) (cells : Array Value) (hx : a.eval x = .pointer (some ⟨g, 0, none⟩)) (hy : a.eval y = .agg cells) (t : TypeId) (old : Array Value) (hg : w.heap[g]? = some (.cells old t (0, 0))) (hi : (P.info? ty).map (·.size) = some cells.size)
    (hold : old.size = cells.size) (h1 : cells.all (·.oneCell') = true)
    (h : ∀ w2, Hd (w2.heap[g]? = some (.cells cells t (0, 0)) ∧ w.grownBy w2 (some g) ∧ w2.heap.size = w.heap.size) → K (a.put o.dst undef) w2) :
    if Region.wanted o (yielded ops a.tmps) = true then Oper.wp P o a w K Q else Z := by
  have hw : Region.wanted o (yielded ops a.tmps) = true := by simp [Region.wanted, hgd]
  rw [if_pos hw]
  exact wp_store_row ty x y ho g cells hx hy t old hg hi hold h1 (h _ ⟨setRow_heap _ _ _ _ _ _ hg, ⟨rfl, rfl, rfl, by simp [World.setRow], fun k _ hk => setRow_other w g k cells (fun e => hk (by rw [e]))⟩, by simp [World.setRow]⟩)
theorem infoRGs : (Try.prog.info? 77).map (·.size) = some 4 := by kernel_rfl
theorem ver_one {a b c d : Int} {P : Value} (h : P.oneCell' = true) : (#[.int .i64 a, .int .i64 b, .int .i64 c, .int .i64 d, P] : Array Value).all (·.oneCell') = true := all_oneCell_toArray (cs := [.int .i64 a, .int .i64 b, .int .i64 c, .int .i64 d, P]) fun u hu => by
  simp only [List.mem_cons, List.not_mem_nil, or_false] at hu
  rcases hu with rfl | rfl | rfl | rfl | rfl
  · rfl
  · rfl
  · rfl
  · rfl
  · exact h
/-- The list that is answered, underway. -/
structure OSr (base : Nat) (wr : World) (f : Wr → Value) (v : Value) (o : List Wr) (vl : Value) (L : List Wr) : Prop where
  out : wr.ownsRow base 77 4 v o.length (o.flatMap (encG f))
  off : ∀ x, x ∈ L → Apart v (f x)
  sep : Apart v vl
  mem : ∀ x, x ∈ o → x ∈ L
section
variable {base n : Nat} {wr w' : World} {S : Nat → Sn} {f : Wr → Value} {v v2 vl : Value} {o L : List Wr}
theorem OSr.keep (H : OSr base wr f v o vl L) (b : Below wr.heap.size wr w') : OSr base w' f v o vl L := ⟨own_belowS H.out b, H.off, H.sep, H.mem⟩
theorem OSr.more (H : OSr base wr f v o vl L) (G : GLT 77 base wr S n f vl L) {x : Wr} (hx : x ∈ L) (hO : OntoN wr w' base 77 4 v v2 (o.length + 1) (o.flatMap (encG f) ++ encG f x)) : OSr base w' f v2 (o ++ [x]) vl L ∧ GLT 77 base w' S n f vl L := by
  have ap : ∀ {u : Value} {e size n xs}, wr.ownsRow base e size u n xs → Apart v u → Apart v2 u := fun {u e size n xs} ho ha k hk hu => by
    rcases hO.2.2 k hk with h | h
    · exact ha k h hu
    · have := (ho.lt k hu).2; omega
  refine ⟨⟨?_, fun y hy => ap (G.rows y hy) (H.off y hy), ap G.out H.sep, fun y hy => ?_⟩, ⟨fun y hy => (G.rows y hy).kept hO.2.1 (apart_off (H.off y hy)), G.apart, G.out.kept hO.2.1 (apart_off H.sep), G.off⟩⟩
  · have := hO.1
    rw [List.length_append, List.flatMap_append]
    simpa using this
  · rcases List.mem_append.1 hy with h | h
    · exact H.mem y h
    · simp at h; subst h; exact hx
theorem OSr.gl (H : OSr base wr f v o vl L) (G : GLT 77 base wr S n f vl L) : GLT 77 base wr S n f v o := ⟨fun x hx => G.rows x (H.mem x hx), fun x y hx hy => G.apart x y (H.mem x hx) (H.mem y hy), H.out, fun x hx => H.off x (H.mem x hx)⟩
end
theorem OSr.push {base n : Nat} {w wr w' : World} {S : Nat → Sn} {f : Wr → Value} {v v2 vl : Value} {o L : List Wr} {k m b : Int} {us : List Value} (H : OSr base wr f v o vl L) (G : GLT 77 base wr S n f vl L) (J : PSt w wr k m b) (hb : w.heap.size < base) {x : Wr} (hx : x ∈ L) (hu : encG f x = us) (hO : OntoN wr w' base 77 4 v v2 (o.length + 1) (o.flatMap (encG f) ++ us)) :
    OSr base w' f v2 (o ++ [x]) vl L ∧ GLT 77 base w' S n f vl L ∧ PSt w w' k m b := by
  subst hu
  have h := H.more G hx hO
  exact ⟨h.1, h.2, J.grow hO.2.1 fun i hi => by have := (H.out.lt i hi).1; omega⟩
theorem PSt.c1 {w wr : World} {k m b : Int} (H : PSt w wr k m b) : wr.cell? ⟨w.heap.size, 1, none⟩ = some (.int .i64 m) := by rw [cell_of_row _ _ _ _ _ _ H.sh]; rfl
theorem PSt.c2 {w wr : World} {k m b : Int} (H : PSt w wr k m b) : wr.cell? ⟨w.heap.size, 2, none⟩ = some (.int .i64 b) := by rw [cell_of_row _ _ _ _ _ _ H.sh]; rfl
theorem filt_next (p : Wr → Bool) {l : List Wr} {j : Nat} (h : j < l.length) : (l.take (j + 1)).filter p = (l.take j).filter p ++ (if p (l.getD j (0, 0, 0)) = true then [l.getD j (0, 0, 0)] else []) := by
  rw [List.take_add_one, List.filter_append, List.getElem?_eq_getElem h, List.getD_eq_getElem?_getD, List.getElem?_eq_getElem h]
  simp only [Option.toList_some, Option.getD_some, List.filter_cons, List.filter_nil]
set_option maxRecDepth 20000 in
set_option maxHeartbeats 40000000 in
theorem refpossible_any (w : World) (Q n c : Nat) (A : Option Addr) (S : Nat → Sn) (hv : View w Q A n S) (hQ : Q ≤ w.heap.size) (hn : n * 120 ≤ 140737488351232) (k m b : Int) :
    Calls Try.prog 19 #[.agg #[.int .i64 k, .int .i64 m, .int .i64 b], .slice A n c] w fun e w' => ∃ v, e = .returned (.tuple #[v, .bool (possP S n k m b).2]) ∧ (∃ f, GLT 77 w.heap.size w' S n f v (possP S n k m b).1) ∧ Below w.heap.size w w' := by
  have HH : Hd (View w Q A n S ∧ Q ≤ w.heap.size) := ⟨hv, hQ⟩
  have HJ : Hd (∀ r, r = possP S n k m b → ∀ (e : Ending) (w' : World), (∃ v, e = .returned (.tuple #[v, .bool r.2]) ∧ (∃ f, GLT 77 w.heap.size w' S n f v r.1) ∧ Below w.heap.size w w') → ∃ v, e = .returned (.tuple #[v, .bool (possP S n k m b).2]) ∧ (∃ f, GLT 77 w.heap.size w' S n f v (possP S n k m b).1) ∧ Below w.heap.size w w') := ⟨fun r h e w' h2 => by subst h; exact h2⟩
  clear hv hQ
  have H1 := Hd.mk (PSt.start w k m b)
  go_enter Try.func19, Try.ntmps19
  go_wp2_with fail
  obtain ⟨w1, hw1⟩ : ∃ w1, w.alloc (.cells #[.int .i64 k, .int .i64 m, .int .i64 b] 34) = w1 := ⟨_, rfl⟩
  rw [hw1] at H1 ⊢
  clear hw1
  refine (reffits_any w1 k m b).mono ?_
  rintro e w2 ⟨rfl, hb2⟩
  have H2 := Hd.mk (H1.out.keep hb2)
  clear H1 hb2
  rcases q : fitsR k m b with _ | _
  · have HQ : Hd (([], false) = possP S n k m b) := ⟨by unfold possP fitsB; rw [q, if_neg (by simp)]⟩
    clear q
    go_wp2_with fail
    go_ret2
    exact HJ.out _ HQ.out _ _ ⟨_, rfl, ⟨fun _ => .slice none 0 0, GLT.none _ _ _ _ _ _⟩, H2.out.bel⟩
  · obtain ⟨r1, r2, r3, r4, r5, r6⟩ := of_decide_eq_true (show decide _ = true from q)
    rcases Decidable.em ((n : Int) ≠ k + m) with hnk | hnk
    · have HQ : Hd (([], false) = possP S n k m b) := ⟨by unfold possP fitsB; rw [q, if_neg (by simp [hnk])]⟩
      have qn : ((n : Int) != k + m) = true := by simp; exact hnk
      have c0 := H2.out.c0
      have c1 := H2.out.c1
      clear q hnk
      go_wp2_with fail
      go_ret2
      exact HJ.out _ HQ.out _ _ ⟨_, rfl, ⟨fun _ => .slice none 0 0, GLT.none _ _ _ _ _ _⟩, H2.out.bel⟩
    have hnk : (n : Int) = k + m := by omega
    have HQ : Hd (fitsB k m b n = true) := ⟨by unfold fitsB; rw [q, hnk]; simp⟩
    have qn : ((n : Int) != k + m) = false := by simp [hnk]
    have c0 := H2.out.c0
    have c1 := H2.out.c1
    clear q
    go_wp2_with fail
    refine (refgroups_any w2 Q n c A S (HH.out.1.below (H2.out.bel.mono HH.out.2)) (Nat.le_trans HH.out.2 H2.out.bel.size) hn).mono ?_
    rintro e w3 ⟨v, rfl, ⟨f, hO⟩, hb3⟩
    have H3 := Hd.mk (And.intro (H2.out.keep hb3) (hO.low (base' := w.heap.size + 1) (by have := H2.out.big; omega)))
    clear hO H2 hb3 c0 c1
    obtain ⟨L, hL⟩ : ∃ L, grpL S n = L := ⟨_, rfl⟩
    have hLn : L.length ≤ n := hL ▸ grpL_le S n
    have HL := Hd.mk hL
    rw [hL] at H3
    clear hL
    obtain ⟨A9, c9, hv9, _, _⟩ := ownN_form H3.out.2.out
    rw [hv9] at H3 ⊢
    clear hv9
    go_wp2_with fail
    go_loopw [7, 9] (fun vo i wr => ∃ j : Nat, j ≤ L.length ∧ i = .int .i64 (j : Int) ∧ ∃ o : List Wr, o.length ≤ j ∧ PSt w wr k m b ∧ GLT 77 (w.heap.size + 1) wr S n f (.slice A9 L.length c9) L ∧ OSr (w.heap.size + 1) wr f vo o (.slice A9 L.length c9) L ∧ (L.take j).filter (okW S n k m b) = o) (fun _ i _ => L.length - (intOf i).toNat)
    case atStart => exact ⟨0, by omega, rfl, [], by simp, H3.out.1, H3.out.2, ⟨World.ownsRow_nil _ _ _ _, fun _ _ => Apart.nil _, Apart.nil _, fun x h => absurd h List.not_mem_nil⟩, rfl⟩
    case round =>
      clear H3
      obtain ⟨j, hj, rfl, o, hoj, h1, h2, h3, h4⟩ := hrel
      have H4 := Hd.mk (And.intro h1 (And.intro h2 (And.intro h3 h4)))
      have HV4 : Hd (∀ W, Below wr.heap.size wr W → View W w.heap.size A n S ∧ w.heap.size ≤ W.heap.size ∧ ∀ r, r < n → SnOk (S r)) := ⟨fun W hW => ⟨((HH.out.1.more HH.out.2).below (h1.bel.trans (hW.mono h1.bel.size))), Nat.le_trans h1.bel.size hW.size, HH.out.1.ok⟩⟩
      have HC4 : Hd (∀ W, Below wr.heap.size wr W → W.cell? ⟨w.heap.size, 0, none⟩ = some (.int .i64 k) ∧ W.cell? ⟨w.heap.size, 1, none⟩ = some (.int .i64 m) ∧ W.cell? ⟨w.heap.size, 2, none⟩ = some (.int .i64 b)) := ⟨fun W hW => by have h := h1.keep hW; exact ⟨h.c0, h.c1, h.c2⟩⟩
      clear h1 h2 h3 h4
      by_cases hlt : j < L.length
      · have hji : (j : Int) < (L.length : Int) := by omega
        have hfn := filt_next (okW S n k m b) hlt
        obtain ⟨x, hx⟩ : ∃ x, L.getD j (0, 0, 0) = x := ⟨_, rfl⟩
        have HXM : Hd (x ∈ L) := ⟨hx ▸ getD_mem hlt⟩
        obtain ⟨g, c9', hv, _, hg, hr⟩ := H4.out.2.1.at_ hlt
        rw [hx] at hr hfn
        injection hv with hv1 hv2 hv3
        subst hv1 hv3
        rw [H4.out.2.2.2] at hfn
        have HR := Hd.mk hr
        have HFN := Hd.mk hfn
        have HG := Hd.mk hg
        clear hx hr hfn hg
        have HXJ : Hd (J64 x.1 ∧ J64 x.2.1 ∧ J64 x.2.2) := ⟨by
          obtain ⟨r, hr, e⟩ := wrs_src S x n ((wrs_mem S x n).2 (((isGrp_grpL S n).2 x).1 (HL.out ▸ HXM.out)))
          have ok := HH.out.1.ok r hr
          subst e
          exact ⟨ok.epoch, ok.count, ok.size⟩⟩
        obtain ⟨A1, c1, hf, _, _⟩ := own_form (H4.out.2.1.rows x HXM.out)
        have HF := Hd.mk hf
        clear hf
        obtain ⟨ek, ck, sk⟩ := x
        obtain ⟨mm, hmm⟩ : ∃ mm, (plc S (ek, ck, sk) n).length = mm := ⟨_, rfl⟩
        have hmn : mm ≤ n := hmm ▸ plc_le _ _ _
        rw [hmm] at HF
        have HC : Hd (encG f (ek, ck, sk) = [.int .i64 ek, .int .i64 ck, .int .i64 sk, .slice A1 mm c1]) := ⟨by unfold encG; rw [HF.out]⟩
        rw [HC.out] at HR
        clear hmm
        have HX4 : Hd (∀ W, Below wr.heap.size wr W → W.cell? ⟨g, j * 4, none⟩ = some (.int .i64 ek) ∧ W.cell? ⟨g, j * 4 + 1, none⟩ = some (.int .i64 ck) ∧ W.cell? ⟨g, j * 4 + 2, none⟩ = some (.int .i64 sk) ∧ W.cell? ⟨g, j * 4 + 3, none⟩ = some (.slice A1 mm c1)) := ⟨fun W hW => by
          have kk : ∀ {i : Nat} {u : Value}, wr.cell? ⟨g, i, none⟩ = some u → W.cell? ⟨g, i, none⟩ = some u := fun {i u} hc => (hW.cell (p := ⟨g, i, none⟩) HG.out).trans hc
          exact ⟨kk (HR.out 0 _ rfl), kk (HR.out 1 _ rfl), kk (HR.out 2 _ rfl), kk (HR.out 3 _ rfl)⟩⟩
        have HFL : Hd (∀ W, Below wr.heap.size wr W → Calls Try.prog 38 #[.slice A n c, .agg (shW (ek, ck, sk)).cells.toArray] W fun e w' => ∃ A' c', e = .returned (.slice A' n c') ∧ View w' w'.heap.size A' n (fillS S (shW (ek, ck, sk))) ∧ Below W.heap.size W w') := ⟨fun W hW => filled_any W w.heap.size n c A S (HV4.out W hW).1 (HV4.out W hW).2.1 hn _ (shW_ok HXJ.out.1 HXJ.out.2.1 HXJ.out.2.2)⟩
        obtain ⟨⟨vk, ⟨ep, ct, sz⟩, pl⟩, hjr⟩ : ∃ r, judgeP (fillS S (shW (ek, ck, sk))) n k m b = r := ⟨_, rfl⟩
        have HJR := Hd.mk hjr
        have HOK : Hd (okW S n k m b (ek, ck, sk) = ((vk == 1) && ((ep == ek) && (ct == ck) && (sz == sk)))) := ⟨by
          unfold okW
          rw [hjr]
          show ((vk == 1) && decide ((ep, ct, sz) = (ek, ck, sk))) = _
          congr 1
          rw [Bool.eq_iff_iff]
          simp [and_assoc]⟩
        have HRJ : Hd (∀ (W : World) (A' : Option Addr) (c' : Nat), View W W.heap.size A' n (fillS S (shW (ek, ck, sk))) → Calls Try.prog 15 #[.agg #[.int .i64 k, .int .i64 m, .int .i64 b], .slice A' n c'] W fun e w' => ∃ P, e = .returned (.agg #[.int .i64 vk, .int .i64 ep, .int .i64 ct, .int .i64 sz, P]) ∧ P.oneCell' = true ∧ Below W.heap.size W w') := ⟨fun W A' c' hv => by
          have h := refjudge_any W W.heap.size n c' A' _ hv (Nat.le_refl _) hn k m b
          rw [HJR.out] at h
          exact h.mono fun e w' ⟨P, he, ho, hb⟩ => ⟨P, he, own_one ho, hb⟩⟩
        clear hjr
        go_upto_region 9 with fail
        go_cut [10] from 28 to 78 (fun p wx => ∃ (g0 : Nat) (P : Value), p = .pointer (some ⟨g0, 0, none⟩) ∧ wr.heap.size ≤ g0 ∧ wx.heap[g0]? = some (.cells #[.int .i64 vk, .int .i64 ep, .int .i64 ct, .int .i64 sz, P] 27 (0, 0)) ∧ Below wr.heap.size wr wx)
        case first =>
          refine wp_region_held_drew (S := fun W => Below wr.heap.size wr W) (by kernel_rfl) ((Below.refl _ _).drew) (fun hHeld => ?_)
          refine wpAnyH_take (i := 0) (oi := ?oi101) (v := ?v101) ?hi101 (by kernel_rfl) (by kernel_rfl) (by kernel_rfl) ?hQ101 (Or.inl ⟨?hw101, ?hy101⟩) (by assumption) ?rest101
          case hi101 => simp only [List.getElem?_toArray, List.getElem?_cons_succ, List.getElem?_cons_zero]; rfl
          case hQ101 => exact fun _ _ _ h => h
          case hw101 => rfl
          case hy101 => (intro W hW; obtain ⟨q0, q1, q2⟩ := HC4.out W hW; obtain ⟨q3, q4, q5, q6⟩ := HX4.out W hW; go_simp; all_goals rfl)
          simp only [Act.put, List.setIfInBounds_toArray, List.set_cons_zero, List.set_cons_succ]
          refine wpAnyH_take (i := 1) (oi := ?oi102) (v := ?v102) ?hi102 (by kernel_rfl) (by kernel_rfl) (by kernel_rfl) ?hQ102 (Or.inl ⟨?hw102, ?hy102⟩) (by assumption) ?rest102
          case hi102 => simp only [List.getElem?_toArray, List.getElem?_cons_succ, List.getElem?_cons_zero]; rfl
          case hQ102 => exact fun _ _ _ h => h
          case hw102 => rfl
          case hy102 => (intro W hW; obtain ⟨q0, q1, q2⟩ := HC4.out W hW; obtain ⟨q3, q4, q5, q6⟩ := HX4.out W hW; go_simp; all_goals rfl)
          simp only [Act.put, List.setIfInBounds_toArray, List.set_cons_zero, List.set_cons_succ]
          refine wpAnyH_take (i := 2) (oi := ?oi103) (v := ?v103) ?hi103 (by kernel_rfl) (by kernel_rfl) (by kernel_rfl) ?hQ103 (Or.inl ⟨?hw103, ?hy103⟩) (by assumption) ?rest103
          case hi103 => simp only [List.getElem?_toArray, List.getElem?_cons_succ, List.getElem?_cons_zero]; rfl
          case hQ103 => exact fun _ _ _ h => h
          case hw103 => rfl
          case hy103 => (intro W hW; obtain ⟨q0, q1, q2⟩ := HC4.out W hW; obtain ⟨q3, q4, q5, q6⟩ := HX4.out W hW; go_simp; all_goals rfl)
          simp only [Act.put, List.setIfInBounds_toArray, List.set_cons_zero, List.set_cons_succ]
          refine wpAnyH_take (i := 3) (oi := ?oi104) (v := ?v104) ?hi104 (by kernel_rfl) (by kernel_rfl) (by kernel_rfl) ?hQ104 (Or.inl ⟨?hw104, ?hy104⟩) (by assumption) ?rest104
          case hi104 => simp only [List.getElem?_toArray, List.getElem?_cons_succ, List.getElem?_cons_zero]; rfl
          case hQ104 => exact fun _ _ _ h => h
          case hw104 => rfl
          case hy104 => (intro W hW; obtain ⟨q0, q1, q2⟩ := HC4.out W hW; obtain ⟨q3, q4, q5, q6⟩ := HX4.out W hW; go_simp; all_goals rfl)
          simp only [Act.put, List.setIfInBounds_toArray, List.set_cons_zero, List.set_cons_succ]
          refine wpAnyH_take (i := 4) (oi := ?oi105) (v := ?v105) ?hi105 (by kernel_rfl) (by kernel_rfl) (by kernel_rfl) ?hQ105 (Or.inl ⟨?hw105, ?hy105⟩) (by assumption) ?rest105
          case hi105 => simp only [List.getElem?_toArray, List.getElem?_cons_succ, List.getElem?_cons_zero]; rfl
          case hQ105 => exact fun _ _ _ h => h
          case hw105 => rfl
          case hy105 => (intro W hW; obtain ⟨q0, q1, q2⟩ := HC4.out W hW; obtain ⟨q3, q4, q5, q6⟩ := HX4.out W hW; go_simp; all_goals rfl)
          simp only [Act.put, List.setIfInBounds_toArray, List.set_cons_zero, List.set_cons_succ]
          refine wpAnyH_take (i := 5) (oi := ?oi106) (v := ?v106) ?hi106 (by kernel_rfl) (by kernel_rfl) (by kernel_rfl) ?hQ106 (Or.inl ⟨?hw106, ?hy106⟩) (by assumption) ?rest106
          case hi106 => simp only [List.getElem?_toArray, List.getElem?_cons_succ, List.getElem?_cons_zero]; rfl
          case hQ106 => exact fun _ _ _ h => h
          case hw106 => rfl
          case hy106 => (intro W hW; obtain ⟨q0, q1, q2⟩ := HC4.out W hW; obtain ⟨q3, q4, q5, q6⟩ := HX4.out W hW; go_simp; all_goals rfl)
          simp only [Act.put, List.setIfInBounds_toArray, List.set_cons_zero, List.set_cons_succ]
          refine wpAnyH_take (i := 6) (oi := ?oi107) (v := ?v107) ?hi107 (by kernel_rfl) (by kernel_rfl) (by kernel_rfl) ?hQ107 (Or.inl ⟨?hw107, ?hy107⟩) (by assumption) ?rest107
          case hi107 => simp only [List.getElem?_toArray, List.getElem?_cons_succ, List.getElem?_cons_zero]; rfl
          case hQ107 => exact fun _ _ _ h => h
          case hw107 => rfl
          case hy107 => (intro W hW; obtain ⟨q0, q1, q2⟩ := HC4.out W hW; obtain ⟨q3, q4, q5, q6⟩ := HX4.out W hW; go_simp; all_goals rfl)
          simp only [Act.put, List.setIfInBounds_toArray, List.set_cons_zero, List.set_cons_succ]
          refine wpAnyH_take (i := 7) (oi := ?oi108) (v := ?v108) ?hi108 (by kernel_rfl) (by kernel_rfl) (by kernel_rfl) ?hQ108 (Or.inl ⟨?hw108, ?hy108⟩) (by assumption) ?rest108
          case hi108 => simp only [List.getElem?_toArray, List.getElem?_cons_succ, List.getElem?_cons_zero]; rfl
          case hQ108 => exact fun _ _ _ h => h
          case hw108 => rfl
          case hy108 => (intro W hW; obtain ⟨q0, q1, q2⟩ := HC4.out W hW; obtain ⟨q3, q4, q5, q6⟩ := HX4.out W hW; go_simp; all_goals rfl)
          simp only [Act.put, List.setIfInBounds_toArray, List.set_cons_zero, List.set_cons_succ]
          refine wpAnyH_take (i := 8) (oi := ?oi109) (v := ?v109) ?hi109 (by kernel_rfl) (by kernel_rfl) (by kernel_rfl) ?hQ109 (Or.inl ⟨?hw109, ?hy109⟩) (by assumption) ?rest109
          case hi109 => simp only [List.getElem?_toArray, List.getElem?_cons_succ, List.getElem?_cons_zero]; rfl
          case hQ109 => exact fun _ _ _ h => h
          case hw109 => rfl
          case hy109 => (intro W hW; obtain ⟨q0, q1, q2⟩ := HC4.out W hW; obtain ⟨q3, q4, q5, q6⟩ := HX4.out W hW; go_simp; all_goals rfl)
          simp only [Act.put, List.setIfInBounds_toArray, List.set_cons_zero, List.set_cons_succ]
          refine wpAnyH_take (i := 9) (oi := ?oi110) (v := ?v110) ?hi110 (by kernel_rfl) (by kernel_rfl) (by kernel_rfl) ?hQ110 (Or.inl ⟨?hw110, ?hy110⟩) (by assumption) ?rest110
          case hi110 => simp only [List.getElem?_toArray, List.getElem?_cons_succ, List.getElem?_cons_zero]; rfl
          case hQ110 => exact fun _ _ _ h => h
          case hw110 => rfl
          case hy110 => (intro W hW; obtain ⟨q0, q1, q2⟩ := HC4.out W hW; obtain ⟨q3, q4, q5, q6⟩ := HX4.out W hW; go_simp; all_goals rfl)
          simp only [Act.put, List.setIfInBounds_toArray, List.set_cons_zero, List.set_cons_succ]
          refine wpAnyH_take (i := 10) (oi := ?oi111) (v := ?v111) ?hi111 (by kernel_rfl) (by kernel_rfl) (by kernel_rfl) ?hQ111 (Or.inl ⟨?hw111, ?hy111⟩) (by assumption) ?rest111
          case hi111 => simp only [List.getElem?_toArray, List.getElem?_cons_succ, List.getElem?_cons_zero]; rfl
          case hQ111 => exact fun _ _ _ h => h
          case hw111 => rfl
          case hy111 => (intro W hW; obtain ⟨q0, q1, q2⟩ := HC4.out W hW; obtain ⟨q3, q4, q5, q6⟩ := HX4.out W hW; go_simp; all_goals rfl)
          simp only [Act.put, List.setIfInBounds_toArray, List.set_cons_zero, List.set_cons_succ]
          refine wpAnyH_take (i := 11) (oi := ?oi112) (v := ?v112) ?hi112 (by kernel_rfl) (by kernel_rfl) (by kernel_rfl) ?hQ112 (Or.inl ⟨?hw112, ?hy112⟩) (by assumption) ?rest112
          case hi112 => simp only [List.getElem?_toArray, List.getElem?_cons_succ, List.getElem?_cons_zero]; rfl
          case hQ112 => exact fun _ _ _ h => h
          case hw112 => rfl
          case hy112 => (intro W hW; obtain ⟨q0, q1, q2⟩ := HC4.out W hW; obtain ⟨q3, q4, q5, q6⟩ := HX4.out W hW; go_simp; all_goals rfl)
          simp only [Act.put, List.setIfInBounds_toArray, List.set_cons_zero, List.set_cons_succ]
          refine wpAnyH_ready (rs := [12, 15]) (by kernel_rfl) (by simp) ?_
          refine (AllReadyH.cons (i := 12) (o := ?oo1_12) ?ho1_12 (fun Kq hK => ?step1_12) (AllReadyH.cons (i := 15) (o := ?oo1_15) ?ho1_15 (fun Kq hK => ?step1_15) AllReadyH.nil))
          case ho1_12 => simp only [List.getElem?_toArray, List.getElem?_cons_succ, List.getElem?_cons_zero]; rfl
          case ho1_15 => simp only [List.getElem?_toArray, List.getElem?_cons_succ, List.getElem?_cons_zero]; rfl
          case step1_12 =>
            go_simp
            (go_at_call 29; refine (shown_any _ ek ck sk).mono ?_; rintro e w5 ⟨rfl, hb⟩)
            have hBw5 : Below wr.heap.size wr w5 := hHeld.trans (hb.mono hHeld.size)
            refine hK.out _ _ hBw5 (fun _ => ?_)
            clear hK Kq hHeld hb
            try simp only [Act.put, List.setIfInBounds_toArray, List.set_cons_zero, List.set_cons_succ]
            have hHeld := hBw5
            clear hBw5
            refine wpAnyH_ready (rs := [13, 15]) (by kernel_rfl) (by simp) ?_
            refine (AllReadyH.cons (i := 13) (o := ?oo2_13) ?ho2_13 (fun Kq hK => ?step2_13) (AllReadyH.cons (i := 15) (o := ?oo2_15) ?ho2_15 (fun Kq hK => ?step2_15) AllReadyH.nil))
            case ho2_13 => simp only [List.getElem?_toArray, List.getElem?_cons_succ, List.getElem?_cons_zero]; rfl
            case ho2_15 => simp only [List.getElem?_toArray, List.getElem?_cons_succ, List.getElem?_cons_zero]; rfl
            case step2_13 =>
              go_simp
              (go_at_call 38; refine (HFL.out _ hHeld).mono ?_; rintro e w6 ⟨A6, c6, rfl, hv6, hb⟩)
              have hBw6 : Below wr.heap.size wr w6 := hHeld.trans (hb.mono hHeld.size)
              have HV6 := Hd.mk hv6
              clear hv6
              refine hK.out _ _ hBw6 (fun _ => ?_)
              clear hK Kq hHeld hb
              try simp only [Act.put, List.setIfInBounds_toArray, List.set_cons_zero, List.set_cons_succ]
              have hHeld := hBw6
              clear hBw6
              refine wpAnyH_ready (rs := [14, 15]) (by kernel_rfl) (by simp) ?_
              refine (AllReadyH.cons (i := 14) (o := ?oo3_14) ?ho3_14 (fun Kq hK => ?step3_14) (AllReadyH.cons (i := 15) (o := ?oo3_15) ?ho3_15 (fun Kq hK => ?step3_15) AllReadyH.nil))
              case ho3_14 => simp only [List.getElem?_toArray, List.getElem?_cons_succ, List.getElem?_cons_zero]; rfl
              case ho3_15 => simp only [List.getElem?_toArray, List.getElem?_cons_succ, List.getElem?_cons_zero]; rfl
              case step3_14 =>
                go_simp
                (go_at_call 15; refine (HRJ.out _ A6 c6 HV6.out).mono ?_; rintro e w7 ⟨P, rfl, hP1, hb⟩)
                have hBw7 : Below wr.heap.size wr w7 := hHeld.trans (hb.mono hHeld.size)
                have HP1 := Hd.mk hP1
                clear hP1
                refine hK.out _ _ hBw7 (fun _ => ?_)
                clear hK Kq hHeld hb
                try simp only [Act.put, List.setIfInBounds_toArray, List.set_cons_zero, List.set_cons_succ]
                have hHeld := hBw7
                clear hBw7
                refine wpAnyH_ready (rs := [15]) (by kernel_rfl) (by simp) ?_
                refine (AllReadyH.cons (i := 15) (o := ?oo4_15) ?ho4_15 (fun Kq hK => ?step4_15) AllReadyH.nil)
                case ho4_15 => simp only [List.getElem?_toArray, List.getElem?_cons_succ, List.getElem?_cons_zero]; rfl
                case step4_15 =>
                  go_simp
                  refine hK.out _ _ (hHeld.alloc hHeld.size _) (fun _ => ?_)
                  clear hK Kq
                  try simp only [Act.put, List.setIfInBounds_toArray, List.set_cons_zero, List.set_cons_succ]
                  have hgle : wr.heap.size ≤ w7.heap.size := hHeld.size
                  have hHeld := hHeld.alloc hHeld.size (.cells #[.int .i64 0, .int .i64 0, .int .i64 0, .int .i64 0, .slice none 0 0] 27)
                  have hZ : (w7.alloc (.cells #[.int .i64 0, .int .i64 0, .int .i64 0, .int .i64 0, .slice none 0 0] 27)).heap[w7.heap.size]? = some (.cells #[.int .i64 0, .int .i64 0, .int .i64 0, .int .i64 0, .slice none 0 0] 27 (0, 0)) := heap_alloc_new _ _
                  have hzl : w7.heap.size < (w7.alloc (.cells #[.int .i64 0, .int .i64 0, .int .i64 0, .int .i64 0, .slice none 0 0] 27)).heap.size := by simp
                  obtain ⟨wa, hwa⟩ : ∃ wa, w7.alloc (.cells #[.int .i64 0, .int .i64 0, .int .i64 0, .int .i64 0, .slice none 0 0] 27) = wa := ⟨_, rfl⟩
                  rw [hwa] at hHeld hZ hzl ⊢
                  clear hwa
                  refine wpAnyH_ready (rs := [16]) (by kernel_rfl) (by simp) ?_
                  refine (AllReadyH.cons (i := 16) (o := ?oo5_16) ?ho5_16 (fun Kq hK => ?step5_16) AllReadyH.nil)
                  case ho5_16 => simp only [List.getElem?_toArray, List.getElem?_cons_succ, List.getElem?_cons_zero]; rfl
                  case step5_16 =>
                    refine step_stored rfl 27 (.tmp 10) (.tmp 48) rfl (w7.heap.size) #[.int .i64 vk, .int .i64 ep, .int .i64 ct, .int .i64 sz, P] rfl rfl _ _ hZ infoV2 rfl (ver_one HP1.out) (fun w8 HW8 => ?_)
                    have HB8 : Hd (Below wr.heap.size wr w8) := ⟨hHeld.grown HW8.out.2.1 hHeld.size (fun g e => by injection e with e; omega)⟩
                    refine hK.out _ _ HB8.out (fun _ => ?_)
                    clear hK Kq
                    try simp only [Act.put, List.setIfInBounds_toArray, List.set_cons_zero, List.set_cons_succ]
                    refine wpAnyH_done (by kernel_rfl) ?_ _
                    (try go_wp2_with fail)
                    go_meet
                    exact ⟨w7.heap.size, P, rfl, hgle, HW8.out.1, HB8.out⟩
              case step3_15 =>
                go_simp
                refine hK.out _ _ (hHeld.alloc hHeld.size _) (fun _ => ?_)
                clear hK Kq
                try simp only [Act.put, List.setIfInBounds_toArray, List.set_cons_zero, List.set_cons_succ]
                have hgle : wr.heap.size ≤ w6.heap.size := hHeld.size
                have hHeld := hHeld.alloc hHeld.size (.cells #[.int .i64 0, .int .i64 0, .int .i64 0, .int .i64 0, .slice none 0 0] 27)
                have hZ : (w6.alloc (.cells #[.int .i64 0, .int .i64 0, .int .i64 0, .int .i64 0, .slice none 0 0] 27)).heap[w6.heap.size]? = some (.cells #[.int .i64 0, .int .i64 0, .int .i64 0, .int .i64 0, .slice none 0 0] 27 (0, 0)) := heap_alloc_new _ _
                have hzl : w6.heap.size < (w6.alloc (.cells #[.int .i64 0, .int .i64 0, .int .i64 0, .int .i64 0, .slice none 0 0] 27)).heap.size := by simp
                obtain ⟨wa, hwa⟩ : ∃ wa, w6.alloc (.cells #[.int .i64 0, .int .i64 0, .int .i64 0, .int .i64 0, .slice none 0 0] 27) = wa := ⟨_, rfl⟩
                have HV6 := Hd.mk ((HV6.out.below ((Below.refl _ _).alloc (Nat.le_refl _) (.cells #[.int .i64 0, .int .i64 0, .int .i64 0, .int .i64 0, .slice none 0 0] 27))).more (Q' := (w6.alloc (.cells #[.int .i64 0, .int .i64 0, .int .i64 0, .int .i64 0, .slice none 0 0] 27)).heap.size) (by simp))
                rw [hwa] at HV6
                rw [hwa] at hHeld hZ hzl ⊢
                clear hwa
                refine wpAnyH_ready (rs := [14]) (by kernel_rfl) (by simp) ?_
                refine (AllReadyH.cons (i := 14) (o := ?oo6_14) ?ho6_14 (fun Kq hK => ?step6_14) AllReadyH.nil)
                case ho6_14 => simp only [List.getElem?_toArray, List.getElem?_cons_succ, List.getElem?_cons_zero]; rfl
                case step6_14 =>
                  go_simp
                  (go_at_call 15; refine (HRJ.out _ A6 c6 HV6.out).mono ?_; rintro e w7 ⟨P, rfl, hP1, hb⟩)
                  have hBw7 : Below wr.heap.size wr w7 := hHeld.trans (hb.mono hHeld.size)
                  have hZ := (hb.block _ hzl).trans hZ
                  have hzl := Nat.lt_of_lt_of_le hzl hb.size
                  have HP1 := Hd.mk hP1
                  clear hP1
                  refine hK.out _ _ hBw7 (fun _ => ?_)
                  clear hK Kq hHeld hb
                  try simp only [Act.put, List.setIfInBounds_toArray, List.set_cons_zero, List.set_cons_succ]
                  have hHeld := hBw7
                  clear hBw7
                  refine wpAnyH_ready (rs := [16]) (by kernel_rfl) (by simp) ?_
                  refine (AllReadyH.cons (i := 16) (o := ?oo7_16) ?ho7_16 (fun Kq hK => ?step7_16) AllReadyH.nil)
                  case ho7_16 => simp only [List.getElem?_toArray, List.getElem?_cons_succ, List.getElem?_cons_zero]; rfl
                  case step7_16 =>
                    refine step_stored rfl 27 (.tmp 10) (.tmp 48) rfl (w6.heap.size) #[.int .i64 vk, .int .i64 ep, .int .i64 ct, .int .i64 sz, P] rfl rfl _ _ hZ infoV2 rfl (ver_one HP1.out) (fun w8 HW8 => ?_)
                    have HB8 : Hd (Below wr.heap.size wr w8) := ⟨hHeld.grown HW8.out.2.1 hHeld.size (fun g e => by injection e with e; omega)⟩
                    refine hK.out _ _ HB8.out (fun _ => ?_)
                    clear hK Kq
                    try simp only [Act.put, List.setIfInBounds_toArray, List.set_cons_zero, List.set_cons_succ]
                    refine wpAnyH_done (by kernel_rfl) ?_ _
                    (try go_wp2_with fail)
                    go_meet
                    exact ⟨w6.heap.size, P, rfl, hgle, HW8.out.1, HB8.out⟩
            case step2_15 =>
              go_simp
              refine hK.out _ _ (hHeld.alloc hHeld.size _) (fun _ => ?_)
              clear hK Kq
              try simp only [Act.put, List.setIfInBounds_toArray, List.set_cons_zero, List.set_cons_succ]
              have hgle : wr.heap.size ≤ w5.heap.size := hHeld.size
              have hHeld := hHeld.alloc hHeld.size (.cells #[.int .i64 0, .int .i64 0, .int .i64 0, .int .i64 0, .slice none 0 0] 27)
              have hZ : (w5.alloc (.cells #[.int .i64 0, .int .i64 0, .int .i64 0, .int .i64 0, .slice none 0 0] 27)).heap[w5.heap.size]? = some (.cells #[.int .i64 0, .int .i64 0, .int .i64 0, .int .i64 0, .slice none 0 0] 27 (0, 0)) := heap_alloc_new _ _
              have hzl : w5.heap.size < (w5.alloc (.cells #[.int .i64 0, .int .i64 0, .int .i64 0, .int .i64 0, .slice none 0 0] 27)).heap.size := by simp
              obtain ⟨wa, hwa⟩ : ∃ wa, w5.alloc (.cells #[.int .i64 0, .int .i64 0, .int .i64 0, .int .i64 0, .slice none 0 0] 27) = wa := ⟨_, rfl⟩
              rw [hwa] at hHeld hZ hzl ⊢
              clear hwa
              refine wpAnyH_ready (rs := [13]) (by kernel_rfl) (by simp) ?_
              refine (AllReadyH.cons (i := 13) (o := ?oo8_13) ?ho8_13 (fun Kq hK => ?step8_13) AllReadyH.nil)
              case ho8_13 => simp only [List.getElem?_toArray, List.getElem?_cons_succ, List.getElem?_cons_zero]; rfl
              case step8_13 =>
                go_simp
                (go_at_call 38; refine (HFL.out _ hHeld).mono ?_; rintro e w6 ⟨A6, c6, rfl, hv6, hb⟩)
                have hBw6 : Below wr.heap.size wr w6 := hHeld.trans (hb.mono hHeld.size)
                have hZ := (hb.block _ hzl).trans hZ
                have hzl := Nat.lt_of_lt_of_le hzl hb.size
                have HV6 := Hd.mk hv6
                clear hv6
                refine hK.out _ _ hBw6 (fun _ => ?_)
                clear hK Kq hHeld hb
                try simp only [Act.put, List.setIfInBounds_toArray, List.set_cons_zero, List.set_cons_succ]
                have hHeld := hBw6
                clear hBw6
                refine wpAnyH_ready (rs := [14]) (by kernel_rfl) (by simp) ?_
                refine (AllReadyH.cons (i := 14) (o := ?oo9_14) ?ho9_14 (fun Kq hK => ?step9_14) AllReadyH.nil)
                case ho9_14 => simp only [List.getElem?_toArray, List.getElem?_cons_succ, List.getElem?_cons_zero]; rfl
                case step9_14 =>
                  go_simp
                  (go_at_call 15; refine (HRJ.out _ A6 c6 HV6.out).mono ?_; rintro e w7 ⟨P, rfl, hP1, hb⟩)
                  have hBw7 : Below wr.heap.size wr w7 := hHeld.trans (hb.mono hHeld.size)
                  have hZ := (hb.block _ hzl).trans hZ
                  have hzl := Nat.lt_of_lt_of_le hzl hb.size
                  have HP1 := Hd.mk hP1
                  clear hP1
                  refine hK.out _ _ hBw7 (fun _ => ?_)
                  clear hK Kq hHeld hb
                  try simp only [Act.put, List.setIfInBounds_toArray, List.set_cons_zero, List.set_cons_succ]
                  have hHeld := hBw7
                  clear hBw7
                  refine wpAnyH_ready (rs := [16]) (by kernel_rfl) (by simp) ?_
                  refine (AllReadyH.cons (i := 16) (o := ?oo10_16) ?ho10_16 (fun Kq hK => ?step10_16) AllReadyH.nil)
                  case ho10_16 => simp only [List.getElem?_toArray, List.getElem?_cons_succ, List.getElem?_cons_zero]; rfl
                  case step10_16 =>
                    refine step_stored rfl 27 (.tmp 10) (.tmp 48) rfl (w5.heap.size) #[.int .i64 vk, .int .i64 ep, .int .i64 ct, .int .i64 sz, P] rfl rfl _ _ hZ infoV2 rfl (ver_one HP1.out) (fun w8 HW8 => ?_)
                    have HB8 : Hd (Below wr.heap.size wr w8) := ⟨hHeld.grown HW8.out.2.1 hHeld.size (fun g e => by injection e with e; omega)⟩
                    refine hK.out _ _ HB8.out (fun _ => ?_)
                    clear hK Kq
                    try simp only [Act.put, List.setIfInBounds_toArray, List.set_cons_zero, List.set_cons_succ]
                    refine wpAnyH_done (by kernel_rfl) ?_ _
                    (try go_wp2_with fail)
                    go_meet
                    exact ⟨w5.heap.size, P, rfl, hgle, HW8.out.1, HB8.out⟩
          case step1_15 =>
            go_simp
            refine hK.out _ _ (hHeld.alloc hHeld.size _) (fun _ => ?_)
            clear hK Kq
            try simp only [Act.put, List.setIfInBounds_toArray, List.set_cons_zero, List.set_cons_succ]
            have hgle : wr.heap.size ≤ wr.heap.size := hHeld.size
            have hHeld : Below wr.heap.size wr (wr.alloc (.cells #[.int .i64 0, .int .i64 0, .int .i64 0, .int .i64 0, .slice none 0 0] 27)).drew := ((Below.refl _ _).alloc (Nat.le_refl _) _).drew
            have hZ : (wr.alloc (.cells #[.int .i64 0, .int .i64 0, .int .i64 0, .int .i64 0, .slice none 0 0] 27)).drew.heap[wr.heap.size]? = some (.cells #[.int .i64 0, .int .i64 0, .int .i64 0, .int .i64 0, .slice none 0 0] 27 (0, 0)) := heap_alloc_new _ _
            have hzl : wr.heap.size < (wr.alloc (.cells #[.int .i64 0, .int .i64 0, .int .i64 0, .int .i64 0, .slice none 0 0] 27)).drew.heap.size := by simp
            obtain ⟨wa, hwa⟩ : ∃ wa, (wr.alloc (.cells #[.int .i64 0, .int .i64 0, .int .i64 0, .int .i64 0, .slice none 0 0] 27)).drew = wa := ⟨_, rfl⟩
            rw [hwa] at hHeld hZ hzl ⊢
            clear hwa
            refine wpAnyH_ready (rs := [12]) (by kernel_rfl) (by simp) ?_
            refine (AllReadyH.cons (i := 12) (o := ?oo11_12) ?ho11_12 (fun Kq hK => ?step11_12) AllReadyH.nil)
            case ho11_12 => simp only [List.getElem?_toArray, List.getElem?_cons_succ, List.getElem?_cons_zero]; rfl
            case step11_12 =>
              go_simp
              (go_at_call 29; refine (shown_any _ ek ck sk).mono ?_; rintro e w5 ⟨rfl, hb⟩)
              have hBw5 : Below wr.heap.size wr w5 := hHeld.trans (hb.mono hHeld.size)
              have hZ := (hb.block _ hzl).trans hZ
              have hzl := Nat.lt_of_lt_of_le hzl hb.size
              refine hK.out _ _ hBw5 (fun _ => ?_)
              clear hK Kq hHeld hb
              try simp only [Act.put, List.setIfInBounds_toArray, List.set_cons_zero, List.set_cons_succ]
              have hHeld := hBw5
              clear hBw5
              refine wpAnyH_ready (rs := [13]) (by kernel_rfl) (by simp) ?_
              refine (AllReadyH.cons (i := 13) (o := ?oo12_13) ?ho12_13 (fun Kq hK => ?step12_13) AllReadyH.nil)
              case ho12_13 => simp only [List.getElem?_toArray, List.getElem?_cons_succ, List.getElem?_cons_zero]; rfl
              case step12_13 =>
                go_simp
                (go_at_call 38; refine (HFL.out _ hHeld).mono ?_; rintro e w6 ⟨A6, c6, rfl, hv6, hb⟩)
                have hBw6 : Below wr.heap.size wr w6 := hHeld.trans (hb.mono hHeld.size)
                have hZ := (hb.block _ hzl).trans hZ
                have hzl := Nat.lt_of_lt_of_le hzl hb.size
                have HV6 := Hd.mk hv6
                clear hv6
                refine hK.out _ _ hBw6 (fun _ => ?_)
                clear hK Kq hHeld hb
                try simp only [Act.put, List.setIfInBounds_toArray, List.set_cons_zero, List.set_cons_succ]
                have hHeld := hBw6
                clear hBw6
                refine wpAnyH_ready (rs := [14]) (by kernel_rfl) (by simp) ?_
                refine (AllReadyH.cons (i := 14) (o := ?oo13_14) ?ho13_14 (fun Kq hK => ?step13_14) AllReadyH.nil)
                case ho13_14 => simp only [List.getElem?_toArray, List.getElem?_cons_succ, List.getElem?_cons_zero]; rfl
                case step13_14 =>
                  go_simp
                  (go_at_call 15; refine (HRJ.out _ A6 c6 HV6.out).mono ?_; rintro e w7 ⟨P, rfl, hP1, hb⟩)
                  have hBw7 : Below wr.heap.size wr w7 := hHeld.trans (hb.mono hHeld.size)
                  have hZ := (hb.block _ hzl).trans hZ
                  have hzl := Nat.lt_of_lt_of_le hzl hb.size
                  have HP1 := Hd.mk hP1
                  clear hP1
                  refine hK.out _ _ hBw7 (fun _ => ?_)
                  clear hK Kq hHeld hb
                  try simp only [Act.put, List.setIfInBounds_toArray, List.set_cons_zero, List.set_cons_succ]
                  have hHeld := hBw7
                  clear hBw7
                  refine wpAnyH_ready (rs := [16]) (by kernel_rfl) (by simp) ?_
                  refine (AllReadyH.cons (i := 16) (o := ?oo14_16) ?ho14_16 (fun Kq hK => ?step14_16) AllReadyH.nil)
                  case ho14_16 => simp only [List.getElem?_toArray, List.getElem?_cons_succ, List.getElem?_cons_zero]; rfl
                  case step14_16 =>
                    refine step_stored rfl 27 (.tmp 10) (.tmp 48) rfl (wr.heap.size) #[.int .i64 vk, .int .i64 ep, .int .i64 ct, .int .i64 sz, P] rfl rfl _ _ hZ infoV2 rfl (ver_one HP1.out) (fun w8 HW8 => ?_)
                    have HB8 : Hd (Below wr.heap.size wr w8) := ⟨hHeld.grown HW8.out.2.1 hHeld.size (fun g e => by injection e with e; omega)⟩
                    refine hK.out _ _ HB8.out (fun _ => ?_)
                    clear hK Kq
                    try simp only [Act.put, List.setIfInBounds_toArray, List.set_cons_zero, List.set_cons_succ]
                    refine wpAnyH_done (by kernel_rfl) ?_ _
                    (try go_wp2_with fail)
                    go_meet
                    exact ⟨wr.heap.size, P, rfl, hgle, HW8.out.1, HB8.out⟩
        case rest =>
          obtain ⟨g0, P, rfl, hg0, hz, hb8⟩ := hcut
          have HB8 := Hd.mk hb8
          have b0 : wc.cell? ⟨g0, 0, none⟩ = some (.int .i64 vk) := by rw [cell_of_row _ _ _ _ _ _ hz]; rfl
          have b1 : wc.cell? ⟨g0, 1, none⟩ = some (.int .i64 ep) := by rw [cell_of_row _ _ _ _ _ _ hz]; rfl
          have b2 : wc.cell? ⟨g0, 2, none⟩ = some (.int .i64 ct) := by rw [cell_of_row _ _ _ _ _ _ hz]; rfl
          have b3 : wc.cell? ⟨g0, 3, none⟩ = some (.int .i64 sz) := by rw [cell_of_row _ _ _ _ _ _ hz]; rfl
          obtain ⟨x0, x1, x2, x3⟩ := HX4.out wc hb8
          clear hz hb8 HX4 HC4 HV4
          rcases p1 : (vk == 1) with _ | _
          · have HX := True.intro
            have HB : Hd (_ = false) := ⟨HOK.out.trans (by simp [p1])⟩
            clear HOK HFL HRJ HJR
            go_wp2_with fail
            go_quiet (fail)
            obtain ⟨w5, hw5⟩ : ∃ w5, wc.drewN nq = w5 := ⟨_, rfl⟩
            have HB5 : Hd (Below wr.heap.size wr w5) := ⟨hw5 ▸ below_drewN HB8.out _⟩
            rw [hw5]
            clear hw5 b0 b1 b2 b3 x0 x1 x2 x3
            go_wp2_with fail
            go_roundw
            case rel =>
              refine ⟨j + 1, by omega, by go_num, o, by omega, H4.out.1.keep HB5.out, H4.out.2.1.keep HB5.out, H4.out.2.2.1.keep HB5.out, ?_⟩
              rw [HFN.out, if_neg (by rw [HB.out]; decide), List.append_nil]
            case measure => simp [intOf]; omega
          · have e_p1 := eq_of_beq p1
            subst e_p1
            clear p1
            rcases p2 : (ep == ek) with _ | _
            · have HX := True.intro
              have HB : Hd (_ = false) := ⟨HOK.out.trans (by simp [p2])⟩
              clear HOK HFL HRJ HJR
              go_wp2_with fail
              go_quiet (fail)
              obtain ⟨w5, hw5⟩ : ∃ w5, wc.drewN nq = w5 := ⟨_, rfl⟩
              have HB5 : Hd (Below wr.heap.size wr w5) := ⟨hw5 ▸ below_drewN HB8.out _⟩
              rw [hw5]
              clear hw5 b0 b1 b2 b3 x0 x1 x2 x3
              go_wp2_with fail
              go_roundw
              case rel =>
                refine ⟨j + 1, by omega, by go_num, o, by omega, H4.out.1.keep HB5.out, H4.out.2.1.keep HB5.out, H4.out.2.2.1.keep HB5.out, ?_⟩
                rw [HFN.out, if_neg (by rw [HB.out]; decide), List.append_nil]
              case measure => simp [intOf]; omega
            · have e_p2 := eq_of_beq p2
              subst e_p2
              clear p2
              rcases p3 : (ct == ck) with _ | _
              · have HX := True.intro
                have HB : Hd (_ = false) := ⟨HOK.out.trans (by simp [p3])⟩
                clear HOK HFL HRJ HJR
                go_wp2_with fail
                go_quiet (fail)
                obtain ⟨w5, hw5⟩ : ∃ w5, wc.drewN nq = w5 := ⟨_, rfl⟩
                have HB5 : Hd (Below wr.heap.size wr w5) := ⟨hw5 ▸ below_drewN HB8.out _⟩
                rw [hw5]
                clear hw5 b0 b1 b2 b3 x0 x1 x2 x3
                go_wp2_with fail
                go_roundw
                case rel =>
                  refine ⟨j + 1, by omega, by go_num, o, by omega, H4.out.1.keep HB5.out, H4.out.2.1.keep HB5.out, H4.out.2.2.1.keep HB5.out, ?_⟩
                  rw [HFN.out, if_neg (by rw [HB.out]; decide), List.append_nil]
                case measure => simp [intOf]; omega
              · have e_p3 := eq_of_beq p3
                subst e_p3
                clear p3
                rcases p4 : (sz == sk) with _ | _
                · have HX := True.intro
                  have HB : Hd (_ = false) := ⟨HOK.out.trans (by simp [p4])⟩
                  clear HOK HFL HRJ HJR
                  go_wp2_with fail
                  go_quiet (fail)
                  obtain ⟨w5, hw5⟩ : ∃ w5, wc.drewN nq = w5 := ⟨_, rfl⟩
                  have HB5 : Hd (Below wr.heap.size wr w5) := ⟨hw5 ▸ below_drewN HB8.out _⟩
                  rw [hw5]
                  clear hw5 b0 b1 b2 b3 x0 x1 x2 x3
                  go_wp2_with fail
                  go_roundw
                  case rel =>
                    refine ⟨j + 1, by omega, by go_num, o, by omega, H4.out.1.keep HB5.out, H4.out.2.1.keep HB5.out, H4.out.2.2.1.keep HB5.out, ?_⟩
                    rw [HFN.out, if_neg (by rw [HB.out]; decide), List.append_nil]
                  case measure => simp [intOf]; omega
                · have e_p4 := eq_of_beq p4
                  subst e_p4
                  clear p4
                  have HB : Hd (_ = true) := ⟨HOK.out.trans (by simp [])⟩
                  clear HOK HFL HRJ HJR
                  go_wp2_with fail
                  go_quiet (fail)
                  obtain ⟨w5, hw5⟩ : ∃ w5, wc.drewN nq = w5 := ⟨_, rfl⟩
                  have HB5 : Hd (Below wr.heap.size wr w5) := ⟨hw5 ▸ below_drewN HB8.out _⟩
                  rw [hw5]
                  clear hw5 b0 b1 b2 b3 x0 x1 x2 x3
                  have HR5 : Hd (w5.rangeAt g (j * 4) [.int .i64 ep, .int .i64 ct, .int .i64 sz, .slice A1 mm c1]) := ⟨fun i u hu => (HB5.out.cell (p := ⟨g, _, none⟩) HG.out).trans (HR.out i u hu)⟩
                  have H5 := Hd.mk (And.intro (H4.out.1.keep HB5.out) (And.intro (H4.out.2.1.keep HB5.out) (H4.out.2.2.1.keep HB5.out)))
                  have h63 : Hd (o.length + 1 ≤ maxLen) := ⟨by unfold maxLen; omega⟩
                  have hby : Hd ((o.length + 1) * 48 ≤ 140737488355328) := ⟨by omega⟩
                  go_wp2_with (first
                    | (refine at_load ?_; refine wpList_load_mid rfl 77 (.tmp 75) rfl g (j * 4) rfl [.int .i64 ep, .int .i64 ct, .int .i64 sz, .slice A1 mm c1] _ HR5.out Try.underlying77 rfl infoRGs ?_)
                    | (at_builtin; refine pushN_at0 elRG rfl (.tmp 72) (.tmp 77) rfl (w.heap.size + 1) u7 o.length (o.flatMap (encG f)) [.int .i64 ep, .int .i64 ct, .int .i64 sz, .slice A1 mm c1] rfl _ rfl rfl rfl (cells4_one _ _ _ _ _ _) H5.out.2.2.out h63.out hby.out (by have := H5.out.1.big; omega) ?_; intro v2 w7 hO2
                       have H7 := Hd.mk (H5.out.2.2.push H5.out.2.1 H5.out.1 (by omega) HXM.out HC.out hO2)))
                  go_roundw
                  case rel =>
                    refine ⟨j + 1, by omega, by go_num, o ++ [(ep, ct, sz)], by simp; omega, H7.out.2.2, H7.out.2.1, H7.out.1, ?_⟩
                    rw [HFN.out, if_pos HB.out]
                  case measure => simp [intOf]; omega
      · have hjn : j = L.length := by omega
        subst hjn
        have HO : Hd (L.filter (okW S n k m b) = o) := ⟨by have := H4.out.2.2.2; rwa [List.take_length] at this⟩
        have HFL : Hd (∀ W, Below wr.heap.size wr W → Calls Try.prog 38 #[.slice A n c, .agg shN.cells.toArray] W fun e w' => ∃ A' c', e = .returned (.slice A' n c') ∧ View w' w'.heap.size A' n (fillS S shN) ∧ Below W.heap.size W w') := ⟨fun W hW => filled_any W w.heap.size n c A S (HV4.out W hW).1 (HV4.out W hW).2.1 hn _ shN_ok⟩
        obtain ⟨⟨vk, ⟨ep, ct, sz⟩, pl⟩, hjr⟩ : ∃ r, judgeP (fillS S shN) n k m b = r := ⟨_, rfl⟩
        have HJR := Hd.mk hjr
        have HRJ : Hd (∀ (W : World) (A' : Option Addr) (c' : Nat), View W W.heap.size A' n (fillS S shN) → Calls Try.prog 15 #[.agg #[.int .i64 k, .int .i64 m, .int .i64 b], .slice A' n c'] W fun e w' => ∃ P, e = .returned (.agg #[.int .i64 vk, .int .i64 ep, .int .i64 ct, .int .i64 sz, P]) ∧ P.oneCell' = true ∧ Below W.heap.size W w') := ⟨fun W A' c' hv => by
          have h := refjudge_any W W.heap.size n c' A' _ hv (Nat.le_refl _) hn k m b
          rw [HJR.out] at h
          exact h.mono fun e w' ⟨P, he, ho, hb⟩ => ⟨P, he, own_one ho, hb⟩⟩
        clear hjr
        go_upto_region 12 with fail
        go_cut [11] from 79 to 87 (fun p wx => ∃ (g0 : Nat) (P : Value), p = .pointer (some ⟨g0, 0, none⟩) ∧ wr.heap.size ≤ g0 ∧ wx.heap[g0]? = some (.cells #[.int .i64 vk, .int .i64 ep, .int .i64 ct, .int .i64 sz, P] 27 (0, 0)) ∧ Below wr.heap.size wr wx)
        case first =>
          refine wp_region_held_drew (S := fun W => Below wr.heap.size wr W) (by kernel_rfl) ((Below.refl _ _).drew) (fun hHeld => ?_)
          refine wpAnyH_take (i := 0) (oi := ?oi201) (v := ?v201) ?hi201 (by kernel_rfl) (by kernel_rfl) (by kernel_rfl) ?hQ201 (Or.inl ⟨?hw201, ?hy201⟩) (by assumption) ?rest201
          case hi201 => simp only [List.getElem?_toArray, List.getElem?_cons_succ, List.getElem?_cons_zero]; rfl
          case hQ201 => exact fun _ _ _ h => h
          case hw201 => rfl
          case hy201 => (intro W hW; obtain ⟨q0, q1, q2⟩ := HC4.out W hW; go_simp; all_goals rfl)
          simp only [Act.put, List.setIfInBounds_toArray, List.set_cons_zero, List.set_cons_succ]
          refine wpAnyH_take (i := 1) (oi := ?oi202) (v := ?v202) ?hi202 (by kernel_rfl) (by kernel_rfl) (by kernel_rfl) ?hQ202 (Or.inl ⟨?hw202, ?hy202⟩) (by assumption) ?rest202
          case hi202 => simp only [List.getElem?_toArray, List.getElem?_cons_succ, List.getElem?_cons_zero]; rfl
          case hQ202 => exact fun _ _ _ h => h
          case hw202 => rfl
          case hy202 => (intro W hW; obtain ⟨q0, q1, q2⟩ := HC4.out W hW; go_simp; all_goals rfl)
          simp only [Act.put, List.setIfInBounds_toArray, List.set_cons_zero, List.set_cons_succ]
          refine wpAnyH_take (i := 2) (oi := ?oi203) (v := ?v203) ?hi203 (by kernel_rfl) (by kernel_rfl) (by kernel_rfl) ?hQ203 (Or.inl ⟨?hw203, ?hy203⟩) (by assumption) ?rest203
          case hi203 => simp only [List.getElem?_toArray, List.getElem?_cons_succ, List.getElem?_cons_zero]; rfl
          case hQ203 => exact fun _ _ _ h => h
          case hw203 => rfl
          case hy203 => (intro W hW; obtain ⟨q0, q1, q2⟩ := HC4.out W hW; go_simp; all_goals rfl)
          simp only [Act.put, List.setIfInBounds_toArray, List.set_cons_zero, List.set_cons_succ]
          refine wpAnyH_ready (rs := [3, 5]) (by kernel_rfl) (by simp) ?_
          refine (AllReadyH.cons (i := 3) (o := ?oo15_3) ?ho15_3 (fun Kq hK => ?step15_3) (AllReadyH.cons (i := 5) (o := ?oo15_5) ?ho15_5 (fun Kq hK => ?step15_5) AllReadyH.nil))
          case ho15_3 => simp only [List.getElem?_toArray, List.getElem?_cons_succ, List.getElem?_cons_zero]; rfl
          case ho15_5 => simp only [List.getElem?_toArray, List.getElem?_cons_succ, List.getElem?_cons_zero]; rfl
          case step15_3 =>
            go_simp
            (go_at_call 38; refine (HFL.out _ hHeld).mono ?_; rintro e w6 ⟨A6, c6, rfl, hv6, hb⟩)
            have hBw6 : Below wr.heap.size wr w6 := hHeld.trans (hb.mono hHeld.size)
            have HV6 := Hd.mk hv6
            clear hv6
            refine hK.out _ _ hBw6 (fun _ => ?_)
            clear hK Kq hHeld hb
            try simp only [Act.put, List.setIfInBounds_toArray, List.set_cons_zero, List.set_cons_succ]
            have hHeld := hBw6
            clear hBw6
            refine wpAnyH_ready (rs := [4, 5]) (by kernel_rfl) (by simp) ?_
            refine (AllReadyH.cons (i := 4) (o := ?oo16_4) ?ho16_4 (fun Kq hK => ?step16_4) (AllReadyH.cons (i := 5) (o := ?oo16_5) ?ho16_5 (fun Kq hK => ?step16_5) AllReadyH.nil))
            case ho16_4 => simp only [List.getElem?_toArray, List.getElem?_cons_succ, List.getElem?_cons_zero]; rfl
            case ho16_5 => simp only [List.getElem?_toArray, List.getElem?_cons_succ, List.getElem?_cons_zero]; rfl
            case step16_4 =>
              go_simp
              (go_at_call 15; refine (HRJ.out _ A6 c6 HV6.out).mono ?_; rintro e w7 ⟨P, rfl, hP1, hb⟩)
              have hBw7 : Below wr.heap.size wr w7 := hHeld.trans (hb.mono hHeld.size)
              have HP1 := Hd.mk hP1
              clear hP1
              refine hK.out _ _ hBw7 (fun _ => ?_)
              clear hK Kq hHeld hb
              try simp only [Act.put, List.setIfInBounds_toArray, List.set_cons_zero, List.set_cons_succ]
              have hHeld := hBw7
              clear hBw7
              refine wpAnyH_ready (rs := [5]) (by kernel_rfl) (by simp) ?_
              refine (AllReadyH.cons (i := 5) (o := ?oo17_5) ?ho17_5 (fun Kq hK => ?step17_5) AllReadyH.nil)
              case ho17_5 => simp only [List.getElem?_toArray, List.getElem?_cons_succ, List.getElem?_cons_zero]; rfl
              case step17_5 =>
                go_simp
                refine hK.out _ _ (hHeld.alloc hHeld.size _) (fun _ => ?_)
                clear hK Kq
                try simp only [Act.put, List.setIfInBounds_toArray, List.set_cons_zero, List.set_cons_succ]
                have hgle : wr.heap.size ≤ w7.heap.size := hHeld.size
                have hHeld := hHeld.alloc hHeld.size (.cells #[.int .i64 0, .int .i64 0, .int .i64 0, .int .i64 0, .slice none 0 0] 27)
                have hZ : (w7.alloc (.cells #[.int .i64 0, .int .i64 0, .int .i64 0, .int .i64 0, .slice none 0 0] 27)).heap[w7.heap.size]? = some (.cells #[.int .i64 0, .int .i64 0, .int .i64 0, .int .i64 0, .slice none 0 0] 27 (0, 0)) := heap_alloc_new _ _
                have hzl : w7.heap.size < (w7.alloc (.cells #[.int .i64 0, .int .i64 0, .int .i64 0, .int .i64 0, .slice none 0 0] 27)).heap.size := by simp
                obtain ⟨wa, hwa⟩ : ∃ wa, w7.alloc (.cells #[.int .i64 0, .int .i64 0, .int .i64 0, .int .i64 0, .slice none 0 0] 27) = wa := ⟨_, rfl⟩
                rw [hwa] at hHeld hZ hzl ⊢
                clear hwa
                refine wpAnyH_ready (rs := [6]) (by kernel_rfl) (by simp) ?_
                refine (AllReadyH.cons (i := 6) (o := ?oo18_6) ?ho18_6 (fun Kq hK => ?step18_6) AllReadyH.nil)
                case ho18_6 => simp only [List.getElem?_toArray, List.getElem?_cons_succ, List.getElem?_cons_zero]; rfl
                case step18_6 =>
                  refine step_stored rfl 27 (.tmp 11) (.tmp 83) rfl (w7.heap.size) #[.int .i64 vk, .int .i64 ep, .int .i64 ct, .int .i64 sz, P] rfl rfl _ _ hZ infoV2 rfl (ver_one HP1.out) (fun w8 HW8 => ?_)
                  have HB8 : Hd (Below wr.heap.size wr w8) := ⟨hHeld.grown HW8.out.2.1 hHeld.size (fun g e => by injection e with e; omega)⟩
                  refine hK.out _ _ HB8.out (fun _ => ?_)
                  clear hK Kq
                  try simp only [Act.put, List.setIfInBounds_toArray, List.set_cons_zero, List.set_cons_succ]
                  refine wpAnyH_done (by kernel_rfl) ?_ _
                  (try go_wp2_with fail)
                  go_meet
                  exact ⟨w7.heap.size, P, rfl, hgle, HW8.out.1, HB8.out⟩
            case step16_5 =>
              go_simp
              refine hK.out _ _ (hHeld.alloc hHeld.size _) (fun _ => ?_)
              clear hK Kq
              try simp only [Act.put, List.setIfInBounds_toArray, List.set_cons_zero, List.set_cons_succ]
              have hgle : wr.heap.size ≤ w6.heap.size := hHeld.size
              have hHeld := hHeld.alloc hHeld.size (.cells #[.int .i64 0, .int .i64 0, .int .i64 0, .int .i64 0, .slice none 0 0] 27)
              have hZ : (w6.alloc (.cells #[.int .i64 0, .int .i64 0, .int .i64 0, .int .i64 0, .slice none 0 0] 27)).heap[w6.heap.size]? = some (.cells #[.int .i64 0, .int .i64 0, .int .i64 0, .int .i64 0, .slice none 0 0] 27 (0, 0)) := heap_alloc_new _ _
              have hzl : w6.heap.size < (w6.alloc (.cells #[.int .i64 0, .int .i64 0, .int .i64 0, .int .i64 0, .slice none 0 0] 27)).heap.size := by simp
              obtain ⟨wa, hwa⟩ : ∃ wa, w6.alloc (.cells #[.int .i64 0, .int .i64 0, .int .i64 0, .int .i64 0, .slice none 0 0] 27) = wa := ⟨_, rfl⟩
              have HV6 := Hd.mk ((HV6.out.below ((Below.refl _ _).alloc (Nat.le_refl _) (.cells #[.int .i64 0, .int .i64 0, .int .i64 0, .int .i64 0, .slice none 0 0] 27))).more (Q' := (w6.alloc (.cells #[.int .i64 0, .int .i64 0, .int .i64 0, .int .i64 0, .slice none 0 0] 27)).heap.size) (by simp))
              rw [hwa] at HV6
              rw [hwa] at hHeld hZ hzl ⊢
              clear hwa
              refine wpAnyH_ready (rs := [4]) (by kernel_rfl) (by simp) ?_
              refine (AllReadyH.cons (i := 4) (o := ?oo19_4) ?ho19_4 (fun Kq hK => ?step19_4) AllReadyH.nil)
              case ho19_4 => simp only [List.getElem?_toArray, List.getElem?_cons_succ, List.getElem?_cons_zero]; rfl
              case step19_4 =>
                go_simp
                (go_at_call 15; refine (HRJ.out _ A6 c6 HV6.out).mono ?_; rintro e w7 ⟨P, rfl, hP1, hb⟩)
                have hBw7 : Below wr.heap.size wr w7 := hHeld.trans (hb.mono hHeld.size)
                have hZ := (hb.block _ hzl).trans hZ
                have hzl := Nat.lt_of_lt_of_le hzl hb.size
                have HP1 := Hd.mk hP1
                clear hP1
                refine hK.out _ _ hBw7 (fun _ => ?_)
                clear hK Kq hHeld hb
                try simp only [Act.put, List.setIfInBounds_toArray, List.set_cons_zero, List.set_cons_succ]
                have hHeld := hBw7
                clear hBw7
                refine wpAnyH_ready (rs := [6]) (by kernel_rfl) (by simp) ?_
                refine (AllReadyH.cons (i := 6) (o := ?oo20_6) ?ho20_6 (fun Kq hK => ?step20_6) AllReadyH.nil)
                case ho20_6 => simp only [List.getElem?_toArray, List.getElem?_cons_succ, List.getElem?_cons_zero]; rfl
                case step20_6 =>
                  refine step_stored rfl 27 (.tmp 11) (.tmp 83) rfl (w6.heap.size) #[.int .i64 vk, .int .i64 ep, .int .i64 ct, .int .i64 sz, P] rfl rfl _ _ hZ infoV2 rfl (ver_one HP1.out) (fun w8 HW8 => ?_)
                  have HB8 : Hd (Below wr.heap.size wr w8) := ⟨hHeld.grown HW8.out.2.1 hHeld.size (fun g e => by injection e with e; omega)⟩
                  refine hK.out _ _ HB8.out (fun _ => ?_)
                  clear hK Kq
                  try simp only [Act.put, List.setIfInBounds_toArray, List.set_cons_zero, List.set_cons_succ]
                  refine wpAnyH_done (by kernel_rfl) ?_ _
                  (try go_wp2_with fail)
                  go_meet
                  exact ⟨w6.heap.size, P, rfl, hgle, HW8.out.1, HB8.out⟩
          case step15_5 =>
            go_simp
            refine hK.out _ _ (hHeld.alloc hHeld.size _) (fun _ => ?_)
            clear hK Kq
            try simp only [Act.put, List.setIfInBounds_toArray, List.set_cons_zero, List.set_cons_succ]
            have hgle : wr.heap.size ≤ wr.heap.size := hHeld.size
            have hHeld : Below wr.heap.size wr (wr.alloc (.cells #[.int .i64 0, .int .i64 0, .int .i64 0, .int .i64 0, .slice none 0 0] 27)).drew := ((Below.refl _ _).alloc (Nat.le_refl _) _).drew
            have hZ : (wr.alloc (.cells #[.int .i64 0, .int .i64 0, .int .i64 0, .int .i64 0, .slice none 0 0] 27)).drew.heap[wr.heap.size]? = some (.cells #[.int .i64 0, .int .i64 0, .int .i64 0, .int .i64 0, .slice none 0 0] 27 (0, 0)) := heap_alloc_new _ _
            have hzl : wr.heap.size < (wr.alloc (.cells #[.int .i64 0, .int .i64 0, .int .i64 0, .int .i64 0, .slice none 0 0] 27)).drew.heap.size := by simp
            obtain ⟨wa, hwa⟩ : ∃ wa, (wr.alloc (.cells #[.int .i64 0, .int .i64 0, .int .i64 0, .int .i64 0, .slice none 0 0] 27)).drew = wa := ⟨_, rfl⟩
            rw [hwa] at hHeld hZ hzl ⊢
            clear hwa
            refine wpAnyH_ready (rs := [3]) (by kernel_rfl) (by simp) ?_
            refine (AllReadyH.cons (i := 3) (o := ?oo21_3) ?ho21_3 (fun Kq hK => ?step21_3) AllReadyH.nil)
            case ho21_3 => simp only [List.getElem?_toArray, List.getElem?_cons_succ, List.getElem?_cons_zero]; rfl
            case step21_3 =>
              go_simp
              (go_at_call 38; refine (HFL.out _ hHeld).mono ?_; rintro e w6 ⟨A6, c6, rfl, hv6, hb⟩)
              have hBw6 : Below wr.heap.size wr w6 := hHeld.trans (hb.mono hHeld.size)
              have hZ := (hb.block _ hzl).trans hZ
              have hzl := Nat.lt_of_lt_of_le hzl hb.size
              have HV6 := Hd.mk hv6
              clear hv6
              refine hK.out _ _ hBw6 (fun _ => ?_)
              clear hK Kq hHeld hb
              try simp only [Act.put, List.setIfInBounds_toArray, List.set_cons_zero, List.set_cons_succ]
              have hHeld := hBw6
              clear hBw6
              refine wpAnyH_ready (rs := [4]) (by kernel_rfl) (by simp) ?_
              refine (AllReadyH.cons (i := 4) (o := ?oo22_4) ?ho22_4 (fun Kq hK => ?step22_4) AllReadyH.nil)
              case ho22_4 => simp only [List.getElem?_toArray, List.getElem?_cons_succ, List.getElem?_cons_zero]; rfl
              case step22_4 =>
                go_simp
                (go_at_call 15; refine (HRJ.out _ A6 c6 HV6.out).mono ?_; rintro e w7 ⟨P, rfl, hP1, hb⟩)
                have hBw7 : Below wr.heap.size wr w7 := hHeld.trans (hb.mono hHeld.size)
                have hZ := (hb.block _ hzl).trans hZ
                have hzl := Nat.lt_of_lt_of_le hzl hb.size
                have HP1 := Hd.mk hP1
                clear hP1
                refine hK.out _ _ hBw7 (fun _ => ?_)
                clear hK Kq hHeld hb
                try simp only [Act.put, List.setIfInBounds_toArray, List.set_cons_zero, List.set_cons_succ]
                have hHeld := hBw7
                clear hBw7
                refine wpAnyH_ready (rs := [6]) (by kernel_rfl) (by simp) ?_
                refine (AllReadyH.cons (i := 6) (o := ?oo23_6) ?ho23_6 (fun Kq hK => ?step23_6) AllReadyH.nil)
                case ho23_6 => simp only [List.getElem?_toArray, List.getElem?_cons_succ, List.getElem?_cons_zero]; rfl
                case step23_6 =>
                  refine step_stored rfl 27 (.tmp 11) (.tmp 83) rfl (wr.heap.size) #[.int .i64 vk, .int .i64 ep, .int .i64 ct, .int .i64 sz, P] rfl rfl _ _ hZ infoV2 rfl (ver_one HP1.out) (fun w8 HW8 => ?_)
                  have HB8 : Hd (Below wr.heap.size wr w8) := ⟨hHeld.grown HW8.out.2.1 hHeld.size (fun g e => by injection e with e; omega)⟩
                  refine hK.out _ _ HB8.out (fun _ => ?_)
                  clear hK Kq
                  try simp only [Act.put, List.setIfInBounds_toArray, List.set_cons_zero, List.set_cons_succ]
                  refine wpAnyH_done (by kernel_rfl) ?_ _
                  (try go_wp2_with fail)
                  go_meet
                  exact ⟨wr.heap.size, P, rfl, hgle, HW8.out.1, HB8.out⟩
        case rest =>
          obtain ⟨g0, P, rfl, hg0, hz, hb8⟩ := hcut
          have HB8 := Hd.mk hb8
          have b0 : wc.cell? ⟨g0, 0, none⟩ = some (.int .i64 vk) := by rw [cell_of_row _ _ _ _ _ _ hz]; rfl
          have HQ3 : Hd ((o, vk == 2) = possP S n k m b) := ⟨by rw [← refposs_eq HQ.out, HL.out, HO.out, HJR.out]⟩
          clear hz hb8 HC4 HV4 HFL HRJ HJR
          go_wp2_with fail
          go_quiet (fail)
          (try go_wp2_with fail)
          go_ret2
          have HB9 := below_drewN HB8.out nq
          exact HJ.out _ HQ3.out _ _ ⟨_, rfl, ⟨f, ((H4.out.2.2.1.keep HB9).gl (H4.out.2.1.keep HB9)).low (by omega)⟩, (H4.out.1.keep HB9).bel⟩
end Go.Proofs.Ytplpaipmkpjgfaa
