/- Contracts of the reference's Shown and Filled. -/
import Derived.Test.YtplpaipmkpjgfaaFillP
namespace Go.Proofs.Ytplpaipmkpjgfaa
open Go.RowKit
set_option linter.unusedVariables false
set_option linter.unusedSimpArgs false
def snCells (T : Nat → Sn) (i : Nat) : List Value := (List.range i).flatMap fun r => (T r).cells
theorem snCells_next (T : Nat → Sn) (i : Nat) : snCells T (i + 1) = snCells T i ++ (T i).cells := by
  unfold snCells; rw [List.range_succ, List.flatMap_append]; simp
theorem snCells_len (T : Nat → Sn) : ∀ i, (snCells T i).length = i * 19
  | 0 => rfl
  | i + 1 => by rw [snCells_next, List.length_append, snCells_len T i]; show _ + 19 = _; omega
theorem sn_at (T : Nat → Sn) : ∀ (n r j : Nat), r < n → j < 19 → (snCells T n)[r * 19 + j]? = (T r).cells[j]?
  | 0, r, j, h, hj => by omega
  | n + 1, r, j, h, hj => by
    rw [snCells_next]
    by_cases hr : r < n
    · rw [List.getElem?_append_left (by rw [snCells_len]; omega)]; exact sn_at T n r j hr hj
    · obtain rfl : r = n := by omega
      rw [List.getElem?_append_right (by rw [snCells_len]; omega), snCells_len, show r * 19 + j - r * 19 = j by omega]
theorem snCells_congr {T T' : Nat → Sn} {i : Nat} (h : ∀ r, r < i → T r = T' r) : snCells T i = snCells T' i := by
  unfold snCells
  rw [List.flatMap_def, List.flatMap_def]
  congr 1
  exact List.map_congr_left fun r hr => by rw [h r (List.mem_range.1 hr)]
theorem view_own {w : World} {base n c : Nat} {A : Option Addr} {T : Nat → Sn} (h : w.ownsRow base 58 19 (.slice A n c) n (snCells T n)) (hok : ∀ r, r < n → SnOk (T r)) : View w w.heap.size A n T := fun r hr => by
  obtain ⟨g, off, hA, ⟨hg, _⟩, hcc⟩ := (RdN.of_own h).2 (by omega)
  refine ⟨g, off, hA, hg, fun j v hv => ?_, hok r hr⟩
  have hj : j < 19 := by have := (List.getElem?_eq_some_iff.1 hv).1; rwa [Sn.len] at this
  have := hcc (r * 19 + j) (by omega)
  rw [show off + r * 19 + j = off + (r * 19 + j) by omega, this, sn_at T n r j hr hj]
  exact hv
theorem shW_ok {x : Wr} (h1 : J64 x.1) (h2 : J64 x.2.1) (h3 : J64 x.2.2) : SnOk (shW x) := ⟨by show J64 2; unfold J64; decide, h3, h1, h2, ⟨_, _, _, rfl⟩⟩
theorem shN_ok : SnOk shN := ⟨by show J64 1; unfold J64; decide, by show J64 0; unfold J64; decide, by show J64 0; unfold J64; decide, by show J64 0; unfold J64; decide, ⟨_, _, _, rfl⟩⟩
theorem fill_ok {S : Nat → Sn} {n : Nat} {y : Sn} (hy : SnOk y) (h : ∀ r, r < n → SnOk (S r)) : ∀ r, r < n → SnOk (fillS S y r) := fun r hr => by
  unfold fillS; split
  · exact hy
  · exact h r hr
theorem View.ok {w : World} {Q n : Nat} {A : Option Addr} {S : Nat → Sn} (h : View w Q A n S) : ∀ r, r < n → SnOk (S r) := fun r hr => by obtain ⟨_, _, _, _, _, h⟩ := h r hr; exact h
set_option maxRecDepth 20000 in
set_option maxHeartbeats 8000000 in
theorem shown_any (w : World) (ep ct sz : Int) :
    Calls Try.prog 29 #[.agg #[.int .i64 ep, .int .i64 ct], .int .i64 sz] w fun e w' => e = .returned (.agg (shW (ep, ct, sz)).cells.toArray) ∧ Below w.heap.size w w' := by
  go_enter Try.func29, Try.ntmps29
  have HX : Hd (∀ W1 : World, W1.heap.size = w.heap.size + 1 + 1 → (W1.alloc (.cells (shW (ep, ct, sz)).cells.toArray 58)).heap[w.heap.size + 1 + 1]? = some (.cells (shW (ep, ct, sz)).cells.toArray 58 (0, 0))) := ⟨fun W1 h => h ▸ heap_alloc_new _ _⟩
  have HZ : Hd (∀ (W0 : World) (o : Obj), W0.heap.size = w.heap.size + 1 → ((W0.alloc (.cells sn0.cells.toArray 58)).alloc o).heap[w.heap.size + 1]? = some (.cells sn0.cells.toArray 58 (0, 0))) := ⟨fun W0 o h => by rw [Go.Deep.blk_alloc_lt _ _ _ (by simp [h])]; exact h ▸ heap_alloc_new _ _⟩
  have HB : Hd (∀ (o1 o2 o3 : Obj) (w' : World), (((w.alloc o1).alloc o2).alloc o3).grownBy w' (some (w.heap.size + 1)) → Below w.heap.size w w') := ⟨fun o1 o2 o3 w' h => ((((Below.refl _ _).alloc (Nat.le_refl _) _).alloc (by simp) _).alloc (by simp; omega) _).grown h (by simp; omega) fun g e => by injection e with e; omega⟩
  go_wp2_with (first
    | (refine at_load (x := .tmp 5) ?_; refine wpList_load_row rfl 58 (.tmp 5) rfl (w.heap.size + 1 + 1) rfl 58 (shW (ep, ct, sz)).cells.toArray (0, 0) _ (HX.out _ (by simp)) Try.underlying58 rfl infoS ?_)
    | (refine at_store (x := .tmp 4) ?_; refine wpList_stored rfl 58 (.tmp 4) (.tmp 15) rfl (w.heap.size + 1) (shW (ep, ct, sz)).cells.toArray rfl rfl _ _ (HZ.out _ _ (by simp)) infoS rfl (by simp [shW, Sn.cells, Hdr.cells, Value.oneCell']) ?_; intro w6 HW6))
  (try simp only [Exit.inBlock, Exit.then])
  refine bodyPost_ret (results_cell1 rfl _ _ (w.heap.size + 1) 58 (shW (ep, ct, sz)).cells.toArray (0, 0) _ rfl HW6.out.1 Try.underlying58 rfl infoS) rfl ?_
  exact ⟨rfl, HB.out _ _ _ _ HW6.out.2.1⟩
set_option maxRecDepth 20000 in
set_option maxHeartbeats 20000000 in
theorem filled_any (w : World) (Q n c : Nat) (A : Option Addr) (S : Nat → Sn) (hv : View w Q A n S) (hQ : Q ≤ w.heap.size) (hn : n * 120 ≤ 140737488351232) (y : Sn) (hy : SnOk y) :
    Calls Try.prog 38 #[.slice A n c, .agg y.cells.toArray] w fun e w' => ∃ A' c', e = .returned (.slice A' n c') ∧ View w' w'.heap.size A' n (fillS S y) ∧ Below w.heap.size w w' := by
  have HH : Hd (View w Q A n S ∧ Q ≤ w.heap.size ∧ SnOk y) := ⟨hv, hQ, hy⟩
  have HY1 := Hd.mk (Sn.one y hy)
  obtain ⟨ys, hys⟩ : ∃ ys, y.cells = ys := ⟨_, rfl⟩
  have HYS := Hd.mk hys
  have HYL : Hd (ys.length = 19) := ⟨by rw [← hys]; rfl⟩
  rw [hys] at HY1 ⊢
  clear hv hQ hy hys
  have H1 : Hd ((w.alloc (.cells ys.toArray 58)).heap[w.heap.size]? = some (.cells ys.toArray 58 (0, 0)) ∧ Below w.heap.size w (w.alloc (.cells ys.toArray 58))) := ⟨heap_alloc_new _ _, (Below.refl _ _).alloc (Nat.le_refl _) _⟩
  have infoY : Hd ((Try.prog.info? 58).map (·.size) = some ys.toArray.size) := ⟨by simp only [List.size_toArray, HYL.out]; exact infoS⟩
  go_enter Try.func38, Try.ntmps38
  go_wp2_with fail
  obtain ⟨w1, hw1⟩ : ∃ w1, w.alloc (.cells ys.toArray 58) = w1 := ⟨_, rfl⟩
  rw [hw1] at H1 ⊢
  clear hw1
  go_loopw [5, 6] (fun v i wr => ∃ q : Nat, q ≤ n ∧ i = .int .i64 (q : Int) ∧ wr.heap[w.heap.size]? = some (.cells ys.toArray 58 (0, 0)) ∧ Below w.heap.size w wr ∧ wr.ownsRow (w.heap.size + 1) 58 19 v q (snCells (fillS S y) q)) (fun _ i _ => n - (intOf i).toNat)
  case atStart => exact ⟨0, by omega, rfl, H1.out.1, H1.out.2, World.ownsRow_nil _ _ _ _⟩
  case round =>
    clear H1
    obtain ⟨q, hq, rfl, hbx, hb, hown⟩ := hrel
    have hsz : w.heap.size < wr.heap.size := (Array.getElem?_eq_some_iff.1 hbx).1
    have H2 := Hd.mk (And.intro hbx (And.intro hb hown))
    clear hbx hb hown
    by_cases hlt : q < n
    · have hki : (q : Int) < (n : Int) := by omega
      obtain ⟨g, off, rfl, hg, d0, _, _, _, _, hr, hok⟩ := (HH.out.1.below (H2.out.2.1.mono HH.out.2.1)).at_ hlt
      have HR := Hd.mk hr
      have HO1 := Hd.mk (Sn.one (S q) hok)
      have HNX := Hd.mk (snCells_next (fillS S y) q)
      have HFS : Hd (fillS S y q = if ((S q).kind != 1) && ((S q).kind != 2) then y else S q) := ⟨rfl⟩
      have h63 : Hd (q + 1 ≤ maxLen) := ⟨by unfold maxLen; omega⟩
      have hby : Hd ((q + 1) * 120 ≤ 140737488355328) := ⟨by omega⟩
      clear hr hok
      obtain ⟨Sq, hSq⟩ : ∃ Sq, S q = Sq := ⟨_, rfl⟩
      rw [hSq] at d0 HR HO1 HFS
      clear hSq
      obtain ⟨kd, hkd⟩ : ∃ kd, Sq.kind = kd := ⟨_, rfl⟩
      rw [hkd] at d0 HFS
      clear hkd
      obtain ⟨xs, hxs⟩ : ∃ xs, Sq.cells = xs := ⟨_, rfl⟩
      have HXS := Hd.mk hxs
      have HXL : Hd (xs.length = 19) := ⟨by rw [← hxs]; rfl⟩
      rw [hxs] at HR HO1
      clear hxs
      have infoX : Hd ((Try.prog.info? 58).map (·.size) = some xs.toArray.size) := ⟨by simp only [List.size_toArray, HXL.out]; exact infoS⟩
      by_cases k1 : kd = 1
      · subst k1
        go_wp2_with (first
          | (refine at_load ?_; refine wpList_load_mid rfl 58 (.tmp 34) rfl g (off + q * 19) rfl xs _ HR.out Try.underlying58 rfl infoX.out ?_)
          | (refine at_buildSlice ?_; refine wpList_pushN elS rfl rfl (.tmp 31) (.tmp 35) 36 rfl rfl rfl (w.heap.size + 1) u5 q (snCells (fillS S y) q) xs rfl HXL.out HO1.out rfl rfl H2.out.2.2 h63.out hby.out hsz ?_; intro v2 w3 hO2
             have HO2 := Hd.mk hO2
             clear hO2))
        go_roundw
        case rel =>
          have hb5 := HO2.out.below (B := w.heap.size + 1) (fun g hg => (H2.out.2.2.lt g hg).1) hsz
          refine ⟨q + 1, by omega, by go_num, (hb5.block _ (by omega)).trans H2.out.1, H2.out.2.1.trans (hb5.mono (by omega)), ?_⟩
          rw [HNX.out, HFS.out, if_neg (by decide), HXS.out]
          exact HO2.out.1
        case measure => simp [intOf]; omega
      · by_cases k2 : kd = 2
        · subst k2
          go_wp2_with (first
            | (refine at_load ?_; refine wpList_load_mid rfl 58 (.tmp 34) rfl g (off + q * 19) rfl xs _ HR.out Try.underlying58 rfl infoX.out ?_)
            | (refine at_buildSlice ?_; refine wpList_pushN elS rfl rfl (.tmp 31) (.tmp 35) 36 rfl rfl rfl (w.heap.size + 1) u5 q (snCells (fillS S y) q) xs rfl HXL.out HO1.out rfl rfl H2.out.2.2 h63.out hby.out hsz ?_; intro v2 w3 hO2
               have HO2 := Hd.mk hO2
               clear hO2))
          go_roundw
          case rel =>
            have hb5 := HO2.out.below (B := w.heap.size + 1) (fun g hg => (H2.out.2.2.lt g hg).1) hsz
            refine ⟨q + 1, by omega, by go_num, (hb5.block _ (by omega)).trans H2.out.1, H2.out.2.1.trans (hb5.mono (by omega)), ?_⟩
            rw [HNX.out, HFS.out, if_neg (by decide), HXS.out]
            exact HO2.out.1
          case measure => simp [intOf]; omega
        · have k1' : (kd != 1) = true := by simp [k1]
          have k2' : (kd != 2) = true := by simp [k2]
          go_wp2_with (first
            | (refine at_load ?_; refine wpList_load_row rfl 58 (.tmp 3) rfl w.heap.size rfl 58 ys.toArray (0, 0) _ H2.out.1 Try.underlying58 rfl infoY.out ?_)
            | (refine at_buildSlice ?_; refine wpList_pushN elS rfl rfl (.tmp 27) (.tmp 28) 29 rfl rfl rfl (w.heap.size + 1) u5 q (snCells (fillS S y) q) ys rfl HYL.out HY1.out rfl rfl H2.out.2.2 h63.out hby.out hsz ?_; intro v2 w3 hO2
               have HO2 := Hd.mk hO2
               clear hO2))
          go_roundw
          case rel =>
            have hb5 := HO2.out.below (B := w.heap.size + 1) (fun g hg => (H2.out.2.2.lt g hg).1) hsz
            refine ⟨q + 1, by omega, by go_num, (hb5.block _ (by omega)).trans H2.out.1, H2.out.2.1.trans (hb5.mono (by omega)), ?_⟩
            rw [HNX.out, HFS.out, k1', k2']
            simp only [Bool.and_self, if_true]
            rw [HYS.out]
            exact HO2.out.1
          case measure => simp [intOf]; omega
    · have hqn : q = n := by omega
      subst hqn
      obtain ⟨A', c', hv', _, _⟩ := ownN_form H2.out.2.2
      subst hv'
      go_wp2_with fail
      go_ret
      exact ⟨_, _, rfl, view_own H2.out.2.2 (fill_ok HH.out.2.2 HH.out.1.ok), H2.out.2.1⟩
end Go.Proofs.Ytplpaipmkpjgfaa
