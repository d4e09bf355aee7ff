/- The walk of VotesStale: it returns true for every input. -/
import Derived.Test.YtplpaipmkpjgfaaStaleR
import Derived.Test.YtplpaipmkpjgfaaKeptA
namespace Go.Proofs.Ytplpaipmkpjgfaa
open Go.RowKit
set_option linter.unusedVariables false
set_option linter.unusedSimpArgs false
theorem infoV : (Try.prog.info? 27).map (·.size) = some 5 := by kernel_rfl
theorem row_rd {w : World} {a : Option Addr} {len cap : Nat} {z : List Int} (h : IsRow .i64 w a len cap z) (hl : len ≤ cap) : Rd w w.heap.size a len (iz (z.take len)) := by
  rcases h with ⟨rfl, h1, h2, rfl⟩ | ⟨a', rfl, hL, hC, hZ, hc, hwf⟩
  · have : len = 0 := by omega
    subst this
    exact Rd.nil
  · refine ⟨by rw [iz_len, List.length_take]; omega, fun hp => ?_⟩
    obtain ⟨g, off, spot⟩ := a'
    have h0 := hc 0 (by omega)
    have hs : spot = none := by simpa [Addr.add] using World.cell?_spot h0
    subst hs
    simp only [Addr.add_mid] at hc h0
    refine ⟨g, off, rfl, by have := World.block_lt_of_cell? w _ h0; simpa using this, fun i hi => ?_⟩
    rw [hc i (by omega), iz_get _ _ (by rw [List.length_take]; omega)]
    congr 2
    rw [List.getD_eq_getElem?_getD, List.getD_eq_getElem?_getD, List.getElem?_take, if_pos hi]
theorem staleP_congr (S S' : Nat → Sn) (vk ep ct sz : Int) (n : Nat) (h : ∀ r, r < n → (S' r).kind = (S r).kind ∧ (S' r).hd = (S r).hd) : staleP S' vk ep ct sz n = staleP S vk ep ct sz n := by
  unfold staleP
  congr 1
  apply List.filter_congr
  intro r hr
  obtain ⟨h1, h2⟩ := h r (List.mem_range.1 hr)
  unfold staleB showsP
  rw [h1, h2]
/-- The list that was lent, as a list of places. -/
theorem Lent.view {w : World} {Q n c : Nat} {A : Option Addr} {S : Nat → Sn} {B : Nat → List (List Nat)} (h : Lent w Q A n c S B) (hok : ∀ r, r < n → SnOk (S r)) : ∃ S' : Nat → Sn, View w Q A n S' ∧ ∀ r, r < n → (S' r).kind = (S r).kind ∧ (S' r).hd = (S r).hd := by
  obtain ⟨g, bl, e, hg, hc, h1, h2⟩ := h
  refine ⟨fun r => { S r with bl := bl r }, fun r hr => ⟨g, 0, e, hg, by rw [Nat.zero_add]; exact (h1 r hr).1, ?_⟩, fun r hr => ⟨rfl, rfl⟩⟩
  obtain ⟨g', c', e', _⟩ := (h1 r hr).2
  exact ⟨(hok r hr).kind, (hok r hr).size, (hok r hr).epoch, (hok r hr).count, ⟨_, _, _, e'⟩⟩
set_option maxRecDepth 20000 in
set_option maxHeartbeats 8000000 in
theorem stale_walk (A : Option Addr) (n c : Nat) (S : Nat → Sn) (B : Nat → List (List Nat)) (vk ep ct sz : Int) (a : Option Addr) (len cap : Nat) (z : List Int) (w : World) (hA : SeenA w A n S B) (hP : IsRow .i64 w a len cap z) (hlc : len ≤ cap) (hcap : cap * 8 ≤ 140737488351232) :
    Calls Try.prog 3 #[.slice A n c, .agg #[.int .i64 vk, .int .i64 ep, .int .i64 ct, .int .i64 sz, .slice a len cap]] w fun e w' => e = .returned (.bool true) ∧ Below w.heap.size w w' := by
  have HA := Hd.mk hA
  have HP := Hd.mk (row_rd hP hlc)
  have hn := hA.lenA
  have hzl : (z.take len).length = len := by have := (row_rd hP hlc).1; rwa [iz_len] at this
  have HZL := Hd.mk hzl
  clear hA hP hzl
  generalize z.take len = zs at *
  go_enter Try.func3, Try.ntmps3
  have HV : Hd ((w.alloc (.cells #[.int .i64 vk, .int .i64 ep, .int .i64 ct, .int .i64 sz, .slice a len cap] 27)).heap[w.heap.size]? = some (.cells #[.int .i64 vk, .int .i64 ep, .int .i64 ct, .int .i64 sz, .slice a len cap] 27 (0, 0)) ∧ Below w.heap.size w (w.alloc (.cells #[.int .i64 vk, .int .i64 ep, .int .i64 ct, .int .i64 sz, .slice a len cap] 27))) := ⟨heap_alloc_new _ _, (Below.refl _ _).alloc (Nat.le_refl _) _⟩
  obtain ⟨w1, hw1⟩ : ∃ w1, w.alloc (.cells #[.int .i64 vk, .int .i64 ep, .int .i64 ct, .int .i64 sz, .slice a len cap] 27) = w1 := ⟨_, rfl⟩
  rw [hw1] at HV
  go_wp2_with (refine wpList_load_row rfl 27 (.tmp 3) rfl w.heap.size rfl 27 #[.int .i64 vk, .int .i64 ep, .int .i64 ct, .int .i64 sz, .slice a len cap] (0, 0) _ HV.out.1 Try.underlying27 rfl infoV ?_)
  clear hw1
  refine (refstale_any w1 w.heap.size n c A S (HA.out.view.below HV.out.2) HV.out.2.size hn vk ep ct sz (.slice a len cap)).mono ?_
  rintro e w2 ⟨A2, c2, rfl, hb2, hr2⟩
  have hs1 : w.heap.size < w1.heap.size := (Array.getElem?_eq_some_iff.1 HV.out.1).1
  have H2 : Hd (Below w.heap.size w w2 ∧ w2.heap[w.heap.size]? = some (.cells #[.int .i64 vk, .int .i64 ep, .int .i64 ct, .int .i64 sz, .slice a len cap] 27 (0, 0)) ∧ Rd w2 w2.heap.size A2 (staleP S vk ep ct sz n).length (iz (staleP S vk ep ct sz n))) := ⟨HV.out.2.trans (hb2.mono HV.out.2.size), by rw [hb2.block _ hs1]; exact HV.out.1, hr2⟩
  have hs2 : w.heap.size < w2.heap.size := Nat.lt_of_lt_of_le hs1 hb2.size
  clear hb2 hr2 HV hs1
  go_wp2_with fail
  have hA2 : SeenA w2 A n S B := ⟨(HA.out.view.below H2.out.1).more H2.out.1.size, fun r hr => ((HA.out.blk r hr).below H2.out.1).more H2.out.1.size, HA.out.lenA, HA.out.lenB, HA.out.lenR⟩
  refine (lent_any w2 A n c S B hA2).mono ?_
  clear hA2
  rintro e w3 ⟨A3, c3, rfl, hb3, hL3⟩
  have H3 : Hd (Below w.heap.size w w3 ∧ w3.heap[w.heap.size]? = some (.cells #[.int .i64 vk, .int .i64 ep, .int .i64 ct, .int .i64 sz, .slice a len cap] 27 (0, 0)) ∧ Rd w3 w3.heap.size A2 (staleP S vk ep ct sz n).length (iz (staleP S vk ep ct sz n)) ∧ Lent w3 w3.heap.size A3 n c3 S B) := ⟨H2.out.1.trans (hb3.mono H2.out.1.size), by rw [hb3.block _ hs2]; exact H2.out.2.1, (H2.out.2.2.below hb3).more hb3.size, hL3⟩
  have hs3 : w.heap.size < w3.heap.size := Nat.lt_of_lt_of_le hs2 hb3.size
  clear hb3 hL3 H2 hs2
  have c4 : (w3.alloc (.cells #[] 3)).cell? ⟨w.heap.size, 4, none⟩ = some (.slice a len cap) := by rw [World.cell?_alloc_lt _ _ _ hs3, cell_of_row _ _ _ _ _ _ H3.out.2.1]; rfl
  have HE : Hd ((w3.alloc (.cells #[] 3)).ownsRow w3.heap.size 3 1 (.slice (some ⟨w3.heap.size, 0, none⟩) 0 0) 0 [] ∧ Rd (w3.alloc (.cells #[] 3)) w.heap.size a len (iz zs)) := ⟨(onto_lit (w := w3) (e := 3) [] (by unfold maxLen; decide)).own, (HP.out.below H3.out.1).alloc H3.out.1.size _⟩
  have h63 : Hd (0 + len ≤ maxLen) := ⟨by unfold maxLen; omega⟩
  have hby : Hd ((0 + len) * 8 ≤ 140737488355328) := ⟨by omega⟩
  have h63b : Hd (len + 3 ≤ maxLen) := ⟨by unfold maxLen; omega⟩
  have hbyb : Hd ((len + 3) * 8 ≤ 140737488355328) := ⟨by omega⟩
  go_wp2_with (at_builtin; first
    | (refine wpList_app elI rfl (.tmp 15) (.tmp 17) rfl w3.heap.size (.slice (some ⟨w3.heap.size, 0, none⟩) 0 0) 0 [] rfl HE.out.1 w.heap.size a len cap (iz zs) rfl HE.out.2 (iz_one zs) h63.out hby.out (by simp) ?_; intro v8 w8 hO8
       have H8 : Hd (w8.ownsRow w3.heap.size 3 1 v8 len (iz zs) ∧ Below w3.heap.size w3 w8) := ⟨by have := hO8.own; simpa using this, ((Below.refl _ _).alloc (Nat.le_refl _) _).trans (hO8.below (B := w3.heap.size) (fun k hk => by simp [Value.ownBlock] at hk; omega) (by simp))⟩
       have hs8 := H8.out.2.size
       clear hO8)
    | (refine wpList_app elI rfl (.tmp 19) (.tmp 20) rfl w3.heap.size v8 len (iz zs) rfl (H8.out.1.alloc _) (w8.heap.size + 1) (some ⟨w8.heap.size, 0, none⟩) 3 3 (iz [71, 72, 73]) rfl (rd_lit (w := w8) (e := 3) (iz [71, 72, 73])) (iz_one _) h63b.out hbyb.out (by simp; omega) ?_; intro v9 w9 hO9
       obtain ⟨g9, c9, rfl, hg9, hg9'⟩ := own_pos hO9.own (by omega)
       have hcc9 : len + 3 ≤ c9 := by (obtain ⟨_, _, e, hc, _⟩ := own_form hO9.own); injection e with _ _ e; subst e; exact hc
       have H9 : Hd (w9.ownsRow w3.heap.size 3 1 (.slice (some ⟨g9, 0, none⟩) (len + 3) c9) (len + 3) (iz (zs ++ [71, 72, 73])) ∧ Below w3.heap.size w3 w9) := ⟨(by rw [iz_append]; exact hO9.own), H8.out.2.trans (((Below.refl _ _).alloc hs8 _).trans (hO9.below (B := w3.heap.size) (fun k hk => (H8.out.1.lt k hk).1) (by simp; omega)))⟩
       clear hO9))
  have HT : Hd (Below w.heap.size w w9 ∧ w9.heap[w.heap.size]? = some (.cells #[.int .i64 vk, .int .i64 ep, .int .i64 ct, .int .i64 sz, .slice a len cap] 27 (0, 0)) ∧ Rd w9 w9.heap.size A2 (staleP S vk ep ct sz n).length (iz (staleP S vk ep ct sz n)) ∧ Lent w9 w9.heap.size A3 n c3 S B ∧ Rd w9 w9.heap.size (some ⟨g9, 0, none⟩) (len + 3) (iz (zs ++ [71, 72, 73])) ∧ w.heap.size < w9.heap.size) := by
    have hb := H9.out.2
    have hLq : Lent w9 w9.heap.size A3 n c3 S B := by
      obtain ⟨g, bl, e, hg, hc, h1, h2⟩ := H3.out.2.2.2.below hb
      exact ⟨g, bl, e, Nat.lt_of_lt_of_le hg hb.size, hc, fun r hr => ⟨(h1 r hr).1, (h1 r hr).2.keep (fun _ _ => rfl) fun g hg => Nat.lt_of_lt_of_le hg hb.size⟩, h2⟩
    exact ⟨H3.out.1.trans (hb.mono H3.out.1.size), by rw [hb.block _ hs3]; exact H3.out.2.1, (H3.out.2.2.1.below hb).more hb.size, hLq, Rd.of_own H9.out.1, Nat.lt_of_lt_of_le hs3 hb.size⟩
  clear H3 H8 H9 HE h63 hby h63b hbyb c4 hs3 hs8 hg9 hg9'
  obtain ⟨S', hv', hc'⟩ := HT.out.2.2.2.1.view (fun r hr => by obtain ⟨_, _, _, _, _, h⟩ := HA.out.view r hr; exact h)
  have HST : Hd (∀ W, Below w9.heap.size w9 W → Calls Try.prog 12 #[.slice A3 n c3, .agg #[.int .i64 vk, .int .i64 ep, .int .i64 ct, .int .i64 sz, .slice (some ⟨g9, 0, none⟩) len c9]] W fun e w' => ∃ A' c', e = .returned (.slice A' (staleP S vk ep ct sz n).length c') ∧ Below W.heap.size W w' ∧ Rd w' w'.heap.size A' (staleP S vk ep ct sz n).length (iz (staleP S vk ep ct sz n))) := ⟨fun W hW => by
    have := stale_any W w9.heap.size n c3 A3 S' (hv'.below hW) hW.size hn vk ep ct sz (.slice (some ⟨g9, 0, none⟩) len c9)
    rwa [staleP_congr S S' vk ep ct sz n hc'] at this⟩
  clear hv' hc'
  have HC : Hd (∀ W, Below w9.heap.size w9 W → W.cell? ⟨w.heap.size, 0, none⟩ = some (.int .i64 vk) ∧ W.cell? ⟨w.heap.size, 1, none⟩ = some (.int .i64 ep) ∧ W.cell? ⟨w.heap.size, 2, none⟩ = some (.int .i64 ct) ∧ W.cell? ⟨w.heap.size, 3, none⟩ = some (.int .i64 sz) ∧ W.cell? ⟨w.heap.size, 4, none⟩ = some (.slice a len cap)) := ⟨fun W hW => by
    have hb := (hW.block w.heap.size HT.out.2.2.2.2.2).trans HT.out.2.1
    refine ⟨?_, ?_, ?_, ?_, ?_⟩ <;> (rw [cell_of_row _ _ _ _ _ _ hb]; rfl)⟩
  have HLE := Hd.mk (staleP_le S vk ep ct sz n)
  obtain ⟨P, hPp⟩ : ∃ P, staleP S vk ep ct sz n = P := ⟨_, rfl⟩
  rw [hPp] at HT HST HLE ⊢
  clear hPp
  refine wp_region_held_drew (S := fun W => Below w9.heap.size w9 W) (by kernel_rfl) ((Below.refl _ _).drew) (fun hHeld => ?_)
  refine wpAnyH_take (i := 0) (oi := ?oi101) (v := ?v101) ?hi101 (by kernel_rfl) (by kernel_rfl) (by kernel_rfl) ?hQ101 (Or.inl ⟨?hw101, ?hy101⟩) (by assumption) ?rest101
  case hi101 => simp only [List.getElem?_toArray, List.getElem?_cons_succ, List.getElem?_cons_zero]; rfl
  case hQ101 => exact fun _ _ _ h => h
  case hw101 => rfl
  case hy101 => (intro W hW; obtain ⟨q0, q1, q2, q3, q4⟩ := HC.out W hW; have sI := run_cut_to (P := Try.prog) (w := W) elI (some ⟨g9, 0, none⟩) (len + 3) c9 len (by omega); go_simp; all_goals rfl)
  simp only [Act.put, List.setIfInBounds_toArray, List.set_cons_zero, List.set_cons_succ]
  refine wpAnyH_take (i := 1) (oi := ?oi102) (v := ?v102) ?hi102 (by kernel_rfl) (by kernel_rfl) (by kernel_rfl) ?hQ102 (Or.inl ⟨?hw102, ?hy102⟩) (by assumption) ?rest102
  case hi102 => simp only [List.getElem?_toArray, List.getElem?_cons_succ, List.getElem?_cons_zero]; rfl
  case hQ102 => exact fun _ _ _ h => h
  case hw102 => rfl
  case hy102 => (intro W hW; obtain ⟨q0, q1, q2, q3, q4⟩ := HC.out W hW; have sI := run_cut_to (P := Try.prog) (w := W) elI (some ⟨g9, 0, none⟩) (len + 3) c9 len (by omega); go_simp; all_goals rfl)
  simp only [Act.put, List.setIfInBounds_toArray, List.set_cons_zero, List.set_cons_succ]
  refine wpAnyH_take (i := 2) (oi := ?oi103) (v := ?v103) ?hi103 (by kernel_rfl) (by kernel_rfl) (by kernel_rfl) ?hQ103 (Or.inl ⟨?hw103, ?hy103⟩) (by assumption) ?rest103
  case hi103 => simp only [List.getElem?_toArray, List.getElem?_cons_succ, List.getElem?_cons_zero]; rfl
  case hQ103 => exact fun _ _ _ h => h
  case hw103 => rfl
  case hy103 => (intro W hW; obtain ⟨q0, q1, q2, q3, q4⟩ := HC.out W hW; have sI := run_cut_to (P := Try.prog) (w := W) elI (some ⟨g9, 0, none⟩) (len + 3) c9 len (by omega); go_simp; all_goals rfl)
  simp only [Act.put, List.setIfInBounds_toArray, List.set_cons_zero, List.set_cons_succ]
  refine wpAnyH_take (i := 3) (oi := ?oi104) (v := ?v104) ?hi104 (by kernel_rfl) (by kernel_rfl) (by kernel_rfl) ?hQ104 (Or.inl ⟨?hw104, ?hy104⟩) (by assumption) ?rest104
  case hi104 => simp only [List.getElem?_toArray, List.getElem?_cons_succ, List.getElem?_cons_zero]; rfl
  case hQ104 => exact fun _ _ _ h => h
  case hw104 => rfl
  case hy104 => (intro W hW; obtain ⟨q0, q1, q2, q3, q4⟩ := HC.out W hW; have sI := run_cut_to (P := Try.prog) (w := W) elI (some ⟨g9, 0, none⟩) (len + 3) c9 len (by omega); go_simp; all_goals rfl)
  simp only [Act.put, List.setIfInBounds_toArray, List.set_cons_zero, List.set_cons_succ]
  refine wpAnyH_take (i := 4) (oi := ?oi105) (v := ?v105) ?hi105 (by kernel_rfl) (by kernel_rfl) (by kernel_rfl) ?hQ105 (Or.inl ⟨?hw105, ?hy105⟩) (by assumption) ?rest105
  case hi105 => simp only [List.getElem?_toArray, List.getElem?_cons_succ, List.getElem?_cons_zero]; rfl
  case hQ105 => exact fun _ _ _ h => h
  case hw105 => rfl
  case hy105 => (intro W hW; obtain ⟨q0, q1, q2, q3, q4⟩ := HC.out W hW; have sI := run_cut_to (P := Try.prog) (w := W) elI (some ⟨g9, 0, none⟩) (len + 3) c9 len (by omega); go_simp; all_goals rfl)
  simp only [Act.put, List.setIfInBounds_toArray, List.set_cons_zero, List.set_cons_succ]
  refine wpAnyH_take (i := 5) (oi := ?oi106) (v := ?v106) ?hi106 (by kernel_rfl) (by kernel_rfl) (by kernel_rfl) ?hQ106 (Or.inl ⟨?hw106, ?hy106⟩) (by assumption) ?rest106
  case hi106 => simp only [List.getElem?_toArray, List.getElem?_cons_succ, List.getElem?_cons_zero]; rfl
  case hQ106 => exact fun _ _ _ h => h
  case hw106 => rfl
  case hy106 => (intro W hW; obtain ⟨q0, q1, q2, q3, q4⟩ := HC.out W hW; have sI := run_cut_to (P := Try.prog) (w := W) elI (some ⟨g9, 0, none⟩) (len + 3) c9 len (by omega); go_simp; all_goals rfl)
  simp only [Act.put, List.setIfInBounds_toArray, List.set_cons_zero, List.set_cons_succ]
  refine wpAnyH_take (i := 6) (oi := ?oi107) (v := ?v107) ?hi107 (by kernel_rfl) (by kernel_rfl) (by kernel_rfl) ?hQ107 (Or.inl ⟨?hw107, ?hy107⟩) (by assumption) ?rest107
  case hi107 => simp only [List.getElem?_toArray, List.getElem?_cons_succ, List.getElem?_cons_zero]; rfl
  case hQ107 => exact fun _ _ _ h => h
  case hw107 => rfl
  case hy107 => (intro W hW; obtain ⟨q0, q1, q2, q3, q4⟩ := HC.out W hW; have sI := run_cut_to (P := Try.prog) (w := W) elI (some ⟨g9, 0, none⟩) (len + 3) c9 len (by omega); go_simp; all_goals rfl)
  simp only [Act.put, List.setIfInBounds_toArray, List.set_cons_zero, List.set_cons_succ]
  refine wpAnyH_take (i := 7) (oi := ?oi108) (v := ?v108) ?hi108 (by kernel_rfl) (by kernel_rfl) (by kernel_rfl) ?hQ108 (Or.inl ⟨?hw108, ?hy108⟩) (by assumption) ?rest108
  case hi108 => simp only [List.getElem?_toArray, List.getElem?_cons_succ, List.getElem?_cons_zero]; rfl
  case hQ108 => exact fun _ _ _ h => h
  case hw108 => rfl
  case hy108 => (intro W hW; obtain ⟨q0, q1, q2, q3, q4⟩ := HC.out W hW; have sI := run_cut_to (P := Try.prog) (w := W) elI (some ⟨g9, 0, none⟩) (len + 3) c9 len (by omega); go_simp; all_goals rfl)
  simp only [Act.put, List.setIfInBounds_toArray, List.set_cons_zero, List.set_cons_succ]
  refine wpAnyH_take (i := 8) (oi := ?oi109) (v := ?v109) ?hi109 (by kernel_rfl) (by kernel_rfl) (by kernel_rfl) ?hQ109 (Or.inl ⟨?hw109, ?hy109⟩) (by assumption) ?rest109
  case hi109 => simp only [List.getElem?_toArray, List.getElem?_cons_succ, List.getElem?_cons_zero]; rfl
  case hQ109 => exact fun _ _ _ h => h
  case hw109 => rfl
  case hy109 => (intro W hW; obtain ⟨q0, q1, q2, q3, q4⟩ := HC.out W hW; have sI := run_cut_to (P := Try.prog) (w := W) elI (some ⟨g9, 0, none⟩) (len + 3) c9 len (by omega); go_simp; all_goals rfl)
  simp only [Act.put, List.setIfInBounds_toArray, List.set_cons_zero, List.set_cons_succ]
  refine wpAnyH_take (i := 9) (oi := ?oi110) (v := ?v110) ?hi110 (by kernel_rfl) (by kernel_rfl) (by kernel_rfl) ?hQ110 (Or.inl ⟨?hw110, ?hy110⟩) (by assumption) ?rest110
  case hi110 => simp only [List.getElem?_toArray, List.getElem?_cons_succ, List.getElem?_cons_zero]; rfl
  case hQ110 => exact fun _ _ _ h => h
  case hw110 => rfl
  case hy110 => (intro W hW; obtain ⟨q0, q1, q2, q3, q4⟩ := HC.out W hW; have sI := run_cut_to (P := Try.prog) (w := W) elI (some ⟨g9, 0, none⟩) (len + 3) c9 len (by omega); go_simp; all_goals rfl)
  simp only [Act.put, List.setIfInBounds_toArray, List.set_cons_zero, List.set_cons_succ]
  refine wpAnyH_take (i := 10) (oi := ?oi111) (v := ?v111) ?hi111 (by kernel_rfl) (by kernel_rfl) (by kernel_rfl) ?hQ111 (Or.inl ⟨?hw111, ?hy111⟩) (by assumption) ?rest111
  case hi111 => simp only [List.getElem?_toArray, List.getElem?_cons_succ, List.getElem?_cons_zero]; rfl
  case hQ111 => exact fun _ _ _ h => h
  case hw111 => rfl
  case hy111 => (intro W hW; obtain ⟨q0, q1, q2, q3, q4⟩ := HC.out W hW; have sI := run_cut_to (P := Try.prog) (w := W) elI (some ⟨g9, 0, none⟩) (len + 3) c9 len (by omega); go_simp; all_goals rfl)
  simp only [Act.put, List.setIfInBounds_toArray, List.set_cons_zero, List.set_cons_succ]
  refine wpAnyH_take (i := 11) (oi := ?oi112) (v := ?v112) ?hi112 (by kernel_rfl) (by kernel_rfl) (by kernel_rfl) ?hQ112 (Or.inl ⟨?hw112, ?hy112⟩) (by assumption) ?rest112
  case hi112 => simp only [List.getElem?_toArray, List.getElem?_cons_succ, List.getElem?_cons_zero]; rfl
  case hQ112 => exact fun _ _ _ h => h
  case hw112 => rfl
  case hy112 => (intro W hW; obtain ⟨q0, q1, q2, q3, q4⟩ := HC.out W hW; have sI := run_cut_to (P := Try.prog) (w := W) elI (some ⟨g9, 0, none⟩) (len + 3) c9 len (by omega); go_simp; all_goals rfl)
  simp only [Act.put, List.setIfInBounds_toArray, List.set_cons_zero, List.set_cons_succ]
  refine wpAnyH_take (i := 12) (oi := ?oi113) (v := ?v113) ?hi113 (by kernel_rfl) (by kernel_rfl) (by kernel_rfl) ?hQ113 (Or.inl ⟨?hw113, ?hy113⟩) (by assumption) ?rest113
  case hi113 => simp only [List.getElem?_toArray, List.getElem?_cons_succ, List.getElem?_cons_zero]; rfl
  case hQ113 => exact fun _ _ _ h => h
  case hw113 => rfl
  case hy113 => (intro W hW; obtain ⟨q0, q1, q2, q3, q4⟩ := HC.out W hW; have sI := run_cut_to (P := Try.prog) (w := W) elI (some ⟨g9, 0, none⟩) (len + 3) c9 len (by omega); go_simp; all_goals rfl)
  simp only [Act.put, List.setIfInBounds_toArray, List.set_cons_zero, List.set_cons_succ]
  refine wpAnyH_ready (rs := [13]) (by kernel_rfl) (by simp) ?_
  refine AllReadyH.cons (i := 13) (o := ?o114) ?ho114 (fun Kq hK => ?step114) AllReadyH.nil
  case ho114 => simp only [List.getElem?_toArray, List.getElem?_cons_succ, List.getElem?_cons_zero]; rfl
  go_simp
  (refine (HST.out _ hHeld).mono ?_; rintro e w10 ⟨A10, c10, rfl, hb10, hr10⟩)
  have hF : Below w9.heap.size w9 w10 := hHeld.trans (hb10.mono hHeld.size)
  refine hK.out _ _ hF (fun _ => ?_)
  clear hK Kq
  try simp only [Act.put, List.setIfInBounds_toArray, List.set_cons_zero, List.set_cons_succ]
  refine wpAnyH_take (i := 14) (oi := ?oi115) (v := ?v115) ?hi115 (by kernel_rfl) (by kernel_rfl) (by kernel_rfl) ?hQ115 (Or.inl ⟨?hw115, ?hy115⟩) (by assumption) ?rest115
  case hi115 => simp only [List.getElem?_toArray, List.getElem?_cons_succ, List.getElem?_cons_zero]; rfl
  case hQ115 => exact fun _ _ _ h => h
  case hw115 => rfl
  case hy115 => (intro W hW; obtain ⟨q0, q1, q2, q3, q4⟩ := HC.out W hW; have sI := run_cut_to (P := Try.prog) (w := W) elI (some ⟨g9, 0, none⟩) (len + 3) c9 len (by omega); go_simp; all_goals rfl)
  simp only [Act.put, List.setIfInBounds_toArray, List.set_cons_zero, List.set_cons_succ]
  refine wpAnyH_done (by kernel_rfl) ?_ _
  have H10 : Hd (Below w9.heap.size w9 w10 ∧ Rd w10 w10.heap.size A10 P.length (iz P)) := ⟨hF, hr10⟩
  have h4 := (HC.out w10 hF).2.2.2.2
  clear hF hHeld hb10 hr10 HST
  go_wp2_with fail
  clear h4
  have HLL : Hd (P.length ≤ 140737488355328) := ⟨by have := HLE.out; omega⟩
  have HD : Hd (∀ W, Below w10.heap.size w10 W → Below w9.heap.size w9 W ∧ W.cell? ⟨w.heap.size, 4, none⟩ = some (.slice a len cap) ∧ W.cell? ⟨g9, len, none⟩ = some (.int .i64 71) ∧ W.cell? ⟨g9, len + 1, none⟩ = some (.int .i64 72) ∧ W.cell? ⟨g9, len + 2, none⟩ = some (.int .i64 73)) := ⟨fun W hW => by
    have hb : Below w9.heap.size w9 W := H10.out.1.trans (hW.mono H10.out.1.size)
    have hrd := HT.out.2.2.2.2.1.below hb
    have hj : ∀ j, j < 3 → W.cell? ⟨g9, len + j, none⟩ = (iz [71, 72, 73])[j]? := fun j hj => by
      obtain ⟨g', o', e1, _, hcc⟩ := hrd.2 (by omega)
      injection e1 with e1
      injection e1 with e1 e2
      subst e1 e2
      have := hcc (len + j) (by omega)
      rw [Nat.zero_add, iz_append, List.getElem?_append_right (by rw [iz_len, HZL.out]; omega), iz_len, HZL.out, Nat.add_sub_cancel_left] at this
      exact this
    exact ⟨hb, (HC.out W hb).2.2.2.2, hj 0 (by omega), hj 1 (by omega), hj 2 (by omega)⟩⟩
  have HKP : Hd (∀ W, Below w10.heap.size w10 W → Calls Try.prog 14 #[.slice A3 n c3, .slice A n c] W fun e w' => e = .returned (.bool true) ∧ Below W.heap.size W w') := ⟨fun W hW => by
    have hb := (HD.out W hW).1
    have hbw : Below w.heap.size w W := HT.out.1.trans (hb.mono HT.out.1.size)
    refine kept_any W A3 A n c3 c S B ?_ ⟨(HA.out.view.below hbw).more hbw.size, fun r hr => ((HA.out.blk r hr).below hbw).more hbw.size, HA.out.lenA, HA.out.lenB, HA.out.lenR⟩
    obtain ⟨g, bl, e, hg, hc, h1, h2⟩ := HT.out.2.2.2.1.below hb
    exact ⟨g, bl, e, Nat.lt_of_lt_of_le hg hb.size, hc, fun r hr => ⟨(h1 r hr).1, (h1 r hr).2.keep (fun _ _ => rfl) fun g hg => Nat.lt_of_lt_of_le hg hb.size⟩, h2⟩⟩
  have HS1 : Hd (∀ W, Below w10.heap.size w10 W → Calls Try.prog 13 #[.slice A10 P.length c10, .slice A2 P.length c2] W fun e w' => e = .returned (.bool true) ∧ Below W.heap.size W w') := ⟨fun W hW =>
    sameInts_any W w10.heap.size P.length c10 c2 A10 A2 P (H10.out.2.below hW) (((HT.out.2.2.1.below (HD.out W hW).1).more H10.out.1.size)) hW.size HLL.out⟩
  have HS2 : Hd (∀ W, Below w10.heap.size w10 W → Calls Try.prog 13 #[.slice (some ⟨g9, 0, none⟩) len c9, .slice a len cap] W fun e w' => e = .returned (.bool true) ∧ Below W.heap.size W w') := ⟨fun W hW => by
    have hb := (HD.out W hW).1
    have hbw : Below w.heap.size w W := HT.out.1.trans (hb.mono HT.out.1.size)
    have h1 := (HT.out.2.2.2.2.1.below hb).take (h := len) (by omega)
    have h2 : (iz (zs ++ [71, 72, 73])).take len = iz zs := by rw [iz_append, List.take_left' (by rw [iz_len, HZL.out])]
    rw [h2] at h1
    exact sameInts_any W w9.heap.size len c9 cap (some ⟨g9, 0, none⟩) a zs h1 ((HP.out.below hbw).more HT.out.1.size) hb.size (by omega)⟩
  have b1 : (len : Int) < (len : Int) + 3 := by omega
  have b2 : (len : Int) + 1 < (len : Int) + 3 := by omega
  have b3 : (len : Int) + 2 < (len : Int) + 3 := by omega
  have q1 : IntKind.i64.wrap ((len : Int) + 1) = (len : Int) + 1 := Go.IntWalk.i64_in _ (by omega)
  have q2 : IntKind.i64.wrap ((len : Int) + 2) = (len : Int) + 2 := Go.IntWalk.i64_in _ (by omega)
  have z1 : (0 : Int) ≤ (len : Int) + 1 := by omega
  have z2 : (0 : Int) ≤ (len : Int) + 2 := by omega
  have t1 : ((len : Int) + 1).toNat = len + 1 := by omega
  have t2 : ((len : Int) + 2).toNat = len + 2 := by omega
  refine wp_region_held_drew (S := fun W => Below w10.heap.size w10 W) (by kernel_rfl) ((Below.refl _ _).drew) (fun hHeld => ?_)
  refine wpAnyH_take (i := 0) (oi := ?oi201) (v := ?v201) ?hi201 (by kernel_rfl) (by kernel_rfl) (by kernel_rfl) ?hQ201 (Or.inl ⟨?hw201, ?hy201⟩) (by assumption) ?rest201
  case hi201 => simp only [List.getElem?_toArray, List.getElem?_cons_succ, List.getElem?_cons_zero]; rfl
  case hQ201 => exact fun _ _ _ h => h
  case hw201 => rfl
  case hy201 => (intro W hW; obtain ⟨_, q4, q5, q6, q7⟩ := HD.out W hW; have sI := run_cut_to (P := Try.prog) (w := W) elI (some ⟨g9, 0, none⟩) (len + 3) c9 len (by omega); go_simp; all_goals rfl)
  simp only [Act.put, List.setIfInBounds_toArray, List.set_cons_zero, List.set_cons_succ]
  refine wpAnyH_take (i := 1) (oi := ?oi202) (v := ?v202) ?hi202 (by kernel_rfl) (by kernel_rfl) (by kernel_rfl) ?hQ202 (Or.inl ⟨?hw202, ?hy202⟩) (by assumption) ?rest202
  case hi202 => simp only [List.getElem?_toArray, List.getElem?_cons_succ, List.getElem?_cons_zero]; rfl
  case hQ202 => exact fun _ _ _ h => h
  case hw202 => rfl
  case hy202 => (intro W hW; obtain ⟨_, q4, q5, q6, q7⟩ := HD.out W hW; have sI := run_cut_to (P := Try.prog) (w := W) elI (some ⟨g9, 0, none⟩) (len + 3) c9 len (by omega); go_simp; all_goals rfl)
  simp only [Act.put, List.setIfInBounds_toArray, List.set_cons_zero, List.set_cons_succ]
  refine wpAnyH_ready (rs := [2]) (by kernel_rfl) (by simp) ?_
  refine AllReadyH.cons (i := 2) (o := ?o203) ?ho203 (fun Kq hK => ?step203) AllReadyH.nil
  case ho203 => simp only [List.getElem?_toArray, List.getElem?_cons_succ, List.getElem?_cons_zero]; rfl
  go_simp
  (refine (HS1.out _ hHeld).mono ?_; rintro e w11 ⟨rfl, hb⟩)
  have hF : Below w10.heap.size w10 w11 := hHeld.trans (hb.mono hHeld.size)
  refine hK.out _ _ hF (fun _ => ?_)
  clear hK Kq hHeld hb
  have hHeld := hF
  clear hF
  try simp only [Act.put, List.setIfInBounds_toArray, List.set_cons_zero, List.set_cons_succ]
  refine wpAnyH_take (i := 3) (oi := ?oi204) (v := ?v204) ?hi204 (by kernel_rfl) (by kernel_rfl) (by kernel_rfl) ?hQ204 (Or.inl ⟨?hw204, ?hy204⟩) (by assumption) ?rest204
  case hi204 => simp only [List.getElem?_toArray, List.getElem?_cons_succ, List.getElem?_cons_zero]; rfl
  case hQ204 => exact fun _ _ _ h => h
  case hw204 => rfl
  case hy204 => (intro W hW; obtain ⟨_, q4, q5, q6, q7⟩ := HD.out W hW; have sI := run_cut_to (P := Try.prog) (w := W) elI (some ⟨g9, 0, none⟩) (len + 3) c9 len (by omega); go_simp; all_goals rfl)
  simp only [Act.put, List.setIfInBounds_toArray, List.set_cons_zero, List.set_cons_succ]
  refine wpAnyH_take (i := 4) (oi := ?oi205) (v := ?v205) ?hi205 (by kernel_rfl) (by kernel_rfl) (by kernel_rfl) ?hQ205 (Or.inl ⟨?hw205, ?hy205⟩) (by assumption) ?rest205
  case hi205 => simp only [List.getElem?_toArray, List.getElem?_cons_succ, List.getElem?_cons_zero]; rfl
  case hQ205 => exact fun _ _ _ h => h
  case hw205 => rfl
  case hy205 => (intro W hW; obtain ⟨_, q4, q5, q6, q7⟩ := HD.out W hW; have sI := run_cut_to (P := Try.prog) (w := W) elI (some ⟨g9, 0, none⟩) (len + 3) c9 len (by omega); go_simp; all_goals rfl)
  simp only [Act.put, List.setIfInBounds_toArray, List.set_cons_zero, List.set_cons_succ]
  refine wpAnyH_take (i := 5) (oi := ?oi206) (v := ?v206) ?hi206 (by kernel_rfl) (by kernel_rfl) (by kernel_rfl) ?hQ206 (Or.inl ⟨?hw206, ?hy206⟩) (by assumption) ?rest206
  case hi206 => simp only [List.getElem?_toArray, List.getElem?_cons_succ, List.getElem?_cons_zero]; rfl
  case hQ206 => exact fun _ _ _ h => h
  case hw206 => rfl
  case hy206 => (intro W hW; obtain ⟨_, q4, q5, q6, q7⟩ := HD.out W hW; have sI := run_cut_to (P := Try.prog) (w := W) elI (some ⟨g9, 0, none⟩) (len + 3) c9 len (by omega); go_simp; all_goals rfl)
  simp only [Act.put, List.setIfInBounds_toArray, List.set_cons_zero, List.set_cons_succ]
  refine wpAnyH_ready (rs := [6]) (by kernel_rfl) (by simp) ?_
  refine AllReadyH.cons (i := 6) (o := ?o207) ?ho207 (fun Kq hK => ?step207) AllReadyH.nil
  case ho207 => simp only [List.getElem?_toArray, List.getElem?_cons_succ, List.getElem?_cons_zero]; rfl
  go_simp
  (refine (HKP.out _ hHeld).mono ?_; rintro e w12 ⟨rfl, hb⟩)
  have hF : Below w10.heap.size w10 w12 := hHeld.trans (hb.mono hHeld.size)
  refine hK.out _ _ hF (fun _ => ?_)
  clear hK Kq hHeld hb
  have hHeld := hF
  clear hF
  try simp only [Act.put, List.setIfInBounds_toArray, List.set_cons_zero, List.set_cons_succ]
  refine wpAnyH_take (i := 7) (oi := ?oi208) (v := ?v208) ?hi208 (by kernel_rfl) (by kernel_rfl) (by kernel_rfl) ?hQ208 (Or.inl ⟨?hw208, ?hy208⟩) (by assumption) ?rest208
  case hi208 => simp only [List.getElem?_toArray, List.getElem?_cons_succ, List.getElem?_cons_zero]; rfl
  case hQ208 => exact fun _ _ _ h => h
  case hw208 => rfl
  case hy208 => (intro W hW; obtain ⟨_, q4, q5, q6, q7⟩ := HD.out W hW; have sI := run_cut_to (P := Try.prog) (w := W) elI (some ⟨g9, 0, none⟩) (len + 3) c9 len (by omega); go_simp; all_goals rfl)
  simp only [Act.put, List.setIfInBounds_toArray, List.set_cons_zero, List.set_cons_succ]
  refine wpAnyH_take (i := 8) (oi := ?oi209) (v := ?v209) ?hi209 (by kernel_rfl) (by kernel_rfl) (by kernel_rfl) ?hQ209 (Or.inl ⟨?hw209, ?hy209⟩) (by assumption) ?rest209
  case hi209 => simp only [List.getElem?_toArray, List.getElem?_cons_succ, List.getElem?_cons_zero]; rfl
  case hQ209 => exact fun _ _ _ h => h
  case hw209 => rfl
  case hy209 => (intro W hW; obtain ⟨_, q4, q5, q6, q7⟩ := HD.out W hW; have sI := run_cut_to (P := Try.prog) (w := W) elI (some ⟨g9, 0, none⟩) (len + 3) c9 len (by omega); go_simp; all_goals rfl)
  simp only [Act.put, List.setIfInBounds_toArray, List.set_cons_zero, List.set_cons_succ]
  refine wpAnyH_take (i := 9) (oi := ?oi210) (v := ?v210) ?hi210 (by kernel_rfl) (by kernel_rfl) (by kernel_rfl) ?hQ210 (Or.inl ⟨?hw210, ?hy210⟩) (by assumption) ?rest210
  case hi210 => simp only [List.getElem?_toArray, List.getElem?_cons_succ, List.getElem?_cons_zero]; rfl
  case hQ210 => exact fun _ _ _ h => h
  case hw210 => rfl
  case hy210 => (intro W hW; obtain ⟨_, q4, q5, q6, q7⟩ := HD.out W hW; have sI := run_cut_to (P := Try.prog) (w := W) elI (some ⟨g9, 0, none⟩) (len + 3) c9 len (by omega); go_simp; all_goals rfl)
  simp only [Act.put, List.setIfInBounds_toArray, List.set_cons_zero, List.set_cons_succ]
  refine wpAnyH_take (i := 10) (oi := ?oi211) (v := ?v211) ?hi211 (by kernel_rfl) (by kernel_rfl) (by kernel_rfl) ?hQ211 (Or.inl ⟨?hw211, ?hy211⟩) (by assumption) ?rest211
  case hi211 => simp only [List.getElem?_toArray, List.getElem?_cons_succ, List.getElem?_cons_zero]; rfl
  case hQ211 => exact fun _ _ _ h => h
  case hw211 => rfl
  case hy211 => (intro W hW; obtain ⟨_, q4, q5, q6, q7⟩ := HD.out W hW; have sI := run_cut_to (P := Try.prog) (w := W) elI (some ⟨g9, 0, none⟩) (len + 3) c9 len (by omega); go_simp; all_goals rfl)
  simp only [Act.put, List.setIfInBounds_toArray, List.set_cons_zero, List.set_cons_succ]
  refine wpAnyH_take (i := 11) (oi := ?oi212) (v := ?v212) ?hi212 (by kernel_rfl) (by kernel_rfl) (by kernel_rfl) ?hQ212 (Or.inl ⟨?hw212, ?hy212⟩) (by assumption) ?rest212
  case hi212 => simp only [List.getElem?_toArray, List.getElem?_cons_succ, List.getElem?_cons_zero]; rfl
  case hQ212 => exact fun _ _ _ h => h
  case hw212 => rfl
  case hy212 => (intro W hW; obtain ⟨_, q4, q5, q6, q7⟩ := HD.out W hW; have sI := run_cut_to (P := Try.prog) (w := W) elI (some ⟨g9, 0, none⟩) (len + 3) c9 len (by omega); go_simp; all_goals rfl)
  simp only [Act.put, List.setIfInBounds_toArray, List.set_cons_zero, List.set_cons_succ]
  refine wpAnyH_take (i := 12) (oi := ?oi213) (v := ?v213) ?hi213 (by kernel_rfl) (by kernel_rfl) (by kernel_rfl) ?hQ213 (Or.inl ⟨?hw213, ?hy213⟩) (by assumption) ?rest213
  case hi213 => simp only [List.getElem?_toArray, List.getElem?_cons_succ, List.getElem?_cons_zero]; rfl
  case hQ213 => exact fun _ _ _ h => h
  case hw213 => rfl
  case hy213 => (intro W hW; obtain ⟨_, q4, q5, q6, q7⟩ := HD.out W hW; have sI := run_cut_to (P := Try.prog) (w := W) elI (some ⟨g9, 0, none⟩) (len + 3) c9 len (by omega); go_simp; all_goals rfl)
  simp only [Act.put, List.setIfInBounds_toArray, List.set_cons_zero, List.set_cons_succ]
  refine wpAnyH_take (i := 13) (oi := ?oi214) (v := ?v214) ?hi214 (by kernel_rfl) (by kernel_rfl) (by kernel_rfl) ?hQ214 (Or.inl ⟨?hw214, ?hy214⟩) (by assumption) ?rest214
  case hi214 => simp only [List.getElem?_toArray, List.getElem?_cons_succ, List.getElem?_cons_zero]; rfl
  case hQ214 => exact fun _ _ _ h => h
  case hw214 => rfl
  case hy214 => (intro W hW; obtain ⟨_, q4, q5, q6, q7⟩ := HD.out W hW; have sI := run_cut_to (P := Try.prog) (w := W) elI (some ⟨g9, 0, none⟩) (len + 3) c9 len (by omega); go_simp; all_goals rfl)
  simp only [Act.put, List.setIfInBounds_toArray, List.set_cons_zero, List.set_cons_succ]
  refine wpAnyH_ready (rs := [14]) (by kernel_rfl) (by simp) ?_
  refine AllReadyH.cons (i := 14) (o := ?o215) ?ho215 (fun Kq hK => ?step215) AllReadyH.nil
  case ho215 => simp only [List.getElem?_toArray, List.getElem?_cons_succ, List.getElem?_cons_zero]; rfl
  go_simp
  (refine (HS2.out _ hHeld).mono ?_; rintro e w13 ⟨rfl, hb⟩)
  have hF : Below w10.heap.size w10 w13 := hHeld.trans (hb.mono hHeld.size)
  refine hK.out _ _ hF (fun _ => ?_)
  clear hK Kq hHeld hb
  have hHeld := hF
  clear hF
  try simp only [Act.put, List.setIfInBounds_toArray, List.set_cons_zero, List.set_cons_succ]
  refine wpAnyH_take (i := 15) (oi := ?oi216) (v := ?v216) ?hi216 (by kernel_rfl) (by kernel_rfl) (by kernel_rfl) ?hQ216 (Or.inl ⟨?hw216, ?hy216⟩) (by assumption) ?rest216
  case hi216 => simp only [List.getElem?_toArray, List.getElem?_cons_succ, List.getElem?_cons_zero]; rfl
  case hQ216 => exact fun _ _ _ h => h
  case hw216 => rfl
  case hy216 => (intro W hW; obtain ⟨_, q4, q5, q6, q7⟩ := HD.out W hW; have sI := run_cut_to (P := Try.prog) (w := W) elI (some ⟨g9, 0, none⟩) (len + 3) c9 len (by omega); go_simp; all_goals rfl)
  simp only [Act.put, List.setIfInBounds_toArray, List.set_cons_zero, List.set_cons_succ]
  refine wpAnyH_take (i := 16) (oi := ?oi217) (v := ?v217) ?hi217 (by kernel_rfl) (by kernel_rfl) (by kernel_rfl) ?hQ217 (Or.inl ⟨?hw217, ?hy217⟩) (by assumption) ?rest217
  case hi217 => simp only [List.getElem?_toArray, List.getElem?_cons_succ, List.getElem?_cons_zero]; rfl
  case hQ217 => exact fun _ _ _ h => h
  case hw217 => rfl
  case hy217 => (intro W hW; obtain ⟨_, q4, q5, q6, q7⟩ := HD.out W hW; have sI := run_cut_to (P := Try.prog) (w := W) elI (some ⟨g9, 0, none⟩) (len + 3) c9 len (by omega); go_simp; all_goals rfl)
  simp only [Act.put, List.setIfInBounds_toArray, List.set_cons_zero, List.set_cons_succ]
  refine wpAnyH_take (i := 17) (oi := ?oi218) (v := ?v218) ?hi218 (by kernel_rfl) (by kernel_rfl) (by kernel_rfl) ?hQ218 (Or.inl ⟨?hw218, ?hy218⟩) (by assumption) ?rest218
  case hi218 => simp only [List.getElem?_toArray, List.getElem?_cons_succ, List.getElem?_cons_zero]; rfl
  case hQ218 => exact fun _ _ _ h => h
  case hw218 => rfl
  case hy218 => (intro W hW; obtain ⟨_, q4, q5, q6, q7⟩ := HD.out W hW; have sI := run_cut_to (P := Try.prog) (w := W) elI (some ⟨g9, 0, none⟩) (len + 3) c9 len (by omega); go_simp; all_goals rfl)
  simp only [Act.put, List.setIfInBounds_toArray, List.set_cons_zero, List.set_cons_succ]
  refine wpAnyH_take (i := 18) (oi := ?oi219) (v := ?v219) ?hi219 (by kernel_rfl) (by kernel_rfl) (by kernel_rfl) ?hQ219 (Or.inl ⟨?hw219, ?hy219⟩) (by assumption) ?rest219
  case hi219 => simp only [List.getElem?_toArray, List.getElem?_cons_succ, List.getElem?_cons_zero]; rfl
  case hQ219 => exact fun _ _ _ h => h
  case hw219 => rfl
  case hy219 => (intro W hW; obtain ⟨_, q4, q5, q6, q7⟩ := HD.out W hW; have sI := run_cut_to (P := Try.prog) (w := W) elI (some ⟨g9, 0, none⟩) (len + 3) c9 len (by omega); go_simp; all_goals rfl)
  simp only [Act.put, List.setIfInBounds_toArray, List.set_cons_zero, List.set_cons_succ]
  refine wpAnyH_take (i := 19) (oi := ?oi220) (v := ?v220) ?hi220 (by kernel_rfl) (by kernel_rfl) (by kernel_rfl) ?hQ220 (Or.inl ⟨?hw220, ?hy220⟩) (by assumption) ?rest220
  case hi220 => simp only [List.getElem?_toArray, List.getElem?_cons_succ, List.getElem?_cons_zero]; rfl
  case hQ220 => exact fun _ _ _ h => h
  case hw220 => rfl
  case hy220 => (intro W hW; obtain ⟨_, q4, q5, q6, q7⟩ := HD.out W hW; have sI := run_cut_to (P := Try.prog) (w := W) elI (some ⟨g9, 0, none⟩) (len + 3) c9 len (by omega); go_simp; all_goals rfl)
  simp only [Act.put, List.setIfInBounds_toArray, List.set_cons_zero, List.set_cons_succ]
  refine wpAnyH_take (i := 20) (oi := ?oi221) (v := ?v221) ?hi221 (by kernel_rfl) (by kernel_rfl) (by kernel_rfl) ?hQ221 (Or.inl ⟨?hw221, ?hy221⟩) (by assumption) ?rest221
  case hi221 => simp only [List.getElem?_toArray, List.getElem?_cons_succ, List.getElem?_cons_zero]; rfl
  case hQ221 => exact fun _ _ _ h => h
  case hw221 => rfl
  case hy221 => (intro W hW; obtain ⟨_, q4, q5, q6, q7⟩ := HD.out W hW; have sI := run_cut_to (P := Try.prog) (w := W) elI (some ⟨g9, 0, none⟩) (len + 3) c9 len (by omega); go_simp; all_goals rfl)
  simp only [Act.put, List.setIfInBounds_toArray, List.set_cons_zero, List.set_cons_succ]
  refine wpAnyH_take (i := 21) (oi := ?oi222) (v := ?v222) ?hi222 (by kernel_rfl) (by kernel_rfl) (by kernel_rfl) ?hQ222 (Or.inl ⟨?hw222, ?hy222⟩) (by assumption) ?rest222
  case hi222 => simp only [List.getElem?_toArray, List.getElem?_cons_succ, List.getElem?_cons_zero]; rfl
  case hQ222 => exact fun _ _ _ h => h
  case hw222 => rfl
  case hy222 => (intro W hW; obtain ⟨_, q4, q5, q6, q7⟩ := HD.out W hW; have sI := run_cut_to (P := Try.prog) (w := W) elI (some ⟨g9, 0, none⟩) (len + 3) c9 len (by omega); go_simp; all_goals rfl)
  simp only [Act.put, List.setIfInBounds_toArray, List.set_cons_zero, List.set_cons_succ]
  refine wpAnyH_take (i := 22) (oi := ?oi223) (v := ?v223) ?hi223 (by kernel_rfl) (by kernel_rfl) (by kernel_rfl) ?hQ223 (Or.inl ⟨?hw223, ?hy223⟩) (by assumption) ?rest223
  case hi223 => simp only [List.getElem?_toArray, List.getElem?_cons_succ, List.getElem?_cons_zero]; rfl
  case hQ223 => exact fun _ _ _ h => h
  case hw223 => rfl
  case hy223 => (intro W hW; obtain ⟨_, q4, q5, q6, q7⟩ := HD.out W hW; have sI := run_cut_to (P := Try.prog) (w := W) elI (some ⟨g9, 0, none⟩) (len + 3) c9 len (by omega); go_simp; all_goals rfl)
  simp only [Act.put, List.setIfInBounds_toArray, List.set_cons_zero, List.set_cons_succ]
  refine wpAnyH_take (i := 23) (oi := ?oi224) (v := ?v224) ?hi224 (by kernel_rfl) (by kernel_rfl) (by kernel_rfl) ?hQ224 (Or.inl ⟨?hw224, ?hy224⟩) (by assumption) ?rest224
  case hi224 => simp only [List.getElem?_toArray, List.getElem?_cons_succ, List.getElem?_cons_zero]; rfl
  case hQ224 => exact fun _ _ _ h => h
  case hw224 => rfl
  case hy224 => (intro W hW; obtain ⟨_, q4, q5, q6, q7⟩ := HD.out W hW; have sI := run_cut_to (P := Try.prog) (w := W) elI (some ⟨g9, 0, none⟩) (len + 3) c9 len (by omega); go_simp; all_goals rfl)
  simp only [Act.put, List.setIfInBounds_toArray, List.set_cons_zero, List.set_cons_succ]
  refine wpAnyH_take (i := 24) (oi := ?oi225) (v := ?v225) ?hi225 (by kernel_rfl) (by kernel_rfl) (by kernel_rfl) ?hQ225 (Or.inl ⟨?hw225, ?hy225⟩) (by assumption) ?rest225
  case hi225 => simp only [List.getElem?_toArray, List.getElem?_cons_succ, List.getElem?_cons_zero]; rfl
  case hQ225 => exact fun _ _ _ h => h
  case hw225 => rfl
  case hy225 => (intro W hW; obtain ⟨_, q4, q5, q6, q7⟩ := HD.out W hW; have sI := run_cut_to (P := Try.prog) (w := W) elI (some ⟨g9, 0, none⟩) (len + 3) c9 len (by omega); go_simp; all_goals rfl)
  simp only [Act.put, List.setIfInBounds_toArray, List.set_cons_zero, List.set_cons_succ]
  refine wpAnyH_take (i := 25) (oi := ?oi226) (v := ?v226) ?hi226 (by kernel_rfl) (by kernel_rfl) (by kernel_rfl) ?hQ226 (Or.inl ⟨?hw226, ?hy226⟩) (by assumption) ?rest226
  case hi226 => simp only [List.getElem?_toArray, List.getElem?_cons_succ, List.getElem?_cons_zero]; rfl
  case hQ226 => exact fun _ _ _ h => h
  case hw226 => rfl
  case hy226 => (intro W hW; obtain ⟨_, q4, q5, q6, q7⟩ := HD.out W hW; have sI := run_cut_to (P := Try.prog) (w := W) elI (some ⟨g9, 0, none⟩) (len + 3) c9 len (by omega); go_simp; all_goals rfl)
  simp only [Act.put, List.setIfInBounds_toArray, List.set_cons_zero, List.set_cons_succ]
  refine wpAnyH_take (i := 26) (oi := ?oi227) (v := ?v227) ?hi227 (by kernel_rfl) (by kernel_rfl) (by kernel_rfl) ?hQ227 (Or.inl ⟨?hw227, ?hy227⟩) (by assumption) ?rest227
  case hi227 => simp only [List.getElem?_toArray, List.getElem?_cons_succ, List.getElem?_cons_zero]; rfl
  case hQ227 => exact fun _ _ _ h => h
  case hw227 => rfl
  case hy227 => (intro W hW; obtain ⟨_, q4, q5, q6, q7⟩ := HD.out W hW; have sI := run_cut_to (P := Try.prog) (w := W) elI (some ⟨g9, 0, none⟩) (len + 3) c9 len (by omega); go_simp; all_goals rfl)
  simp only [Act.put, List.setIfInBounds_toArray, List.set_cons_zero, List.set_cons_succ]
  refine wpAnyH_take (i := 27) (oi := ?oi228) (v := ?v228) ?hi228 (by kernel_rfl) (by kernel_rfl) (by kernel_rfl) ?hQ228 (Or.inl ⟨?hw228, ?hy228⟩) (by assumption) ?rest228
  case hi228 => simp only [List.getElem?_toArray, List.getElem?_cons_succ, List.getElem?_cons_zero]; rfl
  case hQ228 => exact fun _ _ _ h => h
  case hw228 => rfl
  case hy228 => (intro W hW; obtain ⟨_, q4, q5, q6, q7⟩ := HD.out W hW; have sI := run_cut_to (P := Try.prog) (w := W) elI (some ⟨g9, 0, none⟩) (len + 3) c9 len (by omega); go_simp; all_goals rfl)
  simp only [Act.put, List.setIfInBounds_toArray, List.set_cons_zero, List.set_cons_succ]
  refine wpAnyH_take (i := 28) (oi := ?oi229) (v := ?v229) ?hi229 (by kernel_rfl) (by kernel_rfl) (by kernel_rfl) ?hQ229 (Or.inl ⟨?hw229, ?hy229⟩) (by assumption) ?rest229
  case hi229 => simp only [List.getElem?_toArray, List.getElem?_cons_succ, List.getElem?_cons_zero]; rfl
  case hQ229 => exact fun _ _ _ h => h
  case hw229 => rfl
  case hy229 => (intro W hW; obtain ⟨_, q4, q5, q6, q7⟩ := HD.out W hW; have sI := run_cut_to (P := Try.prog) (w := W) elI (some ⟨g9, 0, none⟩) (len + 3) c9 len (by omega); go_simp; all_goals rfl)
  simp only [Act.put, List.setIfInBounds_toArray, List.set_cons_zero, List.set_cons_succ]
  refine wpAnyH_take (i := 29) (oi := ?oi230) (v := ?v230) ?hi230 (by kernel_rfl) (by kernel_rfl) (by kernel_rfl) ?hQ230 (Or.inl ⟨?hw230, ?hy230⟩) (by assumption) ?rest230
  case hi230 => simp only [List.getElem?_toArray, List.getElem?_cons_succ, List.getElem?_cons_zero]; rfl
  case hQ230 => exact fun _ _ _ h => h
  case hw230 => rfl
  case hy230 => (intro W hW; obtain ⟨_, q4, q5, q6, q7⟩ := HD.out W hW; have sI := run_cut_to (P := Try.prog) (w := W) elI (some ⟨g9, 0, none⟩) (len + 3) c9 len (by omega); go_simp; all_goals rfl)
  simp only [Act.put, List.setIfInBounds_toArray, List.set_cons_zero, List.set_cons_succ]
  refine wpAnyH_take (i := 30) (oi := ?oi231) (v := ?v231) ?hi231 (by kernel_rfl) (by kernel_rfl) (by kernel_rfl) ?hQ231 (Or.inl ⟨?hw231, ?hy231⟩) (by assumption) ?rest231
  case hi231 => simp only [List.getElem?_toArray, List.getElem?_cons_succ, List.getElem?_cons_zero]; rfl
  case hQ231 => exact fun _ _ _ h => h
  case hw231 => rfl
  case hy231 => (intro W hW; obtain ⟨_, q4, q5, q6, q7⟩ := HD.out W hW; have sI := run_cut_to (P := Try.prog) (w := W) elI (some ⟨g9, 0, none⟩) (len + 3) c9 len (by omega); go_simp; all_goals rfl)
  simp only [Act.put, List.setIfInBounds_toArray, List.set_cons_zero, List.set_cons_succ]
  refine wpAnyH_take (i := 31) (oi := ?oi232) (v := ?v232) ?hi232 (by kernel_rfl) (by kernel_rfl) (by kernel_rfl) ?hQ232 (Or.inl ⟨?hw232, ?hy232⟩) (by assumption) ?rest232
  case hi232 => simp only [List.getElem?_toArray, List.getElem?_cons_succ, List.getElem?_cons_zero]; rfl
  case hQ232 => exact fun _ _ _ h => h
  case hw232 => rfl
  case hy232 => (intro W hW; obtain ⟨_, q4, q5, q6, q7⟩ := HD.out W hW; have sI := run_cut_to (P := Try.prog) (w := W) elI (some ⟨g9, 0, none⟩) (len + 3) c9 len (by omega); go_simp; all_goals rfl)
  simp only [Act.put, List.setIfInBounds_toArray, List.set_cons_zero, List.set_cons_succ]
  refine wpAnyH_take (i := 32) (oi := ?oi233) (v := ?v233) ?hi233 (by kernel_rfl) (by kernel_rfl) (by kernel_rfl) ?hQ233 (Or.inl ⟨?hw233, ?hy233⟩) (by assumption) ?rest233
  case hi233 => simp only [List.getElem?_toArray, List.getElem?_cons_succ, List.getElem?_cons_zero]; rfl
  case hQ233 => exact fun _ _ _ h => h
  case hw233 => rfl
  case hy233 => (intro W hW; obtain ⟨_, q4, q5, q6, q7⟩ := HD.out W hW; have sI := run_cut_to (P := Try.prog) (w := W) elI (some ⟨g9, 0, none⟩) (len + 3) c9 len (by omega); go_simp; all_goals rfl)
  simp only [Act.put, List.setIfInBounds_toArray, List.set_cons_zero, List.set_cons_succ]
  refine wpAnyH_take (i := 33) (oi := ?oi234) (v := ?v234) ?hi234 (by kernel_rfl) (by kernel_rfl) (by kernel_rfl) ?hQ234 (Or.inl ⟨?hw234, ?hy234⟩) (by assumption) ?rest234
  case hi234 => simp only [List.getElem?_toArray, List.getElem?_cons_succ, List.getElem?_cons_zero]; rfl
  case hQ234 => exact fun _ _ _ h => h
  case hw234 => rfl
  case hy234 => (intro W hW; obtain ⟨_, q4, q5, q6, q7⟩ := HD.out W hW; have sI := run_cut_to (P := Try.prog) (w := W) elI (some ⟨g9, 0, none⟩) (len + 3) c9 len (by omega); go_simp; all_goals rfl)
  simp only [Act.put, List.setIfInBounds_toArray, List.set_cons_zero, List.set_cons_succ]
  refine wpAnyH_take (i := 34) (oi := ?oi235) (v := ?v235) ?hi235 (by kernel_rfl) (by kernel_rfl) (by kernel_rfl) ?hQ235 (Or.inl ⟨?hw235, ?hy235⟩) (by assumption) ?rest235
  case hi235 => simp only [List.getElem?_toArray, List.getElem?_cons_succ, List.getElem?_cons_zero]; rfl
  case hQ235 => exact fun _ _ _ h => h
  case hw235 => rfl
  case hy235 => (intro W hW; obtain ⟨_, q4, q5, q6, q7⟩ := HD.out W hW; have sI := run_cut_to (P := Try.prog) (w := W) elI (some ⟨g9, 0, none⟩) (len + 3) c9 len (by omega); go_simp; all_goals rfl)
  simp only [Act.put, List.setIfInBounds_toArray, List.set_cons_zero, List.set_cons_succ]
  refine wpAnyH_take (i := 35) (oi := ?oi236) (v := ?v236) ?hi236 (by kernel_rfl) (by kernel_rfl) (by kernel_rfl) ?hQ236 (Or.inl ⟨?hw236, ?hy236⟩) (by assumption) ?rest236
  case hi236 => simp only [List.getElem?_toArray, List.getElem?_cons_succ, List.getElem?_cons_zero]; rfl
  case hQ236 => exact fun _ _ _ h => h
  case hw236 => rfl
  case hy236 => (intro W hW; obtain ⟨_, q4, q5, q6, q7⟩ := HD.out W hW; have sI := run_cut_to (P := Try.prog) (w := W) elI (some ⟨g9, 0, none⟩) (len + 3) c9 len (by omega); go_simp; all_goals rfl)
  simp only [Act.put, List.setIfInBounds_toArray, List.set_cons_zero, List.set_cons_succ]
  refine wpAnyH_take (i := 36) (oi := ?oi237) (v := ?v237) ?hi237 (by kernel_rfl) (by kernel_rfl) (by kernel_rfl) ?hQ237 (Or.inl ⟨?hw237, ?hy237⟩) (by assumption) ?rest237
  case hi237 => simp only [List.getElem?_toArray, List.getElem?_cons_succ, List.getElem?_cons_zero]; rfl
  case hQ237 => exact fun _ _ _ h => h
  case hw237 => rfl
  case hy237 => (intro W hW; obtain ⟨_, q4, q5, q6, q7⟩ := HD.out W hW; have sI := run_cut_to (P := Try.prog) (w := W) elI (some ⟨g9, 0, none⟩) (len + 3) c9 len (by omega); go_simp; all_goals rfl)
  simp only [Act.put, List.setIfInBounds_toArray, List.set_cons_zero, List.set_cons_succ]
  refine wpAnyH_take (i := 37) (oi := ?oi238) (v := ?v238) ?hi238 (by kernel_rfl) (by kernel_rfl) (by kernel_rfl) ?hQ238 (Or.inl ⟨?hw238, ?hy238⟩) (by assumption) ?rest238
  case hi238 => simp only [List.getElem?_toArray, List.getElem?_cons_succ, List.getElem?_cons_zero]; rfl
  case hQ238 => exact fun _ _ _ h => h
  case hw238 => rfl
  case hy238 => (intro W hW; obtain ⟨_, q4, q5, q6, q7⟩ := HD.out W hW; have sI := run_cut_to (P := Try.prog) (w := W) elI (some ⟨g9, 0, none⟩) (len + 3) c9 len (by omega); go_simp; all_goals rfl)
  simp only [Act.put, List.setIfInBounds_toArray, List.set_cons_zero, List.set_cons_succ]
  refine wpAnyH_take (i := 38) (oi := ?oi239) (v := ?v239) ?hi239 (by kernel_rfl) (by kernel_rfl) (by kernel_rfl) ?hQ239 (Or.inl ⟨?hw239, ?hy239⟩) (by assumption) ?rest239
  case hi239 => simp only [List.getElem?_toArray, List.getElem?_cons_succ, List.getElem?_cons_zero]; rfl
  case hQ239 => exact fun _ _ _ h => h
  case hw239 => rfl
  case hy239 => (intro W hW; obtain ⟨_, q4, q5, q6, q7⟩ := HD.out W hW; have sI := run_cut_to (P := Try.prog) (w := W) elI (some ⟨g9, 0, none⟩) (len + 3) c9 len (by omega); go_simp; all_goals rfl)
  simp only [Act.put, List.setIfInBounds_toArray, List.set_cons_zero, List.set_cons_succ]
  refine wpAnyH_take (i := 39) (oi := ?oi240) (v := ?v240) ?hi240 (by kernel_rfl) (by kernel_rfl) (by kernel_rfl) ?hQ240 (Or.inl ⟨?hw240, ?hy240⟩) (by assumption) ?rest240
  case hi240 => simp only [List.getElem?_toArray, List.getElem?_cons_succ, List.getElem?_cons_zero]; rfl
  case hQ240 => exact fun _ _ _ h => h
  case hw240 => rfl
  case hy240 => (intro W hW; obtain ⟨_, q4, q5, q6, q7⟩ := HD.out W hW; have sI := run_cut_to (P := Try.prog) (w := W) elI (some ⟨g9, 0, none⟩) (len + 3) c9 len (by omega); go_simp; all_goals rfl)
  simp only [Act.put, List.setIfInBounds_toArray, List.set_cons_zero, List.set_cons_succ]
  refine wpAnyH_done (by kernel_rfl) ?_ _
  have HF : Hd (Below w.heap.size w w13) := ⟨HT.out.1.trans ((HD.out w13 hHeld).1.mono HT.out.1.size)⟩
  clear hHeld
  go_wp2_with fail
  go_ret
  exact ⟨rfl, HF.out⟩
end Go.Proofs.Ytplpaipmkpjgfaa
