/- Contract of the board's Order: a row of its own, the places sorted. -/
import Derived.Test.YtknpcbekaodlkaaBoardC
import Derived.Test.YtknpcbekaodlkaaShelf
import Derived.Deep.OwnRows
namespace Go.Proofs.Ytknpcbekaodlkaa
open Go.RowKit Go.Sort Go.Lib Go.Shelf
set_option linter.unusedVariables false
theorem cfO_neg (ss : List Nat) (x y : Nat) : cfO ss x y < 0 ↔ ss.getD y 0 < ss.getD x 0 ∨ (ss.getD x 0 = ss.getD y 0 ∧ x < y) := by
  unfold cfO orI cmpF
  by_cases h1 : ss.getD y 0 < ss.getD x 0
  · rw [if_pos h1, if_neg (by decide)]; exact ⟨fun _ => .inl h1, fun _ => by decide⟩
  · rw [if_neg h1]
    by_cases h2 : ss.getD x 0 < ss.getD y 0
    · rw [if_pos h2, if_neg (by decide)]; exact ⟨fun h => absurd h (by decide), fun h => by omega⟩
    · rw [if_neg h2, if_pos rfl]; omega
/-- Place i may stand ahead of place j. -/
def leO (ss : List Nat) (i j : Nat) : Bool := !decide (cfO ss j i < 0)
theorem leO_iff (ss : List Nat) (i j : Nat) : leO ss i j = true ↔ ss.getD j 0 < ss.getD i 0 ∨ (ss.getD i 0 = ss.getD j 0 ∧ i ≤ j) := by
  unfold leO
  rw [Bool.not_eq_true', decide_eq_false_iff_not, cfO_neg]
  omega
theorem leO_trans (ss : List Nat) (a b c : Nat) (h1 : leO ss a b = true) (h2 : leO ss b c = true) : leO ss a c = true := by rw [leO_iff] at *; omega
theorem leO_total (ss : List Nat) (a b : Nat) : (leO ss a b || leO ss b a) = true := by rw [Bool.or_eq_true, leO_iff, leO_iff]; omega
/-- The places in their order. -/
def orderP (ss : List Nat) : List Nat := (List.range ss.length).mergeSort (leO ss)
theorem orderP_perm (ss : List Nat) : (orderP ss).Perm (List.range ss.length) := List.mergeSort_perm _ _
theorem orderP_len (ss : List Nat) : (orderP ss).length = ss.length := by rw [(orderP_perm ss).length_eq, List.length_range]
theorem orderP_sorted (ss : List Nat) : List.Pairwise (fun a b => leO ss a b = true) (orderP ss) := List.pairwise_mergeSort (leO_trans ss) (leO_total ss) _
/-- The cells of numbers. -/
def iv (l : List Nat) : List Value := l.map fun i : Nat => Value.int .i64 (i : Int)
theorem iv_len (l : List Nat) : (iv l).length = l.length := List.length_map _
theorem iv_one (l : List Nat) : ∀ u ∈ iv l, u.oneCell' = true := by
  intro u hu; obtain ⟨x, _, rfl⟩ := List.mem_map.1 hu; rfl
theorem iv_get (l : List Nat) (k : Nat) (h : k < l.length) : (iv l)[k]? = some (.int .i64 ((l.getD k 0 : Nat) : Int)) := by
  unfold iv; rw [List.getElem?_map, List.getElem?_eq_getElem h, List.getD_eq_getElem?_getD, List.getElem?_eq_getElem h]; rfl
section
variable {α : Type} [Inhabited α] (enc : α → Value) {W : World} {G e k : Nat}
theorem sort_block (R : Array α) (n : Nat) (os : Array Obj) {j : Nat} (hj : j < W.heap.size) (hne : j ≠ G) : (sortWorld enc W G 0 n R os).heap[j]? = W.heap[j]? := by
  unfold sortWorld
  rw [heap_grow_old _ _ (by rw [Sort.size_putRow]; exact hj)]
  simp only [putRow, mapBlock, Array.getElem?_modify]
  rw [if_neg (fun h => hne h.symm)]
  rfl
theorem sort_size (R : Array α) (n : Nat) (os : Array Obj) : W.heap.size ≤ (sortWorld enc W G 0 n R os).heap.size := by
  unfold sortWorld grow
  simp only [Array.size_append, Sort.size_putRow]
  show W.heap.size ≤ W.heap.size + _
  omega
theorem sorted_own {f : Nat → Value} {base : Nat} (h : W.rowIs G e k f) (hb : base ≤ G) (hk : k ≤ maxLen) (R : Array α) (hR : R.size = k) (n : Nat) (os : Array Obj) :
    (sortWorld enc W G 0 n R os).ownsRow base e 1 (.slice (some ⟨G, 0, none⟩) k k) k (R.toList.map enc) := by
  have hlt := h.lt
  obtain ⟨c, hc, hs, _⟩ := h
  refine ⟨by simp [hR], .inr ⟨G, k, putCells enc 0 R c, rfl, hb, ?_, Nat.le_refl _, hk, by simp [putCells, hs], ?_⟩⟩
  · unfold sortWorld
    rw [heap_grow_old _ _ (by rw [Sort.size_putRow]; exact hlt)]
    simp only [putRow, mapBlock, Array.getElem?_modify, if_true]
    show (W.heap[G]?).map _ = _
    rw [hc]; rfl
  · apply List.ext_getElem?
    intro j
    rw [List.getElem?_take]
    by_cases hj : j < k
    · rw [if_pos (by omega), Array.getElem?_toList, putCells, Array.getElem?_mapIdx, Array.getElem?_eq_getElem (by omega), Option.map_some, if_pos ⟨Nat.zero_le _, by omega⟩, List.getElem?_map, Array.getElem?_toList, Array.getElem?_eq_getElem (by omega), Option.map_some, Nat.sub_zero, getElem!_pos R j (by omega)]
    · rw [if_neg (by omega), List.getElem?_eq_none (by simp; omega)]
theorem sort_below {w : World} (hb : Below w.heap.size w W) (hG : w.heap.size ≤ G) (R : Array α) (n : Nat) (os : Array Obj) : Below w.heap.size w (sortWorld enc W G 0 n R os) :=
  ⟨hb.os, hb.tape, hb.output, Nat.le_trans hb.size (sort_size enc R n os), fun j hj => (sort_block enc R n os (Nat.lt_of_lt_of_le hj hb.size) (by omega)).trans (hb.block j hj)⟩
end
/-- The places as the sort sees them. -/
def encP {n : Nat} (i : _root_.Fin (n + 1)) : Value := .int .i64 ((i.val : Nat) : Int)
def cfP {n : Nat} (ss : List Nat) (i j : _root_.Fin (n + 1)) : Int := cfO ss i.val j.val
theorem ltP {n : Nat} (ss : List Nat) (x y : _root_.Fin (n + 1)) : ltOf (cfP ss) x y = true ↔ ss.getD y.val 0 < ss.getD x.val 0 ∨ (ss.getD x.val 0 = ss.getD y.val 0 ∧ x.val < y.val) := by
  unfold ltOf cfP; rw [decide_eq_true_iff, cfO_neg]
theorem ltPf {n : Nat} (ss : List Nat) (x y : _root_.Fin (n + 1)) : ltOf (cfP ss) x y = false ↔ ¬ (ss.getD y.val 0 < ss.getD x.val 0 ∨ (ss.getD x.val 0 = ss.getD y.val 0 ∧ x.val < y.val)) := by
  rw [← ltP, Bool.not_eq_true]
theorem swoP {n : Nat} (ss : List Nat) : SWO (ltOf (cfP (n := n) ss)) where
  irrefl x := by rw [ltPf]; omega
  trans x y z h1 h2 := by rw [ltP] at *; omega
  ntrans x y z h1 h2 := by rw [ltPf] at *; omega
theorem totP {n : Nat} (ss : List Nat) (x y : _root_.Fin (n + 1)) (h1 : ltOf (cfP ss) x y = false) (h2 : ltOf (cfP ss) y x = false) : x = y := by
  rw [ltPf] at *; exact _root_.Fin.ext (by omega)
def placesP (n : Nat) : Array (_root_.Fin (n + 1)) := (List.finRange (n + 1)).toArray
theorem placesP_get (n q : Nat) (hq : q < (placesP n).size) : ((placesP n)[q]'hq).val = q := by simp [placesP]
theorem finRange_val (n : Nat) : (List.finRange n).map _root_.Fin.val = List.range n := by
  apply List.ext_getElem?
  intro j
  rw [List.getElem?_map]
  by_cases hj : j < n
  · rw [List.getElem?_eq_getElem (by simpa using hj), List.getElem?_range hj]; simp
  · rw [List.getElem?_eq_none (by simpa using hj), List.getElem?_eq_none (by simpa using hj)]; rfl
theorem sortedP (n : Nat) (ss : List Nat) (h : ss.length = n + 1) : (((placesP n).toList.mergeSort fun x y => !ltOf (cfP ss) y x).toArray.toList.map encP) = iv (orderP ss) := by
  unfold iv orderP placesP
  rw [h, ← finRange_val, List.toList_toArray]
  have hm : ((List.finRange (n + 1)).mergeSort fun x y => !ltOf (cfP ss) y x).map _root_.Fin.val = ((List.finRange (n + 1)).map _root_.Fin.val).mergeSort (leO ss) := List.map_mergeSort fun a _ b _ => rfl
  rw [← hm, List.map_map, List.toList_toArray]
  rfl
set_option maxHeartbeats 1000000 in
theorem order_any (w : World) (B b h cap K : Nat) (ss : List Nat) (H : Brd w B b h cap K ss) (L : ∀ s ∈ ss, s ≤ one32) (hn : 0 < ss.length) (h255 : ss.length ≤ 255) :
    Calls Try.prog 28 #[.pointer (some ⟨b, 0, none⟩)] w fun e w' => ∃ g, e = .returned (.slice (some ⟨g, 0, none⟩) ss.length ss.length) ∧
      w'.ownsRow w.heap.size 3 1 (.slice (some ⟨g, 0, none⟩) ss.length ss.length) ss.length (iv (orderP ss)) ∧ Below w.heap.size w w' ∧ w.heap.size ≤ g := by
  obtain ⟨k, hk⟩ : ∃ k, ss.length = k + 1 := ⟨ss.length - 1, by omega⟩
  have c1 := H.c1
  rw [hk] at c1 ⊢
  obtain ⟨n, hn2⟩ : ∃ n, k + 1 = n := ⟨_, rfl⟩
  rw [hn2] at c1 ⊢
  have hb := H.lt.1
  have HH : Hd (Brd w B b h cap K ss ∧ (∀ s ∈ ss, s ≤ one32) ∧ ss.length = n ∧ n ≤ 255 ∧ k + 1 = n) := ⟨H, L, by omega, by omega, hn2⟩
  have hmk := fun W => run_make_row' (P := Try.prog) 49 3 (.int .i64 0) 8 Try.underlying49 infoI rfl .i64 .i64 n (by omega) (by omega) W
  have hn255 : n ≤ 255 := by omega
  have hn0 : 0 < n := by omega
  clear H L hn h255 hk hn2
  go_enter Try.func28, Try.ntmps28
  go_wp2_with fail
  obtain ⟨C, hC⟩ : ∃ C, w.heap.size = C := ⟨_, rfl⟩
  have H0 : Hd (((w.alloc (.cells #[.pointer (some ⟨b, 0, none⟩)] 39)).alloc (.cells (madeCells #[.int .i64 0] n) 3)).rowIs (C + 1) 3 n (fun _ => .int .i64 0) ∧
      ((w.alloc (.cells #[.pointer (some ⟨b, 0, none⟩)] 39)).alloc (.cells (madeCells #[.int .i64 0] n) 3)).heap[C]? = some (.cells #[.pointer (some ⟨b, 0, none⟩)] 39 (0, 0)) ∧
      Below w.heap.size w ((w.alloc (.cells #[.pointer (some ⟨b, 0, none⟩)] 39)).alloc (.cells (madeCells #[.int .i64 0] n) 3))) := by
    refine ⟨?_, ?_, ((Below.refl _ _).alloc (Nat.le_refl _) _).alloc (by simp) _⟩
    · have := World.rowIs_made (w.alloc (.cells #[.pointer (some ⟨b, 0, none⟩)] 39)) (.int .i64 0) n 3
      rwa [World.size_alloc, hC] at this
    · rw [← hC, Go.Deep.blk_alloc_lt _ _ _ (by simp)]
      exact heap_alloc_new w _
  obtain ⟨W1, hW1⟩ : ∃ W1, (w.alloc (.cells #[.pointer (some ⟨b, 0, none⟩)] 39)).alloc (.cells (madeCells #[.int .i64 0] n) 3) = W1 := ⟨_, rfl⟩
  rw [hW1] at H0 ⊢
  clear hW1 hmk
  have HC := Hd.mk hC
  rw [hC]
  clear hC
  go_loopw [15, 4] (fun i u wr => ∃ j : Nat, j ≤ n ∧ i = .int .i64 (j : Int) ∧ wr.rowIs (C + 1) 3 n (fun q => if q < j then .int .i64 (q : Int) else .int .i64 0) ∧ wr.heap[C]? = some (.cells #[.pointer (some ⟨b, 0, none⟩)] 39 (0, 0)) ∧ Below w.heap.size w wr) (fun i _ _ => n - (intOf i).toNat)
  case atStart => exact ⟨0, by omega, rfl, H0.out.1.congr (fun i hi => by rw [if_neg (by omega)]), H0.out.2.1, H0.out.2.2⟩
  case round =>
    obtain ⟨j, hj, rfl, h1, h2, h3⟩ := hrel
    have H1 := Hd.mk (And.intro h1 (And.intro h2 h3))
    clear h1 h2 h3
    by_cases hjn : j < n
    · have hji : (j : Int) < (n : Int) := by omega
      have hcj := H1.out.1.cell hjn
      rw [if_neg (Nat.lt_irrefl _)] at hcj
      have hfz := H1.out.1.frozen j
      go_wp2_with fail
      go_roundw
      case rel =>
        refine ⟨j + 1, by omega, by go_num, (H1.out.1.set j (.int .i64 (j : Int))).congr (fun q hq => ?_), ?_, H1.out.2.2.setCell (p := ⟨C + 1, j, none⟩) (by show w.heap.size ≤ C + 1; have := HC.out; omega) _⟩
        · by_cases e : q = j
          · subst e; rw [if_pos rfl, if_pos (by omega)]
          · rw [if_neg e]
            by_cases e2 : q < j
            · rw [if_pos e2, if_pos (by omega)]
            · rw [if_neg e2, if_neg (by omega)]
        · rw [Go.Deep.blk_setCell_other _ _ _ _ (show C ≠ C + 1 by omega)]; exact H1.out.2.1
      case measure => simp [intOf]; omega
    · have hjn2 : j = n := by omega
      subst hjn2
      have HR : Hd (wr.rowIs (C + 1) 3 j (fun q => .int .i64 (q : Int))) := ⟨H1.out.1.congr fun q hq => by rw [if_pos hq]⟩
      have hsz : (placesP k).size = j := by unfold placesP; rw [List.size_toArray, List.length_finRange]; exact HH.out.2.2.2.2
      have hH : Holds (encP (n := k)) wr (C + 1) 0 (placesP k) := fun q hq => ⟨by
        rw [Nat.zero_add, HR.out.cell (by omega), getElem!_pos _ q hq]
        have e := placesP_get k q hq
        unfold encP; rw [e], HR.out.frozen _⟩
      have eg : ∀ args w, (callFunc 51 args).run Try.prog w = .ok (.enter 51 args) w := enters_of Try.func51 (by kernel_rfl) rfl
      have hcmp : CmpLays1 Try.prog 51 #[.pointer (some ⟨C, 0, none⟩)] (encP (n := k)) (cfP ss) (C + 1) 0 (placesP k).size wr := by
        intro m os dk hdk x y
        have hB := (H1.out.2.2)
        have hC := HC.out
        have hlt := H1.out.1.lt
        have hold : ∀ q, q < w.heap.size → (sortWorld encP wr (C + 1) 0 m dk os).heap[q]? = w.heap[q]? := fun q hq => (sort_block encP dk m os (by omega) (by omega)).trans (hB.block q hq)
        have hbl := HH.out.1.lt
        have hx : x.val < j := by have := x.isLt; have := HH.out.2.2.2.2; omega
        have hy : y.val < j := by have := y.isLt; have := HH.out.2.2.2.2; omega
        refine closure_any _ C b h j cap ss HH.out.2.1 HH.out.2.2.1 HH.out.2.2.2.1 ?_ ?_ x.val y.val hx hy ?_ ?_
        · have e : (sortWorld encP wr (C + 1) 0 m dk os).heap[C]? = some (.cells #[.pointer (some ⟨b, 0, none⟩)] 39 (0, 0)) := (sort_block encP dk m os (by omega) (by omega)).trans H1.out.2.1
          rw [cell_of_row _ _ _ _ _ _ e]; rfl
        · rw [World.cell?_of_block (a := ⟨b, 1, none⟩) (hold b hbl.1)]
          have := HH.out.1.c1; rwa [HH.out.2.2.1] at this
        · rw [World.cell?_of_block (a := ⟨h, x.val, none⟩) (hold h hbl.2.1)]
          exact HH.out.1.cs (by rw [HH.out.2.2.1]; exact hx)
        · rw [World.cell?_of_block (a := ⟨h, y.val, none⟩) (hold h hbl.2.1)]
          exact HH.out.1.cs (by rw [HH.out.2.2.1]; exact hy)
      have hS := Any.slices_SortFunc_total Try.sortL (encP (n := k)) (fun _ => rfl) (cfP ss) (swoP ss) 51 #[.pointer (some ⟨C, 0, none⟩)] (C + 1) 0 j (placesP k) wr eg hcmp hH H1.out.1.lt (by omega) (totP ss)
      change Calls Try.prog 50 _ _ _ at hS
      rw [hsz] at hS
      have HS := Hd.mk hS
      clear hS eg hcmp hH
      go_wp2_with fail
      refine HS.out.mono ?_
      rintro e w2 ⟨rfl, m, os, hw2⟩
      have HW := Hd.mk hw2
      clear hw2
      go_wp2_with fail
      go_ret
      refine ⟨C + 1, rfl, ?_, ?_, by have := HC.out; omega⟩
      · rw [HW.out, ← sortedP k ss (by have := HH.out.2.2; omega)]
        exact sorted_own encP HR.out (by have := HC.out; omega) (by unfold maxLen; omega) _ (by simp; unfold placesP; simp; exact HH.out.2.2.2.2) m os
      · rw [HW.out, ← HC.out]
        exact sort_below encP H1.out.2.2 (by have := HC.out; omega) _ m os
end Go.Proofs.Ytknpcbekaodlkaa
