/- The sort of groups: what the library's SortFunc leaves. -/
import Derived.Test.YtplpaipmkpjgfaaGrpC
import Derived.Shelf.SlSortCmp.NoneTotal
namespace Go.Proofs.Ytplpaipmkpjgfaa
open Go.RowKit Go.Sort Go.Shelf
set_option linter.unusedVariables false
instance : Inhabited Wr := ⟨(0, 0, 0)⟩
def flatW (l : List Wr) : List Value := l.flatMap encW
theorem flatW_append (a b : List Wr) : flatW (a ++ b) = flatW a ++ flatW b := List.flatMap_append
theorem flatW_len : ∀ l : List Wr, (flatW l).length = l.length * 4
  | [] => rfl
  | x :: r => by
    have := flatW_len r
    unfold flatW at *
    rw [List.flatMap_cons, List.length_append, this, List.length_cons]
    show 4 + _ = _; omega
theorem flatW_at : ∀ (l : List Wr) (r j : Nat), j < 4 → (flatW l)[r * 4 + j]? = (l[r]?).bind fun x => (encW x)[j]?
  | [], r, j, h => by simp [flatW]
  | x :: l, r, j, h => by
    have e : flatW (x :: l) = encW x ++ flatW l := by unfold flatW; rw [List.flatMap_cons]
    rw [e]
    cases r with
    | zero => rw [Nat.zero_mul, Nat.zero_add, List.getElem?_append_left (by show j < 4; exact h)]; rfl
    | succ r =>
      rw [List.getElem?_append_right (by show 4 ≤ _; omega), show (r + 1) * 4 + j - (encW x).length = r * 4 + j by show (r + 1) * 4 + j - 4 = _; omega, flatW_at l r j h]
      simp
theorem flatK_eq (d : Array Wr) : (flatK encW 4 d).toList = flatW d.toList := by
  apply List.ext_getElem?
  intro t
  by_cases ht : t < d.size * 4
  · rw [Array.getElem?_toList, Array.getElem?_eq_getElem (by simpa using ht), ← getElem!_pos (flatK encW 4 d) t (by simpa using ht), get_flatK encW 4 d t ht]
    have e : t = t / 4 * 4 + t % 4 := by omega
    have hd : t / 4 < d.size := by omega
    rw [show (flatW d.toList)[t]? = (flatW d.toList)[t / 4 * 4 + t % 4]? from by rw [← e], flatW_at _ _ _ (Nat.mod_lt _ (by decide)), Array.getElem?_toList, Array.getElem?_eq_getElem hd, getElem!_pos d (t / 4) hd]
    show _ = (encW d[t / 4])[t % 4]?
    have h4 : t % 4 < (encW d[t / 4]).length := by show t % 4 < 4; omega
    rw [List.getElem?_eq_getElem h4, getElem!_pos (encW d[t / 4]) (t % 4) h4]
  · rw [List.getElem?_eq_none (by simp; omega), List.getElem?_eq_none (by rw [flatW_len]; simp; omega)]
section
variable {W : World} {G : Nat}
theorem sortK_block (R : Array Wr) (n : Nat) (os : Array Obj) {j : Nat} (hj : j < W.heap.size) (hne : j ≠ G) : (sortWorldK encW 4 W G 0 n R os).heap[j]? = W.heap[j]? := by
  unfold sortWorldK putRowK
  rw [heap_grow_old _ _ (by rw [Sort.size_putRow]; exact hj)]
  simp only [putRow, mapBlock, Array.getElem?_modify]
  rw [if_neg (fun h => hne h.symm)]
  rfl
theorem sortK_size (R : Array Wr) (n : Nat) (os : Array Obj) : W.heap.size ≤ (sortWorldK encW 4 W G 0 n R os).heap.size := by
  unfold sortWorldK putRowK grow
  simp only [Array.size_append, Sort.size_putRow]
  show W.heap.size ≤ W.heap.size + _
  omega
theorem sortK_own {base e n cap m : Nat} {xs : List Value} (h : W.ownsRow base e 4 (.slice (some ⟨G, 0, none⟩) n cap) n xs) (R : Array Wr) (hR : R.size = n) (os : Array Obj) :
    (sortWorldK encW 4 W G 0 m R os).ownsRow base e 4 (.slice (some ⟨G, 0, none⟩) n cap) n (flatW R.toList) := by
  rcases h.2 with ⟨hv, _⟩ | ⟨g, cap', cur, hv, hb, hg, hnc, hm, hcs, htake⟩
  · cases hv
  injection hv with hA hn hc
  injection hA with hA
  injection hA with hA
  subst hA hc
  have hlt : G < W.heap.size := (Array.getElem?_eq_some_iff.1 hg).1
  have hsz : (flatK encW 4 R).size = n * 4 := by rw [size_flatK, hR]
  refine ⟨by rw [flatW_len]; simp [hR], .inr ⟨G, cap, putCells id 0 (flatK encW 4 R) cur, rfl, hb, ?_, hnc, hm, by simp [putCells, hcs], ?_⟩⟩
  · unfold sortWorldK putRowK
    rw [heap_grow_old _ _ (by rw [Sort.size_putRow]; exact hlt)]
    simp only [putRow, mapBlock, Array.getElem?_modify, if_true]
    show (W.heap[G]?).map _ = _
    rw [hg]; rfl
  · rw [← flatK_eq]
    apply List.ext_getElem?
    intro j
    rw [List.getElem?_take]
    by_cases hj : j < n * 4
    · have hj2 : j < cur.size := by rw [hcs]; exact Nat.lt_of_lt_of_le hj (Nat.mul_le_mul_right 4 hnc)
      rw [if_pos hj, Array.getElem?_toList, putCells, Array.getElem?_mapIdx, Array.getElem?_eq_getElem hj2, Option.map_some, if_pos ⟨Nat.zero_le _, by omega⟩, Array.getElem?_toList, Array.getElem?_eq_getElem (by omega), Nat.sub_zero, getElem!_pos (flatK encW 4 R) j (by omega)]
      rfl
    · rw [if_neg hj, List.getElem?_eq_none (by simp [hR]; omega)]
end
theorem infoG : (Try.prog.info? 62).map (·.size) = some 4 := by kernel_rfl
set_option maxHeartbeats 1000000 in
theorem sort_groups (w : World) (base g cap n : Nat) (l : List Wr) (hl : l.length = n) (hn : n ≤ 4398046511104) (hown : w.ownsRow base 62 4 (.slice (some ⟨g, 0, none⟩) n cap) n (flatW l)) :
    Calls Try.prog 39 #[.slice (some ⟨g, 0, none⟩) n cap, .func (.func 40) #[] #[]] w fun e w' => e = .returned (.tuple #[]) ∧ ∃ l' : List Wr, l'.Perm l ∧ l'.Pairwise (fun x y => ¬ olderW x y) ∧
      w'.ownsRow base 62 4 (.slice (some ⟨g, 0, none⟩) n cap) n (flatW l') ∧ w.grownBy w' (some g) := by
  have eg : ∀ args w, (callFunc 40 args).run Try.prog w = .ok (.enter 40 args) w := enters_of Try.func40 (by kernel_rfl) rfl
  have hsz : l.toArray.size = n := by simpa using hl
  have hH : HoldsK encW 4 w g 0 l.toArray := fun j hj => by
    rw [size_flatK, hsz] at hj
    rcases hown.2 with ⟨hv, _⟩ | ⟨g', cap', cur, hv, hb, hg, hnc, hm, hcs, htake⟩
    · cases hv
    injection hv with hA hn' hc
    injection hA with hA
    injection hA with hA
    subst hA hc
    refine ⟨?_, by simp [World.frozen?, hg]⟩
    rw [Nat.zero_add, cell_of_row w g j cur _ (0, 0) hg, ← Array.getElem?_toList]
    have h1 : (cur.toList.take (n * 4))[j]? = (flatW l)[j]? := by rw [htake]
    rw [List.getElem?_take, if_pos hj] at h1
    have e := flatK_eq l.toArray
    simp only at e
    rw [h1, ← e, Array.getElem?_toList, Array.getElem?_eq_getElem (by rw [size_flatK, hsz]; exact hj), getElem!_pos (flatK encW 4 l.toArray) j (by rw [size_flatK, hsz]; exact hj)]
    rfl
  have hblk : g < w.heap.size := (World.ownsRow.lt hown g rfl).2
  have hS := AnyQ.slices_SortFunc Try.sortL 4 Try.isAgg62 Try.sizeOf62 encW (fun _ => rfl) (fun x v hv => by simp [encW] at hv; rcases hv with rfl | rfl | rfl | rfl <;> rfl) cfW swoW 40 #[] g 0 cap l.toArray w eg (fun m os dk _ x y => closureW x y _) hH hblk (by rw [hsz]; omega)
  change Calls Try.prog 39 _ _ _ at hS
  rw [hsz] at hS
  refine hS.mono ?_
  rintro e w' ⟨rfl, d', m, os, hp, hs, rfl⟩
  have hd : d'.size = n := by rw [hp.1, hsz]
  refine ⟨rfl, d'.toList, ?_, ?_, sortK_own hown d' hd os, ?_⟩
  · have := hp.2.2
    rw [← hd] at this
    have e1 : d'.extract 0 d'.size = d' := by simp
    have e2 : l.toArray.extract 0 d'.size = l.toArray := by rw [hd, ← hsz]; simp
    rw [e1, e2] at this
    simpa using this
  · rw [List.pairwise_iff_getElem]
    intro i j hi hj hij
    have := hs i j (Nat.zero_le _) hij (by rw [← hd]; simpa using hj)
    rw [getElem!_pos d' j (by simpa using hj), getElem!_pos d' i (by simpa using hi), ltWf] at this
    simpa using this
  · exact ⟨rfl, rfl, rfl, sortK_size _ _ _, fun j hj hne => sortK_block _ _ _ hj (fun e => hne (by rw [e]))⟩
theorem sort_all (w : World) (base n : Nat) (v : Value) (l : List Wr) (hl : l.length = n) (hn : n ≤ 4398046511104) (hown : w.ownsRow base 62 4 v n (flatW l)) :
    Calls Try.prog 39 #[v, .func (.func 40) #[] #[]] w fun e w' => e = .returned (.tuple #[]) ∧ ∃ l' : List Wr, l'.Perm l ∧ l'.Pairwise (fun x y => ¬ olderW x y) ∧
      w'.ownsRow base 62 4 v n (flatW l') ∧ w.grownBy w' v.ownBlock := by
  rcases hown.2 with ⟨rfl, rfl⟩ | ⟨g, cap, cur, rfl, _⟩
  · refine (AnyF.slices_SortFunc_none (P := Try.prog) (ρ := Try.sortL_ren) { Try.sortL with } none 0 (.func (.func 40) #[] #[]) w).mono ?_
    rintro e w' ⟨rfl, rfl⟩
    obtain rfl := List.eq_nil_of_length_eq_zero hl
    exact ⟨rfl, [], .refl _, .nil, hown, World.grownBy.refl _ _⟩
  · exact sort_groups w base g cap n l hl hn hown
end Go.Proofs.Ytplpaipmkpjgfaa
