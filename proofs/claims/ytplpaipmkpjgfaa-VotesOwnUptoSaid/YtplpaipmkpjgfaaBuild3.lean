/- A slice literal of three elements of several cells each. Plain. -/
import Derived.Test.YtplpaipmkpjgfaaShownL
namespace Go.Proofs.Ytplpaipmkpjgfaa
open Go.RowKit
set_option linter.unusedVariables false
theorem fill_foldO (cs : List Value) (off : Nat) : ∀ (k : Nat) (zs : Array Value) (i : Nat), (((cs.zipIdx k).foldl (fun (cs : Array Value) (x : Value × Nat) => cs.setIfInBounds (off + x.2) x.1) zs)[i]? = if off + k ≤ i ∧ i < off + k + cs.length ∧ i < zs.size then cs[i - (off + k)]? else zs[i]?) := by
  induction cs with
  | nil => intro k zs i; simp; intro h1 h2; omega
  | cons c r ih =>
    intro k zs i
    rw [List.zipIdx_cons, List.foldl_cons, ih]
    simp only [Array.size_setIfInBounds, List.length_cons]
    by_cases h1 : off + (k + 1) ≤ i ∧ i < off + (k + 1) + r.length ∧ i < zs.size
    · rw [if_pos h1, if_pos (by omega), show i - (off + k) = (i - (off + (k + 1))) + 1 by omega, List.getElem?_cons_succ]
    · rw [if_neg h1, Array.getElem?_setIfInBounds]
      by_cases h2 : off + k = i
      · subst h2
        by_cases h3 : off + k < zs.size
        · rw [if_pos rfl, if_pos h3, if_pos ⟨Nat.le_refl _, by omega, h3⟩]; simp
        · rw [if_pos rfl, if_neg h3, if_neg (by omega), Array.getElem?_eq_none (by omega)]
      · rw [if_neg h2, if_neg (by omega)]
theorem fold_size (f : Value × Nat → Nat) (l : List (Value × Nat)) : ∀ zs : Array Value, (l.foldl (fun (cs : Array Value) x => cs.setIfInBounds (f x) x.1) zs).size = zs.size := by
  induction l with
  | nil => intro zs; rfl
  | cons a l ih => intro zs; rw [List.foldl_cons, ih]; simp
theorem fill3 (s : Nat) (a b c : List Value) (ha : a.length = s) (hb : b.length = s) (hc : c.length = s) (zs : Array Value) (hz : zs.size = 3 * s) :
    Instr.fill (fun i => some (i * s, s)) zs [(0, .agg a.toArray), (1, .agg b.toArray), (2, .agg c.toArray)] = some (a ++ (b ++ c)).toArray := by
  have e : ∀ (xs : List Value) (off : Nat) (z : Array Value), (xs.toArray.zipIdx.foldl (fun (cs : Array Value) (x : Value × Nat) => cs.setIfInBounds (off + x.2) x.1) z) = ((xs.zipIdx 0).foldl (fun (cs : Array Value) (x : Value × Nat) => cs.setIfInBounds (off + x.2) x.1) z) := fun xs off z => by
    rw [← Array.foldl_toList, Array.toList_zipIdx]
  simp only [Instr.fill, Value.cells, List.size_toArray, ha, hb, hc]
  rw [if_neg (by simp; omega), e]
  rw [if_neg (by simp [fold_size]; omega), e]
  rw [if_neg (by simp [fold_size]; omega), e]
  congr 1
  apply Array.ext_getElem?
  intro i
  rw [fill_foldO, fill_foldO, fill_foldO]
  simp only [fold_size, hz, Nat.add_zero, ha, hb, hc, List.getElem?_toArray]
  by_cases h1 : i < s
  · rw [if_neg (by omega), if_neg (by omega), if_pos (by omega), List.getElem?_append_left (by omega)]
    congr 1; omega
  · by_cases h2 : i < 2 * s
    · rw [if_neg (by omega), if_pos (by omega), List.getElem?_append_right (by omega), List.getElem?_append_left (by omega)]
      congr 1; omega
    · by_cases h3 : i < 3 * s
      · rw [if_pos (by omega), List.getElem?_append_right (by omega), List.getElem?_append_right (by omega)]
        congr 1; omega
      · rw [if_neg (by omega), if_neg (by omega), if_neg (by omega), Array.getElem?_eq_none (by omega), List.getElem?_eq_none (by simp; omega)]
theorem wpList_build3 {P : Program} {t e size bytes : Nat} {ops : Array Oper} {rest : List Oper} {o : Oper} {a : Act} {w : World} {Q : Exit → Act → World → Prop} (E : ElN P t e size bytes) (hg : o.guard = none) (x y z : Operand) (ho : o.op = .buildSlice t 3 #[(0, x), (1, y), (2, z)])
    (d : Nat) (hd : o.dst = some d) (xs ys zs : List Value) (hx : a.eval x = .agg xs.toArray) (hy : a.eval y = .agg ys.toArray) (hz : a.eval z = .agg zs.toArray) (lx : xs.length = size) (ly : ys.length = size) (lz : zs.length = size)
    (h : ∀ w2, Hd (w2.heap[w.heap.size]? = some (.cells (xs ++ (ys ++ zs)).toArray e (0, 0)) ∧ Below w.heap.size w w2 ∧ w2.heap.size = w.heap.size + 1) → wpList P ops Q rest (a.put (some d) (.slice (some ⟨w.heap.size, 0, none⟩) 3 3)) w2) : wpList P ops Q (o :: rest) a w := by
  obtain ⟨i, v, hi, hv, hs, hb, hvs⟩ := E.hi
  have h2 := E.hs
  refine wpList_buildSlice hg t e 3 _ ho (xs ++ (ys ++ zs)).toArray i v E.ht hi hv (by rw [hs]; omega) (by rw [hs]; omega) ?_ ?_
  · simp only [List.map_toArray, List.map_cons, List.map_nil, hx, hy, hz]
    rw [hs]
    exact fill3 size xs ys zs lx ly lz _ (by simp)
  · rw [hd]
    exact h _ ⟨heap_alloc_new _ _, (Below.refl _ _).alloc (Nat.le_refl _) _, by simp⟩
/-- Three places in a block of their own. -/
theorem view3 {w : World} {g : Nat} {T : Nat → Sn} (h : w.heap[g]? = some (.cells ((T 0).cells ++ ((T 1).cells ++ (T 2).cells)).toArray 58 (0, 0))) (hok : ∀ r, r < 3 → SnOk (T r)) : View w w.heap.size (some ⟨g, 0, none⟩) 3 T := fun r hr => by
  refine ⟨g, 0, rfl, (Array.getElem?_eq_some_iff.1 h).1, fun j v hv => ?_, hok r hr⟩
  have hj : j < 19 := by have := (List.getElem?_eq_some_iff.1 hv).1; rwa [Sn.len] at this
  rw [cell_of_row _ _ _ _ _ _ h, List.getElem?_toArray]
  rcases r with _ | _ | _ | r
  · rw [List.getElem?_append_left (by rw [Sn.len]; omega)]; simpa using hv
  · rw [List.getElem?_append_right (by rw [Sn.len]; omega), List.getElem?_append_left (by rw [Sn.len, Sn.len]; omega), Sn.len]
    rw [← hv]; congr 1; omega
  · rw [List.getElem?_append_right (by rw [Sn.len]; omega), List.getElem?_append_right (by rw [Sn.len, Sn.len]; omega), Sn.len, Sn.len]
    rw [← hv]; congr 1; omega
  · omega
end Go.Proofs.Ytplpaipmkpjgfaa
