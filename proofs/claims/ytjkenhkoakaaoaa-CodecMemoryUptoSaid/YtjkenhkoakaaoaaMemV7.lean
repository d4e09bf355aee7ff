/- Rows picked out by their numbers, laid into a list, and written over. Plain. (Turned from s30/MemV.) -/
import Derived.Test.YtjkenhkoakaaoaaMemU7
namespace Go.Proofs.Ytjkenhkoakaaoaa
open Go.RowKit
set_option linter.unusedVariables false
theorem map_some_get {α β : Type} {I : List α} {us : List β} {f : α → Option β} (h : I.map f = us.map some) {k : Nat} {u : β} (hu : us[k]? = some u) : ∃ i, I[k]? = some i ∧ f i = some u := by
  have e : (I.map f)[k]? = (us.map some)[k]? := by rw [h]
  rw [List.getElem?_map, List.getElem?_map, hu] at e
  cases hI : I[k]? with
  | none => rw [hI] at e; cases e
  | some i => rw [hI] at e; simp only [Option.map_some, Option.some.injEq] at e; exact ⟨i, rfl, e⟩
abbrev Row := Nat × Value × List Value
/-- How long the k-th picked row is. -/
def nOf (RL : List Row) (I : List Nat) (k : Nat) : Nat := ((I[k]?.bind fun i => RL[i]?).map fun x => x.2.2.length).getD 0
theorem nOf_le {RL : List Row} {I : List Nat} {B : Nat} (h : ∀ i ∈ I, ∀ x, RL[i]? = some x → x.2.2.length ≤ B) (k : Nat) : nOf RL I k ≤ B := by
  unfold nOf
  cases hI : I[k]? with
  | none => exact Nat.zero_le _
  | some i =>
    simp only [Option.bind_some]
    cases hx : RL[i]? with
    | none => exact Nat.zero_le _
    | some x => exact h i (List.mem_of_getElem? hI) x hx
/-- The picked rows. -/
def pick (RL : List Row) (J : List Nat) : List Row := J.filterMap fun j => RL[j]?
theorem pick_get {RL : List Row} : ∀ {J : List Nat}, (J.all fun j => RL[j]?.isSome) = true → ∀ (k : Nat) (y : Row), (pick RL J)[k]? = some y → ∃ j, J[k]? = some j ∧ RL[j]? = some y
  | [], _, k, y, h => by simp [pick] at h
  | j :: J, hs, k, y, h => by
    rw [List.all_cons, Bool.and_eq_true] at hs
    obtain ⟨x, hx⟩ := Option.isSome_iff_exists.1 hs.1
    have e : pick RL (j :: J) = x :: pick RL J := by unfold pick; rw [List.filterMap_cons, hx]
    rw [e] at h
    cases k with
    | zero => simp only [List.getElem?_cons_zero, Option.some.injEq] at h; subst h; exact ⟨j, rfl, hx⟩
    | succ k => simp only [List.getElem?_cons_succ] at h ⊢; exact pick_get hs.2 k y h
section
variable {w0 w w' : World} {RL : List Row} {X : List Nat} {BL : List (Nat × Array Value × Nat)} {us : List Value} {I : List Nat}
theorem us_rows (hus : I.map (fun i => RL[i]?.map (·.2.1)) = us.map some) {k : Nat} {u : Value} (hu : us[k]? = some u) : ∃ i x, I[k]? = some i ∧ RL[i]? = some x ∧ u = x.2.1 := by
  obtain ⟨i, hi, hf⟩ := map_some_get hus hu
  cases hx : RL[i]? with
  | none => rw [hx] at hf; cases hf
  | some x => rw [hx] at hf; simp only [Option.map_some, Option.some.injEq] at hf; exact ⟨i, x, hi, hx, hf.symm⟩
theorem us_mem (hus : I.map (fun i => RL[i]?.map (·.2.1)) = us.map some) : ∀ u ∈ us, ∃ i x, i ∈ I ∧ RL[i]? = some x ∧ u = x.2.1 := fun u hu => by
  obtain ⟨k, hk⟩ := List.getElem?_of_mem hu
  obtain ⟨i, x, hi, h⟩ := us_rows hus hk
  exact ⟨i, x, List.mem_of_getElem? hi, h⟩
theorem Ms.fil {E e : Nat} (H : Ms w0 w RL X BL) (hI : I.Nodup) (hus : I.map (fun i => RL[i]?.map (·.2.1)) = us.map some) (he : I.map (fun i => RL[i]?.map (·.1)) = I.map fun _ => some e) (hx : us.length ≤ maxLen) (F : Nat → Nat → Value) :
    Fil (w.alloc (.cells us.toArray E)) w0.heap.size E e (.slice (some ⟨w.heap.size, 0, none⟩) us.length us.length) us (nOf RL I) F (fun _ _ => False) := by
  refine Fil.of_bag H.bag rfl H.be.size rfl hx I hI fun k u hu => ?_
  obtain ⟨i, x, hi, hr, e1⟩ := us_rows hus hu
  refine ⟨i, x, hi, hr, e1, ?_, ?_⟩
  · have e2 : (I.map (fun i => RL[i]?.map (·.1)))[k]? = (I.map fun _ => some e)[k]? := by rw [he]
    rw [List.getElem?_map, List.getElem?_map, hi] at e2
    simp only [Option.map_some, Option.some.injEq, hr] at e2
    exact e2
  · unfold nOf; rw [hi]; simp only [Option.bind_some, hr, Option.map_some, Option.getD_some]
theorem Ms.mark (H : Ms w0 w RL X BL) (J : List Nat) (c : Chg (ablk us) w w') (hus : I.map (fun i => RL[i]?.map (·.2.1)) = us.map some) (hJ : J.Nodup) (hIJ : ∀ j ∈ J, j ∉ I) (hs : (J.all fun j => RL[j]?.isSome) = true) : Ms w0 w' (pick RL J) X BL :=
  H.chg I J c (us_mem hus) hJ hIJ (pick_get hs)
theorem Ms.took (H : Ms w0 w RL X BL) {ga : Nat} (c : Chg [ga] w w') (hg : ga ∈ X) (hb : ∀ p ∈ BL, p.1 ≠ ga) : Ms w0 w' RL X BL := by
  have := H.turn (X' := X) (NR := []) c (fun y hy => by rw [List.mem_singleton.1 hy]; exact hg) (fun p hp hm => hb p hp (List.mem_singleton.1 hm)) (fun x hx => ⟨Nat.lt_of_lt_of_le (H.bag.ltX x hx) c.size, .inl hx⟩) (fun p hp => (H.bx p hp).2) (fun r h => absurd h List.not_mem_nil) List.Pairwise.nil (fun r h => absurd h List.not_mem_nil)
  rwa [List.append_nil] at this
end
end Go.Proofs.Ytjkenhkoakaaoaa
