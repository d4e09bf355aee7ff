/- Contracts of the library's Compare and Or at int, of the groups' comparison, and of the sort of groups. -/
import Derived.Test.YtplpaipmkpjgfaaStaleB
import Derived.Test.YtplpaipmkpjgfaaShelf
import Derived.Deep.RegionLaw
namespace Go.Proofs.Ytplpaipmkpjgfaa
open Go.RowKit Go.Sort Go.Shelf
set_option linter.unusedVariables false
set_option linter.unusedSimpArgs false
def cmpI (a b : Int) : Int := if a < b then -1 else if b < a then 1 else 0
def or3 (x y z : Int) : Int := if x ≠ 0 then x else if y ≠ 0 then y else z
theorem isNaN_int (w : World) (a : Int) : Calls Try.prog 50 #[.int .i64 a] w fun e w' => e = .returned (.bool false) ∧ w' = w := by
  have q : (a != a) = false := by simp
  go_enter Try.func50, Try.ntmps50
  go_wp2
  go_ret
  exact ⟨rfl, rfl⟩
set_option maxHeartbeats 400000 in
theorem compare_int (w : World) (a b : Int) : Calls Try.prog 42 #[.int .i64 a, .int .i64 b] w fun e w' => e = .returned (.int .i64 (cmpI a b)) ∧ w' = w := by
  rcases Int.lt_trichotomy a b with h | h | h
  · have hc : cmpI a b = -1 := if_pos h
    rw [hc]
    clear hc
    go_enter Try.func42, Try.ntmps42
    go_wp2_with fail
    refine (isNaN_int _ a).mono ?_
    rintro e w1 ⟨rfl, rfl⟩
    go_wp2_with fail
    refine (isNaN_int _ b).mono ?_
    rintro e w1 ⟨rfl, rfl⟩
    go_wp2
    go_ret
    exact ⟨rfl, rfl⟩
  · subst h
    have hc : cmpI a a = 0 := by unfold cmpI; rw [if_neg (by omega), if_neg (by omega)]
    have hq : ¬ a < a := by omega
    rw [hc]
    clear hc
    go_enter Try.func42, Try.ntmps42
    go_wp2_with fail
    refine (isNaN_int _ a).mono ?_
    rintro e w1 ⟨rfl, rfl⟩
    go_wp2_with fail
    refine (isNaN_int _ a).mono ?_
    rintro e w1 ⟨rfl, rfl⟩
    go_wp2
    go_ret
    exact ⟨rfl, rfl⟩
  · have hc : cmpI a b = 1 := by unfold cmpI; rw [if_neg (by omega), if_pos h]
    have hq : ¬ a < b := by omega
    rw [hc]
    clear hc
    go_enter Try.func42, Try.ntmps42
    go_wp2_with fail
    refine (isNaN_int _ a).mono ?_
    rintro e w1 ⟨rfl, rfl⟩
    go_wp2_with fail
    refine (isNaN_int _ b).mono ?_
    rintro e w1 ⟨rfl, rfl⟩
    go_wp2
    go_ret
    exact ⟨rfl, rfl⟩
set_option maxHeartbeats 400000 in
theorem or_int (w : World) (g : Nat) (x y z : Int) (h0 : w.cell? ⟨g, 0, none⟩ = some (.int .i64 x)) (h1 : w.cell? ⟨g, 1, none⟩ = some (.int .i64 y)) (h2 : w.cell? ⟨g, 2, none⟩ = some (.int .i64 z)) :
    Calls Try.prog 41 #[.slice (some ⟨g, 0, none⟩) 3 3] w fun e w' => e = .returned (.int .i64 (or3 x y z)) ∧ w' = w := by
  have HR : Hd (∀ r, (x ≠ 0 → r = x) → (x = 0 → y ≠ 0 → r = y) → (x = 0 → y = 0 → r = z) → r = or3 x y z) := ⟨fun r a b c => by
    unfold or3
    by_cases hx : x = 0
    · rw [if_neg (by simp [hx])]
      by_cases hy : y = 0
      · rw [if_neg (by simp [hy])]; exact c hx hy
      · rw [if_pos hy]; exact b hx hy
    · rw [if_pos hx]; exact a hx⟩
  go_enter Try.func41, Try.ntmps41
  go_wp2_with fail
  go_loop [8] (fun i => ∃ k : Nat, k ≤ 3 ∧ i = .int .i64 (k : Int) ∧ (1 ≤ k → x = 0) ∧ (2 ≤ k → y = 0) ∧ (3 ≤ k → z = 0)) (fun i => 3 - (intOf i).toNat)
  case atStart => exact ⟨0, by omega, rfl, by omega, by omega, by omega⟩
  case round =>
    obtain ⟨k, hk, rfl, hx, hy, hz⟩ := hrel
    have HX := Hd.mk (And.intro hx (And.intro hy hz))
    clear hx hy hz
    have hk3 : k = 0 ∨ k = 1 ∨ k = 2 ∨ k = 3 := by omega
    rcases hk3 with rfl | rfl | rfl | rfl
    · rcases q : (x != 0) with _ | _
      · go_wp2
        go_round
        case rel => exact ⟨1, by omega, rfl, fun _ => by simpa using q, by omega, by omega⟩
        case measure => simp [intOf]
      · go_wp2
        go_ret
        exact ⟨congrArg (fun r => Ending.returned (.int .i64 r)) (HR.out x (fun _ => rfl) (fun h => absurd h (by simpa using q)) (fun h => absurd h (by simpa using q))), rfl⟩
    · rcases q : (y != 0) with _ | _
      · go_wp2
        go_round
        case rel => exact ⟨2, by omega, rfl, fun _ => HX.out.1 (by omega), fun _ => by simpa using q, by omega⟩
        case measure => simp [intOf]
      · go_wp2
        go_ret
        have hx := HX.out.1 (by omega)
        exact ⟨congrArg (fun r => Ending.returned (.int .i64 r)) (HR.out y (fun h => absurd hx h) (fun _ _ => rfl) (fun _ h => absurd h (by simpa using q))), rfl⟩
    · rcases q : (z != 0) with _ | _
      · go_wp2
        go_round
        case rel => exact ⟨3, by omega, rfl, fun _ => HX.out.1 (by omega), fun _ => HX.out.2.1 (by omega), fun _ => by simpa using q⟩
        case measure => simp [intOf]
      · go_wp2
        go_ret
        exact ⟨congrArg (fun r => Ending.returned (.int .i64 r)) (HR.out z (fun h => absurd (HX.out.1 (by omega)) h) (fun _ h => absurd (HX.out.2.1 (by omega)) h) (fun _ _ => rfl)), rfl⟩
    · go_wp2
      go_ret
      exact ⟨congrArg (fun r => Ending.returned (.int .i64 r)) (HR.out 0 (fun h => absurd (HX.out.1 (by omega)) h) (fun _ h => absurd (HX.out.2.1 (by omega)) h) (fun _ _ => (HX.out.2.2 (by omega)).symm)), rfl⟩
/-- A writing: epoch, count, size. -/
abbrev Wr := Int × Int × Int
def encW (x : Wr) : List Value := [.int .i64 x.1, .int .i64 x.2.1, .int .i64 x.2.2, .slice none 0 0]
/-- What the groups' comparison answers. -/
def cfW (x y : Wr) : Int := or3 (cmpI y.1 x.1) (cmpI y.2.1 x.2.1) (cmpI y.2.2 x.2.2)
/-- Is the first writing older than the second one? -/
def olderW (x y : Wr) : Prop := x.1 < y.1 ∨ (x.1 = y.1 ∧ (x.2.1 < y.2.1 ∨ (x.2.1 = y.2.1 ∧ x.2.2 < y.2.2)))
theorem cfW_neg (x y : Wr) : cfW x y < 0 ↔ olderW y x := by
  unfold cfW or3 cmpI olderW
  repeat' split
  all_goals omega
theorem ltW (x y : Wr) : ltOf cfW x y = true ↔ olderW y x := by unfold ltOf; rw [decide_eq_true_iff, cfW_neg]
theorem ltWf (x y : Wr) : ltOf cfW x y = false ↔ ¬ olderW y x := by unfold ltOf; rw [decide_eq_false_iff_not, cfW_neg]
theorem swoW : SWO (ltOf cfW) where
  irrefl x := by rw [ltWf]; unfold olderW; omega
  trans x y z h1 h2 := by rw [ltW] at *; unfold olderW at *; omega
  ntrans x y z h1 h2 := by rw [ltWf] at *; unfold olderW at *; omega
set_option maxRecDepth 20000 in
set_option maxHeartbeats 2000000 in
theorem closureW (x y : Wr) (w : World) : Calls Try.prog 40 #[.agg (encW x).toArray, .agg (encW y).toArray] w fun e w' => e = .returned (.int .i64 (cfW x y)) ∧ ∃ q os', w' = grow (w.drewN q) os' := by
  obtain ⟨x1, x2, x3⟩ := x
  obtain ⟨y1, y2, y3⟩ := y
  have hcf : cfW (x1, x2, x3) (y1, y2, y3) = or3 (cmpI y1 x1) (cmpI y2 x2) (cmpI y3 x3) := rfl
  rw [hcf, show (encW (x1, x2, x3)).toArray = #[.int .i64 x1, .int .i64 x2, .int .i64 x3, .slice none 0 0] from rfl, show (encW (y1, y2, y3)).toArray = #[.int .i64 y1, .int .i64 y2, .int .i64 y3, .slice none 0 0] from rfl]
  clear hcf
  have H0 : Hd (((w.alloc (.cells #[.int .i64 x1, .int .i64 x2, .int .i64 x3, .slice none 0 0] 62)).alloc (.cells #[.int .i64 y1, .int .i64 y2, .int .i64 y3, .slice none 0 0] 62)) = grow w #[.cells #[.int .i64 x1, .int .i64 x2, .int .i64 x3, .slice none 0 0] 62, .cells #[.int .i64 y1, .int .i64 y2, .int .i64 y3, .slice none 0 0] 62]) := ⟨by rw [alloc_eq_grow, alloc_eq_grow, grow_grow]; rfl⟩
  go_enter Try.func40, Try.ntmps40
  go_wp2_with fail
  obtain ⟨w1, hw1⟩ : ∃ w1, (w.alloc (.cells #[.int .i64 x1, .int .i64 x2, .int .i64 x3, .slice none 0 0] 62)).alloc (.cells #[.int .i64 y1, .int .i64 y2, .int .i64 y3, .slice none 0 0] 62) = w1 := ⟨_, rfl⟩
  have HC1 := Hd.mk (compare_int w1.drew y1 x1)
  have HC2 := Hd.mk (compare_int w1.drew y2 x2)
  have HC3 := Hd.mk (compare_int w1.drew y3 x3)
  have hg0 : w1.heap[w.heap.size]? = some (.cells #[.int .i64 x1, .int .i64 x2, .int .i64 x3, .slice none 0 0] 62 (0, 0)) := by rw [← hw1, Go.Deep.blk_alloc_lt _ _ _ (by simp)]; exact heap_alloc_new _ _
  have hg1 : w1.heap[w.heap.size + 1]? = some (.cells #[.int .i64 y1, .int .i64 y2, .int .i64 y3, .slice none 0 0] 62 (0, 0)) := by
    have := heap_alloc_new (w.alloc (.cells #[.int .i64 x1, .int .i64 x2, .int .i64 x3, .slice none 0 0] 62)) (.cells #[.int .i64 y1, .int .i64 y2, .int .i64 y3, .slice none 0 0] 62)
    rw [World.size_alloc, hw1] at this
    exact this
  have a0 : w1.cell? ⟨w.heap.size, 0, none⟩ = some (.int .i64 x1) := by rw [cell_of_row _ _ _ _ _ _ hg0]; rfl
  have a1 : w1.cell? ⟨w.heap.size, 1, none⟩ = some (.int .i64 x2) := by rw [cell_of_row _ _ _ _ _ _ hg0]; rfl
  have a2 : w1.cell? ⟨w.heap.size, 2, none⟩ = some (.int .i64 x3) := by rw [cell_of_row _ _ _ _ _ _ hg0]; rfl
  have b0 : w1.cell? ⟨w.heap.size + 1, 0, none⟩ = some (.int .i64 y1) := by rw [cell_of_row _ _ _ _ _ _ hg1]; rfl
  have b1 : w1.cell? ⟨w.heap.size + 1, 1, none⟩ = some (.int .i64 y2) := by rw [cell_of_row _ _ _ _ _ _ hg1]; rfl
  have b2 : w1.cell? ⟨w.heap.size + 1, 2, none⟩ = some (.int .i64 y3) := by rw [cell_of_row _ _ _ _ _ _ hg1]; rfl
  have HG : Hd (w1 = grow w #[.cells #[.int .i64 x1, .int .i64 x2, .int .i64 x3, .slice none 0 0] 62, .cells #[.int .i64 y1, .int .i64 y2, .int .i64 y3, .slice none 0 0] 62]) := ⟨by rw [← hw1]; exact H0.out⟩
  rw [hw1]
  clear hg0 hg1 hw1 H0
  refine wp_region_still_tail 19 (by kernel_rfl) (by kernel_rfl) ?_
  simp only [List.take_succ_cons, List.take_zero, List.drop_succ_cons, List.drop_zero]
  repeat still_step
  still_call HC1.out
  repeat still_step
  still_call HC2.out
  repeat still_step
  still_call HC3.out
  repeat still_step
  refine wpStill_nil ?_
  change wpList _ _ _ _ _ w1.drew
  go_wp2_with fail
  refine (or_int _ _ (cmpI y1 x1) (cmpI y2 x2) (cmpI y3 x3) (by simp) (by simp) (by simp)).mono ?_
  rintro e w2 ⟨rfl, rfl⟩
  go_wp2
  go_ret
  refine ⟨rfl, 1, #[.cells #[.int .i64 x1, .int .i64 x2, .int .i64 x3, .slice none 0 0] 62, .cells #[.int .i64 y1, .int .i64 y2, .int .i64 y3, .slice none 0 0] 62, .cells #[.int .i64 (cmpI y1 x1), .int .i64 (cmpI y2 x2), .int .i64 (cmpI y3 x3)] 3], ?_⟩
  rw [HG.out, alloc_eq_grow]
  rfl
end Go.Proofs.Ytplpaipmkpjgfaa
