/- Contracts of the library's Compare at float32, Or at int, and of the order's comparison. -/
import Derived.Test.YtknpcbekaodlkaaBoardA
import Derived.Shelf.SlSortCmp.NoneTotal
namespace Go.Proofs.Ytknpcbekaodlkaa
open Go.RowKit Go.Sort
set_option linter.unusedVariables false
/-- How two scores stand to each other. -/
def cmpF (a b : Nat) : Int := if a < b then -1 else if b < a then 1 else 0
def orI (x y : Int) : Int := if x = 0 then y else x
theorem ord32 {a b : Nat} (ha : a < inf32) (hb : b < inf32) : FloatKind.f32.format.order a b = some (if a < b then .lt else if a = b then .eq else .gt) := order32 ha hb
theorem isNaN_any (w : World) (a : Nat) (ha : a < inf32) : Calls Try.prog 65 #[.float .f32 a] w fun e w' => e = .returned (.bool false) ∧ w' = w := by
  have q : (FloatKind.f32.format.order a a != some .eq) = false := by rw [ord32 ha ha, if_neg (Nat.lt_irrefl _), if_pos rfl]; rfl
  clear ha
  go_enter Try.func65, Try.ntmps65
  go_wp2
  go_ret
  exact ⟨rfl, rfl⟩
set_option maxHeartbeats 400000 in
theorem compare_any (w : World) (a b : Nat) (ha : a < inf32) (hb : b < inf32) : Calls Try.prog 53 #[.float .f32 a, .float .f32 b] w fun e w' => e = .returned (.int .i64 (cmpF a b)) ∧ w' = w := by
  have o := ord32 ha hb
  have HA := Hd.mk ha
  have HB := Hd.mk hb
  rcases Nat.lt_trichotomy a b with h | h | h
  · have hc : cmpF a b = -1 := if_pos h
    have q1 : (FloatKind.f32.format.order a b == some .lt) = true := by rw [o, if_pos h]; rfl
    rw [hc]
    clear o ha hb h hc
    go_enter Try.func53, Try.ntmps53
    go_wp2_with fail
    refine (isNaN_any _ a HA.out).mono ?_
    rintro e w1 ⟨rfl, rfl⟩
    go_wp2_with fail
    refine (isNaN_any _ b HB.out).mono ?_
    rintro e w1 ⟨rfl, rfl⟩
    go_wp2
    go_ret
    exact ⟨rfl, rfl⟩
  · subst h
    have hc : cmpF a a = 0 := by unfold cmpF; rw [if_neg (Nat.lt_irrefl _), if_neg (Nat.lt_irrefl _)]
    have q1 : (FloatKind.f32.format.order a a == some .lt) = false := by rw [o, if_neg (Nat.lt_irrefl _), if_pos rfl]; rfl
    have q2 : (FloatKind.f32.format.order a a == some .gt) = false := by rw [o, if_neg (Nat.lt_irrefl _), if_pos rfl]; rfl
    rw [hc]
    clear o ha hb hc HB
    go_enter Try.func53, Try.ntmps53
    go_wp2_with fail
    refine (isNaN_any _ a HA.out).mono ?_
    rintro e w1 ⟨rfl, rfl⟩
    go_wp2_with fail
    refine (isNaN_any _ a HA.out).mono ?_
    rintro e w1 ⟨rfl, rfl⟩
    go_wp2
    go_ret
    exact ⟨rfl, rfl⟩
  · have hc : cmpF a b = 1 := by unfold cmpF; rw [if_neg (by omega), if_pos h]
    have q1 : (FloatKind.f32.format.order a b == some .lt) = false := by rw [o, if_neg (by omega), if_neg (by omega)]; rfl
    have q2 : (FloatKind.f32.format.order a b == some .gt) = true := by rw [o, if_neg (by omega), if_neg (by omega)]; rfl
    rw [hc]
    clear o ha hb h hc
    go_enter Try.func53, Try.ntmps53
    go_wp2_with fail
    refine (isNaN_any _ a HA.out).mono ?_
    rintro e w1 ⟨rfl, rfl⟩
    go_wp2_with fail
    refine (isNaN_any _ b HB.out).mono ?_
    rintro e w1 ⟨rfl, rfl⟩
    go_wp2
    go_ret
    exact ⟨rfl, rfl⟩
set_option maxHeartbeats 400000 in
theorem or_any (w : World) (g : Nat) (x y : Int) (h0 : w.cell? ⟨g, 0, none⟩ = some (.int .i64 x)) (h1 : w.cell? ⟨g, 1, none⟩ = some (.int .i64 y)) :
    Calls Try.prog 52 #[.slice (some ⟨g, 0, none⟩) 2 2] w fun e w' => e = .returned (.int .i64 (orI x y)) ∧ w' = w := by
  go_enter Try.func52, Try.ntmps52
  go_wp2_with fail
  by_cases hx : x = 0
  · have hq : (x != 0) = false := by simp [hx]
    have HR : Hd (orI x y = y) := ⟨if_pos hx⟩
    clear hx
    go_loop [8] (fun i => ∃ k : Nat, k ≤ 2 ∧ i = .int .i64 (k : Int) ∧ (2 ≤ k → y = 0)) (fun i => 2 - (intOf i).toNat)
    case atStart => exact ⟨0, by omega, rfl, by omega⟩
    case round =>
      obtain ⟨k, hk, rfl, hy⟩ := hrel
      have HY := Hd.mk hy
      clear hy
      have hk3 : k = 0 ∨ k = 1 ∨ k = 2 := by omega
      rcases hk3 with rfl | rfl | rfl
      · go_wp2
        go_round
        case rel => exact ⟨1, by omega, rfl, by omega⟩
        case measure => simp [intOf]
      · by_cases hy : y = 0
        · have hq2 : (y != 0) = false := by simp [hy]
          have HZ := Hd.mk hy
          clear hy
          go_wp2
          go_round
          case rel => exact ⟨2, by omega, rfl, fun _ => HZ.out⟩
          case measure => simp [intOf]
        · have hq2 : (y != 0) = true := by simp [hy]
          clear hy
          go_wp2
          go_ret
          exact ⟨by rw [HR.out]; rfl, rfl⟩
      · go_wp2
        go_ret
        exact ⟨by rw [HR.out, HY.out (by omega)]; rfl, rfl⟩
  · have hq : (x != 0) = true := by simp [hx]
    have HR : Hd (orI x y = x) := ⟨if_neg hx⟩
    clear hx
    go_loop [8] (fun i => i = .int .i64 0) (fun i => 2 - (intOf i).toNat)
    case atStart => rfl
    case round =>
      subst hrel
      go_wp2
      go_ret
      exact ⟨by rw [HR.out]; rfl, rfl⟩
/-- What the order's comparison answers. -/
def cfO (ss : List Nat) (x y : Nat) : Int := orI (cmpF (ss.getD y 0) (ss.getD x 0)) ((x : Int) - (y : Int))
set_option maxRecDepth 20000 in
set_option maxHeartbeats 1000000 in
theorem closure_any (w : World) (c b h n cap : Nat) (ss : List Nat) (L : ∀ s ∈ ss, s ≤ one32) (hn : ss.length = n) (hs : n ≤ 255)
    (hc : w.cell? ⟨c, 0, none⟩ = some (.pointer (some ⟨b, 0, none⟩))) (hb : w.cell? ⟨b, 1, none⟩ = some (.slice (some ⟨h, 0, none⟩) n cap))
    (x y : Nat) (hx : x < n) (hy : y < n) (hcx : w.cell? ⟨h, x, none⟩ = some (.float .f32 (ss.getD x 0))) (hcy : w.cell? ⟨h, y, none⟩ = some (.float .f32 (ss.getD y 0))) :
    Calls Try.prog 51 #[.int .i64 (x : Int), .int .i64 (y : Int), .pointer (some ⟨c, 0, none⟩)] w fun e w' => e = .returned (.int .i64 (cfO ss x y)) ∧ ∃ q os', w' = grow (w.drewN q) os' := by
  have lx : ss.getD x 0 < inf32 := Nat.lt_of_le_of_lt (by rw [List.getD_eq_getElem?_getD, List.getElem?_eq_getElem (by omega)]; exact L _ (List.getElem_mem _)) one_inf32
  have ly : ss.getD y 0 < inf32 := Nat.lt_of_le_of_lt (by rw [List.getD_eq_getElem?_getD, List.getElem?_eq_getElem (by omega)]; exact L _ (List.getElem_mem _)) one_inf32
  have hcf : cfO ss x y = orI (cmpF (ss.getD y 0) (ss.getD x 0)) ((x : Int) - (y : Int)) := rfl
  rw [hcf]
  clear L hn hcf
  generalize ss.getD x 0 = u at *
  generalize ss.getD y 0 = v at *
  have hxi : (x : Int) < (n : Int) := by omega
  have hyi : (y : Int) < (n : Int) := by omega
  have HC := Hd.mk (compare_any w.drew v u ly lx)
  clear lx ly
  generalize cmpF v u = z at *
  go_enter Try.func51, Try.ntmps51
  go_wp2_with fail
  refine wp_region_still_tail 18 (by kernel_rfl) (by kernel_rfl) ?_
  simp only [List.take_succ_cons, List.take_zero, List.drop_succ_cons, List.drop_zero]
  repeat still_step
  still_call HC.out
  repeat still_step
  refine wpStill_nil ?_
  change wpList _ _ _ _ _ w.drew
  go_wp2_with fail
  refine (or_any _ _ z ((x : Int) - (y : Int)) (by simp) (by simp)).mono ?_
  rintro e w1 ⟨rfl, rfl⟩
  go_wp2
  go_ret
  exact ⟨rfl, 1, #[.cells #[.int .i64 z, .int .i64 ((x : Int) - (y : Int))] 3], rfl⟩
end Go.Proofs.Ytknpcbekaodlkaa
