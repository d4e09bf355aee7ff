/- Whole numbers as floats of 64 bits; turned sums of whole numbers. Plain. -/
import Derived.Test.YtknpcbekaodlkaaTurnC
import Derived.Test.YtknpcbekaodlkaaRefTurn
import Derived.Test.YtknpcbekaodlkaaTellP
namespace Go.Proofs.Ytknpcbekaodlkaa
open Ieee
set_option linter.unusedVariables false
theorem c1074_ex : ∃ n : Nat, n = 1074 := ⟨_, rfl⟩
noncomputable def c1074 : Nat := Classical.choose c1074_ex
theorem c1074_eq : c1074 = 1074 := Classical.choose_spec c1074_ex
/-- One, in least units. -/
noncomputable def uu : Nat := 2 ^ c1074
/-- The float of a whole number. -/
noncomputable def wz (z : Int) : Nat := wd (z * (uu : Int))
theorem uu_pos : 0 < uu := Nat.two_pow_pos _
theorem wz_abs (z : Int) : (z * (uu : Int)).natAbs = z.natAbs * uu := by rw [Int.natAbs_mul, Int.natAbs_natCast]
theorem wz_has {z : Int} (h : z.natAbs < 2 ^ 53) : ∃ q, sv 52 q = z.natAbs * uu ∧ q < inf64 := by
  obtain ⟨q, hq⟩ := sv_has z.natAbs c1074 h
  refine ⟨q, hq, ?_⟩
  refine lt_inf_of (x := 53 + c1074) (by rw [c1074_eq]; omega) ?_
  rw [hq, Nat.pow_add]
  exact Nat.mul_lt_mul_of_pos_right h (Nat.two_pow_pos _)
theorem wz_rg {z : Int} (h : z.natAbs < 2 ^ 53) : rg 52 (z * (uu : Int)).natAbs 0 < inf64 := by
  obtain ⟨q, h1, h2⟩ := wz_has h
  rw [wz_abs, ← h1, rg_of_sv]; exact h2
theorem wz_fin {z : Int} (h : z.natAbs < 2 ^ 53) : FinS (wz z) := wd_fin (wz_rg h)
theorem wz_not {z : Int} (h : z.natAbs < 2 ^ 53) : wz z ≠ ms64 := wd_not _ (wz_rg h)
theorem vl_wz {z : Int} (h : z.natAbs < 2 ^ 53) : vl (wz z) = z * (uu : Int) := by
  obtain ⟨q, h1, h2⟩ := wz_has h
  have hu := uu_pos
  unfold wz wd
  rw [Nat.min_eq_left (Nat.le_of_lt (wz_rg h)), vl_word _ _ (wz_rg h), wz_abs, ← h1, rg_of_sv]
  unfold svs
  rw [h1]
  by_cases hz : z * (uu : Int) < 0
  · rw [decide_eq_true hz, if_pos rfl]
    have := wz_abs z
    omega
  · rw [decide_eq_false hz, if_neg (by decide)]
    have := wz_abs z
    omega
theorem wz_add {a b : Int} (ha : a.natAbs < 2 ^ 53) (hb : b.natAbs < 2 ^ 53) : wd (vl (wz a) + vl (wz b)) = wz (a + b) := by
  rw [vl_wz ha, vl_wz hb, ← Int.add_mul]; rfl
theorem wz_sub {a b : Int} (ha : a.natAbs < 2 ^ 53) (hb : b.natAbs < 2 ^ 53) : wd (vl (wz a) - vl (wz b)) = wz (a - b) := by
  rw [vl_wz ha, vl_wz hb, ← Int.sub_mul]; rfl
theorem wz_zero : wz 0 = 0 := by
  unfold wz wd
  rw [Int.zero_mul]
  have : rg 52 (0 : Int).natAbs 0 = 0 := rg_null 0
  rw [this, Nat.zero_min]
  rfl
theorem floatOfInt_wz {z : Int} : floatOfInt .f64 z = wz z := by
  show double.nearest (decide (z < 0)) z.natAbs 0 = _
  rw [nearest_eq double _ _ 0 0 (by rw [lp64_eq]; decide), fb64_eq, lp64_eq, inf64_eq]
  unfold wz wd
  rw [wz_abs]
  have e1 : ((0 : Int) - -1074 + ((0 : Nat) : Int)).toNat = c1074 := by rw [c1074_eq]; rfl
  rw [e1]
  have e2 : decide (z < 0) = decide (z * (uu : Int) < 0) := by
    have hu := uu_pos
    congr 1
    exact propext ⟨fun h => Int.mul_neg_of_neg_of_pos h (by omega), fun h => by
      rcases Int.lt_or_le z 0 with h2 | h2
      · exact h2
      · have := Int.mul_nonneg h2 (show (0 : Int) ≤ (uu : Int) by omega); omega⟩
  rw [e2]
  rfl
/-- The turned sums of whole numbers. -/
def iRe (zs : List Int) (st : Nat) : Nat → Int
  | 0 => 0
  | t + 1 => if way4 st t = 0 then iRe zs st t + zs.getD t 0 else if way4 st t = 2 then iRe zs st t - zs.getD t 0 else iRe zs st t
def iIm (zs : List Int) (st : Nat) : Nat → Int
  | 0 => 0
  | t + 1 => if way4 st t = 1 then iIm zs st t + zs.getD t 0 else if way4 st t = 3 then iIm zs st t - zs.getD t 0 else iIm zs st t
noncomputable def wzs (zs : List Int) : List Nat := zs.map wz
theorem wzs_len (zs : List Int) : (wzs zs).length = zs.length := List.length_map _
theorem wzs_get (zs : List Int) (k : Nat) : (wzs zs).getD k 0 = wz (zs.getD k 0) := by
  unfold wzs
  rw [List.getD_eq_getElem?_getD, List.getD_eq_getElem?_getD, List.getElem?_map]
  rcases zs[k]? with _ | z
  · exact wz_zero.symm
  · rfl
/-- No number is greater than 2^21. -/
def Small (zs : List Int) : Prop := ∀ k, (zs.getD k 0).natAbs ≤ 2097152
theorem iRe_abs {zs : List Int} (h : Small zs) (st t : Nat) : (iRe zs st t).natAbs ≤ t * 2097152 := by
  unfold Small at h
  generalize 2097152 = S at *
  induction t with
  | zero => simp [iRe]
  | succ t ih =>
    have := h t
    unfold iRe
    rw [Nat.add_mul, Nat.one_mul]
    split
    · omega
    · split <;> omega
theorem iIm_abs {zs : List Int} (h : Small zs) (st t : Nat) : (iIm zs st t).natAbs ≤ t * 2097152 := by
  unfold Small at h
  generalize 2097152 = S at *
  induction t with
  | zero => simp [iIm]
  | succ t ih =>
    have := h t
    unfold iIm
    rw [Nat.add_mul, Nat.one_mul]
    split
    · omega
    · split <;> omega
theorem small53 {a t : Nat} (h : a ≤ t * 2097152) (ht : t ≤ 4096) : a < 2 ^ 53 := by
  have : t * 2097152 ≤ 4096 * 2097152 := Nat.mul_le_mul_right _ ht
  omega
theorem tRe_wz {zs : List Int} (h : Small zs) (st t : Nat) (ht : t ≤ 4096) : tRe (wzs zs) st t = wz (iRe zs st t) := by
  induction t with
  | zero => exact wz_zero.symm
  | succ t ih =>
    have hz := h t
    have ha := small53 (iRe_abs h st t) (by omega)
    have ih := ih (by omega)
    unfold tRe iRe
    rw [ih, wzs_get]
    split
    · exact wz_add ha (by omega)
    · split
      · exact wz_sub ha (by omega)
      · rfl
theorem tIm_wz {zs : List Int} (h : Small zs) (st t : Nat) (ht : t ≤ 4096) : tIm (wzs zs) st t = wz (iIm zs st t) := by
  induction t with
  | zero => exact wz_zero.symm
  | succ t ih =>
    have hz := h t
    have ha := small53 (iIm_abs h st t) (by omega)
    have ih := ih (by omega)
    unfold tIm iIm
    rw [ih, wzs_get]
    split
    · exact wz_add ha (by omega)
    · split
      · exact wz_sub ha (by omega)
      · rfl
/-- Sums, number by number. -/
def addI (x y : List Int) : List Int := (List.range x.length).map fun k => x.getD k 0 + y.getD k 0
theorem addI_get {x y : List Int} (h : x.length = y.length) (k : Nat) : (addI x y).getD k 0 = x.getD k 0 + y.getD k 0 := by
  unfold addI
  rw [List.getD_eq_getElem?_getD, List.getElem?_map]
  rcases Nat.lt_or_ge k x.length with hk | hk
  · rw [List.getElem?_range hk]; rfl
  · rw [List.getElem?_eq_none (by simpa using hk), List.getD_eq_getElem?_getD, List.getElem?_eq_none hk, List.getD_eq_getElem?_getD, List.getElem?_eq_none (by omega)]; rfl
theorem iRe_add {x y : List Int} (h : x.length = y.length) (st t : Nat) : iRe (addI x y) st t = iRe x st t + iRe y st t := by
  induction t with
  | zero => rfl
  | succ t ih =>
    unfold iRe
    rw [ih, addI_get h]
    split
    · omega
    · split <;> omega
theorem iIm_add {x y : List Int} (h : x.length = y.length) (st t : Nat) : iIm (addI x y) st t = iIm x st t + iIm y st t := by
  induction t with
  | zero => rfl
  | succ t ih =>
    unfold iIm
    rw [ih, addI_get h]
    split
    · omega
    · split <;> omega
theorem way4_zero (t : Nat) : way4 0 t = 0 := by unfold way4; rw [Nat.zero_mul]
theorem iIm_zero (zs : List Int) (t : Nat) : iIm zs 0 t = 0 := by
  induction t with
  | zero => rfl
  | succ t ih => unfold iIm; rw [way4_zero, if_neg (by decide), if_neg (by decide), ih]
theorem iRe_zero (zs : List Int) (t : Nat) : iRe zs 0 (t + 1) = iRe zs 0 t + zs.getD t 0 := by
  show (if way4 0 t = 0 then _ else _) = _
  rw [way4_zero, if_pos rfl]
/-- What is of at most 2^40 may be turned. -/
theorem okT_vl {p : Nat} (hp : FinS p) (e : Nat) (he : e = 1114) (h : (vl p).natAbs ≤ 2 ^ e) : okT p = true := by
  have h1 := sv_bin 52 1062
  have e1 : (1062 + 1) * 2 ^ 52 = 4787326403894837248 := by decide
  have e2 : 52 + 1062 = e := by omega
  rw [e1, e2] at h1
  have f1 : FinS 4787326403894837248 := ⟨by decide, by decide⟩
  have f2 : FinS 14010698440749613056 := ⟨by decide, by decide⟩
  have a1 : vl 4787326403894837248 = ((2 ^ e : Nat) : Int) := by
    unfold vl; rw [show 4787326403894837248 % ms64 = 4787326403894837248 by decide, decide_eq_false (by decide)]; unfold svs; rw [if_neg (by decide), h1]
  have a2 : vl 14010698440749613056 = -((2 ^ e : Nat) : Int) := by
    unfold vl; rw [show 14010698440749613056 % ms64 = 4787326403894837248 by decide, decide_eq_true (by decide)]; unfold svs; rw [if_pos rfl, h1]
  have o1 := order_fin hp.word f2.word
  have o2 := order_fin hp.word f1.word
  rw [fb64_eq] at o1 o2
  have o1' : FloatKind.f64.format.order p 14010698440749613056 = some (compare (vl p) (vl 14010698440749613056)) := o1
  have o2' : FloatKind.f64.format.order p 4787326403894837248 = some (compare (vl p) (vl 4787326403894837248)) := o2
  rw [a2] at o1'
  rw [a1] at o2'
  clear he e2 h1 a1 a2 o1 o2
  generalize 2 ^ e = E at *
  unfold okT geT leT
  rw [o1', o2']
  simp only [compare, compareOfLessAndEq]
  have c1 : ¬ vl p < -(E : Int) := by omega
  rw [if_neg c1]
  by_cases c2 : vl p = -(E : Int)
  · rw [if_pos c2]
    by_cases c3 : vl p < (E : Int)
    · rw [if_pos c3]; rfl
    · rw [if_neg c3, if_pos (by omega)]; rfl
  · rw [if_neg c2]
    by_cases c3 : vl p < (E : Int)
    · rw [if_pos c3]; rfl
    · rw [if_neg c3, if_pos (by omega)]; rfl
theorem okT_wz {z : Int} (h : z.natAbs ≤ 1099511627776) : okT (wz z) = true := by
  refine okT_vl (wz_fin (by omega)) (40 + c1074) (by rw [c1074_eq]) ?_
  rw [vl_wz (by omega), wz_abs, Nat.pow_add]
  exact Nat.mul_le_mul_right _ h
theorem okT_wzs {zs : List Int} (h : Small zs) : (wzs zs).all okT = true := by
  rw [List.all_eq_true]
  intro x hx
  obtain ⟨z, hz, rfl⟩ := List.mem_map.1 hx
  obtain ⟨k, hk, rfl⟩ := List.getElem_of_mem hz
  have := h k
  rw [List.getD_eq_getElem?_getD, List.getElem?_eq_getElem hk, Option.getD_some] at this
  exact okT_wz (by omega)
theorem turnP_wz {zs : List Int} (h : Small zs) (hl : zs.length ≤ 4096) (N : Int) : turnP (wzs zs) N = (wz (iRe zs (N % 4).toNat zs.length), wz (iIm zs (N % 4).toNat zs.length), 0) := by
  unfold turnP
  rw [wzs_len, if_neg (by omega), if_neg (by rw [okT_wzs h]; decide), tRe_wz h _ _ hl, tIm_wz h _ _ hl]
end Go.Proofs.Ytknpcbekaodlkaa
