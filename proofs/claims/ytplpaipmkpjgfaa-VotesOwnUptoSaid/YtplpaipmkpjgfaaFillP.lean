/- The reference's Possible, plain: hidden places filled with what is asked, judged: that is what is possible. -/
import Derived.Test.YtplpaipmkpjgfaaJudgesWalk
namespace Go.Proofs.Ytplpaipmkpjgfaa
open Go.RowKit
set_option linter.unusedVariables false
def shW (x : Wr) : Sn := ⟨2, 0, { hdr0 with epoch := x.1, count := x.2.1, size := x.2.2 }, .slice none 0 0⟩
def shN : Sn := ⟨1, 0, hdr0, .slice none 0 0⟩
def fillS (S : Nat → Sn) (y : Sn) (i : Nat) : Sn := if hidB (S i) = true then y else S i
theorem shB_hid {x : Sn} (h : hidB x = true) (r : Wr) : shB x r = false := by
  cases g : shB x r
  · rfl
  · have := ((shB_iff _ _).1 g).1
    unfold hidB at h; simp at h; omega
theorem shB_shW (x r : Wr) : shB (shW x) r = decide (x = r) := by
  rw [Bool.eq_iff_iff, shB_iff, decide_eq_true_iff]
  exact ⟨fun h => h.2, fun h => ⟨rfl, h⟩⟩
theorem shB_shN (r : Wr) : shB shN r = false := by
  cases g : shB shN r
  · rfl
  · have := ((shB_iff _ _).1 g).1
    exact absurd this (by decide)
section
variable (S : Nat → Sn) (n : Nat)
theorem plc_fillN (r : Wr) : plc (fillS S shN) r n = plc S r n := by
  unfold plc
  congr 1
  refine List.filter_congr fun i _ => ?_
  unfold fillS
  by_cases h : hidB (S i) = true
  · rw [if_pos h, shB_shN, shB_hid h]
  · rw [if_neg h]
theorem plc_fillW {x r : Wr} (hx : x ≠ r) : plc (fillS S (shW x)) r n = plc S r n := by
  unfold plc
  congr 1
  refine List.filter_congr fun i _ => ?_
  unfold fillS
  by_cases h : hidB (S i) = true
  · rw [if_pos h, shB_shW, shB_hid h, decide_eq_false hx]
  · rw [if_neg h]
theorem cnt_fillW (x : Wr) : cnt (fillS S (shW x)) n x = cnt S n x + hidN S n := by
  unfold cnt
  induction n with
  | zero => rfl
  | succ n ih =>
    rw [plc_next, plc_next, hidN_next]
    by_cases h : hidB (S n) = true
    · have e : fillS S (shW x) n = shW x := if_pos h
      rw [e, if_pos h, shB_shW, decide_eq_true rfl, if_pos rfl, shB_hid h, if_neg (by decide), List.length_append, ih]; simp; omega
    · have e : fillS S (shW x) n = S n := if_neg h
      rw [e, if_neg h]
      split
      · rw [List.length_append, List.length_append, ih]; simp; omega
      · exact ih
theorem hidN_zero {T : Nat → Sn} (h : ∀ i, hidB (T i) = false) : hidN T n = 0 := by
  unfold hidN
  rw [List.length_eq_zero_iff, List.filter_eq_nil_iff]
  intro i _
  rw [h i]; decide
theorem hidB_fill {y : Sn} (hy : hidB y = false) (i : Nat) : hidB (fillS S y i) = false := by
  unfold fillS
  by_cases h : hidB (S i) = true
  · rw [if_pos h, hy]
  · rw [if_neg h]; simpa using h
theorem grpL_fillN : grpL (fillS S shN) n = grpL S n :=
  (IsGrp.eq (S := fillS S shN) (l := grpL S n) ⟨(isGrp_grpL S n).1, fun x => by rw [plc_fillN]; exact (isGrp_grpL S n).2 x⟩).symm
theorem grpL_fillW {x : Wr} (hx : x ∈ grpL S n) : grpL (fillS S (shW x)) n = grpL S n := by
  refine (IsGrp.eq (S := fillS S (shW x)) (l := grpL S n) ⟨(isGrp_grpL S n).1, fun y => ?_⟩).symm
  by_cases h : x = y
  · subst h
    refine ⟨fun _ => ?_, fun _ => hx⟩
    have h1 := ((isGrp_grpL S n).2 x).1 hx
    have h2 := cnt_fillW S n x
    unfold cnt at h2
    intro e
    rw [e] at h2
    have : plc S x n = [] := List.eq_nil_of_length_eq_zero (by simp at h2; omega)
    exact h1 this
  · rw [plc_fillW S n h]; exact (isGrp_grpL S n).2 y
theorem topW_fillN (K : Int) (l : List Wr) : topW (fillS S shN) n K l = topW S n K l := by
  unfold topW cnt; simp only [plc_fillN]
end
/-- Is the writing the verdict of the filling with it? -/
def okW (S : Nat → Sn) (n : Nat) (k m b : Int) (x : Wr) : Bool := let r := judgeP (fillS S (shW x)) n k m b; (r.1 == 1) && decide (r.2.1 = x)
theorem okW_iff {S : Nat → Sn} {n : Nat} {k m b : Int} (hf : fitsB k m b n = true) {x : Wr} (hx : x ∈ grpL S n) : okW S n k m b x = true ↔ topW (fillS S (shW x)) n k (grpL S n) = some x := by
  unfold okW judgeP
  rw [if_pos hf, grpL_fillW S n hx]
  rcases topW (fillS S (shW x)) n k (grpL S n) with _ | y
  · simp only [reduceCtorEq, iff_false]
    split <;> simp
  · simp
theorem topW_head {S : Nat → Sn} {n : Nat} {k : Int} {x y : Wr} {r : List Wr} : topW (fillS S (shW x)) n k (y :: r) = some x ↔ if x = y then k ≤ (cnt S n y : Int) + hidN S n else ¬ k ≤ (cnt S n y : Int) ∧ topW (fillS S (shW x)) n k r = some x := by
  unfold topW
  rw [List.find?_cons]
  by_cases h : x = y
  · subst h
    rw [if_pos rfl, cnt_fillW]
    by_cases g : k ≤ (cnt S n x : Int) + hidN S n
    · rw [decide_eq_true (by omega : k ≤ ((cnt S n x + hidN S n : Nat) : Int))]; simp [g]
    · rw [decide_eq_false (by omega : ¬ k ≤ ((cnt S n x + hidN S n : Nat) : Int))]
      simp only [g, iff_false]
      intro e
      have := List.find?_some e
      simp only [decide_eq_true_eq, cnt_fillW] at this
      omega
  · rw [if_neg h]
    have : cnt (fillS S (shW x)) n y = cnt S n y := by unfold cnt; rw [plc_fillW S n h]
    rw [this]
    by_cases g : k ≤ (cnt S n y : Int)
    · rw [decide_eq_true g]; simp [g]; exact fun e => h e.symm
    · rw [decide_eq_false g]; simp [g]
theorem filt_poss (S : Nat → Sn) (n : Nat) (k : Int) : ∀ l : List Wr, l.Nodup → l.filter (fun x => decide (topW (fillS S (shW x)) n k l = some x)) = (possW S n k l).1
  | [], _ => rfl
  | y :: r, hn => by
    rw [List.nodup_cons] at hn
    have ih := filt_poss S n k r hn.2
    unfold possW
    have hy : topW (fillS S (shW y)) n k (y :: r) = some y ↔ k ≤ (cnt S n y : Int) + hidN S n := by rw [topW_head, if_pos rfl]
    have hr : ∀ x ∈ r, (topW (fillS S (shW x)) n k (y :: r) = some x ↔ ¬ k ≤ (cnt S n y : Int) ∧ topW (fillS S (shW x)) n k r = some x) := fun x hx => by
      rw [topW_head, if_neg (fun e : x = y => hn.1 (e ▸ hx))]
    rw [List.filter_cons]
    by_cases g : k ≤ (cnt S n y : Int)
    · have h1 : r.filter (fun x => decide (topW (fillS S (shW x)) n k (y :: r) = some x)) = [] := by
        rw [List.filter_eq_nil_iff]
        intro x hx
        rw [decide_eq_true_iff, hr x hx]
        exact fun h => h.1 g
      rw [h1, if_pos g]
      by_cases g2 : k ≤ (cnt S n y : Int) + hidN S n
      · rw [if_pos (decide_eq_true (hy.2 g2)), if_pos g2]
      · rw [if_neg (by rw [decide_eq_true_iff]; exact fun h => g2 (hy.1 h)), if_neg g2]
    · have h1 : r.filter (fun x => decide (topW (fillS S (shW x)) n k (y :: r) = some x)) = (possW S n k r).1 := by
        rw [← ih]
        refine List.filter_congr fun x hx => ?_
        rw [Bool.eq_iff_iff, decide_eq_true_iff, decide_eq_true_iff, hr x hx]
        exact ⟨fun h => h.2, fun h => ⟨g, h⟩⟩
      rw [h1, if_neg g]
      by_cases g2 : k ≤ (cnt S n y : Int) + hidN S n
      · rw [if_pos (decide_eq_true (hy.2 g2)), if_pos g2]; rfl
      · rw [if_neg (by rw [decide_eq_true_iff]; exact fun h => g2 (hy.1 h)), if_neg g2]; rfl
theorem poss_none (S : Nat → Sn) (n : Nat) (k : Int) : ∀ l : List Wr, (possW S n k l).2 = (topW S n k l).isNone
  | [] => rfl
  | y :: r => by
    have ih := poss_none S n k r
    show _ = ((y :: r).find? fun x => decide (k ≤ (cnt S n x : Int))).isNone
    rw [List.find?_cons]
    by_cases g : k ≤ (cnt S n y : Int)
    · rw [decide_eq_true g]; unfold possW; rw [if_pos g]; rfl
    · rw [decide_eq_false g]; unfold possW; rw [if_neg g]; exact ih
theorem grpL_nodup (S : Nat → Sn) (n : Nat) : (grpL S n).Nodup := (isGrp_grpL S n).1.imp fun {a b} h => fun e => by subst e; exact olderW_irr _ h
/-- What the reference's Possible makes is what is possible. -/
theorem refposs_eq {S : Nat → Sn} {n : Nat} {k m b : Int} (hf : fitsB k m b n = true) : ((grpL S n).filter (okW S n k m b), (judgeP (fillS S shN) n k m b).1 == 2) = possP S n k m b := by
  have hm : 0 ≤ m := by
    unfold fitsB fitsR at hf
    simp only [Bool.and_eq_true, decide_eq_true_eq] at hf
    omega
  unfold possP
  rw [if_pos hf]
  refine Prod.ext ?_ ?_
  · show (grpL S n).filter (okW S n k m b) = _
    rw [← filt_poss S n k (grpL S n) (grpL_nodup S n)]
    refine List.filter_congr fun x hx => ?_
    rw [Bool.eq_iff_iff, decide_eq_true_iff, okW_iff hf hx]
  · show ((judgeP (fillS S shN) n k m b).1 == 2) = _
    rw [poss_none]
    unfold judgeP
    rw [if_pos hf, grpL_fillN, topW_fillN, hidN_zero n (hidB_fill S (y := shN) rfl)]
    rcases topW S n k (grpL S n) with _ | y
    · rw [if_pos (by exact hm)]; rfl
    · rfl
end Go.Proofs.Ytplpaipmkpjgfaa
