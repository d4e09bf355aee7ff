/- VotesHidden, plain: places of which some are hidden. -/
import Derived.Test.YtplpaipmkpjgfaaMoveP
namespace Go.Proofs.Ytplpaipmkpjgfaa
open Go.RowKit
set_option linter.unusedVariables false
/-- What bare makes of a place. -/
def bareS (S : Nat → Sn) (n : Nat) (i : Nat) : Sn := if i < n ∧ (S i).kind = 2 then shW (wrOf (S i)) else kindSn 1
theorem bareS_cases (S : Nat → Sn) (n i : Nat) : (∃ x, bareS S n i = shW x) ∨ bareS S n i = kindSn 1 := by
  unfold bareS; split
  · exact .inl ⟨_, rfl⟩
  · exact .inr rfl
theorem hid_shW (x : Wr) : hidB (shW x) = false := rfl
theorem hid_kind {k : Int} (h : k ≠ 1) (g : k ≠ 2) : hidB (kindSn k) = true := by unfold hidB kindSn; simp [h, g]
theorem bareS_hid (S : Nat → Sn) (n i : Nat) : hidB (bareS S n i) = false := by
  rcases bareS_cases S n i with ⟨x, e⟩ | e <;> rw [e] <;> rfl
/-- P is F, some places hidden. -/
def Hides (P F : Nat → Sn) (N : Nat) : Prop := ∀ i, i < N → P i = F i ∨ hidB (P i) = true
theorem Hides.refl (F : Nat → Sn) (N : Nat) : Hides F F N := fun i hi => .inl rfl
theorem Hides.upd {P F : Nat → Sn} {N : Nat} (h : Hides P F N) (a : Nat) {y : Sn} (hy : hidB y = true) : Hides (upd P a y) F N := fun i hi => by
  by_cases e : i = a
  · subst e; rw [upd_at]; exact .inr hy
  · rw [upd_ne P y e]; exact h i hi
section
variable {P F : Nat → Sn} {N : Nat}
theorem Hides.cnt (h : Hides P F N) (hF : ∀ i, hidB (F i) = false) (x : Wr) : ∀ q, q ≤ N → cnt P q x ≤ cnt F q x ∧ cnt F q x ≤ cnt P q x + hidN P q
  | 0, _ => by simp [Go.Proofs.Ytplpaipmkpjgfaa.cnt, plc, hidN]
  | q + 1, hq => by
    have ih := Hides.cnt h hF x q (by omega)
    rw [cnt_next, cnt_next, hidN_next]
    rcases h q (by omega) with e | e
    · rw [e, hF q]
      cases shB (F q) x <;> simp <;> omega
    · rw [shB_hid e, if_pos e]
      cases shB (F q) x <;> simp <;> omega
theorem hidF (hF : ∀ i, hidB (F i) = false) : hidN F N = 0 := hidN_zero N hF
theorem mem_grp {S : Nat → Sn} {n : Nat} {x : Wr} : x ∈ grpL S n ↔ 0 < cnt S n x := ((isGrp_grpL S n).2 x).trans plc_ne_iff
theorem grp_pair (S : Nat → Sn) (n : Nat) : (grpL S n).Pairwise (fun x y => olderW y x) := (isGrp_grpL S n).1
/-- What counts, by its own words. -/
theorem top_is {S : Nat → Sn} {n : Nat} {k : Int} {l : List Wr} {x : Wr} (hl : l.Pairwise (fun x y => olderW y x)) (hx : x ∈ l) (hk : k ≤ (cnt S n x : Int)) (h : ∀ y, y ∈ l → k ≤ (cnt S n y : Int) → ¬ olderW x y) : topW S n k l = some x := by
  cases ht : topW S n k l with
  | none =>
    exfalso
    unfold topW at ht
    have := List.find?_eq_none.1 ht x hx
    simp at this
    omega
  | some z =>
    obtain ⟨h1, h2⟩ := top_first l hl ht
    have hz : z ∈ l := List.mem_of_find?_eq_some ht
    by_cases e : x = z
    · rw [e]
    · exact absurd (olderW_tot e (h z hz h1)) (h2 x hx hk)
theorem top_none_of {S : Nat → Sn} {n : Nat} {k : Int} {l : List Wr} (h : ∀ y, y ∈ l → ¬ k ≤ (cnt S n y : Int)) : topW S n k l = none := by
  unfold topW
  refine List.find?_eq_none.2 fun y hy => ?_
  simp only [decide_eq_true_eq]
  exact h y hy
theorem top_none_all {S : Nat → Sn} {n : Nat} {k : Int} (hk : 1 ≤ k) (h : topW S n k (grpL S n) = none) (y : Wr) : ¬ k ≤ (cnt S n y : Int) := fun hc => by
  have := List.find?_eq_none.1 h y (mem_grp.2 (by omega))
  simp at this
  omega
theorem top_mem {S : Nat → Sn} {n : Nat} {k : Int} {l : List Wr} {x : Wr} (h : topW S n k l = some x) : x ∈ l := List.mem_of_find?_eq_some h
/-- The verdict of all, that of some hidden. -/
theorem hide_some (h : Hides P F N) (hF : ∀ i, hidB (F i) = false) {k : Int} (hk : 1 ≤ k) {x : Wr} (hx : topW P N k (grpL P N) = some x) : k ≤ (cnt F N x : Int) ∧ ∃ v, topW F N k (grpL F N) = some v ∧ ¬ olderW v x := by
  have h1 := (top_first _ (grp_pair P N) hx).1
  have h2 := (h.cnt hF x N (Nat.le_refl _)).1
  have h3 : k ≤ (cnt F N x : Int) := by omega
  refine ⟨h3, ?_⟩
  cases ht : topW F N k (grpL F N) with
  | none => exact absurd h3 (top_none_all hk ht x)
  | some v => exact ⟨v, rfl, (top_first _ (grp_pair F N) ht).2 x (mem_grp.2 (by omega)) h3⟩
theorem hide_none (h : Hides P F N) (hF : ∀ i, hidB (F i) = false) {k : Int} (hk : 1 ≤ k) (hx : topW F N k (grpL F N) = none) : topW P N k (grpL P N) = none :=
  top_none_of fun y hy hc => top_none_all hk hx y (by have := (h.cnt hF y N (Nat.le_refl _)).1; omega)
theorem hide_told (h : Hides P F N) (hF : ∀ i, hidB (F i) = false) {k : Int} (hk : 1 ≤ k) {v : Wr} (hv : topW F N k (grpL F N) = some v) (hc : k + (hidN P N : Int) ≤ (cnt F N v : Int)) : topW P N k (grpL P N) = some v := by
  have h1 := (h.cnt hF v N (Nat.le_refl _)).2
  refine top_is (grp_pair P N) (mem_grp.2 (by omega)) (by omega) fun y hy hky => ?_
  have h2 := (h.cnt hF y N (Nat.le_refl _)).1
  exact (top_first _ (grp_pair F N) hv).2 y (mem_grp.2 (by omega)) (by omega)
theorem cnt_fillO (S : Nat → Sn) (n : Nat) {x y : Wr} (h : x ≠ y) : cnt (fillS S (shW x)) n y = cnt S n y := by unfold cnt; rw [plc_fillW S n h]
theorem mem_poss {S : Nat → Sn} {n : Nat} {k m b : Int} (hf : fitsB k m b n = true) {x : Wr} (hx : x ∈ grpL S n) (ht : topW (fillS S (shW x)) n k (grpL S n) = some x) : x ∈ (possP S n k m b).1 := by
  rw [← refposs_eq hf]
  exact List.mem_filter.2 ⟨hx, (okW_iff hf hx).2 ht⟩
theorem hide_poss (h : Hides P F N) (hF : ∀ i, hidB (F i) = false) {k m b : Int} (hf : fitsB k m b N = true) (hk : 1 ≤ k) {v : Wr} (hv : topW F N k (grpL F N) = some v) (hc : 0 < cnt P N v) : v ∈ (possP P N k m b).1 := by
  have h1 := (h.cnt hF v N (Nat.le_refl _)).2
  have h0 := top_first _ (grp_pair F N) hv
  have hm := mem_grp.2 hc
  refine mem_poss hf hm (top_is (grp_pair P N) hm (by rw [cnt_fillW]; have := h0.1; omega) fun y hy hky => ?_)
  by_cases e : v = y
  · subst e; exact olderW_irr _
  · rw [cnt_fillO P N e] at hky
    have h2 := (h.cnt hF y N (Nat.le_refl _)).1
    exact h0.2 y (mem_grp.2 (by omega)) (by omega)
/-- Does all that was hidden stand elsewhere still, as far as q? -/
def elseB (P F : Nat → Sn) (N : Nat) : Nat → Bool
  | 0 => true
  | q + 1 => if hidB (P q) = true ∧ (F q).kind = 2 ∧ cnt P N (wrOf (F q)) = 0 then false else elseB P F N q
theorem elseB_next (q : Nat) : elseB P F N (q + 1) = if hidB (P q) = true ∧ (F q).kind = 2 ∧ cnt P N (wrOf (F q)) = 0 then false else elseB P F N q := rfl
theorem elseB_all : ∀ q, elseB P F N q = true → ∀ i, i < q → hidB (P i) = true → (F i).kind = 2 → cnt P N (wrOf (F i)) ≠ 0
  | 0, _, i, hi => by omega
  | q + 1, h, i, hi => by
    rw [elseB_next] at h
    split at h
    · exact absurd h (by simp)
    · rename_i hn
      intro h1 h2 h3
      by_cases e : i = q
      · subst e; exact hn ⟨h1, h2, h3⟩
      · exact elseB_all q h i (by omega) h1 h2 h3
theorem cnt_pos_at {S : Nat → Sn} {x : Wr} : ∀ n, 0 < cnt S n x → ∃ i, i < n ∧ shB (S i) x = true
  | 0, h => by simp [cnt, plc] at h
  | n + 1, h => by
    rw [cnt_next] at h
    split at h
    · rename_i e; exact ⟨n, by omega, e⟩
    · obtain ⟨i, hi, e⟩ := cnt_pos_at n h; exact ⟨i, by omega, e⟩
theorem cnt_pos_of {S : Nat → Sn} {x : Wr} {i : Nat} : ∀ n, i < n → shB (S i) x = true → 0 < cnt S n x
  | 0, h, _ => by omega
  | n + 1, h, e => by
    rw [cnt_next]
    by_cases q : i = n
    · subst q; rw [if_pos e]; omega
    · have := cnt_pos_of n (by omega) e; split <;> omega
theorem else_pos (h : Hides P F N) (he : elseB P F N N = true) {v : Wr} (hv : 0 < cnt F N v) : 0 < cnt P N v := by
  obtain ⟨i, hi, e⟩ := cnt_pos_at N hv
  rcases h i hi with g | g
  · exact cnt_pos_of N hi (by rw [g]; exact e)
  · obtain ⟨h1, h2⟩ := (shB_iff _ _).1 e
    have := elseB_all N he i hi g h1
    rw [h2] at this
    omega
end
theorem judge_absent {S : Nat → Sn} {n : Nat} {k m b : Int} (hf : fitsB k m b n = true) (ht : topW S n k (grpL S n) = none) : judgeP S n k m b = if (hidN S n : Int) ≤ m then (2, (0, 0, 0), []) else (3, (0, 0, 0), []) := by
  unfold judgeP; rw [hf, if_pos rfl, ht]
theorem poss_absent {S : Nat → Sn} {n : Nat} {k m b : Int} (hf : fitsB k m b n = true) (ht : topW S n k (grpL S n) = none) : (possP S n k m b).2 = true := by
  unfold possP; rw [if_pos hf, poss_none, ht]; rfl
end Go.Proofs.Ytplpaipmkpjgfaa
