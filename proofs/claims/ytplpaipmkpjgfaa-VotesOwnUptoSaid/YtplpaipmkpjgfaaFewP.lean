/- VotesFew, plain: how many places show what. -/
import Derived.Test.YtplpaipmkpjgfaaAwakeA
namespace Go.Proofs.Ytplpaipmkpjgfaa
open Go.RowKit
set_option linter.unusedVariables false
def tot (S : Nat → Sn) (n : Nat) : List Wr → Nat
  | [] => 0
  | x :: r => cnt S n x + tot S n r
def big (S : Nat → Sn) (n : Nat) (k : Int) : List Wr → Nat
  | [] => 0
  | x :: r => (if k ≤ (cnt S n x : Int) then 1 else 0) + big S n k r
def exa (S : Nat → Sn) (n : Nat) (k : Int) : List Wr → Nat
  | [] => 0
  | x :: r => (if (cnt S n x : Int) = k then 1 else 0) + exa S n k r
def shardN (S : Nat → Sn) : Nat → Nat
  | 0 => 0
  | n + 1 => if (S n).kind = 2 then shardN S n + 1 else shardN S n
theorem shardN_le (S : Nat → Sn) : ∀ n, shardN S n ≤ n
  | 0 => Nat.le_refl _
  | n + 1 => by have := shardN_le S n; unfold shardN; split <;> omega
section
variable (S : Nat → Sn) (n : Nat) (k : Int)
theorem tot_snoc (l : List Wr) (x : Wr) : tot S n (l ++ [x]) = tot S n l + cnt S n x := by
  induction l with
  | nil => simp [tot]
  | cons y r ih => simp only [List.cons_append, tot, ih]; omega
theorem big_snoc (l : List Wr) (x : Wr) : big S n k (l ++ [x]) = big S n k l + (if k ≤ (cnt S n x : Int) then 1 else 0) := by
  induction l with
  | nil => simp [big]
  | cons y r ih => simp only [List.cons_append, big, ih]; omega
theorem exa_snoc (l : List Wr) (x : Wr) : exa S n k (l ++ [x]) = exa S n k l + (if (cnt S n x : Int) = k then 1 else 0) := by
  induction l with
  | nil => simp [exa]
  | cons y r ih => simp only [List.cons_append, exa, ih]; omega
theorem big_le (l : List Wr) : big S n k l ≤ l.length := by
  induction l with
  | nil => exact Nat.le_refl _
  | cons y r ih => simp only [big, List.length_cons]; split <;> omega
theorem exa_big (l : List Wr) : exa S n k l ≤ big S n k l := by
  induction l with
  | nil => exact Nat.le_refl _
  | cons y r ih => simp only [big, exa]; split <;> split <;> omega
theorem tot_big (hk : 1 ≤ k) (l : List Wr) : k * (big S n k l : Int) + ((big S n k l : Int) - exa S n k l) ≤ (tot S n l : Int) := by
  induction l with
  | nil => simp [tot, big, exa]
  | cons y r ih =>
    simp only [tot, big, exa]
    have h1 := exa_big S n k r
    by_cases h : k ≤ (cnt S n y : Int)
    · rw [if_pos h]
      have e : k * ((1 + big S n k r : Nat) : Int) = k + k * (big S n k r : Int) := by rw [Int.natCast_add, Int.mul_add]; simp
      by_cases g : (cnt S n y : Int) = k
      · rw [if_pos g, e]; push_cast; omega
      · rw [if_neg g, e]; push_cast; omega
    · rw [if_neg h, if_neg (by omega)]
      have : 0 ≤ (cnt S n y : Int) := Int.natCast_nonneg _
      push_cast
      simp only [Int.zero_add]
      omega
end
theorem tot_next (S : Nat → Sn) (n : Nat) : ∀ l : List Wr, l.Nodup → tot S (n + 1) l = tot S n l + (if (S n).kind = 2 ∧ wrOf (S n) ∈ l then 1 else 0)
  | [], _ => by simp [tot]
  | y :: r, hn => by
    rw [List.nodup_cons] at hn
    have ih := tot_next S n r hn.2
    simp only [tot, ih, cnt_next]
    by_cases h : shB (S n) y = true
    · obtain ⟨h1, h2⟩ := (shB_iff _ _).1 h
      rw [if_pos h, if_neg (fun c => hn.1 (h2 ▸ c.2)), if_pos ⟨h1, by rw [h2]; simp⟩]; omega
    · rw [if_neg h]
      have : ((S n).kind = 2 ∧ wrOf (S n) ∈ y :: r) ↔ ((S n).kind = 2 ∧ wrOf (S n) ∈ r) := by
        refine ⟨fun c => ⟨c.1, ?_⟩, fun c => ⟨c.1, List.mem_cons_of_mem _ c.2⟩⟩
        rcases List.mem_cons.1 c.2 with e | e
        · exact absurd ((shB_iff _ _).2 ⟨c.1, e⟩) h
        · exact e
      simp only [this]; omega
theorem tot_zero (S : Nat → Sn) (l : List Wr) : tot S 0 l = 0 := by
  induction l with
  | nil => rfl
  | cons y r ih => simp only [tot, ih]; rfl
theorem shardN_next (S : Nat → Sn) (n : Nat) : shardN S (n + 1) = if (S n).kind = 2 then shardN S n + 1 else shardN S n := rfl
theorem tot_all (S : Nat → Sn) (l : List Wr) (hl : l.Nodup) : ∀ n, (∀ i, i < n → (S i).kind = 2 → wrOf (S i) ∈ l) → tot S n l = shardN S n
  | 0, _ => tot_zero S l
  | n + 1, h => by
    have ih := tot_all S l hl n fun i hi => h i (by omega)
    rw [tot_next S n l hl, ih, shardN_next]
    by_cases hk : (S n).kind = 2
    · rw [if_pos ⟨hk, h n (by omega) hk⟩, if_pos hk]
    · rw [if_neg (fun c => hk c.1), if_neg hk, Nat.add_zero]
theorem tot_grp (S : Nat → Sn) (n : Nat) : tot S n (grpL S n) = shardN S n := by
  refine tot_all S _ (grpL_nodup S n) n fun i hi hk => ((isGrp_grpL S n).2 _).2 fun e => ?_
  have : (i : Int) ∈ plc S (wrOf (S i)) n := by
    unfold plc
    exact List.mem_map.2 ⟨i, List.mem_filter.2 ⟨List.mem_range.2 hi, (shB_iff _ _).2 ⟨hk, rfl⟩⟩, rfl⟩
  rw [e] at this
  exact absurd this List.not_mem_nil
/-- No three count; two only where K = M, each at K places just. -/
theorem few_big {S : Nat → Sn} {n : Nat} {k m b : Int} (hf : fitsB k m b n = true) : big S n k (grpL S n) ≤ 2 ∧ (big S n k (grpL S n) = 2 → k = m ∧ exa S n k (grpL S n) = 2) := by
  unfold fitsB fitsR at hf
  simp only [Bool.and_eq_true, decide_eq_true_eq] at hf
  have h1 := tot_big S n k (by omega) (grpL S n)
  have h2 := exa_big S n k (grpL S n)
  have h3 := shardN_le S n
  rw [tot_grp] at h1
  obtain ⟨B, hB⟩ : ∃ B, big S n k (grpL S n) = B := ⟨_, rfl⟩
  obtain ⟨E, hE⟩ : ∃ E, exa S n k (grpL S n) = E := ⟨_, rfl⟩
  rw [hB, hE] at h1
  rw [hB, hE] at h2
  rw [hB, hE]
  have hB2 : B ≤ 2 := by
    rcases Nat.lt_or_ge 2 B with h | h
    · have : k * 3 ≤ k * (B : Int) := Int.mul_le_mul_of_nonneg_left (by omega) (by omega)
      omega
    · exact h
  refine ⟨hB2, fun e => ?_⟩
  subst e
  omega
/-- Of those that count the first. -/
theorem top_big {S : Nat → Sn} {n : Nat} {k : Int} : ∀ l : List Wr, topW S n k l = none ↔ big S n k l = 0
  | [] => by simp [topW, big]
  | y :: r => by
    have ih := top_big (S := S) (n := n) (k := k) r
    unfold topW at *
    rw [List.find?_cons]
    simp only [big]
    by_cases h : k ≤ (cnt S n y : Int)
    · rw [decide_eq_true h, if_pos h]; simp
    · rw [decide_eq_false h, if_neg h, Nat.zero_add]; exact ih
theorem top_first {S : Nat → Sn} {n : Nat} {k : Int} {x : Wr} : ∀ l : List Wr, l.Pairwise (fun x y => olderW y x) → topW S n k l = some x → k ≤ (cnt S n x : Int) ∧ ∀ y, y ∈ l → k ≤ (cnt S n y : Int) → ¬ olderW x y
  | [], _, h => by simp [topW] at h
  | y :: r, hp, h => by
    rw [List.pairwise_cons] at hp
    have ih := top_first (S := S) (n := n) (k := k) (x := x) r hp.2
    unfold topW at h ih
    rw [List.find?_cons] at h
    by_cases g : k ≤ (cnt S n y : Int)
    · rw [decide_eq_true g] at h
      injection h with h
      subst h
      refine ⟨g, fun z hz _ ho => ?_⟩
      rcases List.mem_cons.1 hz with e | e
      · subst e; exact olderW_irr _ ho
      · exact olderW_irr _ (olderW_tr ho (hp.1 z e))
    · rw [decide_eq_false g] at h
      obtain ⟨h1, h2⟩ := ih h
      refine ⟨h1, fun z hz hk => ?_⟩
      rcases List.mem_cons.1 hz with e | e
      · subst e; exact absurd hk g
      · exact h2 z e hk
theorem stale_cnt (S : Nat → Sn) (ep ct sz : Int) : ∀ n, (staleP S 1 ep ct sz n).length + cnt S n (ep, ct, sz) = n
  | 0 => rfl
  | n + 1 => by
    have ih := stale_cnt S ep ct sz n
    rw [staleP_next, cnt_next]
    have : staleB 1 ep ct sz (S n) = !shB (S n) (ep, ct, sz) := by unfold staleB shB; simp
    rw [this]
    cases h : shB (S n) (ep, ct, sz)
    · simp; omega
    · simp; omega
theorem judge_bad {S : Nat → Sn} {n : Nat} {k m b : Int} (h : fitsB k m b n = false) : judgeP S n k m b = (3, (0, 0, 0), []) := by unfold judgeP; rw [h]; rfl
theorem judge_top {S : Nat → Sn} {n : Nat} {k m b : Int} {x : Wr} (h : fitsB k m b n = true) (ht : topW S n k (grpL S n) = some x) : judgeP S n k m b = (1, x, plc S x n) := by unfold judgeP; rw [h, if_pos rfl, ht]
theorem judge_none {S : Nat → Sn} {n : Nat} {k m b : Int} (h : fitsB k m b n = true) (ht : topW S n k (grpL S n) = none) : (judgeP S n k m b).1 ≠ 1 := by
  unfold judgeP; rw [h, if_pos rfl, ht]
  show (if _ then _ else _ : Int × Wr × List Int).1 ≠ 1
  split <;> simp
end Go.Proofs.Ytplpaipmkpjgfaa
