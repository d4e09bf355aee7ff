/- How many places stand ahead of a place says where it stands. -/
import Derived.Test.YtknpcbekaodlkaaBoardO
namespace Go.Proofs.Ytknpcbekaodlkaa
open Go.RowKit
def beatP (ss : List Nat) (j i : Nat) : Bool := decide (ss.getD i 0 < ss.getD j 0) || (decide (ss.getD j 0 = ss.getD i 0) && decide (j < i))
theorem beatP_iff (ss : List Nat) (j i : Nat) : beatP ss j i = true ↔ ss.getD i 0 < ss.getD j 0 ∨ (ss.getD j 0 = ss.getD i 0 ∧ j < i) := by
  unfold beatP; rw [Bool.or_eq_true, Bool.and_eq_true, decide_eq_true_iff, decide_eq_true_iff, decide_eq_true_iff]
/-- How many of the first k places stand ahead of place i. -/
def aheadP (ss : List Nat) (k i : Nat) : Nat := ((List.range k).filter fun j => beatP ss j i).length
theorem aheadP_next (ss : List Nat) (k i : Nat) : aheadP ss (k + 1) i = if beatP ss k i = true then aheadP ss k i + 1 else aheadP ss k i := by
  unfold aheadP
  rw [List.range_succ, List.filter_append, List.length_append]
  cases h : beatP ss k i <;> simp [h]
theorem aheadP_le (ss : List Nat) (k i : Nat) : aheadP ss k i ≤ k := by
  unfold aheadP; exact Nat.le_trans (List.length_filter_le _ _) (by simp)
theorem orderP_nodup (ss : List Nat) : (orderP ss).Nodup := (orderP_perm ss).nodup_iff.2 List.nodup_range
theorem order_at (ss : List Nat) (i : Nat) (hi : i < ss.length) : (orderP ss)[aheadP ss ss.length i]? = some i := by
  have hm : i ∈ orderP ss := (orderP_perm ss).mem_iff.2 (List.mem_range.2 hi)
  obtain ⟨a, b, hab⟩ := List.append_of_mem hm
  have hs := orderP_sorted ss
  have hnd := orderP_nodup ss
  have hf : aheadP ss ss.length i = ((orderP ss).filter fun j => beatP ss j i).length := ((orderP_perm ss).filter _).length_eq.symm
  rw [hf, hab]
  rw [hab] at hs hnd
  rw [List.pairwise_append] at hs
  obtain ⟨_, hs2, hs3⟩ := hs
  rw [List.pairwise_cons] at hs2
  rw [List.nodup_append] at hnd
  obtain ⟨_, hn2, hn3⟩ := hnd
  rw [List.nodup_cons] at hn2
  have ha : a.filter (fun j => beatP ss j i) = a := List.filter_eq_self.2 fun x hx => by
    have h1 := hs3 x hx i (by simp)
    have h2 := hn3 x hx i (by simp)
    rw [leO_iff] at h1
    rw [beatP_iff]
    omega
  have hb : (i :: b).filter (fun j => beatP ss j i) = [] := List.filter_eq_nil_iff.2 fun x hx => by
    rw [beatP_iff]
    rcases List.mem_cons.1 hx with h | h
    · subst h; omega
    · have h1 := hs2.1 x h
      have h2 : i ≠ x := fun e => hn2.1 (e ▸ h)
      rw [leO_iff] at h1
      omega
  rw [List.filter_append, ha, hb, List.append_nil]
  simp
theorem order_rank (ss : List Nat) (q i : Nat) (hi : i < ss.length) (h : (orderP ss)[q]? = some i) : q = aheadP ss ss.length i := by
  have h1 := order_at ss i hi
  obtain ⟨hq, e1⟩ := List.getElem?_eq_some_iff.1 h
  obtain ⟨ha, e2⟩ := List.getElem?_eq_some_iff.1 h1
  have hp := List.pairwise_iff_getElem.1 (orderP_nodup ss)
  rcases Nat.lt_trichotomy q (aheadP ss ss.length i) with h3 | h3 | h3
  · exact absurd (e1.trans e2.symm) (hp _ _ hq ha h3)
  · exact h3
  · exact absurd (e2.trans e1.symm) (hp _ _ ha hq h3)
theorem order_getD (ss : List Nat) (q : Nat) (hq : q < ss.length) : (orderP ss)[q]? = some ((orderP ss).getD q 0) ∧ (orderP ss).getD q 0 < ss.length := by
  have hl : q < (orderP ss).length := by rw [orderP_len]; exact hq
  have e : (orderP ss)[q]? = some ((orderP ss).getD q 0) := by rw [List.getD_eq_getElem?_getD, List.getElem?_eq_getElem hl]; rfl
  refine ⟨e, ?_⟩
  have := List.mem_of_getElem? e
  exact List.mem_range.1 ((orderP_perm ss).mem_iff.1 this)
/-- In the k-th round the place k comes to where it belongs. -/
theorem order_put (ss : List Nat) (k q : Nat) (hk : k < ss.length) (hq : q < ss.length) :
    (if q = aheadP ss ss.length k then Value.int .i64 (k : Int) else if (orderP ss).getD q 0 < k then Value.int .i64 (((orderP ss).getD q 0 : Nat) : Int) else .int .i64 0) =
      if (orderP ss).getD q 0 < k + 1 then Value.int .i64 (((orderP ss).getD q 0 : Nat) : Int) else .int .i64 0 := by
  obtain ⟨e, hlt⟩ := order_getD ss q hq
  by_cases h : q = aheadP ss ss.length k
  · have h2 := order_at ss k hk
    rw [← h, e] at h2
    injection h2 with h2
    rw [if_pos h, h2, if_pos (Nat.lt_succ_self _)]
  · rw [if_neg h]
    have hne : (orderP ss).getD q 0 ≠ k := fun he => h (order_rank ss q k hk (by rw [e, he]))
    by_cases h3 : (orderP ss).getD q 0 < k
    · rw [if_pos h3, if_pos (by omega)]
    · rw [if_neg h3, if_neg (by omega)]
theorem order_lt (ss : List Nat) (k : Nat) (hk : k < ss.length) : aheadP ss ss.length k < ss.length := by
  have h := (List.getElem?_eq_some_iff.1 (order_at ss k hk)).1
  rwa [orderP_len] at h
end Go.Proofs.Ytknpcbekaodlkaa
