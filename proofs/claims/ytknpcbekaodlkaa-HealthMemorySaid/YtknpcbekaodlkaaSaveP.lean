/- What a board is saved as, and which bytes are one. Plain. -/
import Derived.Test.YtknpcbekaodlkaaScores
namespace Go.Proofs.Ytknpcbekaodlkaa
set_option linter.unusedVariables false
def fourP (x : Nat) : List Nat := [x % 256, x / 256 % 256, x / 65536 % 256, x / 16777216 % 256]
def takeP (bs : List Nat) : Nat := bs.getD 0 0 + 256 * bs.getD 1 0 + 65536 * bs.getD 2 0 + 16777216 * bs.getD 3 0
theorem fourP_len (x : Nat) : (fourP x).length = 4 := rfl
theorem drop_more (a b : List Nat) (n : Nat) : (a ++ b).drop (a.length + n) = b.drop n := by
  rw [List.drop_append, List.drop_of_length_le (by omega), List.nil_append, Nat.add_sub_cancel_left]
theorem fourP_lt (x : Nat) : ∀ y ∈ fourP x, y < 256 := by
  intro y hy
  unfold fourP at hy
  simp only [List.mem_cons, List.not_mem_nil, or_false] at hy
  rcases hy with rfl | rfl | rfl | rfl <;> omega
theorem take_four {x : Nat} (h : x < 4294967296) (r : List Nat) : takeP (fourP x ++ r) = x := by
  show x % 256 + 256 * (x / 256 % 256) + 65536 * (x / 65536 % 256) + 16777216 * (x / 16777216 % 256) = x
  omega
theorem take_lt {bs : List Nat} (h : ∀ y ∈ bs, y < 256) : takeP bs < 4294967296 := by
  have g : ∀ i, bs.getD i 0 < 256 := fun i => by
    rw [List.getD_eq_getElem?_getD]
    by_cases hi : i < bs.length
    · rw [List.getElem?_eq_getElem hi]; exact h _ (List.getElem_mem hi)
    · rw [List.getElem?_eq_none (by omega)]; decide
  have := g 0; have := g 1; have := g 2; have := g 3
  unfold takeP; omega
theorem four_take {bs : List Nat} (h : ∀ y ∈ bs, y < 256) (hl : 4 ≤ bs.length) : fourP (takeP bs) = bs.take 4 := by
  match bs, hl with
  | a :: b :: c :: d :: r, _ =>
    have ha := h a (by simp)
    have hb := h b (by simp)
    have hc := h c (by simp)
    have hd := h d (by simp)
    show [(a + 256 * b + 65536 * c + 16777216 * d) % 256, (a + 256 * b + 65536 * c + 16777216 * d) / 256 % 256, (a + 256 * b + 65536 * c + 16777216 * d) / 65536 % 256, (a + 256 * b + 65536 * c + 16777216 * d) / 16777216 % 256] = [a, b, c, d]
    have e1 : (a + 256 * b + 65536 * c + 16777216 * d) % 256 = a := by omega
    have e2 : (a + 256 * b + 65536 * c + 16777216 * d) / 256 % 256 = b := by omega
    have e3 : (a + 256 * b + 65536 * c + 16777216 * d) / 65536 % 256 = c := by omega
    have e4 : (a + 256 * b + 65536 * c + 16777216 * d) / 16777216 % 256 = d := by omega
    rw [e1, e2, e3, e4]
def saveP (K : Nat) (ss : List Nat) : List Nat := (ss.length % 256) :: (fourP K ++ ss.flatMap fourP)
theorem flat_len (ss : List Nat) : (ss.flatMap fourP).length = 4 * ss.length := by
  induction ss with
  | nil => rfl
  | cons a t ih => rw [List.flatMap_cons, List.length_append, ih, fourP_len, List.length_cons]; omega
theorem saveP_len (K : Nat) (ss : List Nat) : (saveP K ss).length = 5 + 4 * ss.length := by
  unfold saveP; rw [List.length_cons, List.length_append, fourP_len, flat_len]; omega
theorem saveP_lt (K : Nat) (ss : List Nat) : ∀ y ∈ saveP K ss, y < 256 := by
  intro y hy
  unfold saveP at hy
  rcases List.mem_cons.1 hy with rfl | hy
  · omega
  · rcases List.mem_append.1 hy with hy | hy
    · exact fourP_lt K y hy
    · obtain ⟨s, _, hs⟩ := List.mem_flatMap.1 hy
      exact fourP_lt s y hs
/-- The score of place k in the bytes. -/
def scoreP (bs : List Nat) (k : Nat) : Nat := takeP (bs.drop (5 + 4 * k))
def scoresP (bs : List Nat) (n : Nat) : List Nat := (List.range n).map (scoreP bs)
theorem scoresP_len (bs : List Nat) (n : Nat) : (scoresP bs n).length = n := by unfold scoresP; simp
theorem scoresP_next (bs : List Nat) (n : Nat) : scoresP bs (n + 1) = scoresP bs n ++ [scoreP bs n] := by unfold scoresP; rw [List.range_succ, List.map_append]; rfl
/-- Have the bytes the length that they say? -/
def shapeP (bs : List Nat) : Bool := decide (bs.length ≠ 0) && decide (bs.getD 0 0 ≠ 0) && decide (bs.length = 5 + 4 * bs.getD 0 0)
def scoresOk (bs : List Nat) (n : Nat) : Bool := (scoresP bs n).all fun s => decide (s ≤ one32)
def keepOk (K : Nat) : Bool := decide (0 < K) && decide (K < one32)
def loadP (bs : List Nat) : Option (Nat × List Nat) :=
  if shapeP bs = false then none else if scoresOk bs (bs.getD 0 0) = false then none else if keepOk (takeP (bs.drop 1)) = false then none
  else some (takeP (bs.drop 1), scoresP bs (bs.getD 0 0))
theorem loadP_some {bs : List Nat} {K : Nat} {ss : List Nat} (h : loadP bs = some (K, ss)) : bs.length = 5 + 4 * ss.length ∧ bs.getD 0 0 = ss.length ∧ 1 ≤ ss.length ∧ Law K ss ∧ K = takeP (bs.drop 1) ∧ ss = scoresP bs ss.length := by
  unfold loadP at h
  split at h
  · cases h
  · rename_i h1
    split at h
    · cases h
    · rename_i h2
      split at h
      · cases h
      · rename_i h3
        injection h with h
        injection h with e1 e2
        have hs : shapeP bs = true := by simpa using h1
        unfold shapeP at hs
        rw [Bool.and_eq_true, Bool.and_eq_true, decide_eq_true_iff, decide_eq_true_iff, decide_eq_true_iff] at hs
        have hk : keepOk (takeP (bs.drop 1)) = true := by simpa using h3
        unfold keepOk at hk
        rw [Bool.and_eq_true, decide_eq_true_iff, decide_eq_true_iff] at hk
        have ho : scoresOk bs (bs.getD 0 0) = true := by simpa using h2
        have hl : ss.length = bs.getD 0 0 := by rw [← e2, scoresP_len]
        refine ⟨by rw [hl]; exact hs.2, hl.symm, by omega, ⟨by rw [← e1]; exact hk.1, by rw [← e1]; exact hk.2, fun s hsm => ?_⟩, e1.symm, by rw [hl]; exact e2.symm⟩
        rw [← e2] at hsm
        exact of_decide_eq_true (List.all_eq_true.1 ho s hsm)
theorem flat_take {bs : List Nat} (h : ∀ y ∈ bs, y < 256) (n : Nat) (hl : 5 + 4 * n ≤ bs.length) : (scoresP bs n).flatMap fourP = (bs.drop 5).take (4 * n) := by
  induction n with
  | zero => simp [scoresP]
  | succ n ih =>
    rw [scoresP_next, List.flatMap_append, ih (by omega), List.flatMap_cons, List.flatMap_nil, List.append_nil]
    unfold scoreP
    rw [four_take (fun y hy => h y (List.mem_of_mem_drop hy)) (by rw [List.length_drop]; omega), show 4 * (n + 1) = 4 * n + 4 by omega, List.take_add, List.drop_drop]
/-- What is taken is what is saved. -/
theorem save_load {bs : List Nat} {K : Nat} {ss : List Nat} (hb : ∀ y ∈ bs, y < 256) (h : loadP bs = some (K, ss)) : saveP K ss = bs := by
  obtain ⟨h1, h2, h3, _, h5, h6⟩ := loadP_some h
  have h0 : bs.getD 0 0 < 256 := by
    rw [List.getD_eq_getElem?_getD, List.getElem?_eq_getElem (by omega)]; exact hb _ (List.getElem_mem _)
  have hf := flat_take hb ss.length (by omega)
  rw [← h6] at hf
  unfold saveP
  rw [h5, four_take (fun y hy => hb y (List.mem_of_mem_drop hy)) (by rw [List.length_drop]; omega), hf, Nat.mod_eq_of_lt (by omega), ← h2]
  match bs, h1 with
  | a :: r, h1 =>
    rw [List.length_cons] at h1
    simp only [List.getD_cons_zero, List.drop_succ_cons, List.drop_zero]
    congr 1
    rw [← List.take_add]
    exact List.take_of_length_le (by simp only [List.getD_cons_zero] at h2; omega)
theorem drop_flat (ss : List Nat) (k : Nat) (h : k < ss.length) : (ss.flatMap fourP).drop (4 * k) = fourP (ss.getD k 0) ++ (ss.drop (k + 1)).flatMap fourP := by
  induction ss generalizing k with
  | nil => simp at h
  | cons a t ih =>
    cases k with
    | zero => rfl
    | succ k =>
      rw [List.flatMap_cons, show 4 * (k + 1) = (fourP a).length + 4 * k by rw [fourP_len]; omega, drop_more, ih k (by simpa using h)]
      rfl
theorem one_big : one32 < 4294967296 := by decide
/-- What is saved is taken, and is the same board. -/
theorem load_save {K : Nat} {ss : List Nat} (L : Law K ss) (h1 : 1 ≤ ss.length) (h2 : ss.length ≤ 255) : loadP (saveP K ss) = some (K, ss) := by
  have hl := saveP_len K ss
  have h0 : (saveP K ss).getD 0 0 = ss.length := by show ss.length % 256 = _; omega
  have hK : takeP ((saveP K ss).drop 1) = K := by
    show takeP (fourP K ++ ss.flatMap fourP) = K
    exact take_four (Nat.lt_trans L.k1 one_big) _
  have hsc : ∀ k, k < ss.length → scoreP (saveP K ss) k = ss.getD k 0 := fun k hk => by
    unfold scoreP saveP
    rw [show 5 + 4 * k = (4 + 4 * k) + 1 by omega, List.drop_succ_cons, show 4 + 4 * k = (fourP K).length + 4 * k from rfl, drop_more, drop_flat ss k hk]
    refine take_four (Nat.lt_of_le_of_lt ?_ one_big) _
    rw [List.getD_eq_getElem?_getD, List.getElem?_eq_getElem hk]; exact L.sc _ (List.getElem_mem hk)
  have hss : scoresP (saveP K ss) ss.length = ss := by
    apply List.ext_getElem (scoresP_len _ _)
    intro i hi1 hi2
    simp only [scoresP, List.getElem_map, List.getElem_range]
    rw [hsc i hi2, List.getD_eq_getElem?_getD, List.getElem?_eq_getElem hi2]; rfl
  unfold loadP
  rw [h0, hK]
  have s1 : shapeP (saveP K ss) = true := by
    unfold shapeP; rw [h0, hl, decide_eq_true (by omega), decide_eq_true (by omega), decide_eq_true rfl]; rfl
  have s2 : scoresOk (saveP K ss) ss.length = true := by
    unfold scoresOk; rw [hss, List.all_eq_true]; intro s hs; exact decide_eq_true (L.sc s hs)
  have s3 : keepOk K = true := by unfold keepOk; rw [decide_eq_true L.k0, decide_eq_true L.k1]; rfl
  rw [if_neg (by rw [s1]; decide), if_neg (by rw [s2]; decide), if_neg (by rw [s3]; decide), hss]
end Go.Proofs.Ytknpcbekaodlkaa
