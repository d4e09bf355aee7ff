/- What is judged, plain: the newest first list of writings, hidden places, the shape, the verdict, what is possible. -/
import Derived.Test.YtplpaipmkpjgfaaGrpA
namespace Go.Proofs.Ytplpaipmkpjgfaa
open Go.RowKit
set_option linter.unusedVariables false
instance (x y : Wr) : Decidable (olderW x y) := by unfold olderW; infer_instance
def grpL (S : Nat → Sn) (n : Nat) : List Wr := (wrs S n).mergeSort fun x y => decide (¬ olderW x y)
theorem isGrp_grpL (S : Nat → Sn) (n : Nat) : IsGrp S n (grpL S n) := by
  refine .of_sort (List.mergeSort_perm _ _) ?_
  refine (List.pairwise_mergeSort (le := fun x y => decide (¬ olderW x y)) (fun a b c h1 h2 => ?_) (fun a b => ?_) (wrs S n)).imp fun {a b} h => by simpa using h
  · simp only [decide_eq_true_eq] at *; unfold olderW at *; omega
  · simp only [Bool.or_eq_true, decide_eq_true_eq]; unfold olderW; omega
theorem IsGrp.eq {S : Nat → Sn} {n : Nat} {l : List Wr} (h : IsGrp S n l) : l = grpL S n := h.unique (isGrp_grpL S n)
theorem grpL_le (S : Nat → Sn) (n : Nat) : (grpL S n).length ≤ n := (isGrp_grpL S n).le
def hidB (x : Sn) : Bool := (x.kind != 1) && (x.kind != 2)
def hidN (S : Nat → Sn) (n : Nat) : Nat := ((List.range n).filter fun i => hidB (S i)).length
theorem hidN_next (S : Nat → Sn) (k : Nat) : hidN S (k + 1) = if hidB (S k) = true then hidN S k + 1 else hidN S k := by
  unfold hidN
  rw [List.range_succ, List.filter_append, List.length_append]
  cases h : hidB (S k) <;> simp [h]
theorem hidN_le (S : Nat → Sn) (k : Nat) : hidN S k ≤ k := by
  unfold hidN; exact Nat.le_trans (List.length_filter_le _ _) (by simp)
def fitsR (k m b : Int) : Bool := decide (1 ≤ m ∧ m ≤ k ∧ k ≤ 255 ∧ k + m ≤ 255 ∧ 1 ≤ b ∧ b ≤ 65536)
def fitsB (k m b n : Int) : Bool := fitsR k m b && decide (n = k + m)
/-- How many places show it. -/
def cnt (S : Nat → Sn) (n : Nat) (x : Wr) : Nat := (plc S x n).length
theorem cnt_le (S : Nat → Sn) (n : Nat) (x : Wr) : cnt S n x ≤ n := plc_le _ _ _
/-- Of the writings the first that counts. -/
def topW (S : Nat → Sn) (n : Nat) (K : Int) (l : List Wr) : Option Wr := l.find? fun x => decide (K ≤ (cnt S n x : Int))
/-- The verdict: its kind, its writing, its places. -/
def judgeP (S : Nat → Sn) (n : Nat) (k m b : Int) : Int × Wr × List Int :=
  if fitsB k m b n = true then
    match topW S n k (grpL S n) with
    | some x => (1, x, plc S x n)
    | none => if (hidN S n : Int) ≤ m then (2, (0, 0, 0), []) else (3, (0, 0, 0), [])
  else (3, (0, 0, 0), [])
/-- What is possible, of a list of writings. -/
def possW (S : Nat → Sn) (n : Nat) (k : Int) : List Wr → List Wr × Bool
  | [] => ([], true)
  | x :: r => if k ≤ (cnt S n x : Int) then (if k ≤ (cnt S n x : Int) + hidN S n then [x] else [], false)
    else ((if k ≤ (cnt S n x : Int) + hidN S n then [x] else []) ++ (possW S n k r).1, (possW S n k r).2)
def possP (S : Nat → Sn) (n : Nat) (k m b : Int) : List Wr × Bool := if fitsB k m b n = true then possW S n k (grpL S n) else ([], false)
/-- A list of groups in memory: v its slice, f each one's places. -/
structure GLT (T : TypeId) (base : Nat) (wr : World) (S : Nat → Sn) (n : Nat) (f : Wr → Value) (v : Value) (l : List Wr) : Prop where
  rows : ∀ x, x ∈ l → wr.ownsRow base 3 1 (f x) (plc S x n).length (iz (plc S x n))
  apart : ∀ x y, x ∈ l → y ∈ l → x ≠ y → Apart (f x) (f y)
  out : wr.ownsRow base T 4 v l.length (l.flatMap (encG f))
  off : ∀ x, x ∈ l → Apart v (f x)
abbrev GL := GLT 62
section
variable {w wr w' : World} {S : Nat → Sn} {n base : Nat} {f : Wr → Value} {v : Value} {l : List Wr} {T : TypeId}
theorem GOut.gl {gl : List Wr} (H : GOut w wr S n f v gl gl.length) : GL (w.heap.size + 1) wr S n f v (grpL S n) := by
  have := H.out
  rw [flatG_full, H.grp.eq] at this
  exact ⟨fun x _ => H.rows x, fun x y _ _ => H.apart x y, this, fun x _ => H.off x⟩
theorem GLT.keep (H : GLT T base wr S n f v l) (b : Below wr.heap.size wr w') : GLT T base w' S n f v l := ⟨fun x hx => own_belowS (H.rows x hx) b, H.apart, own_belowS H.out b, H.off⟩
theorem own_low {base base' e size n : Nat} {w : World} {v : Value} {xs : List Value} (h : w.ownsRow base e size v n xs) (hb : base' ≤ base) : w.ownsRow base' e size v n xs :=
  ⟨h.1, h.2.imp id fun ⟨g, cap, cur, hv, hg, r⟩ => ⟨g, cap, cur, hv, Nat.le_trans hb hg, r⟩⟩
theorem GLT.low {base' : Nat} (H : GLT T base wr S n f v l) (h : base' ≤ base) : GLT T base' wr S n f v l := ⟨fun x hx => own_low (H.rows x hx) h, H.apart, own_low H.out h, H.off⟩
theorem GLT.at_ (H : GLT T base wr S n f v l) {i : Nat} (hi : i < l.length) : ∃ g c, v = .slice (some ⟨g, 0, none⟩) l.length c ∧ base ≤ g ∧ g < wr.heap.size ∧ wr.rangeAt g (i * 4) (encG f (l.getD i (0, 0, 0))) := by
  rcases H.out.2 with ⟨hv, h0⟩ | ⟨g, cap, cur, hv, hb, hg, _⟩
  · omega
  subst hv
  refine ⟨g, cap, rfl, hb, (Array.getElem?_eq_some_iff.1 hg).1, fun j u hu => (own_cell H.out _ u ?_).1⟩
  have hj : j < 4 := by have := (List.getElem?_eq_some_iff.1 hu).1; exact this
  rw [← flatG_full]
  obtain ⟨pre, post, h1, _, h3⟩ := flatG_at f l i hi
  have h4 : flatG f l (l.length) = flatG f l (i + 1) ∨ True := .inr trivial
  have e : ∀ m, i < m → m ≤ l.length → (flatG f l m)[i * 4 + j]? = (encG f (l.getD i (0, 0, 0)))[j]? := by
    intro m
    induction m with
    | zero => intro h; omega
    | succ m ih =>
      intro h hm
      by_cases him : i = m
      · subst him
        rw [h3, ← h1, List.getElem?_append_right (by omega), show pre.length + j - pre.length = j by omega, List.getElem?_append_left (by show j < 4; exact hj)]
      · rw [flatG_set f l m (by omega), List.getElem?_set_ne (by omega)]
        exact ih (by omega) (by omega)
  rw [e _ hi (Nat.le_refl _)]
  exact hu
end
theorem GLT.none (T : TypeId) (base : Nat) (wr : World) (S : Nat → Sn) (n : Nat) (f : Wr → Value) : GLT T base wr S n f (.slice none 0 0) [] :=
  ⟨fun x h => absurd h List.not_mem_nil, fun x y h => absurd h List.not_mem_nil, World.ownsRow_nil _ _ _ _, fun x h => absurd h List.not_mem_nil⟩
theorem getD_mem {l : List Wr} {i : Nat} (h : i < l.length) : l.getD i (0, 0, 0) ∈ l := by rw [List.getD_eq_getElem?_getD, List.getElem?_eq_getElem h]; exact List.getElem_mem h
theorem encG_one (f : Wr → Value) (x : Wr) (h : (f x).oneCell' = true) : (encG f x).toArray.all (·.oneCell') = true := all_oneCell_toArray fun u hu => by
  simp only [encG, List.mem_cons, List.not_mem_nil, or_false] at hu
  rcases hu with rfl | rfl | rfl | rfl
  · rfl
  · rfl
  · rfl
  · exact h
theorem own_one {base e size n : Nat} {w : World} {v : Value} {xs : List Value} (h : w.ownsRow base e size v n xs) : v.oneCell' = true := by
  rcases h.2 with ⟨rfl, _⟩ | ⟨g, cap, cur, rfl, _⟩ <;> rfl
theorem top_drop {S : Nat → Sn} {n : Nat} {K : Int} {l : List Wr} {i : Nat} (hi : i < l.length) : topW S n K (l.drop i) = if K ≤ (cnt S n (l.getD i (0, 0, 0)) : Int) then some (l.getD i (0, 0, 0)) else topW S n K (l.drop (i + 1)) := by
  unfold topW
  rw [List.drop_eq_getElem_cons hi, List.find?_cons, List.getD_eq_getElem?_getD, List.getElem?_eq_getElem hi]
  simp only [Option.getD_some]
  by_cases h : K ≤ (cnt S n l[i] : Int)
  · rw [if_pos h, decide_eq_true h]
  · rw [if_neg h, decide_eq_false h]
theorem poss_drop {S : Nat → Sn} {n : Nat} {k : Int} {l : List Wr} {i : Nat} (hi : i < l.length) : possW S n k (l.drop i) =
    if k ≤ (cnt S n (l.getD i (0, 0, 0)) : Int) then (if k ≤ (cnt S n (l.getD i (0, 0, 0)) : Int) + hidN S n then [l.getD i (0, 0, 0)] else [], false)
    else ((if k ≤ (cnt S n (l.getD i (0, 0, 0)) : Int) + hidN S n then [l.getD i (0, 0, 0)] else []) ++ (possW S n k (l.drop (i + 1))).1, (possW S n k (l.drop (i + 1))).2) := by
  rw [List.drop_eq_getElem_cons hi, List.getD_eq_getElem?_getD, List.getElem?_eq_getElem hi]
  rfl
end Go.Proofs.Ytplpaipmkpjgfaa
