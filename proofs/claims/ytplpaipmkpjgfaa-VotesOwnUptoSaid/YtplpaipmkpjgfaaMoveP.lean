/- VotesMoved, plain: what a place's change does to the counts; a list of one's own that is written over. -/
import Derived.Test.YtplpaipmkpjgfaaCopyS
import Derived.Test.YtplpaipmkpjgfaaFewP
namespace Go.Proofs.Ytplpaipmkpjgfaa
open Go.RowKit
set_option linter.unusedVariables false
def upd (S : Nat → Sn) (i : Nat) (y : Sn) (r : Nat) : Sn := if r = i then y else S r
theorem upd_at (S : Nat → Sn) (i : Nat) (y : Sn) : upd S i y i = y := if_pos rfl
theorem upd_ne (S : Nat → Sn) {i r : Nat} (y : Sn) (h : r ≠ i) : upd S i y r = S r := if_neg h
theorem cnt_same {S S' : Nat → Sn} {x : Wr} : ∀ n, (∀ r, r < n → S' r = S r) → cnt S' n x = cnt S n x
  | 0, _ => rfl
  | n + 1, h => by rw [cnt_next, cnt_next, cnt_same n fun r hr => h r (by omega), h n (by omega)]
theorem cnt_upd (S : Nat → Sn) (i : Nat) (y : Sn) (x : Wr) : ∀ n, i < n → cnt (upd S i y) n x + (if shB (S i) x = true then 1 else 0) = cnt S n x + (if shB y x = true then 1 else 0)
  | 0, h => by omega
  | n + 1, h => by
    rw [cnt_next, cnt_next]
    by_cases e : i = n
    · subst e
      rw [upd_at, cnt_same i fun r hr => upd_ne S y (by omega)]
      cases shB (S i) x <;> cases shB y x <;> simp
    · rw [upd_ne S y (by omega)]
      have ih := cnt_upd S i y x n (by omega)
      cases shB (S n) x <;> simp <;> omega
theorem hid_same {S S' : Nat → Sn} : ∀ n, (∀ r, r < n → S' r = S r) → hidN S' n = hidN S n
  | 0, _ => rfl
  | n + 1, h => by rw [hidN_next, hidN_next, hid_same n fun r hr => h r (by omega), h n (by omega)]
theorem hid_upd (S : Nat → Sn) (i : Nat) (y : Sn) : ∀ n, i < n → hidN (upd S i y) n + (if hidB (S i) = true then 1 else 0) = hidN S n + (if hidB y = true then 1 else 0)
  | 0, h => by omega
  | n + 1, h => by
    rw [hidN_next, hidN_next]
    by_cases e : i = n
    · subst e
      rw [upd_at, hid_same i fun r hr => upd_ne S y (by omega)]
      cases hidB (S i) <;> cases hidB y <;> simp
    · rw [upd_ne S y (by omega)]
      have ih := hid_upd S i y n (by omega)
      cases hidB (S n) <;> simp <;> omega
def swp (S : Nat → Sn) (i j : Nat) : Nat → Sn := upd (upd S i (S j)) j (S i)
theorem swp_mid (S : Nat → Sn) (i j : Nat) : upd S i (S j) j = S j := by unfold upd; split <;> rfl
theorem cnt_swp (S : Nat → Sn) {i j n : Nat} (hi : i < n) (hj : j < n) (x : Wr) : cnt (swp S i j) n x = cnt S n x := by
  have h1 := cnt_upd S i (S j) x n hi
  have h2 := cnt_upd (upd S i (S j)) j (S i) x n hj
  rw [swp_mid] at h2
  unfold swp
  omega
theorem hid_swp (S : Nat → Sn) {i j n : Nat} (hi : i < n) (hj : j < n) : hidN (swp S i j) n = hidN S n := by
  have h1 := hid_upd S i (S j) n hi
  have h2 := hid_upd (upd S i (S j)) j (S i) n hj
  rw [swp_mid] at h2
  unfold swp
  omega
theorem plc_ne_iff {S : Nat → Sn} {n : Nat} {x : Wr} : plc S x n ≠ [] ↔ 0 < cnt S n x := by
  unfold cnt
  cases plc S x n <;> simp
theorem grp_cnt {S S' : Nat → Sn} {n : Nat} (h : ∀ x, 0 < cnt S' n x ↔ 0 < cnt S n x) : grpL S' n = grpL S n :=
  (IsGrp.eq (S := S') (l := grpL S n) ⟨(isGrp_grpL S n).1, fun x => ((isGrp_grpL S n).2 x).trans (plc_ne_iff.trans ((h x).symm.trans plc_ne_iff.symm))⟩).symm
theorem judge_cnt {S S' : Nat → Sn} {n : Nat} {k m b : Int} (h : ∀ x, cnt S' n x = cnt S n x) (hh : hidN S' n = hidN S n) : (judgeP S' n k m b).1 = (judgeP S n k m b).1 ∧ (judgeP S' n k m b).2.1 = (judgeP S n k m b).2.1 ∧ (judgeP S' n k m b).2.2.length = (judgeP S n k m b).2.2.length := by
  have hg : grpL S' n = grpL S n := grp_cnt fun x => by rw [h x]
  have ht : topW S' n k (grpL S n) = topW S n k (grpL S n) := by unfold topW; simp only [h]
  unfold judgeP
  rw [hg, ht, hh]
  split
  · rcases topW S n k (grpL S n) with _ | x
    · exact ⟨rfl, rfl, rfl⟩
    · exact ⟨rfl, rfl, h x⟩
  · exact ⟨rfl, rfl, rfl⟩
theorem top_more {S S' : Nat → Sn} {n : Nat} {k : Int} {x : Wr} (h : ∀ y, y ≠ x → cnt S' n y = cnt S n y) (hx : cnt S n x ≤ cnt S' n x) : ∀ l : List Wr, topW S n k l = some x → topW S' n k l = some x
  | [], g => by simp [topW] at g
  | y :: r, g => by
    have ih := top_more (k := k) h hx r
    unfold topW at *
    rw [List.find?_cons] at g ⊢
    by_cases e : k ≤ (cnt S n y : Int)
    · rw [decide_eq_true e] at g
      injection g with g
      subst g
      rw [decide_eq_true (by omega : k ≤ (cnt S' n y : Int))]
    · rw [decide_eq_false e] at g
      by_cases e2 : y = x
      · subst e2
        have := List.find?_some g
        simp only [decide_eq_true_eq] at this
        exact absurd this e
      · rw [h y e2, decide_eq_false e]
        exact ih g
/-- The verdict where a value is told. -/
theorem judge_one {S : Nat → Sn} {n : Nat} {k m b : Int} {x : Wr} {pl : List Int} (h : judgeP S n k m b = (1, x, pl)) : fitsB k m b n = true ∧ topW S n k (grpL S n) = some x ∧ pl = plc S x n := by
  cases hf : fitsB k m b n with
  | false => rw [judge_bad hf] at h; simp at h
  | true =>
    refine ⟨rfl, ?_⟩
    cases ht : topW S n k (grpL S n) with
    | none => exact absurd (congrArg (·.1) h) (judge_none hf ht)
    | some y => rw [judge_top hf ht] at h; simp only [Prod.mk.injEq] at h; obtain ⟨_, h1, h2⟩ := h; subst h1; exact ⟨rfl, h2.symm⟩
theorem judge_more {S : Nat → Sn} {n i : Nat} {k m b : Int} {x : Wr} {pl : List Int} (h : judgeP S n k m b = (1, x, pl)) (hi : i < n) (hk : (S i).kind = 1) : ∃ pl', judgeP (upd S i (shW x)) n k m b = (1, x, pl') ∧ pl'.length = pl.length + 1 := by
  obtain ⟨hf, ht, hp⟩ := judge_one h
  have hb : ∀ y, shB (S i) y = false := fun y => by
    cases g : shB (S i) y
    · rfl
    · have := ((shB_iff _ _).1 g).1; omega
  have hc : ∀ y, cnt (upd S i (shW x)) n y = cnt S n y + (if x = y then 1 else 0) := fun y => by
    have h1 := cnt_upd S i (shW x) y n hi
    rw [hb y, shB_shW] at h1
    simpa using h1
  have hx : 0 < cnt S n x := plc_ne_iff.1 (((isGrp_grpL S n).2 x).1 (List.mem_of_find?_eq_some ht))
  have hg : grpL (upd S i (shW x)) n = grpL S n := grp_cnt fun y => by
    rw [hc y]
    by_cases e : x = y
    · subst e; omega
    · rw [if_neg e]; omega
  have ht' : topW (upd S i (shW x)) n k (grpL (upd S i (shW x)) n) = some x := by
    rw [hg]
    exact top_more (fun y hy => by rw [hc y, if_neg (Ne.symm hy)]; rfl) (by rw [hc x]; omega) _ ht
  refine ⟨plc (upd S i (shW x)) x n, judge_top hf ht', ?_⟩
  have := hc x
  rw [if_pos rfl] at this
  rw [hp]
  exact this
/-! ### A list of one's own -/
theorem bel_setCells {B b : Nat} {a : World} (hb : B ≤ b) : ∀ (vs : List Value) (o : Nat) (w : World), Below B a w → Below B a (w.setCells b o vs)
  | [], o, w, h => h
  | v :: vs, o, w, h => bel_setCells hb vs (o + 1) _ (h.setCell (by exact hb) v)
theorem size_setC (b : Nat) : ∀ (vs : List Value) (o : Nat) (w : World), (w.setCells b o vs).heap.size = w.heap.size
  | [], _, _ => rfl
  | v :: vs, o, w => (size_setC b vs (o + 1) _).trans (by simp [World.setCell])
structure Cop (wr : World) (base g n : Nat) (T : Nat → Sn) : Prop where
  vw : ∀ r, r < n → wr.rangeAt g (r * 19) (T r).cells ∧ SnOk (T r)
  th : ∀ r, r < n → wr.there g (r * 19) 19
  lo : base ≤ g
  hi : g < wr.heap.size
section
variable {wr w' : World} {base g n : Nat} {T T' : Nat → Sn}
theorem Cop.keep (H : Cop wr base g n T) (b : Below wr.heap.size wr w') : Cop w' base g n T :=
  ⟨fun r hr => ⟨fun j v hv => (b.cell (p := ⟨g, _, none⟩) H.hi).trans ((H.vw r hr).1 j v hv), (H.vw r hr).2⟩, fun r hr j hj => by
    have h := H.th r hr j hj
    have hb := b.block g H.hi
    exact ⟨by rw [b.cell (p := ⟨g, _, none⟩) H.hi]; exact h.1, by have h2 := h.2; unfold World.frozen? at h2 ⊢; rw [show w'.heap[g]? = wr.heap[g]? from hb]; exact h2⟩, H.lo, Nat.lt_of_lt_of_le H.hi b.size⟩
theorem Cop.view (H : Cop wr base g n T) : View wr wr.heap.size (some ⟨g, 0, none⟩) n T := fun r hr => ⟨g, 0, rfl, H.hi, by rw [Nat.zero_add]; exact (H.vw r hr).1, (H.vw r hr).2⟩
theorem Cop.congr (H : Cop wr base g n T) (h : ∀ r, r < n → T r = T' r) : Cop wr base g n T' := ⟨fun r hr => by rw [← h r hr]; exact H.vw r hr, H.th, H.lo, H.hi⟩
theorem Cop.set (H : Cop wr base g n T) {i : Nat} (hi : i < n) (y : Sn) (hy : SnOk y) : Cop (wr.setCells g (i * 19) y.cells) base g n (upd T i y) := by
  refine ⟨fun r hr => ?_, fun r hr => World.there_setCells (H.th r hr) _ _ _, H.lo, by rw [size_setC]; exact H.hi⟩
  by_cases e : r = i
  · subst e
    rw [upd_at]
    exact ⟨World.rangeAt_setCells_same _ _ _ _ (by rw [Sn.len]; exact H.th r hr), hy⟩
  · rw [upd_ne T y e]
    refine ⟨World.rangeAt_setCells_apart (H.vw r hr).1 _ _ _ ?_, (H.vw r hr).2⟩
    rw [Sn.len, Sn.len]
    right
    omega
end
theorem OutC.cop {w wr : World} {S : Nat → Sn} {B : Nat → List (List Nat)} {A : Option Addr} {c n : Nat} {bl : Nat → Value} (H : OutC w wr S B (.slice A n c) n bl) (hok : ∀ r, r < n → SnOk (S r)) (hn : 0 < n) : ∃ g, A = some ⟨g, 0, none⟩ ∧ Cop wr w.heap.size g n (fun r => { S r with bl := bl r }) := by
  rcases H.2.1.2 with ⟨hv, h0⟩ | ⟨g, cap, cur, hv, hb, hg, hnc, hm, hcs, htake⟩
  · omega
  injection hv with hA
  subst hA
  have hgl := (Array.getElem?_eq_some_iff.1 hg).1
  have hvw := H.view hok
  refine ⟨g, rfl, ⟨fun r hr => ?_, fun r hr j hj => ⟨?_, by simp [World.frozen?, hg]⟩, hb, hgl⟩⟩
  · obtain ⟨g', off, e, _, hc, ok⟩ := hvw r hr
    injection e with e
    injection e with e e2
    subst e e2
    rw [Nat.zero_add] at hc
    exact ⟨hc, ok⟩
  · rw [cell_of_row _ _ _ _ _ _ hg]
    have h1 := H.2.1.1
    have : cur.size = cap * 19 := hcs
    have h3 : r * 19 + j < cur.size := by
      have : n * 19 ≤ cap * 19 := Nat.mul_le_mul_right _ hnc
      have : (r + 1) * 19 ≤ n * 19 := Nat.mul_le_mul_right _ hr
      omega
    rw [Array.getElem?_eq_getElem h3]; rfl
section
variable {ops : Array Oper} {rest : List Oper} {o : Oper} {a : Act} {w : World} {Q : Exit → Act → World → Prop}
/-- 'l[i] = y' on a list of one's own. -/
theorem wpList_setSn {base g n : Nat} {T : Nat → Sn} (hgd : o.guard = none) (x y : Operand) (ho : o.op = .store 58 x y) (H : Cop w base g n T) (i : Nat) (hi : i < n) (z : Sn) (hz : SnOk z) (hx : a.eval x = .pointer (some ⟨g, i * 19, none⟩)) (zs : List Value) (hzs : z.cells = zs) (hy : a.eval y = .agg zs.toArray)
    (h : ∀ w2, Hd (Cop w2 base g n (upd T i z) ∧ Below base w w2 ∧ w2.heap.size = w.heap.size) → wpList Try.prog ops Q rest (a.put o.dst undef) w2) : wpList Try.prog ops Q (o :: rest) a w := by
  subst hzs
  exact wpList_store_mid hgd 58 x y ho g (i * 19) z.cells.toArray hx hy (by rw [List.size_toArray, Sn.len]; exact H.th i hi) (by simp only [List.size_toArray, Sn.len]; exact infoS) (all_oneCell_toArray (Sn.one z hz)) (h _ ⟨H.set hi z hz, bel_setCells H.lo _ _ _ (Below.refl _ _), size_setC _ _ _ _⟩)
end
end Go.Proofs.Ytplpaipmkpjgfaa
