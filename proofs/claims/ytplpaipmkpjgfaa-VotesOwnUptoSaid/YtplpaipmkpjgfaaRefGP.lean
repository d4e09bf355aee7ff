/- The reference's Groups, plain: the newest one that is older than all that were told. -/
import Derived.Test.YtplpaipmkpjgfaaRefPl
namespace Go.Proofs.Ytplpaipmkpjgfaa
open Go.RowKit
set_option linter.unusedVariables false
theorem plc_ne {S : Nat → Sn} {x : Wr} {n : Nat} : plc S x n ≠ [] ↔ ∃ r, r < n ∧ (S r).kind = 2 ∧ wrOf (S r) = x := by
  unfold plc
  rw [ne_eq, List.map_eq_nil_iff, List.filter_eq_nil_iff]
  simp only [List.mem_range, Classical.not_forall, Classical.not_not]
  exact ⟨fun ⟨r, h1, h2⟩ => ⟨r, h1, (shB_iff _ _).1 h2⟩, fun ⟨r, h1, h2⟩ => ⟨r, h1, (shB_iff _ _).2 h2⟩⟩
theorem grpL_mem {S : Nat → Sn} {x : Wr} {n : Nat} : x ∈ grpL S n ↔ ∃ r, r < n ∧ (S r).kind = 2 ∧ wrOf (S r) = x := ((isGrp_grpL S n).2 x).trans plc_ne
theorem grpL_desc {S : Nat → Sn} {n a b : Nat} (h : a < b) (hb : b < (grpL S n).length) : olderW ((grpL S n).getD b (0, 0, 0)) ((grpL S n).getD a (0, 0, 0)) := by
  have := List.pairwise_iff_getElem.1 (isGrp_grpL S n).1 a b (by omega) hb h
  rw [List.getD_eq_getElem?_getD, List.getD_eq_getElem?_getD, List.getElem?_eq_getElem hb, List.getElem?_eq_getElem (by omega)]
  exact this
/-- May it be told behind the first j? -/
def okJ (L : List Wr) (j : Nat) (x : Wr) : Prop := j = 0 ∨ olderW x (L.getD (j - 1) (0, 0, 0))
/-- The best of the first i places. -/
def BestAt (S : Nat → Sn) (L : List Wr) (j i : Nat) (best : Int) : Prop :=
  (best = -1 ∧ ∀ r, r < i → (S r).kind = 2 → ¬ okJ L j (wrOf (S r))) ∨
  ∃ b : Nat, best = b ∧ b < i ∧ (S b).kind = 2 ∧ okJ L j (wrOf (S b)) ∧ ∀ r, r < i → (S r).kind = 2 → okJ L j (wrOf (S r)) → ¬ olderW (wrOf (S b)) (wrOf (S r))
section
variable {S : Nat → Sn} {L : List Wr} {j i : Nat} {best : Int}
theorem BestAt.start (S : Nat → Sn) (L : List Wr) (j : Nat) : BestAt S L j 0 (-1) := .inl ⟨rfl, fun r h => absurd h (by omega)⟩
theorem BestAt.skip (h : BestAt S L j i best) (hk : (S i).kind = 2 → ¬ okJ L j (wrOf (S i))) : BestAt S L j (i + 1) best := by
  rcases h with ⟨h1, h2⟩ | ⟨b, h1, h2, h3, h4, h5⟩
  · refine .inl ⟨h1, fun r hr hk2 => ?_⟩
    rcases Nat.lt_or_ge r i with h | h
    · exact h2 r h hk2
    · obtain rfl : r = i := by omega
      exact hk hk2
  · refine .inr ⟨b, h1, by omega, h3, h4, fun r hr hk2 ho => ?_⟩
    rcases Nat.lt_or_ge r i with h | h
    · exact h5 r h hk2 ho
    · obtain rfl : r = i := by omega
      exact absurd ho (hk hk2)
theorem BestAt.first (h : BestAt S L j i (-1)) (hk : (S i).kind = 2) (ho : okJ L j (wrOf (S i))) : BestAt S L j (i + 1) i := by
  rcases h with ⟨h1, h2⟩ | ⟨b, h1, h2, h3, h4, h5⟩
  · refine .inr ⟨i, rfl, by omega, hk, ho, fun r hr hk2 ho2 => ?_⟩
    rcases Nat.lt_or_ge r i with h | h
    · exact absurd ho2 (h2 r h hk2)
    · obtain rfl : r = i := by omega
      exact olderW_irr _
  · omega
theorem BestAt.better {b : Nat} (h : BestAt S L j i b) (hk : (S i).kind = 2) (ho : okJ L j (wrOf (S i))) (hb : olderW (wrOf (S b)) (wrOf (S i))) : BestAt S L j (i + 1) i := by
  rcases h with ⟨h1, h2⟩ | ⟨b', h1, h2, h3, h4, h5⟩
  · omega
  · obtain rfl : b = b' := by omega
    refine .inr ⟨i, rfl, by omega, hk, ho, fun r hr hk2 ho2 => ?_⟩
    rcases Nat.lt_or_ge r i with h | h
    · exact fun h6 => h5 r h hk2 ho2 (olderW_tr hb h6)
    · obtain rfl : r = i := by omega
      exact olderW_irr _
theorem BestAt.same {b : Nat} (h : BestAt S L j i b) (hb : ¬ olderW (wrOf (S b)) (wrOf (S i))) : BestAt S L j (i + 1) b := by
  rcases h with ⟨h1, h2⟩ | ⟨b', h1, h2, h3, h4, h5⟩
  · omega
  · obtain rfl : b = b' := by omega
    refine .inr ⟨b, rfl, by omega, h3, h4, fun r hr hk2 ho2 => ?_⟩
    rcases Nat.lt_or_ge r i with h | h
    · exact h5 r h hk2 ho2
    · obtain rfl : r = i := by omega
      exact hb
theorem BestAt.form (h : BestAt S L j i best) : best = -1 ∨ ∃ b : Nat, best = b ∧ b < i ∧ (S b).kind = 2 := by
  rcases h with ⟨h1, h2⟩ | ⟨b, h1, h2, h3, h4, h5⟩
  · exact .inl h1
  · exact .inr ⟨b, h1, h2, h3⟩
end
theorem okJ_at {S : Nat → Sn} {n j : Nat} (hj : j < (grpL S n).length) : okJ (grpL S n) j ((grpL S n).getD j (0, 0, 0)) := by
  rcases Nat.eq_zero_or_pos j with h | h
  · exact .inl h
  · exact .inr (grpL_desc (by omega) hj)
theorem best_none {S : Nat → Sn} {n j : Nat} (hj : j ≤ (grpL S n).length) (h : BestAt S (grpL S n) j n (-1)) : j = (grpL S n).length := by
  refine Decidable.byContradiction fun hne => ?_
  have hlt : j < (grpL S n).length := by omega
  obtain ⟨r, h1, h2, h3⟩ := grpL_mem.1 (getD_mem hlt)
  rcases h with ⟨_, h5⟩ | ⟨b, h5, _⟩
  · exact h5 r h1 h2 (h3 ▸ okJ_at hlt)
  · omega
theorem best_some {S : Nat → Sn} {n j b : Nat} (hj : j ≤ (grpL S n).length) (h : BestAt S (grpL S n) j n b) : b < n ∧ j < (grpL S n).length ∧ wrOf (S b) = (grpL S n).getD j (0, 0, 0) := by
  rcases h with ⟨h1, h2⟩ | ⟨b', h1, h2, h3, h4, h5⟩
  · omega
  · obtain rfl : b = b' := by omega
    have hm : wrOf (S b) ∈ grpL S n := grpL_mem.2 ⟨b, h2, h3, rfl⟩
    obtain ⟨t, ht, e⟩ := List.getElem_of_mem hm
    have e2 : (grpL S n).getD t (0, 0, 0) = wrOf (S b) := by rw [List.getD_eq_getElem?_getD, List.getElem?_eq_getElem ht]; exact e
    have htj : j ≤ t := by
      refine Decidable.byContradiction fun hn => ?_
      rcases h4 with h4 | h4
      · omega
      · rw [← e2] at h4
        rcases Nat.lt_or_ge t (j - 1) with h6 | h6
        · exact olderW_irr _ (olderW_tr h4 (grpL_desc h6 (by omega)))
        · obtain rfl : t = j - 1 := by omega
          exact olderW_irr _ h4
    have hjl : j < (grpL S n).length := by omega
    refine ⟨h2, hjl, ?_⟩
    rcases Nat.lt_or_ge j t with h6 | h6
    · obtain ⟨r, g1, g2, g3⟩ := grpL_mem.1 (getD_mem hjl)
      have := h5 r g1 g2 (g3 ▸ okJ_at hjl)
      rw [g3, ← e2] at this
      exact absurd (grpL_desc h6 ht) this
    · obtain rfl : t = j := by omega
      exact e2.symm
theorem flat_congr {f g : Wr → Value} : ∀ l : List Wr, (∀ y, y ∈ l → g y = f y) → l.flatMap (encG g) = l.flatMap (encG f)
  | [], _ => rfl
  | a :: l, h => by
    rw [List.flatMap_cons, List.flatMap_cons, flat_congr l fun y hy => h y (List.mem_cons_of_mem _ hy)]
    unfold encG
    rw [h a List.mem_cons_self]
/-- A group more, its places new. -/
theorem GLT.more {T base n : Nat} {w1 w2 w3 : World} {S : Nat → Sn} {f : Wr → Value} {v v2 P : Value} {l : List Wr} (H : GLT T base w1 S n f v l) {x : Wr} (hx : x ∉ l) (hb : Below w1.heap.size w1 w2) (hP : w2.ownsRow w1.heap.size 3 1 P (plc S x n).length (iz (plc S x n))) (hbase : base ≤ w1.heap.size)
    (hO : OntoN w2 w3 base T 4 v v2 (l.length + 1) (l.flatMap (encG f) ++ [.int .i64 x.1, .int .i64 x.2.1, .int .i64 x.2.2, P])) : GLT T base w3 S n (fun y => if y = x then P else f y) v2 (l ++ [x]) := by
  have H2 := H.keep hb
  have hv : ∀ k, v.ownBlock = some k → k < w1.heap.size := fun k hk => (H.out.lt k hk).2
  have hPk : ∀ k, P.ownBlock = some k → w1.heap.size ≤ k := fun k hk => (hP.lt k hk).1
  have hfk : ∀ y, y ∈ l → ∀ k, (f y).ownBlock = some k → k < w1.heap.size := fun y hy k hk => ((H.rows y hy).lt k hk).2
  have hP3 : w3.ownsRow base 3 1 P (plc S x n).length (iz (plc S x n)) := by
    refine (own_low hP hbase).kept hO.2.1 (apart_off fun k hk hp => ?_)
    have := hv k hk; have := hPk k hp; omega
  have hfy : ∀ y, y ∈ l → (if y = x then P else f y) = f y := fun y hy => if_neg fun (e : y = x) => hx (e ▸ hy)
  have hfl : l.flatMap (encG fun y => if y = x then P else f y) = l.flatMap (encG f) := flat_congr l fun y hy => hfy y hy
  have ap2 : ∀ {u : Value} {e size n xs}, w2.ownsRow base e size u n xs → Apart v u → Apart v2 u := fun {u e size n xs} ho ha k hk hu => by
    rcases hO.2.2 k hk with h | h
    · exact ha k h hu
    · have := (ho.lt k hu).2; omega
  have avP : Apart v P := fun k hk hp => by have := hv k hk; have := hPk k hp; omega
  have mem : ∀ y, y ∈ l ++ [x] → y ∈ l ∧ (if y = x then P else f y) = f y ∨ y = x ∧ (if y = x then P else f y) = P := fun y hy => by
    rcases List.mem_append.1 hy with h | h
    · exact .inl ⟨h, hfy y h⟩
    · simp at h; exact .inr ⟨h, if_pos h⟩
  refine ⟨fun y hy => ?_, fun y z hy hz hyz => ?_, ?_, fun y hy => ?_⟩
  · show w3.ownsRow base _ 1 (if y = x then P else f y) _ _
    rcases mem y hy with ⟨h, e⟩ | ⟨h, e⟩
    · rw [e]; exact (H2.rows y h).kept hO.2.1 (apart_off (H2.off y h))
    · rw [e]; subst h; exact hP3
  · show Apart (if y = x then P else f y) (if z = x then P else f z)
    rcases mem y hy with ⟨h, e⟩ | ⟨h, e⟩
    · rcases mem z hz with ⟨h', e'⟩ | ⟨h', e'⟩
      · rw [e, e']; exact H.apart y z h h' hyz
      · rw [e, e']; exact fun k hk hp => by have := hfk y h k hk; have := hPk k hp; omega
    · rcases mem z hz with ⟨h', e'⟩ | ⟨h', e'⟩
      · rw [e, e']; exact fun k hk hp => by have := hfk z h' k hp; have := hPk k hk; omega
      · exact absurd (h.trans h'.symm) hyz
  · have := hO.1
    rw [List.length_append, List.flatMap_append, hfl, List.flatMap_cons, List.flatMap_nil, List.append_nil]
    rw [show encG (fun y => if y = x then P else f y) x = [.int .i64 x.1, .int .i64 x.2.1, .int .i64 x.2.2, P] by simp [encG]]
    exact this
  · show Apart v2 (if y = x then P else f y)
    rcases mem y hy with ⟨h, e⟩ | ⟨h, e⟩
    · rw [e]; exact ap2 (H2.rows y h) (H.off y h)
    · rw [e]; exact ap2 (own_low hP hbase) avP
end Go.Proofs.Ytplpaipmkpjgfaa
