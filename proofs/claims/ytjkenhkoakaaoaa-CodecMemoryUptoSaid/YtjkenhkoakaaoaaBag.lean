/- Rows of the call's own, each in memory of its own, kept in a bag. Plain theorems over any program. -/
import Derived.Test.YtjkenhkoakaaoaaApartP
namespace Go.Proofs.Ytjkenhkoakaaoaa
open Go.RowKit
set_option linter.unusedVariables false
theorem nodup_at {α : Type} {l : List α} (h : l.Nodup) {i j : Nat} {a : α} (hi : l[i]? = some a) (hj : l[j]? = some a) : i = j := by
  obtain ⟨h1, h2⟩ := List.getElem?_eq_some_iff.1 hi
  obtain ⟨h3, h4⟩ := List.getElem?_eq_some_iff.1 hj
  rcases Nat.lt_trichotomy i j with g | g | g
  · exact absurd (h2.trans h4.symm) (List.pairwise_iff_getElem.1 h i j h1 h3 g)
  · exact g
  · exact absurd (h4.trans h2.symm) (List.pairwise_iff_getElem.1 h j i h3 h1 g)
/-- Rows, no two in the same block, none in a block of X. -/
structure Bag (W : World) (base : Nat) (RL : List (Nat × Value × List Value)) (X : List Nat) : Prop where
  own : ∀ x ∈ RL, W.ownsRow base x.1 1 x.2.1 x.2.2.length x.2.2
  apart : ∀ (i j : Nat) (x y : Nat × Value × List Value), RL[i]? = some x → RL[j]? = some y → i ≠ j → Apart x.2.1 y.2.1
  off : ∀ x ∈ RL, ∀ k ∈ X, x.2.1.ownBlock ≠ some k
  ltX : ∀ k ∈ X, k < W.heap.size
section
variable {W W' : World} {base : Nat} {RL RL2 : List (Nat × Value × List Value)} {X : List Nat} {us : List Value}
theorem Bag.nil (W : World) (base : Nat) : Bag W base [] [] := ⟨fun x h => absurd h List.not_mem_nil, fun i j x y h => by simp at h, fun x h => absurd h List.not_mem_nil, fun k h => absurd h List.not_mem_nil⟩
theorem Bag.start (W : World) (base : Nat) (X : List Nat) (h : ∀ k ∈ X, k < W.heap.size) : Bag W base [] X := ⟨fun x h => absurd h List.not_mem_nil, fun i j x y h => by simp at h, fun x h => absurd h List.not_mem_nil, h⟩
theorem Bag.keep (H : Bag W base RL X) (b : Below W.heap.size W W') : Bag W' base RL X :=
  ⟨fun x hx => own_stay (H.own x hx) (fun k _ hk => b.block k hk), H.apart, H.off, fun k hk => Nat.lt_of_lt_of_le (H.ltX k hk) b.size⟩
theorem Bag.push (H : Bag W base RL X) (hb : base ≤ W.heap.size) {e n : Nat} {v : Value} {xs : List Value} (hn : xs.length = n) (b : Below W.heap.size W W') (o : W'.ownsRow W.heap.size e 1 v n xs) : Bag W' base (RL ++ [(e, v, xs)]) X := by
  have K := H.keep b
  have new : ∀ k, v.ownBlock = some k → W.heap.size ≤ k := fun k hk => (o.lt k hk).1
  have old : ∀ x ∈ RL, ∀ k, x.2.1.ownBlock = some k → k < W.heap.size := fun x hx k hk => ((H.own x hx).lt k hk).2
  have key : ∀ (i : Nat) (x : Nat × Value × List Value), (RL ++ [(e, v, xs)])[i]? = some x → (i < RL.length ∧ RL[i]? = some x) ∨ (i = RL.length ∧ x = (e, v, xs)) := fun i x h => by
    rcases Nat.lt_or_ge i RL.length with g | g
    · rw [List.getElem?_append_left g] at h; exact .inl ⟨g, h⟩
    · rw [List.getElem?_append_right g] at h
      rcases Nat.eq_zero_or_pos (i - RL.length) with e1 | e1
      · rw [e1] at h; simp at h; exact .inr ⟨by omega, h.symm⟩
      · rw [List.getElem?_eq_none (by simp; omega)] at h; cases h
  refine ⟨fun x hx => ?_, fun i j x y hx hy hij => ?_, fun x hx k hk => ?_, K.ltX⟩
  · rcases List.mem_append.1 hx with h | h
    · exact K.own x h
    · rw [List.mem_singleton.1 h]
      refine ⟨by rw [Nat.mul_one], (o.2).imp (fun h => ⟨h.1, by rw [hn]; exact h.2⟩) fun ⟨g, cap, cur, h1, h2, r⟩ => ⟨g, cap, cur, by rw [hn]; exact h1, by omega, by rw [hn]; exact r⟩⟩
  · rcases key i x hx with ⟨_, g⟩ | ⟨g, e1⟩
    · rcases key j y hy with ⟨_, g2⟩ | ⟨g2, e2⟩
      · exact H.apart i j x y g g2 hij
      · subst e2
        intro k h1 h2
        have := old x (List.mem_of_getElem? g) k h1
        have := new k h2
        omega
    · rcases key j y hy with ⟨_, g2⟩ | ⟨g2, e2⟩
      · subst e1
        intro k h1 h2
        have := old y (List.mem_of_getElem? g2) k h2
        have := new k h1
        omega
      · omega
  · rcases List.mem_append.1 hx with h | h
    · exact H.off x h k hk
    · rw [List.mem_singleton.1 h]
      intro e1
      have := new k e1
      have := H.ltX k hk
      omega
theorem Bag.board (H : Bag W base RL X) (b : Below W.heap.size W W') {k : Nat} (h1 : W.heap.size ≤ k) (h2 : k < W'.heap.size) : Bag W' base RL (k :: X) := by
  have K := H.keep b
  refine ⟨K.own, K.apart, fun x hx q hq => ?_, fun q hq => ?_⟩
  · rcases List.mem_cons.1 hq with e | e
    · subst e
      intro e1
      have := ((H.own x hx).lt _ e1).2
      omega
    · exact H.off x hx q e
  · rcases List.mem_cons.1 hq with e | e
    · subst e; exact h2
    · exact K.ltX q e
/-- Two blocks that came in one step. -/
theorem Bag.board2 (H : Bag W base RL X) (b : Below W.heap.size W W') {k q : Nat} (h1 : W.heap.size ≤ k) (h2 : k < W'.heap.size) (h3 : W.heap.size ≤ q) (h4 : q < W'.heap.size) : Bag W' base RL (k :: q :: X) := by
  have K := H.board b h3 h4
  refine ⟨K.own, K.apart, fun x hx z hz => ?_, fun z hz => ?_⟩
  · rcases List.mem_cons.1 hz with e | e
    · subst e
      intro e1
      have := ((H.own x hx).lt _ e1).2
      omega
    · exact K.off x hx z e
  · rcases List.mem_cons.1 hz with e | e
    · subst e; exact h2
    · exact K.ltX z e
/-- A literal that lists rows of the bag. -/
theorem Fil.of_bag (H : Bag W base RL X) {N E e m : Nat} {n : Nat → Nat} {F : Nat → Nat → Value} (hN : W.heap.size = N) (hb : base ≤ N) (hm : us.length = m) (hx : us.length ≤ maxLen) (I : List Nat) (hI : I.Nodup) (hk : ∀ (k : Nat) (u : Value), us[k]? = some u → ∃ i x, I[k]? = some i ∧ RL[i]? = some x ∧ u = x.2.1 ∧ x.1 = e ∧ n k = x.2.2.length) :
    Fil (W.alloc (.cells us.toArray E)) base E e (.slice (some ⟨N, 0, none⟩) m m) us n F (fun _ _ => False) := by
  subst hN hm
  have L := (onto_lit (w := W) (e := E) us hx)
  refine ⟨?_, fun k u hu => ?_, fun k j u u' hu hu' hkj => ?_, fun k u hu => ?_⟩
  · exact ⟨L.own.1, L.own.2.imp id fun ⟨g, cap, cur, h1, h2, r⟩ => ⟨g, cap, cur, h1, by omega, r⟩⟩
  · obtain ⟨i, x, hi, hx, rfl, he, hn⟩ := hk k u hu
    have := H.own x (List.mem_of_getElem? hx)
    rw [he, ← hn] at this
    exact ⟨x.2.2, this.alloc _, fun t _ h => absurd h id⟩
  · obtain ⟨i, x, hi, hx, rfl, _⟩ := hk k u hu
    obtain ⟨i', x', hi', hx', rfl, _⟩ := hk j u' hu'
    refine H.apart i i' x x' hx hx' fun e => hkj ?_
    subst e
    exact nodup_at hI hi hi'
  · obtain ⟨i, x, hi, hx, rfl, _⟩ := hk k u hu
    intro q h1 h2
    have h1 : W.heap.size = q := by simpa [Value.ownBlock] using h1
    have := ((H.own x (List.mem_of_getElem? hx)).lt q h2).2
    omega
/-- Some rows were written over: the others stand. -/
theorem Bag.chg (H : Bag W base RL X) (I J : List Nat) (c : Chg (ablk us) W W') (hus : ∀ u ∈ us, ∃ i x, i ∈ I ∧ RL[i]? = some x ∧ u = x.2.1) (hJ : J.Nodup) (hIJ : ∀ j ∈ J, j ∉ I) (h2 : ∀ (k : Nat) (y : Nat × Value × List Value), RL2[k]? = some y → ∃ j, J[k]? = some j ∧ RL[j]? = some y) : Bag W' base RL2 X := by
  have mem : ∀ y ∈ RL2, ∃ j, j ∈ J ∧ RL[j]? = some y := fun y hy => by
    obtain ⟨k, hk⟩ := List.getElem?_of_mem hy
    obtain ⟨j, h3, h4⟩ := h2 k y hk
    exact ⟨j, List.mem_of_getElem? h3, h4⟩
  refine ⟨fun y hy => ?_, fun k k' x y hx hy hkk => ?_, fun y hy k hk => ?_, fun k hk => Nat.lt_of_lt_of_le (H.ltX k hk) c.size⟩
  · obtain ⟨j, h3, h4⟩ := mem y hy
    refine c.own (H.own y (List.mem_of_getElem? h4)) fun k hk hm => ?_
    obtain ⟨u, hu, he⟩ := List.mem_filterMap.1 hm
    obtain ⟨i, x, hi, hx, rfl⟩ := hus u hu
    exact H.apart i j x y hx h4 (fun e => hIJ j h3 (e ▸ hi)) k he hk
  · obtain ⟨j, h3, h4⟩ := h2 k x hx
    obtain ⟨j', h3', h4'⟩ := h2 k' y hy
    refine H.apart j j' x y h4 h4' fun e => hkk ?_
    subst e
    exact nodup_at hJ h3 h3'
  · obtain ⟨j, h3, h4⟩ := mem y hy
    exact H.off y (List.mem_of_getElem? h4) k hk
/-- A block of X is not written over. -/
theorem Bag.off_blk (H : Bag W base RL X) (hus : ∀ u ∈ us, ∃ (i : Nat) (x : Nat × Value × List Value), RL[i]? = some x ∧ u = x.2.1) {k : Nat} (hk : k ∈ X) : k ∉ ablk us := fun hm => by
  obtain ⟨u, hu, he⟩ := List.mem_filterMap.1 hm
  obtain ⟨i, x, hx, rfl⟩ := hus u hu
  exact H.off x (List.mem_of_getElem? hx) k hk he
theorem Bag.rd (H : Bag W base RL X) (i : Nat) {e n c : Nat} {A : Option Addr} {xs : List Value} (h : RL[i]? = some (e, .slice A n c, xs)) : Rd W W.heap.size A n xs := by
  have o := H.own _ (List.mem_of_getElem? h)
  simp only at o
  have hl : n = xs.length := by obtain ⟨_, _, e, _⟩ := own_form o; injection e
  rw [← hl] at o
  exact Rd.of_own o
end
end Go.Proofs.Ytjkenhkoakaaoaa
