/- What stands in memory while a law of memory goes: rows, boxes. Plain. (Turned from s30/MemU.) -/
import Derived.Test.YtjkenhkoakaaoaaMemS0
namespace Go.Proofs.Ytjkenhkoakaaoaa
open Go.RowKit
set_option linter.unusedVariables false
theorem heap_set7 (w : World) (g i : Nat) (u : Value) (xs : Array Value) (t : Nat) (h : w.heap[g]? = some (.cells xs t)) : (w.setCell ⟨g, i, none⟩ u).heap[g]? = some (.cells (xs.setIfInBounds i u) t) := by
  simp only [World.setCell]
  rw [Array.getElem?_modify, if_pos rfl, h]
  rfl
section
variable {W W' : World} {base : Nat} {RL NR : List (Nat × Value × List Value)} {X X' Y : List Nat}
theorem own_baseM {w : World} {base base' e n : Nat} {v : Value} {xs : List Value} (h : w.ownsRow base e 1 v n xs) (hb : base' ≤ base) : w.ownsRow base' e 1 v n xs := ⟨h.1, h.2.imp id fun ⟨g, cap, cur, e1, e2, r⟩ => ⟨g, cap, cur, e1, Nat.le_trans hb e2, r⟩⟩
/-- A message's rows come in, or a reader's. -/
theorem Bag.pushes (H : Bag W base RL X) (hb : base ≤ W.heap.size) (c : Chg Y W W') (hY : ∀ y ∈ Y, y ∈ X) (hX : ∀ x ∈ X', x < W'.heap.size ∧ (x ∈ X ∨ W.heap.size ≤ x))
    (hN : ∀ r ∈ NR, W'.ownsRow W.heap.size r.1 1 r.2.1 r.2.2.length r.2.2) (hA : NR.Pairwise fun r s => Apart r.2.1 s.2.1) (hO : ∀ r ∈ NR, ∀ k ∈ X', r.2.1.ownBlock ≠ some k) : Bag W' base (RL ++ NR) X' := by
  have K := H.turn0 (X' := X') c hY hX
  have old : ∀ x ∈ RL, ∀ k, x.2.1.ownBlock = some k → k < W.heap.size := fun x hx k hk => ((H.own x hx).lt k hk).2
  have new : ∀ r ∈ NR, ∀ k, r.2.1.ownBlock = some k → W.heap.size ≤ k := fun r hr k hk => ((hN r hr).lt k hk).1
  have sym : ∀ {a b : Nat × Value × List Value}, Apart a.2.1 b.2.1 → Apart b.2.1 a.2.1 := fun h g h1 h2 => h g h2 h1
  refine ⟨fun x hx => ?_, fun i j x y hx hy hij => ?_, fun x hx k hk => ?_, K.ltX⟩
  · rcases List.mem_append.1 hx with h | h
    · exact K.own x h
    · exact own_baseM (hN x h) hb
  · rcases Nat.lt_or_ge i RL.length with gi | gi <;> rcases Nat.lt_or_ge j RL.length with gj | gj
    · rw [List.getElem?_append_left gi] at hx; rw [List.getElem?_append_left gj] at hy; exact H.apart i j x y hx hy hij
    · rw [List.getElem?_append_left gi] at hx; rw [List.getElem?_append_right gj] at hy
      intro k h1 h2
      have := old x (List.mem_of_getElem? hx) k h1
      have := new y (List.mem_of_getElem? hy) k h2
      omega
    · rw [List.getElem?_append_right gi] at hx; rw [List.getElem?_append_left gj] at hy
      intro k h1 h2
      have := old y (List.mem_of_getElem? hy) k h2
      have := new x (List.mem_of_getElem? hx) k h1
      omega
    · rw [List.getElem?_append_right gi] at hx; rw [List.getElem?_append_right gj] at hy
      obtain ⟨li, ei⟩ := List.getElem?_eq_some_iff.1 hx
      obtain ⟨lj, ej⟩ := List.getElem?_eq_some_iff.1 hy
      rcases Nat.lt_trichotomy (i - RL.length) (j - RL.length) with g | g | g
      · have := List.pairwise_iff_getElem.1 hA _ _ li lj g
        rw [ei, ej] at this; exact this
      · omega
      · have := List.pairwise_iff_getElem.1 hA _ _ lj li g
        rw [ei, ej] at this; exact sym this
  · rcases List.mem_append.1 hx with h | h
    · exact K.off x h k hk
    · exact hO x h k hk
end
/-- Rows apart from one another and from the blocks X; boxes, of blocks of X; what was there at the beginning stands. -/
structure Ms (w0 w : World) (RL : List (Nat × Value × List Value)) (X : List Nat) (BL : List (Nat × Array Value × Nat)) : Prop where
  bag : Bag w w0.heap.size RL X
  bx : ∀ p ∈ BL, w.heap[p.1]? = some (.cells p.2.1 p.2.2) ∧ p.1 ∈ X
  be : Below w0.heap.size w0 w
  ge : ∀ x ∈ X, w0.heap.size ≤ x
section
variable {w0 w w' : World} {RL NR RL2 : List (Nat × Value × List Value)} {X X' Y : List Nat} {BL BL' : List (Nat × Array Value × Nat)} {us : List Value} {g : Nat}
theorem Ms.box_lt (H : Ms w0 w RL X BL) {p : Nat × Array Value × Nat} (h : p ∈ BL) : p.1 < w.heap.size := (Array.getElem?_eq_some_iff.1 (H.bx p h).1).1
theorem Ms.start (w0 : World) : Ms w0 w0 [] [] [] := ⟨Bag.nil _ _, fun p h => absurd h List.not_mem_nil, Below.refl _ _, fun x h => absurd h List.not_mem_nil⟩
theorem Ms.below (H : Ms w0 w RL X BL) (b : Below w.heap.size w w') : Ms w0 w' RL X BL :=
  ⟨H.bag.keep b, fun p hp => ⟨(b.block p.1 (H.box_lt hp)).trans (H.bx p hp).1, (H.bx p hp).2⟩, H.be.trans (b.mono H.be.size), H.ge⟩
theorem Ms.turn (H : Ms w0 w RL X BL) (c : Chg Y w w') (hY : ∀ y ∈ Y, y ∈ X) (hb : ∀ p ∈ BL, p.1 ∉ Y) (hX : ∀ x ∈ X', x < w'.heap.size ∧ (x ∈ X ∨ w.heap.size ≤ x)) (hbx : ∀ p ∈ BL, p.1 ∈ X')
    (hN : ∀ r ∈ NR, w'.ownsRow w.heap.size r.1 1 r.2.1 r.2.2.length r.2.2) (hA : NR.Pairwise fun r s => Apart r.2.1 s.2.1) (hO : ∀ r ∈ NR, ∀ k ∈ X', r.2.1.ownBlock ≠ some k) : Ms w0 w' (RL ++ NR) X' BL :=
  ⟨H.bag.pushes H.be.size c hY hX hN hA hO, fun p hp => ⟨(c.block p.1 (H.box_lt hp) (hb p hp)).trans (H.bx p hp).1, hbx p hp⟩, H.be.trans (c.below H.be.size fun k hk => H.ge k (hY k hk)), fun x hx => (hX x hx).2.elim (H.ge x) (Nat.le_trans H.be.size)⟩
theorem Ms.rows (H : Ms w0 w RL X BL) (b : Below w.heap.size w w') (hN : ∀ r ∈ NR, w'.ownsRow w.heap.size r.1 1 r.2.1 r.2.2.length r.2.2) (hA : NR.Pairwise fun r s => Apart r.2.1 s.2.1) : Ms w0 w' (RL ++ NR) X BL :=
  H.turn (Y := []) (Chg.of_below b) (fun y h => absurd h List.not_mem_nil) (fun p _ => List.not_mem_nil) (fun x hx => ⟨Nat.lt_of_lt_of_le (H.bag.ltX x hx) b.size, .inl hx⟩) (fun p hp => (H.bx p hp).2) hN hA
    fun r hr k hk e => by have := ((hN r hr).lt k e).1; have := H.bag.ltX k hk; omega
theorem Ms.row (H : Ms w0 w RL X BL) {e n : Nat} {v : Value} {xs : List Value} (hn : xs.length = n) (b : Below w.heap.size w w') (o : w'.ownsRow w.heap.size e 1 v n xs) : Ms w0 w' (RL ++ [(e, v, xs)]) X BL :=
  ⟨H.bag.push H.be.size hn b o, (H.below b).bx, (H.below b).be, H.ge⟩
theorem Ms.tail (K : Bag w w0.heap.size RL (g :: X)) (be : Below w0.heap.size w0 w) (ge : ∀ x ∈ X, w0.heap.size ≤ x) (hg : w0.heap.size ≤ g) {c : Array Value} {t : Nat} (h : w.heap[g]? = some (.cells c t)) (hb : ∀ p ∈ BL, w.heap[p.1]? = some (.cells p.2.1 p.2.2) ∧ p.1 ∈ X) : Ms w0 w RL (X ++ [g]) (BL ++ [(g, c, t)]) := by
  have hm : ∀ {k}, k ∈ X ++ [g] → k ∈ g :: X := fun hk => (List.mem_append.1 hk).elim (fun h => List.mem_cons_of_mem _ h) (fun h => by rw [List.mem_singleton.1 h]; exact List.mem_cons_self)
  refine ⟨⟨K.own, K.apart, fun x hx k hk => K.off x hx k (hm hk), fun k hk => K.ltX k (hm hk)⟩, fun p hp => ?_, be, fun x hx => ?_⟩
  · rcases List.mem_append.1 hp with hp | hp
    · exact ⟨(hb p hp).1, List.mem_append_left _ (hb p hp).2⟩
    · rw [List.mem_singleton.1 hp]; exact ⟨h, List.mem_append_right _ (List.mem_singleton.2 rfl)⟩
  · rcases List.mem_append.1 hx with hx | hx
    · exact ge x hx
    · rw [List.mem_singleton.1 hx]; exact hg
theorem Ms.box (H : Ms w0 w RL X BL) {g : Nat} {c : Array Value} {t : Nat} (b : Below w.heap.size w w') (hg : w.heap.size ≤ g) (h : w'.heap[g]? = some (.cells c t)) : Ms w0 w' RL (X ++ [g]) (BL ++ [(g, c, t)]) :=
  Ms.tail (H.bag.board b hg (Array.getElem?_eq_some_iff.1 h).1) (H.below b).be H.ge (Nat.le_trans H.be.size hg) h (H.below b).bx
/-- New blocks of no row and no box: a reader's. -/
theorem Ms.more (H : Ms w0 w RL X BL) (b : Below w.heap.size w w') (hX : ∀ x ∈ X', x < w'.heap.size ∧ w.heap.size ≤ x) : Ms w0 w' RL (X ++ X') BL := by
  have := H.turn (Y := []) (X' := X ++ X') (NR := []) (Chg.of_below b) (fun y h => absurd h List.not_mem_nil) (fun p _ => List.not_mem_nil)
    (fun x hx => (List.mem_append.1 hx).elim (fun h => ⟨Nat.lt_of_lt_of_le (H.bag.ltX x h) b.size, .inl h⟩) (fun h => ⟨(hX x h).1, .inr (hX x h).2⟩))
    (fun p hp => List.mem_append_left _ (H.bx p hp).2) (fun r h => absurd h List.not_mem_nil) List.Pairwise.nil (fun r h => absurd h List.not_mem_nil)
  rwa [List.append_nil] at this
/-- A box is stored to. -/
theorem Ms.set (H : Ms w0 w RL X BL) {g : Nat} {c : Array Value} {t : Nat} (hg : g ∈ X) (cg : Chg [g] w w') (h : w'.heap[g]? = some (.cells c t)) (hB : ∀ p ∈ BL', p = (g, c, t) ∨ (p ∈ BL ∧ p.1 ≠ g)) : Ms w0 w' RL X BL' := by
  refine ⟨H.bag.turn0 (X' := X) cg (fun y hy => by rw [List.mem_singleton.1 hy]; exact hg) fun x hx => ⟨Nat.lt_of_lt_of_le (H.bag.ltX x hx) cg.size, .inl hx⟩, fun p hp => ?_, H.be.trans (cg.below H.be.size fun k hk => by rw [List.mem_singleton.1 hk]; exact H.ge g hg), H.ge⟩
  rcases hB p hp with rfl | ⟨h1, h2⟩
  · exact ⟨h, hg⟩
  · exact ⟨(cg.block p.1 (H.box_lt h1) fun e => h2 (List.mem_singleton.1 e)).trans (H.bx p h1).1, (H.bx p h1).2⟩
theorem Ms.cell (H : Ms w0 w RL X BL) (j : Nat) {c : Array Value} {t : Nat} (hj : BL[j]? = some (g, c, t)) (i : Nat) (u : Value) (hB : ∀ p ∈ BL', p = (g, c.setIfInBounds i u, t) ∨ (p ∈ BL ∧ p.1 ≠ g)) : Ms w0 (w.setCell ⟨g, i, none⟩ u) RL X BL' :=
  H.set (H.bx _ (List.mem_of_getElem? hj)).2 ((Chg.refl [g] w).setCell (by simp) u) (heap_set7 w g i u _ _ (H.bx _ (List.mem_of_getElem? hj)).1) hB
theorem Ms.box_ (H : Ms w0 w RL X BL) (j : Nat) {c : Array Value} {t : Nat} (hj : BL[j]? = some (g, c, t)) : w.heap[g]? = some (.cells c t) := (H.bx _ (List.mem_of_getElem? hj)).1
theorem Ms.z (H : Ms w0 w RL X BL) (j : Nat) {c : Array Value} {t : Nat} (hj : BL[j]? = some (g, c, t)) (i : Nat) : w.frozen? ⟨g, i, none⟩ = false := by simp [World.frozen?, H.box_ j hj]
/-- Rows have been written over. -/
theorem Ms.chg (H : Ms w0 w RL X BL) (I J : List Nat) (c : Chg (ablk us) w w') (hus : ∀ u ∈ us, ∃ i x, i ∈ I ∧ RL[i]? = some x ∧ u = x.2.1) (hJ : J.Nodup) (hIJ : ∀ j ∈ J, j ∉ I) (h2 : ∀ (k : Nat) (y : Nat × Value × List Value), RL2[k]? = some y → ∃ j, J[k]? = some j ∧ RL[j]? = some y) : Ms w0 w' RL2 X BL :=
  ⟨H.bag.chg I J c hus hJ hIJ h2, fun p hp => ⟨(c.block p.1 (H.box_lt hp) (H.bag.off_blk (fun u hu => (hus u hu).imp fun i ⟨x, h⟩ => ⟨x, h.2⟩) (H.bx p hp).2)).trans (H.bx p hp).1, (H.bx p hp).2⟩,
    H.be.trans (c.below H.be.size fun k hk => by
      obtain ⟨u, hu, he⟩ := List.mem_filterMap.1 hk
      obtain ⟨i, x, _, hx, rfl⟩ := hus u hu
      exact ((H.bag.own x (List.mem_of_getElem? hx)).lt k he).1), H.ge⟩
theorem Ms.at_ (H : Ms w0 w RL X BL) (j : Nat) {c : Array Value} {t : Nat} (hj : BL[j]? = some (g, c, t)) (i : Nat) {v : Value} (hv : c[i]? = some v) : w.cell? ⟨g, i, none⟩ = some v := by
  rw [cell_of_row w g i _ _ (0, 0) (H.box_ j hj)]; exact hv
theorem Ms.rd (H : Ms w0 w RL X BL) (i : Nat) {e n c : Nat} {A : Option Addr} {xs : List Value} (h : RL[i]? = some (e, .slice A n c, xs)) : Rd w w.heap.size A n xs := H.bag.rd i h
end
end Go.Proofs.Ytjkenhkoakaaoaa
