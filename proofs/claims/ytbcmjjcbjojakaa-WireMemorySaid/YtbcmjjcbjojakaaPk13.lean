/- Put together of: MemU AnCP MemF PushX ContR AskR. -/
import Derived.Test.YtbcmjjcbjojakaaPk12
import Derived.Test.YtbcmjjcbjojakaaMsgM
import Derived.Test.YtbcmjjcbjojakaaPk7
import Derived.Test.YtbcmjjcbjojakaaFitW
import Derived.Test.YtbcmjjcbjojakaaAnX
import Derived.Test.YtbcmjjcbjojakaaPk10
import Derived.Test.YtbcmjjcbjojakaaPk3
import Derived.Test.YtbcmjjcbjojakaaPk6
import Derived.Deep.Cut
import Derived.Test.YtbcmjjcbjojakaaAskW
section
namespace Go.Proofs.Ytbcmjjcbjojakaa
open Go.RowKit
set_option linter.unusedVariables false
/-- Rows apart from one another and from the blocks X; boxes, of blocks of X; what was there at the beginning stands. -/
structure Ms (w0 w : World) (RL : List (Nat × Value × List Value)) (X : List Nat) (BL : List (Nat × Array Value × Nat)) : Prop where
 bag : Bag w w0.heap.size RL X
 bx : ∀ p ∈ BL, w.heap[p.1]? = some (.cells p.2.1 p.2.2) ∧ p.1 ∈ X
 be : Below w0.heap.size w0 w
 ge : ∀ x ∈ X, w0.heap.size ≤ x
section
variable {w0 w w' : World} {RL NR RL2 : List (Nat × Value × List Value)} {X X' Y : List Nat} {BL BL' : List (Nat × Array Value × Nat)} {us : List Value} {g : Nat}
theorem Ms.box_lt (H : Ms w0 w RL X BL) {p : Nat × Array Value × Nat} (h : p ∈ BL) : p.1 < w.heap.size := (Array.getElem?_eq_some_iff.1 (H.bx p h).1).1
theorem Ms.start (w0 : World) : Ms w0 w0 [] [] [] := ⟨Bag.nil _ _, fun p h => absurd h List.not_mem_nil, Below.refl _ _, fun x h => absurd h List.not_mem_nil⟩
theorem Ms.below (H : Ms w0 w RL X BL) (b : Below w.heap.size w w') : Ms w0 w' RL X BL :=
 ⟨H.bag.keep b, fun p hp => ⟨(b.block p.1 (H.box_lt hp)).trans (H.bx p hp).1, (H.bx p hp).2⟩, H.be.trans (b.mono H.be.size), H.ge⟩
theorem Ms.turn (H : Ms w0 w RL X BL) (c : Chg Y w w') (hY : ∀ y ∈ Y, y ∈ X) (hb : ∀ p ∈ BL, p.1 ∉ Y) (hX : ∀ x ∈ X', x < w'.heap.size ∧ (x ∈ X ∨ w.heap.size ≤ x)) (hbx : ∀ p ∈ BL, p.1 ∈ X')
  (hN : ∀ r ∈ NR, w'.ownsRow w.heap.size r.1 1 r.2.1 r.2.2.length r.2.2) (hA : NR.Pairwise fun r s => Apart r.2.1 s.2.1) (hO : ∀ r ∈ NR, ∀ k ∈ X', r.2.1.ownBlock ≠ some k) : Ms w0 w' (RL ++ NR) X' BL :=
 ⟨H.bag.pushes H.be.size c hY hX hN hA hO, fun p hp => ⟨(c.block p.1 (H.box_lt hp) (hb p hp)).trans (H.bx p hp).1, hbx p hp⟩, H.be.trans (c.below H.be.size fun k hk => H.ge k (hY k hk)), fun x hx => (hX x hx).2.elim (H.ge x) (Nat.le_trans H.be.size)⟩
theorem Ms.rows (H : Ms w0 w RL X BL) (b : Below w.heap.size w w') (hN : ∀ r ∈ NR, w'.ownsRow w.heap.size r.1 1 r.2.1 r.2.2.length r.2.2) (hA : NR.Pairwise fun r s => Apart r.2.1 s.2.1) : Ms w0 w' (RL ++ NR) X BL :=
 H.turn (Y := []) (Chg.of_below b) (fun y h => absurd h List.not_mem_nil) (fun p _ => List.not_mem_nil) (fun x hx => ⟨Nat.lt_of_lt_of_le (H.bag.ltX x hx) b.size, .inl hx⟩) (fun p hp => (H.bx p hp).2) hN hA
  fun r hr k hk e => by have := ((hN r hr).lt k e).1; have := H.bag.ltX k hk; omega
theorem Ms.row (H : Ms w0 w RL X BL) {e n : Nat} {v : Value} {xs : List Value} (hn : xs.length = n) (b : Below w.heap.size w w') (o : w'.ownsRow w.heap.size e 1 v n xs) : Ms w0 w' (RL ++ [(e, v, xs)]) X BL :=
 ⟨H.bag.push H.be.size hn b o, (H.below b).bx, (H.below b).be, H.ge⟩
theorem Ms.tail (K : Bag w w0.heap.size RL (g :: X)) (be : Below w0.heap.size w0 w) (ge : ∀ x ∈ X, w0.heap.size ≤ x) (hg : w0.heap.size ≤ g) {c : Array Value} {t : Nat} (h : w.heap[g]? = some (.cells c t)) (hb : ∀ p ∈ BL, w.heap[p.1]? = some (.cells p.2.1 p.2.2) ∧ p.1 ∈ X) : Ms w0 w RL (X ++ [g]) (BL ++ [(g, c, t)]) := by
 have hm : ∀ {k}, k ∈ X ++ [g] → k ∈ g :: X := fun hk => (List.mem_append.1 hk).elim (fun h => List.mem_cons_of_mem _ h) (fun h => by rw [List.mem_singleton.1 h]; exact List.mem_cons_self)
 refine ⟨⟨K.own, K.apart, fun x hx k hk => K.off x hx k (hm hk), fun k hk => K.ltX k (hm hk)⟩, fun p hp => ?_, be, fun x hx => ?_⟩
 ·rcases List.mem_append.1 hp with hp | hp
  ·exact ⟨(hb p hp).1, List.mem_append_left _ (hb p hp).2⟩
  ·rw [List.mem_singleton.1 hp]; exact ⟨h, List.mem_append_right _ (List.mem_singleton.2 rfl)⟩
 ·rcases List.mem_append.1 hx with hx | hx
  ·exact ge x hx
  ·rw [List.mem_singleton.1 hx]; exact hg
theorem Ms.box (H : Ms w0 w RL X BL) {g : Nat} {c : Array Value} {t : Nat} (b : Below w.heap.size w w') (hg : w.heap.size ≤ g) (h : w'.heap[g]? = some (.cells c t)) : Ms w0 w' RL (X ++ [g]) (BL ++ [(g, c, t)]) :=
 Ms.tail (H.bag.board b hg (Array.getElem?_eq_some_iff.1 h).1) (H.below b).be H.ge (Nat.le_trans H.be.size hg) h (H.below b).bx
/-- New blocks of no row and no box: a reader's. -/
theorem Ms.more (H : Ms w0 w RL X BL) (b : Below w.heap.size w w') (hX : ∀ x ∈ X', x < w'.heap.size ∧ w.heap.size ≤ x) : Ms w0 w' RL (X ++ X') BL := by
 have := H.turn (Y := []) (X' := X ++ X') (NR := []) (Chg.of_below b) (fun y h => absurd h List.not_mem_nil) (fun p _ => List.not_mem_nil)
  (fun x hx => (List.mem_append.1 hx).elim (fun h => ⟨Nat.lt_of_lt_of_le (H.bag.ltX x h) b.size, .inl h⟩) (fun h => ⟨(hX x h).1, .inr (hX x h).2⟩))
  (fun p hp => List.mem_append_left _ (H.bx p hp).2) (fun r h => absurd h List.not_mem_nil) List.Pairwise.nil (fun r h => absurd h List.not_mem_nil)
 rwa [List.append_nil] at this
/-- A box is stored to. -/
theorem Ms.set (H : Ms w0 w RL X BL) {g : Nat} {c : Array Value} {t : Nat} (hg : g ∈ X) (cg : Chg [g] w w') (h : w'.heap[g]? = some (.cells c t)) (hB : ∀ p ∈ BL', p = (g, c, t) ∨ (p ∈ BL ∧ p.1 ≠ g)) : Ms w0 w' RL X BL' := by
 refine ⟨H.bag.turn (X' := X) cg (fun y hy => by rw [List.mem_singleton.1 hy]; exact hg) fun x hx => ⟨Nat.lt_of_lt_of_le (H.bag.ltX x hx) cg.size, .inl hx⟩, fun p hp => ?_, H.be.trans (cg.below H.be.size fun k hk => by rw [List.mem_singleton.1 hk]; exact H.ge g hg), H.ge⟩
 rcases hB p hp with rfl | ⟨h1, h2⟩
 ·exact ⟨h, hg⟩
 ·exact ⟨(cg.block p.1 (H.box_lt h1) fun e => h2 (List.mem_singleton.1 e)).trans (H.bx p h1).1, (H.bx p h1).2⟩
theorem Ms.cell (H : Ms w0 w RL X BL) (j : Nat) {c : Array Value} {t : Nat} (hj : BL[j]? = some (g, c, t)) (i : Nat) (u : Value) (hB : ∀ p ∈ BL', p = (g, c.setIfInBounds i u, t) ∨ (p ∈ BL ∧ p.1 ≠ g)) : Ms w0 (w.setCell ⟨g, i, none⟩ u) RL X BL' :=
 H.set (H.bx _ (List.mem_of_getElem? hj)).2 ((Chg.refl [g] w).setCell (by simp) u) (heap_set w g i u _ _ (H.bx _ (List.mem_of_getElem? hj)).1) hB
theorem Ms.box_ (H : Ms w0 w RL X BL) (j : Nat) {c : Array Value} {t : Nat} (hj : BL[j]? = some (g, c, t)) : w.heap[g]? = some (.cells c t) := (H.bx _ (List.mem_of_getElem? hj)).1
theorem Ms.z (H : Ms w0 w RL X BL) (j : Nat) {c : Array Value} {t : Nat} (hj : BL[j]? = some (g, c, t)) (i : Nat) : w.frozen? ⟨g, i, none⟩ = false := by simp [World.frozen?, H.box_ j hj]
/-- A message or a value that a call made, laid into a new box. -/
structure Reg (NR : List (Nat × Value × List Value)) (V : Array Value) (t : Nat) (wr wx : World) (g : Nat) : Prop where
 b : wx.heap[g]? = some (.cells V t)
 lo : wr.heap.size ≤ g
 be : Below wr.heap.size wr wx
 ok : ∀ r ∈ NR, wx.ownsRow wr.heap.size r.1 1 r.2.1 r.2.2.length r.2.2
 off : ∀ r ∈ NR, r.2.1.ownBlock ≠ some g
/-- A call that made rows, and nothing else. -/
structure CallB (NR : List (Nat × Value × List Value)) (w w' : World) : Prop where
 be : Below w.heap.size w w'
 ok : ∀ r ∈ NR, w'.ownsRow w.heap.size r.1 1 r.2.1 r.2.2.length r.2.2
/-- Rows have been written over. -/
theorem Ms.chg (H : Ms w0 w RL X BL) (I J : List Nat) (c : Chg (ablk us) w w') (hus : ∀ u ∈ us, ∃ i x, i ∈ I ∧ RL[i]? = some x ∧ u = x.2.1) (hJ : J.Nodup) (hIJ : ∀ j ∈ J, j ∉ I) (h2 : ∀ (k : Nat) (y : Nat × Value × List Value), RL2[k]? = some y → ∃ j, J[k]? = some j ∧ RL[j]? = some y) : Ms w0 w' RL2 X BL :=
 ⟨H.bag.chg I J c hus hJ hIJ h2, fun p hp => ⟨(c.block p.1 (H.box_lt hp) (H.bag.off_blk (fun u hu => (hus u hu).imp fun i ⟨x, h⟩ => ⟨x, h.2⟩) (H.bx p hp).2)).trans (H.bx p hp).1, (H.bx p hp).2⟩,
  H.be.trans (c.below H.be.size fun k hk => by
   obtain ⟨u, hu, he⟩ := List.mem_filterMap.1 hk
   obtain ⟨i, x, _, hx, rfl⟩ := hus u hu
   exact ((H.bag.own x (List.mem_of_getElem? hx)).lt k he).1), H.ge⟩
theorem Ms.at_ (H : Ms w0 w RL X BL) (j : Nat) {c : Array Value} {t : Nat} (hj : BL[j]? = some (g, c, t)) (i : Nat) {v : Value} (hv : c[i]? = some v) : w.cell? ⟨g, i, none⟩ = some v := by
 rw [cell_of_row w g i _ _ (0, 0) (H.box_ j hj)]; exact hv
theorem Ms.rd (H : Ms w0 w RL X BL) (i : Nat) {e n c : Nat} {A : Option Addr} {xs : List Value} (h : RL[i]? = some (e, .slice A n c, xs)) : Rd w w.heap.size A n xs := H.bag.rd i h
end
end Go.Proofs.Ytbcmjjcbjojakaa
end
section
namespace Go.Proofs.Ytbcmjjcbjojakaa
open Go.RowKit
set_option linter.unusedVariables false
theorem tx_ltT : ∀ (l : List ByteArray), (∀ t ∈ l, t.size ≤ 255) → ∀ y ∈ tx l, y < 256
 | [], _, y, hy => by cases hy
 | t :: l, h, y, hy => by
  unfold tx at hy
  rw [List.flatMap_cons] at hy
  rcases List.mem_append.1 hy with h1 | h1
  ·rcases List.mem_append.1 h1 with h2 | h2
   ·exact uv_lt _ (by have := h t (List.mem_cons_self ..); omega) y h2
   ·exact sb_lt t y h2
  ·exact tx_ltT l (fun x hx => h x (List.mem_cons_of_mem _ hx)) y h1
open Classical in
theorem anC_ltT {a : An} (hok : anOk a) (h : anFit a) (hb : AnB a) : ∀ y ∈ anC a, y < 256 := by
 obtain ⟨f1, f2, f3, f4⟩ := h
 have hc := hok.2.2.1
 have hc2 := hok.2.2.2.1
 have gi : ∀ (p : Prop) [Decidable p] (l : List Nat), (∀ y ∈ l, y < 256) → ∀ y ∈ (if p then l else []), y < 256 := fun p _ l hl y hy => by
  split at hy
  ·exact hl y hy
  ·cases hy
 have ap : ∀ (l m : List Nat), (∀ y ∈ l, y < 256) → (∀ y ∈ m, y < 256) → ∀ y ∈ l ++ m, y < 256 := fun l m h1 h2 y hy => (List.mem_append.1 hy).elim (h1 y) (h2 y)
 have gz : ∀ v, (v = a.ge ∨ v = a.gc ∨ v = a.size ∨ v = a.h1 ∨ v = a.h2 ∨ v = a.h3 ∨ v = a.h4) → ∀ y ∈ uz v, y < 256 := fun v hv => uz_lt v (hb.n v hv).1 (hb.n v hv).2
 have hk : a.keys.length < 2 ^ 64 := by have := f2.1; split at this <;> omega
 have hg : a.groups.length < 2 ^ 64 := by have := f3.1; omega
 have gt : ∀ l : List ByteArray, l.length < 2 ^ 64 → (∀ t ∈ l, t.size ≤ 255) → ∀ y ∈ ut l, y < 256 := fun l h1 h2 => ap _ _ (uv_lt _ h1) (tx_ltT l h2)
 unfold anC
 refine ap _ _ (ap _ _ (ap _ _ (ap _ _ (ap _ _ (ap _ _ (ap _ _ (fun y hy => fx_lt _ _ y hy) (fun y hy => fx_lt _ _ y hy)) (uv_lt _ (by omega))) (gi _ _ (ap _ _ (ap _ _ (ap _ _ (gz _ (by simp)) (gz _ (by simp))) (gz _ (by simp))) (gz _ (by simp))))) (gi _ _ (ub_lt _ (by omega) hb.b))) (gi _ _ (ap _ _ (ap _ _ (gz _ (by simp)) (gz _ (by simp))) (gz _ (by simp))))) (gi _ _ (gt _ hk f2.2))) (gi _ _ (ap _ _ (ap _ _ (gt _ hg f3.2) (us_lt _ (by omega))) ?_))
 intro y hy
 rw [List.mem_singleton] at hy
 subst hy
 split <;> omega
end Go.Proofs.Ytbcmjjcbjojakaa
end
section
namespace Go.Proofs.Ytbcmjjcbjojakaa
open Go.RowKit
set_option linter.unusedVariables false
theorem anW_rr {a : An} {w : World} {b : Nat} {v1 v2 v3 : Value} (h : (anW a v1 v2 v3).ok w b) : w.ownsRow b 5 1 v1 a.body.length (cb a.body) ∧ w.ownsRow b 9 1 v2 a.keys.length (cs a.keys) ∧ w.ownsRow b 9 1 v3 a.groups.length (cs a.groups) := by
 have q1 := h (5, v1, cb a.body) (by simp [anW])
 have q2 := h (9, v2, cs a.keys) (by simp [anW])
 have q3 := h (9, v3, cs a.groups) (by simp [anW])
 simp only [cb_length, cs_len] at q1 q2 q3
 exact ⟨q1, q2, q3⟩
def FitLaw : Prop := ∀ (w : World) (a : An) (kind code ge gc size h1 h2 h3 h4 : Int) (tag : Nat) (body : List Nat) (keys groups : List ByteArray) (next : ByteArray) (more : Bool) (ha : a = ⟨kind, tag, code, body, keys, groups, next, more, ge, gc, size, h1, h2, h3, h4⟩) (A A2 A3 : Option Addr) (n c n2 c2 n3 c3 : Nat)
  (hr : Rd w w.heap.size A n (cb body)) (hr2 : Rd w w.heap.size A2 n2 (cs keys)) (hr3 : Rd w w.heap.size A3 n3 (cs groups)) (hnc : n ≤ c) (hn2 : n2 ≤ 8796093022000) (hn3 : n3 ≤ 8796093022000) (hk : I64 kind) (hc : I64 code) (hx : next.size ≤ maxLen) (hs2 : ∀ t ∈ keys, t.size ≤ maxLen) (hs3 : ∀ t ∈ groups, t.size ≤ maxLen),
  Calls Try.prog 34 #[.agg #[.int .i64 kind, .int .u64 (tag : Int), .int .i64 code, .slice A n c, .slice A2 n2 c2, .slice A3 n3 c3, .string next, .bool more, .int .i64 ge, .int .i64 gc, .int .i64 size, .int .i64 h1, .int .i64 h2, .int .i64 h3, .int .i64 h4]] w fun e w' => ∃ v1 v2 v3, e = .returned (.agg (anW (fitAnP a) v1 v2 v3).cells.toArray) ∧ (anW (fitAnP a) v1 v2 v3).ok w' w.heap.size ∧ RAp (anW (fitAnP a) v1 v2 v3) ∧ Below w.heap.size w w'
end Go.Proofs.Ytbcmjjcbjojakaa
end
section
namespace Go.Proofs.Ytbcmjjcbjojakaa
open Go.RowKit
set_option linter.unusedVariables false
set_option linter.unusedSimpArgs false
/-- No two of these messages share a block. -/
def WAp (A B : Wm) : Prop := ∀ r ∈ A.rows, ∀ s ∈ B.rows, Apart r.2.1 s.2.1
def PwA (nw : List Wm) : Prop := nw.Pairwise WAp
theorem PwA.snoc {nw dw : List Wm} {w w' : World} {b : Nat} (h : PwA nw) (ho : ∀ W ∈ nw, W.ok w b) (hd : ∀ W ∈ dw, W.ok w' w.heap.size) (h1 : dw.length ≤ 1) : PwA (nw ++ dw) := by
 refine List.pairwise_append.2 ⟨h, ?_, fun A hA B hB r hr s hs g hg hk => ?_⟩
 ·match dw, h1 with
  | [], _ => exact List.Pairwise.nil
  | [x], _ => exact List.pairwise_singleton _ _
 ·have k1 := ((ho A hA).lt hr hg).2
  have k2 := ((hd B hB).lt hs hk).1
  omega
structure ConnX {T : Type} (nw : List Wm) (rd : List Nat → Option T) (o : Out T) (L : List Nat) (at_ : Nat) (m : Mid) (fl : Int) (ns : List T) : Prop extends Conn rd o L at_ m fl ns where
 pw : PwA nw
structure PEndX {T : Type} (nw : List Wm) (o : Out T) (L : List Nat) (at_ : Nat) (m : Mid) (fl : Int) (ns : List T) : Prop extends PEnd o L at_ m fl ns where
 pw : PwA nw
theorem conn_stepX {T : Type} {Z : Kd T} {w w' : World} {b : Nat} {o : Out T} {L : List Nat} {at_ r : Nat} {m m' : Mid} {fl' : Int} {ns : List T} {nw ws ws' : List Wm} {xs xs' : List T} (hc : ConnX nw Z.rd o L at_ m 0 ns) (hok : ∀ W ∈ nw, W.ok w b) (ha : at_ ≤ L.length) (hm : MidOk m) (hk : CkLaw Z w.heap.size w' m (L.drop at_) ws xs r m' fl' ws' xs') :
  (r = 0 ∧ ws' = ws ∧ xs' = xs ∧ ((fl' = 0 ∧ m' = m ∧ o = ⟨ns, 0, m, L.drop at_⟩) ∨ (fl' ≠ 0 ∧ o.ms = ns ∧ o.fl = fl'))) ∨
  (0 < r ∧ at_ + r ≤ L.length ∧ ∃ (d : List T) (dw : List Wm), xs' = xs ++ d ∧ ws' = ws ++ dw ∧ (∀ W ∈ dw, W.ok w' w.heap.size) ∧ d.length ≤ 1 ∧ dw.length ≤ 1 ∧ ConnX (nw ++ dw) Z.rd o L (at_ + r) m' fl' (ns ++ d) ∧ (fl' = 0 → MidOk m')) := by
 rcases conn_step hc.toConn ha hm hk with h | ⟨h1, h2, d, dw, h3, h4, h5, h6, h7, h8, h9⟩
 ·exact .inl h
 ·exact .inr ⟨h1, h2, d, dw, h3, h4, h5, h6, h7, ⟨h8, hc.pw.snoc hok h5 h7⟩, h9⟩
def PushDoneX {T : Type} (Z : Kd T) (base : Nat) (w : World) (g : Nat) (vl vc vq : Value) (o : Out T) (ws : List Wm) (xs : List T) (e : Ending) (w' : World) : Prop :=
 ∃ (vl' vc' vq' : Value) (L' : List Nat) (m' : Mid) (C' : Nat) (nw : List Wm), e = .returned (.int .i64 o.fl) ∧ RdS Z base w' g vl' vc' vq' L' m'.c m'.s C' m'.k m'.p o.fl (ws ++ nw) (xs ++ o.ms) ∧ (o.fl = 0 → m' = o.mid ∧ L' = o.rest ∧ MidOk m') ∧ (o.fl ≠ 0 → L' = []) ∧
  Chg (rdX g vl vc vq) w w' ∧ (∀ x ∈ rdX g vl' vc' vq', x ∈ rdX g vl vc vq ∨ w.heap.size ≤ x) ∧ (∀ W ∈ nw, W.ok w' w.heap.size) ∧ PwA nw
theorem push_endX {T : Type} {Z : Kd T} {base : Nat} {w w' : World} {g : Nat} {vl vc vq vl' vc' vq' : Value} {o : Out T} {ws nw : List Wm} {xs ns : List T} {L' : List Nat} {m' : Mid} {C' : Nat} {f : Int} (hp : PwA nw)
  (h : RdS Z base w' g vl' vc' vq' L' m'.c m'.s C' m'.k m'.p f (ws ++ nw) (xs ++ ns)) (h1 : o.fl = f) (h2 : o.ms = ns) (h3 : o.fl = 0 → m' = o.mid ∧ L' = o.rest ∧ MidOk m') (h4 : o.fl ≠ 0 → L' = []) (h5 : Chg (rdX g vl vc vq) w w')
  (h6 : ∀ x ∈ rdX g vl' vc' vq', x ∈ rdX g vl vc vq ∨ w.heap.size ≤ x) (h7 : ∀ W ∈ nw, W.ok w' w.heap.size) : PushDoneX Z base w g vl vc vq o ws xs (.returned (.int .i64 f)) w' :=
 ⟨vl', vc', vq', L', m', C', nw, by rw [h1], by rw [h1, h2]; exact h, h3, h4, h5, h6, h7, hp⟩
set_option maxRecDepth 20000 in
set_option maxHeartbeats 16000000 in
theorem push_apart {T : Type} (Z : Kd T) (HMS : MsgLaw Z) (base : Nat) (w : World) (g : Nat) (vl vc vq : Value) (L : List Nat) (m : Mid) (C : Nat) (ws : List Wm) (xs : List T) (h : RdS Z base w g vl vc vq L m.c m.s C m.k m.p 0 ws xs) (A : Option Addr) (n cp : Nat) (bs : List Nat) (hr : Rd w w.heap.size A n (cb bs)) (hl : ∀ x ∈ bs, x < 256)
  (hm : MidOk m) (hb : ws.length + L.length + n ≤ 137438953472) :
  Calls Try.prog 35 #[.pointer (some ⟨g, 0, none⟩), .slice A n cp] w (PushDoneX Z base w g vl vc vq (go Z.rd m (L ++ bs)) ws xs) := by
 have hbl : bs.length = n := by have := hr.1; rwa [cb_length] at this
 have H0 := Hd.mk h
 have HM := Hd.mk HMS
 have HR : Hd (Rd w w.heap.size A n (cb bs) ∧ (∀ x ∈ bs, x < 256) ∧ bs.length = n ∧ MidOk m) := ⟨hr, hl, hbl, hm⟩
 have d7 : w.cell? ⟨g, 7, none⟩ = some (.int .i64 0) := h.at_ 7 rfl
 have d1 : w.cell? ⟨g, 1, none⟩ = some vl := h.at_ 1 rfl
 obtain ⟨lL, hlL⟩ : ∃ l, L.length = l := ⟨_, rfl⟩
 have HLL := Hd.mk hlL
 rw [hlL] at hb
 clear h HMS hr hl hbl hm hlL
 obtain ⟨M, hM⟩ : ∃ M, lL + n = M := ⟨_, rfl⟩
 obtain ⟨LB, hLB⟩ : ∃ l, L ++ bs = l := ⟨_, rfl⟩
 rw [hLB]
 obtain ⟨o, ho⟩ : ∃ o, go Z.rd m LB = o := ⟨_, rfl⟩
 rw [ho]
 have HCN : Hd (ConnX [] Z.rd o LB 0 m 0 []) := ⟨by rw [← ho]; exact ⟨Conn.start Z.rd LB m, List.Pairwise.nil⟩⟩
 have HLB := Hd.mk hLB
 clear hLB ho
 go_enter Try.func35, Try.ntmps35
 go_upto_region 6 with (at_builtin; refine wpList_app elB rfl (.tmp 22) (.tmp 23) rfl base vl lL (cb L) rfl (by have := H0.out.lo; rw [HLL.out] at this; exact this) w.heap.size A n cp (cb bs) rfl HR.out.1 (cb_one _) (by unfold maxLen; omega) (by omega) (Nat.le_trans H0.out.bg (Nat.le_of_lt H0.out.lt)) ?_; intro v1 w1 hO; rw [hM] at hO; obtain ⟨A1, cc1, hv1, hn1, _⟩ := own_form hO.own; subst hv1; have HO : Hd (Onto w w1 base 5 vl (.slice A1 M cc1) (L ++ bs).length (cb (L ++ bs))) := ⟨by rw [List.length_append, HLL.out, HR.out.2.2.1, cb_append, hM]; exact hO⟩; have e1 : w1.cell? ⟨g, 1, none⟩ = some vl := (World.cell?_of_block (a := ⟨g, 1, none⟩) (hO.2.1.block g H0.out.lt (fun e => H0.out.gl e.symm))).trans (H0.out.at_ 1 rfl); have y1 : w1.frozen? ⟨g, 1, none⟩ = false := (World.frozen?_of_block (a := ⟨g, 1, none⟩) (hO.2.1.block g H0.out.lt (fun e => H0.out.gl e.symm))).trans (H0.out.z 1); clear hO)
 obtain ⟨w2, hw2⟩ : ∃ U, w1.setCell ⟨g, 1, none⟩ (.slice A1 M cc1) = U := ⟨_, rfl⟩
 rw [hw2]
 have hlb : ∀ x ∈ L ++ bs, x < 256 := fun x hx => (List.mem_append.1 hx).elim (H0.out.lb x) (HR.out.2.1 x)
 have hLM : (L ++ bs).length = M := by rw [List.length_append, HLL.out, HR.out.2.2.1]; exact hM
 have H2 : Hd (RdS Z base w2 g (.slice A1 M cc1) vc vq (L ++ bs) m.c m.s C m.k m.p 0 ws xs ∧ Chg (rdX g vl vc vq) w w2 ∧ (∀ x, (Value.slice A1 M cc1).ownBlock = some x → vl.ownBlock = some x ∨ w.heap.size ≤ x)) := ⟨by rw [← hw2]; exact H0.out.loose (Y := vl.ownBlock.toList) ⟨HO.out.2.1.os, HO.out.2.1.tape, HO.out.2.1.output, HO.out.2.1.size, fun x hx hm => HO.out.2.1.block x hx fun e => hm (by rw [Option.mem_toList]; exact e.symm)⟩ (fun x hx => by rwa [Option.mem_toList] at hx) HO.out.1 HO.out.2.2 hlb, by rw [← hw2]; exact ((⟨HO.out.2.1.os, HO.out.2.1.tape, HO.out.2.1.output, HO.out.2.1.size, fun x hx hm => HO.out.2.1.block x hx fun e => hm (mem_X.2 (.inl e.symm))⟩ : Chg (rdX g vl vc vq) w w1)).setCell (mem_X.2 (.inr (.inl rfl))) _, HO.out.2.2⟩
 have HL : Hd ((∀ x ∈ L ++ bs, x < 256) ∧ (L ++ bs).length = M) := ⟨hlb, hLM⟩
 have HNC : Hd (M ≤ cc1) := ⟨hn1⟩
 rw [HLB.out] at H2 HL
 have hMb : M ≤ 137438953472 := by omega
 have hwb : ws.length + M ≤ 137438953472 := by omega
 clear hw2 hlb hLM e1 y1 HO d7 d1 hn1
 go_wp2_with fail
 go_loopw [5] (fun u5 wr => ∃ (at_ : Nat) (vc1 vq1 : Value) (m1 : Mid) (C1 : Nat) (fl1 : Int) (nw : List Wm) (ns : List T), u5 = .int .i64 (at_ : Int) ∧ at_ ≤ M ∧ nw.length ≤ at_ ∧ RdS Z base wr g (.slice A1 M cc1) vc1 vq1 LB m1.c m1.s C1 m1.k m1.p fl1 (ws ++ nw) (xs ++ ns) ∧ Chg (rdX g vl vc vq) w wr ∧ (∀ x ∈ rdX g (.slice A1 M cc1) vc1 vq1, x ∈ rdX g vl vc vq ∨ w.heap.size ≤ x) ∧ (∀ W ∈ nw, W.ok wr w.heap.size) ∧ ConnX nw Z.rd o LB at_ m1 fl1 ns ∧ (fl1 = 0 → MidOk m1)) (fun u5 _ => M + 1 - (intOf u5).toNat)
 case atStart => exact ⟨0, vc, vq, m, C, 0, [], [], rfl, Nat.zero_le _, by simp, by rw [List.append_nil, List.append_nil]; exact H2.out.1, H2.out.2.1, fun x hx => by
   rcases mem_X.1 hx with h1 | h1 | h1 | h1
   ·rcases H2.out.2.2 x h1 with h2 | h2
    ·exact .inl (mem_X.2 (.inl h2))
    ·exact .inr h2
   ·exact .inl (mem_X.2 (.inr (.inl h1)))
   ·exact .inl (mem_X.2 (.inr (.inr (.inl h1))))
   ·exact .inl (mem_X.2 (.inr (.inr (.inr h1)))), by simp, HCN.out, fun _ => HR.out.2.2.2⟩
 case round =>
  obtain ⟨at_, vc1, vq1, m1, C1, fl1, nw, ns, rfl, hat, hnw, hS, hch, hfr, hok, hcn, hmo⟩ := hrel
  have HS := Hd.mk (And.intro hS (And.intro hch (And.intro hfr (And.intro hok (And.intro hcn hmo)))))
  have d7 : wr.cell? ⟨g, 7, none⟩ = some (.int .i64 fl1) := hS.at_ 7 rfl
  have d1 : wr.cell? ⟨g, 1, none⟩ = some (.slice A1 M cc1) := hS.at_ 1 rfl
  clear hS hch hfr hok hcn hmo H2 HCN
  have hcf : ∀ w, (Instr.slice 26 (.slice A1 M cc1) (some (.int .i64 (at_ : Int))) none none).run Try.prog w = .ok (.slice (cutA A1 cc1 at_) (M - at_) (cc1 - at_)) w := fun w => run_cut_from elB A1 M cc1 at_ hat
  have HCF := Hd.mk hcf
  clear hcf
  by_cases hf1 : fl1 = 0
  case neg =>
   have hfb1 : (fl1 == 0) = false := beq_eq_false_iff_ne.2 hf1
   have HT : Hd (RdS Z base wr g (.slice A1 M cc1) vc1 vq1 LB m1.c m1.s C1 m1.k m1.p fl1 (ws ++ nw) (xs ++ ns) ∧ Chg (rdX g vl vc vq) w wr ∧ (∀ x ∈ rdX g (.slice A1 M cc1) vc1 vq1, x ∈ rdX g vl vc vq ∨ w.heap.size ≤ x) ∧ (∀ W ∈ nw, W.ok wr w.heap.size) ∧ PEndX nw o LB at_ m1 fl1 ns) := ⟨HS.out.1, HS.out.2.1, HS.out.2.2.1, HS.out.2.2.2.1, ⟨⟨fun h => absurd h hf1, HS.out.2.2.2.2.1.toConn.bad⟩, HS.out.2.2.2.2.1.pw⟩⟩
   clear HS d1 hf1
   go_upto_region 11 with fail
   clear d7 hfb1
   have HRD : Hd (Rd wr wr.heap.size (cutA A1 cc1 at_) (M - at_) (cb (LB.drop at_))) := ⟨by have := HT.out.1.lo; rw [HL.out.2] at this; exact rd_from (Rd.of_own this) hat HNC.out⟩
   have hll : (LB.drop at_).length = M - at_ := by rw [List.length_drop, HL.out.2]
   have HLN := Hd.mk hll
   obtain ⟨MR, hMR⟩ : ∃ r, M - at_ = r := ⟨_, rfl⟩
   have hMRb : MR ≤ 137438953472 := by omega
   rw [hMR] at HRD HLN HCF
   have hcf := HCF.out
   clear hll
   have d1 : wr.cell? ⟨g, 1, none⟩ = some (.slice A1 M cc1) := HT.out.1.at_ 1 rfl
   go_upto_region 12 with (at_builtin; refine wpList_app elB rfl (.const (.slice none 0 0)) (.tmp 51) rfl wr.heap.size (.slice none 0 0) 0 [] rfl (World.ownsRow_nil ..) wr.heap.size (cutA A1 cc1 at_) MR (cc1 - at_) (cb (LB.drop at_)) rfl HRD.out (cb_one _) (by unfold maxLen; omega) (by omega) (Nat.le_refl _) ?_; intro v3 w3 hO; rw [List.nil_append, Nat.zero_add] at hO; obtain ⟨A3, cc3, hv3, hn3, _⟩ := own_form hO.own; subst hv3; have HO3 := Hd.mk hO; have e1 : w3.cell? ⟨g, 1, none⟩ = some (.slice A1 M cc1) := (World.cell?_of_block (a := ⟨g, 1, none⟩) (hO.2.1.block g HT.out.1.lt (fun e => by cases e))).trans (HT.out.1.at_ 1 rfl); have y1 : w3.frozen? ⟨g, 1, none⟩ = false := (World.frozen?_of_block (a := ⟨g, 1, none⟩) (hO.2.1.block g HT.out.1.lt (fun e => by cases e))).trans (HT.out.1.z 1); clear hO hn3 d1)
   obtain ⟨w4, hw4⟩ : ∃ U, w3.setCell ⟨g, 1, none⟩ (.slice A3 MR cc3) = U := ⟨_, rfl⟩
   rw [hw4]
   have hbel : Below wr.heap.size wr w3 := HO3.out.below (fun k h => by cases h) (Nat.le_refl _)
   have hs4 : RdS Z base w4 g (.slice A3 MR cc3) vc1 vq1 (LB.drop at_) m1.c m1.s C1 m1.k m1.p fl1 (ws ++ nw) (xs ++ ns) := by rw [← hw4]; exact HT.out.1.loose (L' := LB.drop at_) (Y := []) (Chg.of_below hbel) (by simp) (own_base (by have := HO3.out.1; rw [← HLN.out] at this ⊢; exact this) (Nat.le_trans HT.out.1.bg (Nat.le_of_lt HT.out.1.lt))) (fun x hx => .inr ((HO3.out.2.2 x hx).resolve_left (by simp [Value.ownBlock]))) (fun x hx => HL.out.1 x (List.mem_of_mem_drop hx))
   have hc4 : Chg (rdX g vl vc vq) w w4 := by rw [← hw4]; exact (HT.out.2.1.trans (Chg.of_below hbel)).setCell (mem_X.2 (.inr (.inl rfl))) _
   have hf4 : ∀ x ∈ rdX g (.slice A3 MR cc3) vc1 vq1, x ∈ rdX g vl vc vq ∨ w.heap.size ≤ x := fun x hx => by
    rcases mem_X.1 hx with h1 | h1 | h1 | h1
    ·exact .inr (Nat.le_trans HT.out.2.1.size ((HO3.out.2.2 x h1).resolve_left (by simp [Value.ownBlock])))
    ·exact .inl (mem_X.2 (.inr (.inl h1)))
    ·exact HT.out.2.2.1 x (mem_X.2 (.inr (.inr (.inl h1))))
    ·exact HT.out.2.2.1 x (mem_X.2 (.inr (.inr (.inr h1))))
   have ho4 : ∀ W ∈ nw, W.ok w4 w.heap.size := fun V hV => by
    rw [← hw4]
    refine ((HT.out.2.2.2.1 V hV).below hbel).chg (X := [g]) ((Chg.refl [g] w3).setCell (by simp) _) fun r hr x hx hm => ?_
    have := ((HT.out.2.2.2.1 V hV).lt hr hx).1
    have := H0.out.lt
    rw [List.mem_singleton.1 hm] at *; omega
   have H4 := Hd.mk (And.intro hs4 (And.intro hc4 (And.intro hf4 ho4)))
   have HE := Hd.mk HT.out.2.2.2.2
   clear hw4 hbel e1 y1 HO3 HRD hcf hs4 hc4 hf4 ho4
   have d7 : w4.cell? ⟨g, 7, none⟩ = some (.int .i64 fl1) := H4.out.1.at_ 7 rfl
   by_cases hf : fl1 = 0
   ·have hfb : (fl1 == 0) = true := by rw [hf]; rfl
    have HF := Hd.mk hf
    clear hf
    go_wp2_with fail
    go_ret
    obtain ⟨he1, he2⟩ := HE.out.toPEnd.fl
    obtain ⟨he3, he4⟩ := HE.out.toPEnd.ok HF.out
    exact push_endX HE.out.pw H4.out.1 he1 he2 (fun _ => ⟨by rw [he3], by rw [he3], he4⟩) (fun h => absurd (he1.trans HF.out) h) H4.out.2.1 H4.out.2.2.1 H4.out.2.2.2
   ·have hfb : (fl1 == 0) = false := beq_eq_false_iff_ne.2 hf
    have HF := Hd.mk hf
    clear hf
    have e1 : w4.cell? ⟨g, 1, none⟩ = some (.slice A3 MR cc3) := H4.out.1.at_ 1 rfl
    have y1 := H4.out.1.z 1
    have e2 : w4.cell? ⟨g, 2, none⟩ = some vc1 := H4.out.1.at_ 2 rfl
    have y2 := H4.out.1.z 2
    go_wp2_with fail
    go_ret
    obtain ⟨he1, he2⟩ := HE.out.toPEnd.fl
    have h5 := H4.out.1.loose (L' := []) (Chg.refl [] w4) (by simp) (World.ownsRow_nil ..) (fun x hx => by cases hx) (by simp)
    have h6 := h5.cont (c' := []) (Chg.refl [] _) (by simp) (World.ownsRow_nil ..) (fun x hx => by cases hx) (by simp)
    refine push_endX HE.out.pw (m' := ⟨[], m1.s, m1.k, m1.p⟩) h6 he1 he2 (fun h => absurd (he1.symm.trans h) HF.out) (fun _ => rfl) ((H4.out.2.1.setCell (mem_X.2 (.inr (.inl rfl))) _).setCell (mem_X.2 (.inr (.inl rfl))) _) (fun x hx => ?_) (fun V hV => ?_)
    ·rcases mem_X.1 hx with h1 | h1 | h1 | h1
     ·cases h1
     ·exact .inl (mem_X.2 (.inr (.inl h1)))
     ·cases h1
     ·exact H4.out.2.2.1 x (mem_X.2 (.inr (.inr (.inr h1))))
    ·refine (H4.out.2.2.2 V hV).chg (X := [g]) (((Chg.refl [g] w4).setCell (by simp) _).setCell (by simp) _) fun r hr x hx hm => ?_
     have := ((H4.out.2.2.2 V hV).lt hr hx).1
     have := H0.out.lt
     rw [List.mem_singleton.1 hm] at *; omega
  subst hf1
  have hcf := HCF.out
  go_wp2_with fail
  clear hcf d7 d1
  have hrd : Rd wr wr.heap.size (cutA A1 cc1 at_) (M - at_) (cb (LB.drop at_)) := by have := HS.out.1.lo; rw [HL.out.2] at this; exact rd_from (Rd.of_own this) hat HNC.out
  refine (chunk_any Z HM.out base wr g (.slice A1 M cc1) vc1 vq1 LB m1 C1 (ws ++ nw) (xs ++ ns) HS.out.1 (cutA A1 cc1 at_) (M - at_) (cc1 - at_) (LB.drop at_) hrd (by have := HNC.out; omega) (fun x hx => HL.out.1 x (List.mem_of_mem_drop hx)) (by omega) (fun gg off he hp hm => ?_) (HS.out.2.2.2.2.2 (by trivial)) (by rw [List.length_append]; omega)).mono ?_
  ·have hb := cut_block (n := M) he
   rcases mem_Y.1 hm with h1 | h1 | h1
   ·exact HS.out.1.gl (h1 ▸ hb)
   ·exact HS.out.1.alc gg hb h1
   ·exact HS.out.1.alq gg hb h1
  clear hrd
  rintro e w5 ⟨r, vc2, vq2, m2, C2, fl2, ws2, xs2, rfl, hS2, hch2, hfr2, hlaw⟩
  have hst := conn_stepX HS.out.2.2.2.2.1 HS.out.2.2.2.1 (by rw [HL.out.2]; exact hat) (HS.out.2.2.2.2.2 (by trivial)) hlaw
  have hYX : ∀ x ∈ rdY g vc1 vq1, x ∈ rdX g vl vc vq ∨ w.heap.size ≤ x := fun x hx => HS.out.2.2.1 x (Y_sub_X hx)
  have hchw : Chg (rdX g vl vc vq) w w5 := HS.out.2.1.newer hch2 hYX
  have hfrw : ∀ x ∈ rdX g (.slice A1 M cc1) vc2 vq2, x ∈ rdX g vl vc vq ∨ w.heap.size ≤ x := fun x hx => by
   rcases mem_X.1 hx with h1 | h1 | h1 | h1
   ·exact HS.out.2.2.1 x (mem_X.2 (.inl h1))
   ·exact .inl (mem_X.2 (.inr (.inl h1)))
   ·rcases hfr2 x (mem_Y.2 (.inr (.inl h1))) with h2 | h2
    ·exact hYX x h2
    ·exact .inr (Nat.le_trans HS.out.2.1.size h2)
   ·rcases hfr2 x (mem_Y.2 (.inr (.inr h1))) with h2 | h2
    ·exact hYX x h2
    ·exact .inr (Nat.le_trans HS.out.2.1.size h2)
  have hokw : ∀ W ∈ nw, W.ok w5 w.heap.size := fun V hV => (HS.out.2.2.2.1 V hV).chg hch2 ((HS.out.1.off V (List.mem_append_right _ hV)).mono fun x hx => Y_sub_X hx)
  have HW := Hd.mk (And.intro hchw (And.intro hfrw (And.intro hokw HS.out.2.1.size)))
  clear hlaw hch2 hfr2 hYX hchw hfrw hokw
  rcases hst with ⟨hr0, hws, hxs, hend⟩ | ⟨hr0, hrl, d, dw, hxs, hws, hdw, hd1, hd2, hcn, hmo⟩
  ·subst hr0 hws hxs
   have HT : Hd (RdS Z base w5 g (.slice A1 M cc1) vc2 vq2 LB m2.c m2.s C2 m2.k m2.p fl2 (ws ++ nw) (xs ++ ns) ∧ Chg (rdX g vl vc vq) w w5 ∧ (∀ x ∈ rdX g (.slice A1 M cc1) vc2 vq2, x ∈ rdX g vl vc vq ∨ w.heap.size ≤ x) ∧ (∀ W ∈ nw, W.ok w5 w.heap.size) ∧ PEndX nw o LB at_ m2 fl2 ns) := ⟨hS2, HW.out.1, HW.out.2.1, HW.out.2.2.1, by
    rcases hend with ⟨rfl, rfl, ho⟩ | ⟨h1, h2, h3⟩
    ·exact ⟨⟨fun _ => ⟨ho, HS.out.2.2.2.2.2 (by trivial)⟩, fun h => absurd rfl h⟩, HS.out.2.2.2.2.1.pw⟩
    ·exact ⟨⟨fun h => absurd h h1, fun _ => ⟨h2, h3⟩⟩, HS.out.2.2.2.2.1.pw⟩⟩
   clear hS2 hend HW HS
   go_upto_region 11 with fail
   have HRD : Hd (Rd w5 w5.heap.size (cutA A1 cc1 at_) (M - at_) (cb (LB.drop at_))) := ⟨by have := HT.out.1.lo; rw [HL.out.2] at this; exact rd_from (Rd.of_own this) hat HNC.out⟩
   have hll : (LB.drop at_).length = M - at_ := by rw [List.length_drop, HL.out.2]
   have HLN := Hd.mk hll
   obtain ⟨MR, hMR⟩ : ∃ r, M - at_ = r := ⟨_, rfl⟩
   have hMRb : MR ≤ 137438953472 := by omega
   rw [hMR] at HRD HLN HCF
   have hcf := HCF.out
   clear hll
   have d1 : w5.cell? ⟨g, 1, none⟩ = some (.slice A1 M cc1) := HT.out.1.at_ 1 rfl
   go_upto_region 12 with (at_builtin; refine wpList_app elB rfl (.const (.slice none 0 0)) (.tmp 51) rfl w5.heap.size (.slice none 0 0) 0 [] rfl (World.ownsRow_nil ..) w5.heap.size (cutA A1 cc1 at_) MR (cc1 - at_) (cb (LB.drop at_)) rfl HRD.out (cb_one _) (by unfold maxLen; omega) (by omega) (Nat.le_refl _) ?_; intro v3 w3 hO; rw [List.nil_append, Nat.zero_add] at hO; obtain ⟨A3, cc3, hv3, hn3, _⟩ := own_form hO.own; subst hv3; have HO3 := Hd.mk hO; have e1 : w3.cell? ⟨g, 1, none⟩ = some (.slice A1 M cc1) := (World.cell?_of_block (a := ⟨g, 1, none⟩) (hO.2.1.block g HT.out.1.lt (fun e => by cases e))).trans (HT.out.1.at_ 1 rfl); have y1 : w3.frozen? ⟨g, 1, none⟩ = false := (World.frozen?_of_block (a := ⟨g, 1, none⟩) (hO.2.1.block g HT.out.1.lt (fun e => by cases e))).trans (HT.out.1.z 1); clear hO hn3 d1)
   obtain ⟨w4, hw4⟩ : ∃ U, w3.setCell ⟨g, 1, none⟩ (.slice A3 MR cc3) = U := ⟨_, rfl⟩
   rw [hw4]
   have hbel : Below w5.heap.size w5 w3 := HO3.out.below (fun k h => by cases h) (Nat.le_refl _)
   have hs4 : RdS Z base w4 g (.slice A3 MR cc3) vc2 vq2 (LB.drop at_) m2.c m2.s C2 m2.k m2.p fl2 (ws ++ nw) (xs ++ ns) := by rw [← hw4]; exact HT.out.1.loose (L' := LB.drop at_) (Y := []) (Chg.of_below hbel) (by simp) (own_base (by have := HO3.out.1; rw [← HLN.out] at this ⊢; exact this) (Nat.le_trans HT.out.1.bg (Nat.le_of_lt HT.out.1.lt))) (fun x hx => .inr ((HO3.out.2.2 x hx).resolve_left (by simp [Value.ownBlock]))) (fun x hx => HL.out.1 x (List.mem_of_mem_drop hx))
   have hc4 : Chg (rdX g vl vc vq) w w4 := by rw [← hw4]; exact (HT.out.2.1.trans (Chg.of_below hbel)).setCell (mem_X.2 (.inr (.inl rfl))) _
   have hf4 : ∀ x ∈ rdX g (.slice A3 MR cc3) vc2 vq2, x ∈ rdX g vl vc vq ∨ w.heap.size ≤ x := fun x hx => by
    rcases mem_X.1 hx with h1 | h1 | h1 | h1
    ·exact .inr (Nat.le_trans HT.out.2.1.size ((HO3.out.2.2 x h1).resolve_left (by simp [Value.ownBlock])))
    ·exact .inl (mem_X.2 (.inr (.inl h1)))
    ·exact HT.out.2.2.1 x (mem_X.2 (.inr (.inr (.inl h1))))
    ·exact HT.out.2.2.1 x (mem_X.2 (.inr (.inr (.inr h1))))
   have ho4 : ∀ W ∈ nw, W.ok w4 w.heap.size := fun V hV => by
    rw [← hw4]
    refine ((HT.out.2.2.2.1 V hV).below hbel).chg (X := [g]) ((Chg.refl [g] w3).setCell (by simp) _) fun r hr x hx hm => ?_
    have := ((HT.out.2.2.2.1 V hV).lt hr hx).1
    have := H0.out.lt
    rw [List.mem_singleton.1 hm] at *; omega
   have H4 := Hd.mk (And.intro hs4 (And.intro hc4 (And.intro hf4 ho4)))
   have HE := Hd.mk HT.out.2.2.2.2
   clear hw4 hbel e1 y1 HO3 HRD hcf hs4 hc4 hf4 ho4
   have d7 : w4.cell? ⟨g, 7, none⟩ = some (.int .i64 fl2) := H4.out.1.at_ 7 rfl
   by_cases hf : fl2 = 0
   ·have hfb : (fl2 == 0) = true := by rw [hf]; rfl
    have HF := Hd.mk hf
    clear hf
    go_wp2_with fail
    go_ret
    obtain ⟨he1, he2⟩ := HE.out.toPEnd.fl
    obtain ⟨he3, he4⟩ := HE.out.toPEnd.ok HF.out
    exact push_endX HE.out.pw H4.out.1 he1 he2 (fun _ => ⟨by rw [he3], by rw [he3], he4⟩) (fun h => absurd (he1.trans HF.out) h) H4.out.2.1 H4.out.2.2.1 H4.out.2.2.2
   ·have hfb : (fl2 == 0) = false := beq_eq_false_iff_ne.2 hf
    have HF := Hd.mk hf
    clear hf
    have e1 : w4.cell? ⟨g, 1, none⟩ = some (.slice A3 MR cc3) := H4.out.1.at_ 1 rfl
    have y1 := H4.out.1.z 1
    have e2 : w4.cell? ⟨g, 2, none⟩ = some vc2 := H4.out.1.at_ 2 rfl
    have y2 := H4.out.1.z 2
    go_wp2_with fail
    go_ret
    obtain ⟨he1, he2⟩ := HE.out.toPEnd.fl
    have h5 := H4.out.1.loose (L' := []) (Chg.refl [] w4) (by simp) (World.ownsRow_nil ..) (fun x hx => by cases hx) (by simp)
    have h6 := h5.cont (c' := []) (Chg.refl [] _) (by simp) (World.ownsRow_nil ..) (fun x hx => by cases hx) (by simp)
    refine push_endX HE.out.pw (m' := ⟨[], m2.s, m2.k, m2.p⟩) h6 he1 he2 (fun h => absurd (he1.symm.trans h) HF.out) (fun _ => rfl) ((H4.out.2.1.setCell (mem_X.2 (.inr (.inl rfl))) _).setCell (mem_X.2 (.inr (.inl rfl))) _) (fun x hx => ?_) (fun V hV => ?_)
    ·rcases mem_X.1 hx with h1 | h1 | h1 | h1
     ·cases h1
     ·exact .inl (mem_X.2 (.inr (.inl h1)))
     ·cases h1
     ·exact H4.out.2.2.1 x (mem_X.2 (.inr (.inr (.inr h1))))
    ·refine (H4.out.2.2.2 V hV).chg (X := [g]) (((Chg.refl [g] w4).setCell (by simp) _).setCell (by simp) _) fun r hr x hx hm => ?_
     have := ((H4.out.2.2.2 V hV).lt hr hx).1
     have := H0.out.lt
     rw [List.mem_singleton.1 hm] at *; omega
  ·subst hws hxs
   have hri : ((r : Int) == 0) = false := beq_eq_false_iff_ne.2 (by omega)
   rw [HL.out.2] at hrl
   have hnl : (nw ++ dw).length ≤ at_ + r := by rw [List.length_append]; omega
   have hok3 : ∀ W ∈ nw ++ dw, W.ok w5 w.heap.size := fun V hV => (List.mem_append.1 hV).elim (HW.out.2.2.1 V) (fun h => (hdw V h).lower HW.out.2.2.2)
   have hsr : RdS Z base w5 g (.slice A1 M cc1) vc2 vq2 LB m2.c m2.s C2 m2.k m2.p fl2 (ws ++ (nw ++ dw)) (xs ++ (ns ++ d)) := by rw [← List.append_assoc, ← List.append_assoc]; exact hS2
   have HN := Hd.mk (And.intro hnl (And.intro hsr (And.intro HW.out.1 (And.intro HW.out.2.1 (And.intro hok3 (And.intro hcn hmo))))))
   clear hS2 hdw hcn hmo HS HCF HW hnl hok3 hsr hd1 hd2
   go_wp2_with fail
   go_roundw
   case rel =>
    have hcast : ((at_ + r : Nat) : Int) = (at_ : Int) + (r : Int) := by omega
    first
     | exact ⟨at_ + r, vc2, vq2, m2, C2, fl2, nw ++ dw, ns ++ d, by rw [hcast], hrl, HN.out⟩
     | exact ⟨_, ⟨at_ + r, vc2, vq2, m2, C2, fl2, nw ++ dw, ns ++ d, by rw [hcast], hrl, HN.out⟩, rfl⟩
     | exact ⟨_, _, ⟨at_ + r, vc2, vq2, m2, C2, fl2, nw ++ dw, ns ++ d, by rw [hcast], hrl, HN.out⟩, rfl, rfl⟩
   case measure => simp [intOf]; omega
end Go.Proofs.Ytbcmjjcbjojakaa
end
section
namespace Go.Proofs.Ytbcmjjcbjojakaa
open Go.RowKit
set_option linter.unusedVariables false
set_option linter.unusedSimpArgs false
/-- Where content stands. -/
structure CS (w w' : World) (g : Nat) (xs : Array Value) : Prop where
 rq : w'.heap[g]? = some (.cells xs 28)
 bel : Below w.heap.size w w'
structure CB (w w' : World) (g : Nat) (xs : Array Value) (v : Value) (L : List Nat) : Prop where
 sta : CS w w' g xs
 rd : ∃ A c, v = .slice A L.length c ∧ L.length ≤ c ∧ Rd w' w'.heap.size A L.length (cb L)
 own : w'.ownsRow w.heap.size 5 1 v L.length (cb L)
section
variable {w w1 w2 : World} {g : Nat} {xs : Array Value} {v v' : Value} {L X : List Nat}
end
end Go.Proofs.Ytbcmjjcbjojakaa
end
section
namespace Go.Proofs.Ytbcmjjcbjojakaa
open Go.RowKit
set_option linter.unusedVariables false
set_option linter.unusedSimpArgs false
end Go.Proofs.Ytbcmjjcbjojakaa
end
