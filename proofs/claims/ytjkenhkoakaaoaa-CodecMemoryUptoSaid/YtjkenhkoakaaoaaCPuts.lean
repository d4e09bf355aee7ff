/- Where the walk of CodecPuts stands: plain facts on its memory. -/
import Derived.Test.YtjkenhkoakaaoaaPutsOf
namespace Go.Proofs.Ytjkenhkoakaaoaa
open Go.RowKit
set_option linter.unusedVariables false
def ssum (ts : List ByteArray) : Nat := (ts.map ByteArray.size).sum
theorem tx_le (ts : List ByteArray) : (tx ts).length ≤ 10 * ts.length + ssum ts := by
  induction ts with
  | nil => simp [tx, ssum]
  | cons t ts ih =>
    have h1 := (uv_len t.size).2
    have h2 := sb_len t
    have e : (tx (t :: ts)).length = (uv t.size).length + (sb t).length + (tx ts).length := by unfold tx; rw [List.flatMap_cons, List.length_append, List.length_append]
    have e2 : ssum (t :: ts) = t.size + ssum ts := by unfold ssum; rw [List.map_cons, List.sum_cons]
    rw [e, e2, List.length_cons]
    omega
theorem ssum_mem (ts : List ByteArray) (t : ByteArray) (h : t ∈ ts) : t.size ≤ ssum ts := by
  induction ts with
  | nil => cases h
  | cons a ts ih =>
    have e2 : ssum (a :: ts) = a.size + ssum ts := by unfold ssum; rw [List.map_cons, List.sum_cons]
    rcases List.mem_cons.1 h with h | h
    · subst h; omega
    · have := ih h; omega
theorem ssum_set (ts : List ByteArray) : ∀ (i : Nat) (t : ByteArray), i < ts.length → t.size ≤ (ts.getD i ByteArray.empty).size + 1 → ssum (ts.set i t) ≤ ssum ts + 1 := by
  induction ts with
  | nil => intro i t h; simp at h
  | cons a ts ih =>
    intro i t h ht
    have e2 : ∀ (x : ByteArray) l, ssum (x :: l) = x.size + ssum l := fun x l => by unfold ssum; rw [List.map_cons, List.sum_cons]
    cases i with
    | zero => rw [List.set_cons_zero, e2, e2]; simp at ht; omega
    | succ i =>
      rw [List.set_cons_succ, e2, e2]
      have := ih i t (by simpa using h) (by simpa using ht)
      omega
theorem own_below' {w w' : World} {base e n : Nat} {v : Value} {xs : List Value} (h : w.ownsRow base e 1 v n xs) (b : Below w.heap.size w w') : w'.ownsRow base e 1 v n xs :=
  ⟨h.1, h.2.imp id fun ⟨g, cap, cur, hv, hg, hh, r⟩ => ⟨g, cap, cur, hv, hg, by rw [b.block g (Array.getElem?_eq_some_iff.1 hh).1]; exact hh, r⟩⟩
theorem own_base {w : World} {base base' e n : Nat} {v : Value} {xs : List Value} (h : w.ownsRow base e 1 v n xs) (hb : base' ≤ base) : w.ownsRow base' e 1 v n xs :=
  ⟨h.1, h.2.imp id fun ⟨g, cap, cur, hv, hg, r⟩ => ⟨g, cap, cur, hv, Nat.le_trans hb hg, r⟩⟩
theorem own_keepBlock {w w' : World} {base e n g : Nat} {v : Value} {xs : List Value} (h : w.ownsRow base e 1 v n xs) (hg : w.grownBy w' (some g)) (hne : v.ownBlock ≠ some g) : w'.ownsRow base e 1 v n xs :=
  h.kept hg (by
    cases hv : v.ownBlock with
    | none => exact .inl rfl
    | some k => exact .inr fun e => hne (by rw [hv, e]))
theorem Rws.step {w w' : World} {A : Option Addr} {n : Nat} {ps : List (List Nat)} (h : Rws w A n ps) (b : Below w.heap.size w w') : Rws w' A n ps :=
  ⟨h.1, fun r hr => let ⟨g, off, Ar, Cr, h1, h2, h3, h4, h5⟩ := h.2 r hr
    ⟨g, off, Ar, Cr, h1, Nat.lt_of_lt_of_le h2 b.size, (b.cell (p := ⟨g, off + r, none⟩) h2).trans h3, (h4.below b).more b.size, h5⟩⟩
/-- The three rows that were lent, and x. -/
structure CP (w wr : World) (xc : Array Value) (gx gb gp gt nb np k cpb cpp cpt : Nat) (bs ps : List Nat) (ts : List ByteArray) : Prop where
  ob : wr.ownsRow w.heap.size 5 1 (.slice (some ⟨gb, 0, none⟩) (nb + 64) cpb) (nb + 64) (cb (bs ++ marks))
  op : wr.ownsRow w.heap.size 5 1 (.slice (some ⟨gp, 0, none⟩) (np + 64) cpp) (np + 64) (cb (ps ++ marks))
  ot : wr.ownsRow w.heap.size 9 1 (.slice (some ⟨gt, 0, none⟩) (k + 64) cpt) (k + 64) (cs (ts ++ List.replicate 64 markS))
  hx : wr.heap[gx]? = some (.cells xc 51)
  lb : ∀ x ∈ bs, x < 256
  lp : ∀ x ∈ ps, x < 256
  bel : Below w.heap.size w wr
  g0 : w.heap.size ≤ gx
  g1 : gx < gb
  g2 : gb < gp
  g3 : gp < gt
  lt : gt < wr.heap.size
section
variable {w wr w2 : World} {xc : Array Value} {gx gb gp gt nb np k cpb cpp cpt : Nat} {bs ps bs' ps' : List Nat} {ts ts' : List ByteArray}
theorem CP.step (h : CP w wr xc gx gb gp gt nb np k cpb cpp cpt bs ps ts) (b : Below wr.heap.size wr w2) : CP w w2 xc gx gb gp gt nb np k cpb cpp cpt bs ps ts :=
  { h with
    ob := own_below' h.ob b
    op := own_below' h.op b
    ot := own_below' h.ot b
    hx := by rw [b.block gx (by have := h.g1; have := h.g2; have := h.g3; have := h.lt; omega)]; exact h.hx
    bel := h.bel.trans (b.mono h.bel.size)
    lt := Nat.lt_of_lt_of_le h.lt b.size }
theorem CP.lenb (h : CP w wr xc gx gb gp gt nb np k cpb cpp cpt bs ps ts) : bs.length = nb := by
  have := h.ob.1; rw [cb_length, List.length_append, marks_len] at this; omega
theorem CP.lenp (h : CP w wr xc gx gb gp gt nb np k cpb cpp cpt bs ps ts) : ps.length = np := by
  have := h.op.1; rw [cb_length, List.length_append, marks_len] at this; omega
theorem CP.lent (h : CP w wr xc gx gb gp gt nb np k cpb cpp cpt bs ps ts) : ts.length = k := by
  have := h.ot.1; rw [cs_len, List.length_append, List.length_replicate] at this; omega
theorem CP.rdb (h : CP w wr xc gx gb gp gt nb np k cpb cpp cpt bs ps ts) : Rd wr wr.heap.size (some ⟨gb, 0, none⟩) nb (cb bs) := by
  have h2 := (Rd.of_own h.ob).take (h := nb) (by omega)
  rw [cb, ← List.map_take, List.take_left' h.lenb] at h2
  exact h2
theorem CP.rdp (h : CP w wr xc gx gb gp gt nb np k cpb cpp cpt bs ps ts) : Rd wr wr.heap.size (some ⟨gp, 0, none⟩) np (cb ps) := by
  have h2 := (Rd.of_own h.op).take (h := np) (by omega)
  rw [cb, ← List.map_take, List.take_left' h.lenp] at h2
  exact h2
theorem CP.rdt (h : CP w wr xc gx gb gp gt nb np k cpb cpp cpt bs ps ts) : Rd wr wr.heap.size (some ⟨gt, 0, none⟩) k (cs ts) := by
  have h2 := (Rd.of_own h.ot).take (h := k) (by omega)
  rw [cs, ← List.map_take, List.take_left' h.lent] at h2
  exact h2
theorem CP.turnB (h : CP w wr xc gx gb gp gt nb np k cpb cpp cpt bs ps ts) (hg : wr.grownBy w2 (some gb)) (ho : w2.ownsRow w.heap.size 5 1 (.slice (some ⟨gb, 0, none⟩) (nb + 64) cpb) (nb + 64) (cb (bs' ++ marks))) (hl : ∀ x ∈ bs', x < 256) : CP w w2 xc gx gb gp gt nb np k cpb cpp cpt bs' ps ts :=
  have := h.g0; have := h.g1; have := h.g2; have := h.g3; have := h.lt
  { h with
    ob := ho
    op := own_keepBlock h.op hg (fun e => by injection e with e; dsimp only at e; omega)
    ot := own_keepBlock h.ot hg (fun e => by injection e with e; dsimp only at e; omega)
    hx := by rw [hg.block gx (by omega) (fun e => by injection e with e; omega)]; exact h.hx
    lb := hl
    bel := h.bel.grown hg h.bel.size (fun q e => by injection e with e; omega)
    lt := Nat.lt_of_lt_of_le h.lt hg.size }
theorem CP.turnP (h : CP w wr xc gx gb gp gt nb np k cpb cpp cpt bs ps ts) (hg : wr.grownBy w2 (some gp)) (ho : w2.ownsRow w.heap.size 5 1 (.slice (some ⟨gp, 0, none⟩) (np + 64) cpp) (np + 64) (cb (ps' ++ marks))) (hl : ∀ x ∈ ps', x < 256) : CP w w2 xc gx gb gp gt nb np k cpb cpp cpt bs ps' ts :=
  have := h.g0; have := h.g1; have := h.g2; have := h.g3; have := h.lt
  { h with
    op := ho
    ob := own_keepBlock h.ob hg (fun e => by injection e with e; dsimp only at e; omega)
    ot := own_keepBlock h.ot hg (fun e => by injection e with e; dsimp only at e; omega)
    hx := by rw [hg.block gx (by omega) (fun e => by injection e with e; omega)]; exact h.hx
    lp := hl
    bel := h.bel.grown hg h.bel.size (fun q e => by injection e with e; omega)
    lt := Nat.lt_of_lt_of_le h.lt hg.size }
theorem CP.turnT (h : CP w wr xc gx gb gp gt nb np k cpb cpp cpt bs ps ts) (hg : wr.grownBy w2 (some gt)) (ho : w2.ownsRow w.heap.size 9 1 (.slice (some ⟨gt, 0, none⟩) (k + 64) cpt) (k + 64) (cs (ts' ++ List.replicate 64 markS))) : CP w w2 xc gx gb gp gt nb np k cpb cpp cpt bs ps ts' :=
  have := h.g0; have := h.g1; have := h.g2; have := h.g3; have := h.lt
  { h with
    ot := ho
    ob := own_keepBlock h.ob hg (fun e => by injection e with e; dsimp only at e; omega)
    op := own_keepBlock h.op hg (fun e => by injection e with e; dsimp only at e; omega)
    hx := by rw [hg.block gx (by omega) (fun e => by injection e with e; omega)]; exact h.hx
    bel := h.bel.grown hg h.bel.size (fun q e => by injection e with e; omega)
    lt := Nat.lt_of_lt_of_le h.lt hg.size }
end
end Go.Proofs.Ytjkenhkoakaaoaa
