/- Where the walk of CrcStreams stands: plain facts on its memory. -/
import Derived.Test.YtofblciodgibdaaStreamsA
namespace Go.Proofs.Ytofblciodgibdaa
open Go.RowKit
set_option linter.unusedVariables false
theorem list4 {α : Type} {l : List α} (h : l.length = 4) : ∃ a b c d, l = [a, b, c, d] := by
  match l, h with
  | [a, b, c, d], _ => exact ⟨a, b, c, d, rfl⟩
/-- The cells of four streams. -/
def sc (cs : List (List Nat)) : Array Value := (cs.flatMap fun c => [Value.int .u32 ((Crc.more 0 c : Nat) : Int), Value.int .u64 ((c.length : Nat) : Int)]).toArray
theorem sc_get0 (cs : List (List Nat)) (h : cs.length = 4) (j : Nat) (hj : j < 4) : (sc cs)[j * 2]? = some (.int .u32 ((Crc.more 0 (cs.getD j []) : Nat) : Int)) := by
  obtain ⟨a, b, c, d, rfl⟩ := list4 h
  match j, hj with
  | 0, _ => rfl
  | 1, _ => rfl
  | 2, _ => rfl
  | 3, _ => rfl
theorem sc_get1 (cs : List (List Nat)) (h : cs.length = 4) (j : Nat) (hj : j < 4) : (sc cs)[j * 2 + 1]? = some (.int .u64 (((cs.getD j []).length : Nat) : Int)) := by
  obtain ⟨a, b, c, d, rfl⟩ := list4 h
  match j, hj with
  | 0, _ => rfl
  | 1, _ => rfl
  | 2, _ => rfl
  | 3, _ => rfl
theorem sc_put (cs : List (List Nat)) (h : cs.length = 4) (j : Nat) (hj : j < 4) (x : List Nat) : put2 (sc cs) (j * 2) (Crc.more 0 x) x.length = sc (cs.set j x) := by
  obtain ⟨a, b, c, d, rfl⟩ := list4 h
  match j, hj with
  | 0, _ => rfl
  | 1, _ => rfl
  | 2, _ => rfl
  | 3, _ => rfl
theorem getD_set {α : Type} (l : List α) (j i : Nat) (x d : α) : (l.set j x).getD i d = if j = i ∧ j < l.length then x else l.getD i d := by
  rw [List.getD_eq_getElem?_getD, List.getElem?_set, List.getD_eq_getElem?_getD]
  by_cases h : j = i
  · subst h
    by_cases h2 : j < l.length
    · simp [h2]
    · simp [h2]
  · simp [h]
/-- Where the walk of CrcStreams stands: four streams in block gs, what was written to them by the reference in block gw; these texts lie below block B. -/
structure TS (w wr : World) (gs gw L B : Nat) (c1 c2 : List (List Nat)) (vs : List Value) : Prop where
  l1 : c1.length = 4
  l2 : c2.length = 4
  lv : vs.length = 4
  hs : wr.heap[gs]? = some (.cells (sc c1) 49)
  hw : wr.heap[gw]? = some (.cells vs.toArray 52)
  el : ∀ j, j < 4 → ∃ A c, vs[j]? = some (.slice A (c2.getD j []).length c) ∧ Rd wr B A (c2.getD j []).length (cb (c2.getD j [])) ∧ ∀ g off, A = some ⟨g, off, none⟩ → gw < g
  s1 : ∀ j, (c1.getD j []).length ≤ L ∧ ∀ x ∈ c1.getD j [], x < 256
  s2 : ∀ j, (c2.getD j []).length ≤ L ∧ ∀ x ∈ c2.getD j [], x < 256
  big : L ≤ 1048576
  bel : Below w.heap.size w wr
  g0 : w.heap.size ≤ gs
  g1 : gs < gw
  lt : gw < B
  hB : B ≤ wr.heap.size
section
variable {w wr w2 : World} {gs gw L L' B : Nat} {c1 c2 : List (List Nat)} {vs : List Value}
theorem TS.gB (h : TS w wr gs gw L B c1 c2 vs) : w.heap.size < B := by have := h.g0; have := h.g1; have := h.lt; omega
/-- What was made or turned from block B on does no harm. -/
theorem TS.high (h : TS w wr gs gw L B c1 c2 vs) (b : Below B wr w2) : TS w w2 gs gw L B c1 c2 vs :=
  { h with
    hs := by rw [b.block gs (Nat.lt_trans h.g1 h.lt)]; exact h.hs
    hw := by rw [b.block gw h.lt]; exact h.hw
    el := fun j hj => let ⟨A, c, h1, h2, h3⟩ := h.el j hj; ⟨A, c, h1, h2.below b, h3⟩
    bel := h.bel.trans (b.mono (Nat.le_of_lt h.gB))
    hB := Nat.le_trans h.hB b.size }
theorem TS.step (h : TS w wr gs gw L B c1 c2 vs) (b : Below wr.heap.size wr w2) : TS w w2 gs gw L B c1 c2 vs := h.high (b.mono h.hB)
theorem TS.up (h : TS w wr gs gw L B c1 c2 vs) : TS w wr gs gw L wr.heap.size c1 c2 vs :=
  { h with
    el := fun j hj => let ⟨A, c, h1, h2, h3⟩ := h.el j hj; ⟨A, c, h1, h2.more h.hB, h3⟩
    lt := Nat.lt_of_lt_of_le h.lt h.hB
    hB := Nat.le_refl _ }
theorem TS.more (h : TS w wr gs gw L B c1 c2 vs) (hL : L ≤ L') (hb : L' ≤ 1048576) : TS w wr gs gw L' B c1 c2 vs :=
  { h with
    s1 := fun j => ⟨Nat.le_trans (h.s1 j).1 hL, (h.s1 j).2⟩
    s2 := fun j => ⟨Nat.le_trans (h.s2 j).1 hL, (h.s2 j).2⟩
    big := hb }
theorem TS.strm (h : TS w wr gs gw L B c1 c2 vs) {j : Nat} (hj : j < 4) : Strm wr gs (j * 2) (sc c1) 49 (Crc.more 0 (c1.getD j [])) (c1.getD j []).length :=
  ⟨h.hs, sc_get0 c1 h.l1 j hj, sc_get1 c1 h.l1 j hj, Crc.more_lt _ _, by have := (h.s1 j).1; have := h.big; omega⟩
theorem TS.turnS (h : TS w wr gs gw L B c1 c2 vs) {j : Nat} (hj : j < 4) (x : List Nat) (hx : x.length ≤ L ∧ ∀ y ∈ x, y < 256) (hg : wr.grownBy w2 (some gs)) {S C : Nat} (hS : S = Crc.more 0 x) (hC : C = x.length)
    (hs : Strm w2 gs (j * 2) (put2 (sc c1) (j * 2) S C) 49 S C) : TS w w2 gs gw L B (c1.set j x) c2 vs := by
  subst hS hC
  exact { h with
    l1 := by rw [List.length_set]; exact h.l1
    hs := by rw [← sc_put c1 h.l1 j hj]; exact hs.heap
    hw := by rw [hg.block gw (Nat.lt_of_lt_of_le h.lt h.hB) (fun e => by injection e with e; have := h.g1; omega)]; exact h.hw
    el := fun i hi => let ⟨A, c, h1, h2, h3⟩ := h.el i hi; ⟨A, c, h1, h2.other h.hB hg (fun g off e => by have := h3 g off e; have := h.g1; omega), h3⟩
    s1 := fun i => by rw [getD_set]; split <;> first | exact hx | exact h.s1 i
    bel := h.bel.grown hg h.bel.size (fun k e => by injection e with e; have := h.g0; omega)
    hB := Nat.le_trans h.hB hg.size }
theorem TS.turnW (h : TS w wr gs gw L B c1 c2 vs) {j : Nat} (hj : j < 4) (x : List Nat) (hx : x.length ≤ L ∧ ∀ y ∈ x, y < 256) {A : Option Addr} {m cap : Nat} (hm : m = x.length) (hr : Rd wr B A m (cb x)) (hA : ∀ g off, A = some ⟨g, off, none⟩ → gw < g) :
    TS w (wr.setCell ⟨gw, j, none⟩ (.slice A m cap)) gs gw L B c1 (c2.set j x) (vs.set j (.slice A m cap)) := by
  subst hm
  have hg := grown_set wr gw j (.slice A x.length cap)
  exact { h with
    l2 := by rw [List.length_set]; exact h.l2
    lv := by rw [List.length_set]; exact h.lv
    hs := by rw [Below.heap_setCell _ _ _ _ (by have := h.g1; show gs ≠ gw; omega)]; exact h.hs
    hw := by rw [heap_set _ _ _ _ _ _ h.hw]; simp
    el := fun i hi => by
      by_cases e : j = i
      · subst e
        rw [getD_set, if_pos ⟨rfl, by have := h.l2; omega⟩]
        exact ⟨A, cap, by rw [List.getElem?_set, if_pos rfl, if_pos (by have := h.lv; omega)], hr.other h.hB hg (fun g off e => by have := hA g off e; omega), hA⟩
      · rw [getD_set, if_neg (fun he => e he.1), List.getElem?_set, if_neg e]
        obtain ⟨A2, c, h1, h2, h3⟩ := h.el i hi
        exact ⟨A2, c, h1, h2.other h.hB hg (fun g off e => by have := h3 g off e; omega), h3⟩
    s2 := fun i => by rw [getD_set]; split <;> first | exact hx | exact h.s2 i
    bel := h.bel.setCell (by have := h.g0; have := h.g1; show _ ≤ gw; omega) _
    hB := Nat.le_trans h.hB hg.size }
theorem TS.cellW (h : TS w wr gs gw L B c1 c2 vs) {j : Nat} (hj : j < 4) : ∃ A c, wr.cell? ⟨gw, j, none⟩ = some (.slice A (c2.getD j []).length c) ∧ Rd wr B A (c2.getD j []).length (cb (c2.getD j [])) ∧ ∀ g off, A = some ⟨g, off, none⟩ → gw < g := by
  obtain ⟨A, c, h1, h2, h3⟩ := h.el j hj
  exact ⟨A, c, by rw [cell_of_row _ _ j _ _ (0, 0) h.hw]; simpa using h1, h2, h3⟩
theorem TS.free (h : TS w wr gs gw L B c1 c2 vs) (i : Nat) : wr.frozen? ⟨gw, i, none⟩ = false := by simp [World.frozen?, h.hw]
end
theorem keepT {w w1 w2 : World} {gs gw L B q n : Nat} {c1 c2 : List (List Nat)} {vs : List Value} {v : Value} {A : Option Addr} {xs : List Value} (hb : Below w1.heap.size w1 w2)
    (h : w1.cell? ⟨gw, q, none⟩ = some v ∧ Rd w1 B A n xs ∧ TS w w1 gs gw L B c1 c2 vs) : w2.cell? ⟨gw, q, none⟩ = some v ∧ Rd w2 B A n xs ∧ TS w w2 gs gw L B c1 c2 vs :=
  ⟨(hb.cell (p := ⟨gw, q, none⟩) (Nat.lt_of_lt_of_le h.2.2.lt h.2.2.hB)).trans h.1, h.2.1.below (hb.mono h.2.2.hB), h.2.2.step hb⟩
/-- A slice of steps that came in. -/
def Steps (w : World) (A : Option Addr) (n : Nat) (K T U : Nat → Int) (Y : Nat → List Nat) : Prop :=
  ∀ r, r < n → ∃ g off Ar Cr, A = some ⟨g, off, none⟩ ∧ g < w.heap.size ∧ w.cell? ⟨g, off + r * 4, none⟩ = some (.int .i64 (K r)) ∧ w.cell? ⟨g, off + r * 4 + 1, none⟩ = some (.int .i64 (T r)) ∧ w.cell? ⟨g, off + r * 4 + 2, none⟩ = some (.int .i64 (U r)) ∧
    w.cell? ⟨g, off + r * 4 + 3, none⟩ = some (.slice Ar (Y r).length Cr) ∧ Rd w w.heap.size Ar (Y r).length (cb (Y r)) ∧ (∀ x ∈ Y r, x < 256) ∧ -9223372036854775808 ≤ T r ∧ T r ≤ 9223372036854775807 ∧ -9223372036854775808 ≤ U r ∧ U r ≤ 9223372036854775807
def tot (Y : Nat → List Nat) : Nat → Nat
  | 0 => 0
  | k + 1 => tot Y k + (Y k).length
theorem tot_mono (Y : Nat → List Nat) (k : Nat) : ∀ d, tot Y k ≤ tot Y (k + d)
  | 0 => Nat.le_refl _
  | d + 1 => Nat.le_trans (tot_mono Y k d) (Nat.le_add_right _ _)
end Go.Proofs.Ytofblciodgibdaa
