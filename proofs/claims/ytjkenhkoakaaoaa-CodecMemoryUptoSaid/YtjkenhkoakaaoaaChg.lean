/- A frame with exceptions: of what was there only the blocks of a list have turned. Plain theorems over any program. -/
import Derived.Test.YtjkenhkoakaaoaaMem2
namespace Go.Proofs.Ytjkenhkoakaaoaa
open Go.RowKit
structure Chg (L : List Nat) (w w' : World) : Prop where
  os : w'.os = w.os
  tape : w'.tape = w.tape
  output : w'.output = w.output
  size : w.heap.size ≤ w'.heap.size
  block : ∀ k, k < w.heap.size → k ∉ L → w'.heap[k]? = w.heap[k]?
namespace Chg
variable {L L' : List Nat} {w w1 w2 : World}
theorem refl (L : List Nat) (w : World) : Chg L w w := ⟨rfl, rfl, rfl, Nat.le_refl _, fun _ _ _ => rfl⟩
theorem trans (h : Chg L w w1) (k : Chg L w1 w2) : Chg L w w2 :=
  ⟨k.os.trans h.os, k.tape.trans h.tape, k.output.trans h.output, Nat.le_trans h.size k.size, fun i hi hn => (k.block i (Nat.lt_of_lt_of_le hi h.size) hn).trans (h.block i hi hn)⟩
theorem mono (h : Chg L w w1) (s : ∀ k, k ∈ L → k < w.heap.size → k ∈ L') : Chg L' w w1 :=
  ⟨h.os, h.tape, h.output, h.size, fun i hi hn => h.block i hi fun hm => hn (s i hm hi)⟩
theorem drew (h : Chg L w w1) : Chg L w w1.drew := ⟨h.os, h.tape, h.output, h.size, h.block⟩
theorem of_drew (h : Chg L w.drew w1) : Chg L w w1 := ⟨h.os, h.tape, h.output, h.size, h.block⟩
theorem alloc (h : Chg L w w1) (o : Obj) : Chg L w (w1.alloc o) :=
  h.trans ⟨rfl, rfl, rfl, by simp, fun k hk _ => Below.heap_alloc _ _ _ hk⟩
theorem setCell (h : Chg L w w1) {p : Addr} (hp : p.block ∈ L) (u : Value) : Chg L w (w1.setCell p u) :=
  h.trans ⟨rfl, rfl, rfl, by simp [World.setCell], fun k _ hn => Below.heap_setCell _ _ _ _ (fun e => hn (e ▸ hp))⟩
theorem setNew (h : Chg L w w1) {p : Addr} (hp : w.heap.size ≤ p.block) (u : Value) : Chg L w (w1.setCell p u) :=
  ⟨h.os, h.tape, h.output, by simpa [World.setCell] using h.size, fun k hk hn => (Below.heap_setCell _ _ _ _ (by omega)).trans (h.block k hk hn)⟩
theorem of_below (h : Below w.heap.size w w1) : Chg L w w1 := ⟨h.os, h.tape, h.output, h.size, fun k hk _ => h.block k hk⟩
theorem cell (h : Chg L w w1) {p : Addr} (hp : p.block < w.heap.size) (hn : p.block ∉ L) : w1.cell? p = w.cell? p := World.cell?_of_block (w := w) (h.block _ hp hn)
theorem frozen (h : Chg L w w1) {p : Addr} (hp : p.block < w.heap.size) (hn : p.block ∉ L) : w1.frozen? p = w.frozen? p := World.frozen?_of_block (w := w) (h.block _ hp hn)
theorem below (h : Chg L w w1) {B : Nat} (hB : B ≤ w.heap.size) (hl : ∀ k ∈ L, B ≤ k) : Below B w w1 :=
  ⟨h.os, h.tape, h.output, h.size, fun k hk => h.block k (by omega) fun hm => by have := hl k hm; omega⟩
theorem rd (h : Chg L w w1) {B n : Nat} {A : Option Addr} {xs : List Value} (r : Rd w B A n xs) (hB : B ≤ w.heap.size) (hl : ∀ k ∈ L, B ≤ k) : Rd w1 B A n xs := r.below (h.below hB hl)
/-- A slice whose block is not of the list reads as it did. -/
theorem rd' (h : Chg L w w1) {B n : Nat} {A : Option Addr} {xs : List Value} (r : Rd w B A n xs) (hB : B ≤ w.heap.size) (hl : ∀ g off, A = some ⟨g, off, none⟩ → 0 < n → g ∉ L) : Rd w1 B A n xs := by
  refine ⟨r.1, fun hn => ?_⟩
  obtain ⟨g, off, e, hb, hc⟩ := r.2 hn
  exact ⟨g, off, e, hb, fun i hi => (h.cell (p := ⟨g, off + i, none⟩) (by show g < _; omega) (hl g off e hn)).trans (hc i hi)⟩
theorem own (h : Chg L w w1) {base e size n : Nat} {v : Value} {xs : List Value} (o : w.ownsRow base e size v n xs) (hl : ∀ k, v.ownBlock = some k → k ∉ L) : w1.ownsRow base e size v n xs := by
  refine ⟨o.1, ?_⟩
  rcases o.2 with h2 | ⟨g, cap, cur, rfl, hb, hg, r⟩
  · exact .inl h2
  · exact .inr ⟨g, cap, cur, rfl, hb, (h.block g (Array.getElem?_eq_some_iff.1 hg).1 (hl g rfl)).trans hg, r⟩
end Chg
end Go.Proofs.Ytjkenhkoakaaoaa
