/- Contracts of codec's Reader: Uvarint, Varint, Bytes, Block, Left, Fault, End, Open. -/
import Derived.Test.YtjkenhkoakaaoaaRdrD
namespace Go.Proofs.Ytjkenhkoakaaoaa
open Go.RowKit
set_option linter.unusedVariables false
set_option maxRecDepth 20000
/-- What a method of the reader answers. -/
def Ans {α : Type} (w : World) (gr n c : Nat) (A : Option Addr) (bs : List Nat) (K : Value → α → World → Prop) (r : α × Nat × Int) (e : Ending) (w' : World) : Prop :=
  ∃ v, e = .returned v ∧ Chg [gr] w w' ∧ K v r.1 w' ∧ Rr w' gr A n c r.2.1 r.2.2 bs
def KZag (v : Value) (a : Nat) (_ : World) : Prop := v = .int .i64 (unz (a : Int))
def KOwn (base : Nat) (v : Value) (a : List Nat) (w : World) : Prop := w.ownsRow base 5 1 v a.length (cb a)
theorem KOwn.nil (base : Nat) (w : World) : KOwn base (.slice none 0 0) [] w := World.ownsRow_nil ..
theorem Chg.pop {x : Nat} {L : List Nat} {w w1 : World} (h : Chg (L ++ [x]) w w1) (hx : w.heap.size ≤ x) : Chg L w w1 := h.mono fun k hk hl => by
  rcases List.mem_append.1 hk with h | h
  · exact h
  · simp at h; omega
theorem cell_new {w : World} {g : Nat} (u : Value) (t : TypeId) (hg : g = w.heap.size) : (w.alloc (.cells #[u] t)).cell? ⟨g, 0, none⟩ = some u := by subst hg; simp
theorem frozen_new {w : World} {g : Nat} (u : Value) (t : TypeId) (hg : g = w.heap.size) : (w.alloc (.cells #[u] t)).frozen? ⟨g, 0, none⟩ = false := by subst hg; simp
theorem take_len {bs l : List Nat} {at_ k a N : Nat} (h : takeF bs at_ k = .ok (l, a)) (hb : bs.length ≤ N) : l.length ≤ N := by
  unfold takeF at h
  split at h
  · cases h; rw [List.length_take, List.length_drop]; omega
  · cases h
theorem block_len {bs l : List Nat} {at_ k a N : Nat} (h : blockF bs at_ k = .ok (l, a)) (hb : bs.length ≤ N) : l.length ≤ N := by
  unfold blockF at h
  split at h
  · split at h
    · exact take_len h hb
    · cases h
  · cases h
/-- What a closure of a reading stands on. -/
structure Caps (w : World) (gr pr pv : Nat) : Prop where
  hr : w.cell? ⟨pr, 0, none⟩ = some (.pointer (some ⟨gr, 0, none⟩))
  hv : ∃ u, w.cell? ⟨pv, 0, none⟩ = some u
  zv : w.frozen? ⟨pv, 0, none⟩ = false
  lt : gr < pv ∧ gr < pr ∧ pv < w.heap.size ∧ pr < w.heap.size
theorem Caps.keep {w w1 : World} {gr pr pv : Nat} (h : Caps w gr pr pv) (b : Chg [gr] w w1) : Caps w1 gr pr pv where
  hr := (b.cell (p := ⟨pr, 0, none⟩) h.lt.2.2.2 (by have := h.lt; simp; omega)).trans h.hr
  hv := let ⟨u, hu⟩ := h.hv; ⟨u, (b.cell (p := ⟨pv, 0, none⟩) h.lt.2.2.1 (by have := h.lt; simp; omega)).trans hu⟩
  zv := (b.frozen (p := ⟨pv, 0, none⟩) h.lt.2.2.1 (by have := h.lt; simp; omega)).trans h.zv
  lt := by have := h.lt; have := b.size; omega
set_option maxHeartbeats 1000000 in
theorem uvC_any (w : World) (gr pr pv n c at_ : Nat) (A : Option Addr) (bs : List Nat) (R : Rr w gr A n c at_ 0 bs) (C : Caps w gr pr pv) :
    Calls Try.prog 95 #[.pointer (some ⟨pr, 0, none⟩), .pointer (some ⟨pv, 0, none⟩)] w (Clo w gr pv n c A bs KNum (numF bs at_)) := by
  have HR : Hd (Rr w gr A n c at_ 0 bs ∧ Caps w gr pr pv) := ⟨R, C⟩
  have k1 := C.hr
  clear R C
  go_enter Try.func95, Try.ntmps95
  go_wp2_with fail
  refine (number_any w gr n c at_ A 0 bs HR.out.1).mono ?_
  rintro e w1 ⟨hch, hy, hn⟩
  rcases hnum : numF bs at_ with ec | ⟨k, a1⟩
  · obtain ⟨rfl, at', hr⟩ := hn ec hnum
    have H1 : Hd (Chg [gr] w w1 ∧ Rr w1 gr A n c at' 0 bs) := ⟨hch, hr⟩
    clear hch hy hn hnum hr
    unfold giveUp
    go_wp2_with fail
    exact ⟨rfl, Clo.no rfl H1.out.1 H1.out.2⟩
  · obtain ⟨v, rfl, hk, hr⟩ := hy _ _ hnum
    unfold KNum at hk
    subst hk
    have H1 : Hd (Chg [gr] w w1 ∧ Rr w1 gr A n c a1 0 bs ∧ Caps w1 gr pr pv) := ⟨hch, hr, HR.out.2.keep hch⟩
    have HN := Hd.mk hnum
    clear hch hy hn hnum hr
    obtain ⟨u, c1⟩ := H1.out.2.2.hv
    have c2 := H1.out.2.2.zv
    obtain ⟨X, hX⟩ : ∃ X : Int, (k : Int) = X := ⟨_, rfl⟩
    have HX := Hd.mk hX
    rw [hX]
    clear hX
    go_wp2_with fail
    go_end0
    exact Clo.yes (a := k) (at' := a1) HN.out ((H1.out.1.mono (by simp)).setCell (by simp) _) (H1.out.2.1.keep' ((Chg.refl [pv] w1).setCell (by simp) _) (by have := HR.out.2.lt; simp; omega)) (World.cell?_setCell_same _ _ _ c1) (by rw [World.frozen?_setCell]; exact c2) (by rw [← HX.out]; rfl)
set_option maxHeartbeats 1000000 in
theorem uvarint_any (w : World) (gr n c at_ : Nat) (fl : Int) (A : Option Addr) (bs : List Nat) (R : Rr w gr A n c at_ fl bs) :
    Calls Try.prog 49 #[.pointer (some ⟨gr, 0, none⟩)] w (Ans w gr n c A bs KNum (redo (numF bs at_) 0 at_ fl)) := by
  have hmf : ∀ (fn : Fn) (first cap : Array Value) (w : World), (Instr.makeFunc fn first cap).run Try.prog w = .ok (.func fn first cap) w := fun _ _ _ _ => rfl
  have HR := Hd.mk R
  clear R
  go_enter Try.func49, Try.ntmps49
  go_wp2_with fail
  have hch : Chg [] w ((w.alloc (.cells #[.pointer (some ⟨gr, 0, none⟩)] 64)).alloc (.cells #[.int .u64 0] 23)) := ((Chg.refl _ _).alloc _).alloc _
  obtain ⟨W1, hW⟩ : ∃ W1, ((w.alloc (.cells #[.pointer (some ⟨gr, 0, none⟩)] 64)).alloc (.cells #[.int .u64 0] 23)) = W1 := ⟨_, rfl⟩
  have k1 : W1.cell? ⟨w.heap.size + 1, 0, none⟩ = some (.int .u64 0) := by rw [← hW]; simp
  have k2 : W1.cell? ⟨w.heap.size, 0, none⟩ = some (.pointer (some ⟨gr, 0, none⟩)) := by rw [← hW]; simp
  have k3 : W1.heap.size = w.heap.size + 2 := by rw [← hW]; simp
  have k4 : W1.frozen? ⟨w.heap.size + 1, 0, none⟩ = false := by rw [← hW]; simp
  rw [hW] at hch ⊢
  have HC : Hd (Caps W1 gr w.heap.size (w.heap.size + 1)) := ⟨⟨k2, ⟨_, k1⟩, k4, by have := HR.out.lt; omega⟩⟩
  have H1 : Hd (Chg [] w W1 ∧ Rr W1 gr A n c at_ fl bs) := ⟨hch, HR.out.keep' hch (by simp)⟩
  clear hch hW
  refine (reading_all W1 gr (w.heap.size + 1) n c at_ fl A bs H1.out.2 (.int .u64 0) k1 k4 (by have := HR.out.lt; omega) (by omega) 95 (fun _ _ => rfl) _ KNum (numF bs at_) 0 (fun _ => rfl) ?_).mono ?_
  · intro h0 w2 h2
    have := H1.out.2.keep' h2 (by simp)
    rw [h0] at this
    exact uvC_any w2 gr w.heap.size (w.heap.size + 1) n c at_ A bs this (HC.out.keep (h2.mono (by simp)))
  rintro e w2 ⟨rfl, ha⟩
  have HA := Hd.mk ha
  obtain ⟨v, c1, hk⟩ := ha.cell
  have c2 := ha.froz
  unfold KNum at hk
  subst hk
  obtain ⟨X, hX⟩ : ∃ X : Int, ((redo (numF bs at_) 0 at_ fl).1 : Int) = X := ⟨_, rfl⟩
  have HX := Hd.mk hX
  rw [hX] at c1
  clear ha k1 k2 k3 k4 hX
  go_wp2_with fail
  have c3 := World.cell?_setCell_same (v := .int .u64 X) w2 ⟨w.heap.size + 1, 0, none⟩ c1
  refine bodyPost_ret (v := .int .u64 X) (by simp [results, Try.results49, go_sem, c3]) rfl ?_
  refine ⟨_, rfl, ?_, ?_, ?_⟩
  · exact Chg.pop (L := [gr]) (((H1.out.1.mono (by simp)).trans HA.out.ch).setCell (by simp) _) (by omega)
  · rw [← HX.out]; rfl
  · exact HA.out.rr.keep' ((Chg.refl [w.heap.size + 1] w2).setCell (by simp) _) (by have := HR.out.lt; simp; omega)
end Go.Proofs.Ytjkenhkoakaaoaa
