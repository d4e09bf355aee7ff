
/- Contracts of crc.Stream's methods, at a stream that lies anywhere in a block of cells. -/
import Derived.Test.YtbcmjjcbjojakaaSums
import Derived.Test.YtbcmjjcbjojakaaMem2
namespace Go.Proofs.Ytbcmjjcbjojakaa
open Go.RowKit
set_option linter.unusedVariables false
/-- A stream in block g, at place o of the cells xs: its sum, its count. -/
structure Strm (w : World) (g o : Nat) (xs : Array Value) (t S C : Nat) : Prop where
  heap : w.heap[g]? = some (.cells xs t)
  x0 : xs[o]? = some (.int .u32 (S : Int))
  x1 : xs[o + 1]? = some (.int .u64 (C : Int))
  s : S < 4294967296
  c : C < 18446744073709551616
/-- The cells with another stream at place o. -/
def put2 (xs : Array Value) (o S C : Nat) : Array Value := (xs.setIfInBounds o (.int .u32 (S : Int))).setIfInBounds (o + 1) (.int .u64 (C : Int))
section
variable {w w' : World} {g o t S C : Nat} {xs : Array Value}
theorem Strm.lt (h : Strm w g o xs t S C) : g < w.heap.size := (Array.getElem?_eq_some_iff.1 h.heap).1
theorem Strm.below {B : Nat} (h : Strm w g o xs t S C) (b : Below B w w') (hg : g < B) : Strm w' g o xs t S C := ⟨by rw [b.block g hg]; exact h.heap, h.x0, h.x1, h.s, h.c⟩
theorem Strm.grown {row : Option Nat} (h : Strm w g o xs t S C) (b : w.grownBy w' row) (hg : row ≠ some g) : Strm w' g o xs t S C := ⟨by rw [b.block g h.lt (fun e => hg e.symm)]; exact h.heap, h.x0, h.x1, h.s, h.c⟩
theorem Strm.cell0 (h : Strm w g o xs t S C) : w.cell? ⟨g, o, none⟩ = some (.int .u32 (S : Int)) := by rw [cell_of_row w g o _ _ (0, 0) h.heap]; exact h.x0
theorem Strm.cell1 (h : Strm w g o xs t S C) : w.cell? ⟨g, o + 1, none⟩ = some (.int .u64 (C : Int)) := by rw [cell_of_row w g (o + 1) _ _ (0, 0) h.heap]; exact h.x1
theorem Strm.free (h : Strm w g o xs t S C) (i : Nat) : w.frozen? ⟨g, i, none⟩ = false := by simp [World.frozen?, h.heap]
theorem Strm.in0 (h : Strm w g o xs t S C) : o < xs.size := (Array.getElem?_eq_some_iff.1 h.x0).1
theorem Strm.in1 (h : Strm w g o xs t S C) : o + 1 < xs.size := (Array.getElem?_eq_some_iff.1 h.x1).1
theorem heap_set (w : World) (g i : Nat) (u : Value) (xs : Array Value) (t : Nat) (h : w.heap[g]? = some (.cells xs t)) : (w.setCell ⟨g, i, none⟩ u).heap[g]? = some (.cells (xs.setIfInBounds i u) t) := by
  simp only [World.setCell]
  rw [Array.getElem?_modify, if_pos rfl, h]
  rfl
theorem grown_set (w : World) (g i : Nat) (u : Value) : w.grownBy (w.setCell ⟨g, i, none⟩ u) (some g) :=
  ⟨rfl, rfl, rfl, by simp [World.setCell], fun k hk hne => Below.heap_setCell _ _ _ _ (fun e => hne (by rw [e]))⟩
theorem Strm.set0 (h : Strm w g o xs t S C) {S' : Nat} (hs : S' < 4294967296) : Strm (w.setCell ⟨g, o, none⟩ (.int .u32 (S' : Int))) g o (xs.setIfInBounds o (.int .u32 (S' : Int))) t S' C := by
  refine ⟨heap_set w g o _ xs t h.heap, ?_, ?_, hs, h.c⟩
  · rw [Array.getElem?_setIfInBounds, if_pos rfl, if_pos h.in0]
  · rw [Array.getElem?_setIfInBounds, if_neg (by omega)]; exact h.x1
theorem Strm.set1 (h : Strm w g o xs t S C) {C' : Nat} (hs : C' < 18446744073709551616) : Strm (w.setCell ⟨g, o + 1, none⟩ (.int .u64 (C' : Int))) g o (xs.setIfInBounds (o + 1) (.int .u64 (C' : Int))) t S C' := by
  refine ⟨heap_set w g (o + 1) _ xs t h.heap, ?_, ?_, h.s, hs⟩
  · rw [Array.getElem?_setIfInBounds, if_neg (by omega)]; exact h.x0
  · rw [Array.getElem?_setIfInBounds, if_pos rfl, if_pos h.in1]
theorem below_own {B : Nat} (h : Below B w w') (hB : B = w.heap.size) (row : Option Nat) : w.grownBy w' row := ⟨h.os, h.tape, h.output, h.size, fun k hk _ => h.block k (by omega)⟩
theorem wrap_u64 (x : Nat) : IntKind.u64.wrap (x : Int) = ((x % 18446744073709551616 : Nat) : Int) := by
  simp [IntKind.wrap, IntKind.bits, IntKind.signed]
end
theorem ssum_any (w : World) (g o t S C : Nat) (xs : Array Value) (h : Strm w g o xs t S C) :
    Calls Try.prog 94 #[.pointer (some ⟨g, o, none⟩)] w fun e w' => e = .returned (.int .u32 (S : Int)) ∧ w = w' := by
  have h0 := h.cell0
  have HH := Hd.mk h
  clear h
  go_enter Try.func94, Try.ntmps94
  go_wp2_with fail
  go_ret
  exact ⟨rfl, rfl⟩
set_option maxHeartbeats 400000 in
theorem write_any (w : World) (g o t S C : Nat) (xs : Array Value) (A : Option Addr) (n c B : Nat) (l : List Nat) (h : Strm w g o xs t S C) (hr : Rd w B A n (cb l)) (hB : B ≤ w.heap.size) (hl : ∀ x ∈ l, x < 256) (hn : n ≤ 140737488355328) :
    Calls Try.prog 91 #[.pointer (some ⟨g, o, none⟩), .slice A n c] w fun e w' => e = .returned (.tuple #[]) ∧ Strm w' g o (put2 xs o (Crc.more S l) ((C + n) % 18446744073709551616)) t (Crc.more S l) ((C + n) % 18446744073709551616) ∧ w.grownBy w' (some g) := by
  have c0 := h.cell0
  have HH := Hd.mk h
  have HR : Hd (Rd w B A n (cb l) ∧ (∀ x ∈ l, x < 256)) := ⟨hr, hl⟩
  have hs := h.s
  clear h hr hl
  go_enter Try.func91, Try.ntmps91
  go_wp2_with fail
  refine (more_any w A n c B l (S : Int) (by omega) (by omega) HR.out.1 hB HR.out.2 hn).mono ?_
  rw [Int.toNat_natCast]
  rintro e w1 ⟨rfl, hb⟩
  have H1 : Hd (Strm w1 g o xs t S C ∧ Below w.heap.size w w1) := ⟨HH.out.below hb HH.out.lt, hb⟩
  have hml := Crc.more_lt S l
  obtain ⟨M, hM⟩ : ∃ M, Crc.more S l = M := ⟨_, rfl⟩
  have HM := Hd.mk hM
  rw [hM] at hml ⊢
  clear hM
  have H2 : Hd (Strm (w1.setCell ⟨g, o, none⟩ (.int .u32 (M : Int))) g o (xs.setIfInBounds o (.int .u32 (M : Int))) t M C) := ⟨H1.out.1.set0 (by omega)⟩
  have d0 := H1.out.1.cell0
  have f0 := H1.out.1.free o
  have d1 := H2.out.cell1
  have f1 := H2.out.free (o + 1)
  have hc := H2.out.c
  clear hb c0
  go_wp2_with fail
  go_end0
  rw [HM.out, show (C : Int) + (n : Int) = ((C + n : Nat) : Int) by omega, wrap_u64]
  exact ⟨rfl, H2.out.set1 (Nat.mod_lt _ (by omega)), ((below_own H1.out.2 rfl _).trans (grown_set ..)).trans (grown_set ..)⟩
theorem swrite_nil (w : World) (A : Option Addr) (n c : Nat) : Calls Try.prog 91 #[.pointer none, .slice A n c] w fun e w' => e = .returned (.tuple #[]) ∧ w = w' := by
  go_enter Try.func91, Try.ntmps91
  go_wp2_with fail
  (try simp only [Exit.inBlock, Exit.then])
  refine bodyPost_ret (results_none rfl _ _ _) rfl ?_
  exact ⟨rfl, rfl⟩
theorem sreset_nil (w : World) : Calls Try.prog 113 #[.pointer none] w fun e w' => e = .returned (.tuple #[]) ∧ w = w' := by
  go_enter Try.func113, Try.ntmps113
  go_wp2_with fail
  go_end0
  exact ⟨rfl, rfl⟩
theorem ssum_nil (w : World) : Calls Try.prog 94 #[.pointer none] w fun e w' => e = .returned (.int .u32 0) ∧ w = w' := by
  go_enter Try.func94, Try.ntmps94
  go_wp2_with fail
  go_ret
  exact ⟨rfl, rfl⟩
theorem sreset_any (w : World) (g o t S C : Nat) (xs : Array Value) (h : Strm w g o xs t S C) :
    Calls Try.prog 113 #[.pointer (some ⟨g, o, none⟩)] w fun e w' => e = .returned (.tuple #[]) ∧ Strm w' g o (put2 xs o 0 0) t 0 0 ∧ w.grownBy w' (some g) := by
  have h0 := h.cell0
  have h1 := h.cell1
  have f0 := h.free o
  have f1 := h.free (o + 1)
  have HH := Hd.mk h
  clear h
  go_enter Try.func113, Try.ntmps113
  go_wp2_with fail
  go_end0
  exact ⟨rfl, (HH.out.set0 (S' := 0) (by omega)).set1 (C' := 0) (by omega), (grown_set ..).trans (grown_set ..)⟩
end Go.Proofs.Ytbcmjjcbjojakaa
