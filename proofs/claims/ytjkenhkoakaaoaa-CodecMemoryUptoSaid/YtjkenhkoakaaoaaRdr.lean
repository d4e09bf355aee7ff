/- Contracts of codec's must, take, and of a reading: all of it or nothing. -/
import Derived.Test.YtjkenhkoakaaoaaPutsB
import Derived.Test.YtjkenhkoakaaoaaChg
import Derived.BigQuiet
import Derived.Recover
import Derived.Defers
import Derived.Deep.QuietTactic
import Derived.WalkSmall
namespace Go.Proofs.Ytjkenhkoakaaoaa
open Go.RowKit
set_option linter.unusedVariables false
/-- What a reading gives up with. -/
def giveUp (e : Int) : Ending := .panicked [{ v := .iface 66 (.int .i64 e), recovered := false }]
/-- A reader: its bytes, the place, the fault. -/
structure Rr (w : World) (gr : Nat) (A : Option Addr) (n c at_ : Nat) (fl : Int) (bs : List Nat) : Prop where
  c0 : w.cell? ⟨gr, 0, none⟩ = some (.slice A n c)
  c1 : w.cell? ⟨gr, 1, none⟩ = some (.int .i64 (at_ : Int))
  c2 : w.cell? ⟨gr, 2, none⟩ = some (.int .i64 fl)
  z1 : w.frozen? ⟨gr, 1, none⟩ = false
  z2 : w.frozen? ⟨gr, 2, none⟩ = false
  rd : Rd w gr A n (cb bs)
  le : at_ ≤ n ∧ n ≤ c ∧ n ≤ 4398046511104
  lt : gr < w.heap.size
  lb : ∀ x ∈ bs, x < 256
namespace Rr
variable {w w1 : World} {gr n c at_ : Nat} {A : Option Addr} {fl : Int} {bs : List Nat}
theorem len (R : Rr w gr A n c at_ fl bs) : bs.length = n := by have := R.rd.1; rwa [cb_length] at this
theorem keep {L : List Nat} (R : Rr w gr A n c at_ fl bs) (h : Chg L w w1) (hg : gr ∉ L) (ha : ∀ g off, A = some ⟨g, off, none⟩ → 0 < n → g ∉ L) : Rr w1 gr A n c at_ fl bs where
  c0 := (h.cell (p := ⟨gr, 0, none⟩) R.lt hg).trans R.c0
  c1 := (h.cell (p := ⟨gr, 1, none⟩) R.lt hg).trans R.c1
  c2 := (h.cell (p := ⟨gr, 2, none⟩) R.lt hg).trans R.c2
  z1 := (h.frozen (p := ⟨gr, 1, none⟩) R.lt hg).trans R.z1
  z2 := (h.frozen (p := ⟨gr, 2, none⟩) R.lt hg).trans R.z2
  rd := h.rd' R.rd (Nat.le_of_lt R.lt) ha
  le := R.le
  lt := Nat.lt_of_lt_of_le R.lt h.size
  lb := R.lb
/-- Only what is greater than the reader turned. -/
theorem keep' {L : List Nat} (R : Rr w gr A n c at_ fl bs) (h : Chg L w w1) (hg : ∀ k ∈ L, gr < k) : Rr w1 gr A n c at_ fl bs :=
  R.keep h (fun hm => absurd (hg _ hm) (Nat.lt_irrefl _)) fun g off he hn hm => by
    obtain ⟨g', off', he', hb, _⟩ := R.rd.2 hn
    rw [he] at he'; injection he' with he'; injection he' with h1
    have := hg _ hm; omega
theorem move (R : Rr w gr A n c at_ fl bs) (at' : Nat) (h : at' ≤ n) : Rr (w.setCell ⟨gr, 1, none⟩ (.int .i64 (at' : Int))) gr A n c at' fl bs where
  c0 := (World.cell?_setCell_other w _ _ _ (by simp)).trans R.c0
  c1 := World.cell?_setCell_same _ _ _ R.c1
  c2 := (World.cell?_setCell_other w _ _ _ (by simp)).trans R.c2
  z1 := by rw [World.frozen?_setCell]; exact R.z1
  z2 := by rw [World.frozen?_setCell]; exact R.z2
  rd := R.rd.setCell (Nat.le_refl _) _
  le := ⟨h, R.le.2⟩
  lt := by simpa [World.setCell] using R.lt
  lb := R.lb
theorem fail (R : Rr w gr A n c at_ fl bs) (e : Int) : Rr (w.setCell ⟨gr, 2, none⟩ (.int .i64 e)) gr A n c at_ e bs where
  c0 := (World.cell?_setCell_other w _ _ _ (by simp)).trans R.c0
  c1 := (World.cell?_setCell_other w _ _ _ (by simp)).trans R.c1
  c2 := World.cell?_setCell_same _ _ _ R.c2
  z1 := by rw [World.frozen?_setCell]; exact R.z1
  z2 := by rw [World.frozen?_setCell]; exact R.z2
  rd := R.rd.setCell (Nat.le_refl _) _
  le := R.le
  lt := by simpa [World.setCell] using R.lt
  lb := R.lb
theorem drew (R : Rr w gr A n c at_ fl bs) : Rr w.drew gr A n c at_ fl bs := ⟨R.c0, R.c1, R.c2, R.z1, R.z2, R.rd, R.le, R.lt, R.lb⟩
end Rr
theorem must_yes (w : World) (e : Int) : Calls Try.prog 93 #[.bool true, .int .i64 e] w fun r w' => r = .returned (.tuple #[]) ∧ w = w' := by
  go_enter Try.func93, Try.ntmps93
  go_wp2_with fail
  go_end0
  exact ⟨rfl, rfl⟩
theorem must_no (w : World) (e : Int) : Calls Try.prog 93 #[.bool false, .int .i64 e] w fun r w' => r = giveUp e ∧ w = w' := by
  go_enter Try.func93, Try.ntmps93
  go_wp2_with fail
  exact ⟨rfl, rfl, rfl⟩
set_option maxHeartbeats 1000000 in
theorem catch_panicking (pf pr : Addr) (gr : Nat) (at_ ec : Int) (w : World) (hf : w.cell? pf = some (.int .i64 at_)) (hr : w.cell? pr = some (.pointer (some ⟨gr, 0, none⟩)))
    (h1 : ∃ u, w.cell? ⟨gr, 1, none⟩ = some u) (h2 : ∃ u, w.cell? ⟨gr, 2, none⟩ = some u) (z1 : w.frozen? ⟨gr, 1, none⟩ = false) (z2 : w.frozen? ⟨gr, 2, none⟩ = false) :
    CallsD Try.prog 112 #[.pointer (some pf), .pointer (some pr)] (.panicking [{ v := .iface 66 (.int .i64 ec), recovered := false }]) w fun e u' w' =>
      e = .returned (.tuple #[]) ∧ u' = .panicking [{ v := .iface 66 (.int .i64 ec), recovered := true }] ∧ w' = (w.setCell ⟨gr, 1, none⟩ (.int .i64 at_)).setCell ⟨gr, 2, none⟩ (.int .i64 ec) := by
  obtain ⟨q1, h1⟩ := h1
  obtain ⟨q2, h2⟩ := h2
  have hta : ∀ w, (Instr.typeAssert (.iface 66 (.int .i64 ec)) 20 66 true).run Try.prog w = .ok (.tuple #[.int .i64 ec, .bool true]) w := fun w => by
    simp [Instr.typeAssert, go_sem]
  refine callsD_of_wpS Try.func112 rfl fun c₀ cs hu => ?_
  simp only [Try.ntmps112, List.size_toArray, List.length_cons, List.length_nil, Nat.reduceAdd, Nat.reduceSub, Array.replicate_succ, Array.replicate_zero, List.push_toArray, List.nil_append, List.cons_append, List.append_toArray]
  apply wpS_seq
  apply wpS_region
  simp [wpOpsS, go_sem, recoverD, hu, hta, Exit.thenS]
  apply wpS_seq
  apply wpS_region
  simp [wpOpsS, go_sem, Exit.thenS]
  refine wpS_cond (t := true) (by simp [Act.eval]) ?_
  simp only [if_true]
  refine wpS_of_wp ?_
  go_wp2_with fail
  simp [bodyPostS, results, Try.results112]
theorem catch_idle (pf pr : Addr) (w : World) :
    CallsD Try.prog 112 #[.pointer (some pf), .pointer (some pr)] .returning w fun e u' w' => e = .returned (.tuple #[]) ∧ u' = .returning ∧ w' = w := by
  have hta : ∀ w, (Instr.typeAssert .nilIface 20 66 true).run Try.prog w = .ok (.tuple #[.int .i64 0, .bool false]) w := fun w => by
    simp [Instr.typeAssert, go_sem]
  refine callsD_of_wpS Try.func112 rfl fun c₀ cs hu => ?_
  simp only [Try.ntmps112, List.size_toArray, List.length_cons, List.length_nil, Nat.reduceAdd, Nat.reduceSub, Array.replicate_succ, Array.replicate_zero, List.push_toArray, List.nil_append, List.cons_append, List.append_toArray]
  apply wpS_seq
  apply wpS_region
  simp [wpOpsS, go_sem, recoverD, hu, hta, Exit.thenS]
  apply wpS_seq
  apply wpS_region
  simp [wpOpsS, go_sem, Exit.thenS]
  refine wpS_cond (t := false) (by simp [Act.eval]) ?_
  simp only [Bool.false_eq_true, if_false]
  refine wpS_of_wp (wp_skip ?_)
  cases c₀
  simp_all [bodyPostS, results, Try.results112]
end Go.Proofs.Ytjkenhkoakaaoaa
