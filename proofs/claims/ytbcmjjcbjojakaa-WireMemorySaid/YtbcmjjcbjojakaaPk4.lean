/- Put together of: Chg Rdr RdrF RdrA RdrC RdrB RdrD. -/
import Derived.Test.YtbcmjjcbjojakaaPk1
import Derived.Test.YtbcmjjcbjojakaaPk2
import Derived.BigQuiet
import Derived.Recover
import Derived.Defers
import Derived.Deep.QuietTactic
import Derived.WalkSmall
import Derived.Deep.RegionHeld3
import Derived.StillTailTactics
section
namespace Go.Proofs.Ytbcmjjcbjojakaa
open Go.RowKit
structure Chg (L : List Nat) (w w' : World) : Prop where
 os : w'.os = w.os
 tape : w'.tape = w.tape
 output : w'.output = w.output
 size : w.heap.size ≤ w'.heap.size
 block : ∀ k, k < w.heap.size → k ∉ L → w'.heap[k]? = w.heap[k]?
namespace Chg
variable {L L' : List Nat} {w w1 w2 : World}
theorem refl (L : List Nat) (w : World) : Chg L w w := ⟨rfl, rfl, rfl, Nat.le_refl _, fun _ _ _ => rfl⟩
theorem trans (h : Chg L w w1) (k : Chg L w1 w2) : Chg L w w2 :=
 ⟨k.os.trans h.os, k.tape.trans h.tape, k.output.trans h.output, Nat.le_trans h.size k.size, fun i hi hn => (k.block i (Nat.lt_of_lt_of_le hi h.size) hn).trans (h.block i hi hn)⟩
theorem mono (h : Chg L w w1) (s : ∀ k, k ∈ L → k < w.heap.size → k ∈ L') : Chg L' w w1 :=
 ⟨h.os, h.tape, h.output, h.size, fun i hi hn => h.block i hi fun hm => hn (s i hm hi)⟩
theorem drew (h : Chg L w w1) : Chg L w w1.drew := ⟨h.os, h.tape, h.output, h.size, h.block⟩
theorem of_drew (h : Chg L w.drew w1) : Chg L w w1 := ⟨h.os, h.tape, h.output, h.size, h.block⟩
theorem alloc (h : Chg L w w1) (o : Obj) : Chg L w (w1.alloc o) :=
 h.trans ⟨rfl, rfl, rfl, by simp, fun k hk _ => Below.heap_alloc _ _ _ hk⟩
theorem setCell (h : Chg L w w1) {p : Addr} (hp : p.block ∈ L) (u : Value) : Chg L w (w1.setCell p u) :=
 h.trans ⟨rfl, rfl, rfl, by simp [World.setCell], fun k _ hn => Below.heap_setCell _ _ _ _ (fun e => hn (e ▸ hp))⟩
theorem setNew (h : Chg L w w1) {p : Addr} (hp : w.heap.size ≤ p.block) (u : Value) : Chg L w (w1.setCell p u) :=
 ⟨h.os, h.tape, h.output, by simpa [World.setCell] using h.size, fun k hk hn => (Below.heap_setCell _ _ _ _ (by omega)).trans (h.block k hk hn)⟩
theorem of_below (h : Below w.heap.size w w1) : Chg L w w1 := ⟨h.os, h.tape, h.output, h.size, fun k hk _ => h.block k hk⟩
theorem cell (h : Chg L w w1) {p : Addr} (hp : p.block < w.heap.size) (hn : p.block ∉ L) : w1.cell? p = w.cell? p := World.cell?_of_block (w := w) (h.block _ hp hn)
theorem frozen (h : Chg L w w1) {p : Addr} (hp : p.block < w.heap.size) (hn : p.block ∉ L) : w1.frozen? p = w.frozen? p := World.frozen?_of_block (w := w) (h.block _ hp hn)
theorem below (h : Chg L w w1) {B : Nat} (hB : B ≤ w.heap.size) (hl : ∀ k ∈ L, B ≤ k) : Below B w w1 :=
 ⟨h.os, h.tape, h.output, h.size, fun k hk => h.block k (by omega) fun hm => by have := hl k hm; omega⟩
theorem rd (h : Chg L w w1) {B n : Nat} {A : Option Addr} {xs : List Value} (r : Rd w B A n xs) (hB : B ≤ w.heap.size) (hl : ∀ k ∈ L, B ≤ k) : Rd w1 B A n xs := r.below (h.below hB hl)
/-- A slice whose block is not of the list reads as it did. -/
theorem rd' (h : Chg L w w1) {B n : Nat} {A : Option Addr} {xs : List Value} (r : Rd w B A n xs) (hB : B ≤ w.heap.size) (hl : ∀ g off, A = some ⟨g, off, none⟩ → 0 < n → g ∉ L) : Rd w1 B A n xs := by
 refine ⟨r.1, fun hn => ?_⟩
 obtain ⟨g, off, e, hb, hc⟩ := r.2 hn
 exact ⟨g, off, e, hb, fun i hi => (h.cell (p := ⟨g, off + i, none⟩) (by show g < _; omega) (hl g off e hn)).trans (hc i hi)⟩
theorem own (h : Chg L w w1) {base e size n : Nat} {v : Value} {xs : List Value} (o : w.ownsRow base e size v n xs) (hl : ∀ k, v.ownBlock = some k → k ∉ L) : w1.ownsRow base e size v n xs := by
 refine ⟨o.1, ?_⟩
 rcases o.2 with h2 | ⟨g, cap, cur, rfl, hb, hg, r⟩
 ·exact .inl h2
 ·exact .inr ⟨g, cap, cur, rfl, hb, (h.block g (Array.getElem?_eq_some_iff.1 hg).1 (hl g rfl)).trans hg, r⟩
end Chg
end Go.Proofs.Ytbcmjjcbjojakaa
end
section
namespace Go.Proofs.Ytbcmjjcbjojakaa
open Go.RowKit
set_option linter.unusedVariables false
/-- What a reading gives up with. -/
def giveUp (e : Int) : Ending := .panicked [{ v := .iface 32 (.int .i64 e), recovered := false }]
/-- A reader: its bytes, the place, the fault. -/
structure Rr (w : World) (gr : Nat) (A : Option Addr) (n c at_ : Nat) (fl : Int) (bs : List Nat) : Prop where
 c0 : w.cell? ⟨gr, 0, none⟩ = some (.slice A n c)
 c1 : w.cell? ⟨gr, 1, none⟩ = some (.int .i64 (at_ : Int))
 c2 : w.cell? ⟨gr, 2, none⟩ = some (.int .i64 fl)
 z1 : w.frozen? ⟨gr, 1, none⟩ = false
 z2 : w.frozen? ⟨gr, 2, none⟩ = false
 rd : Rd w gr A n (cb bs)
 le : at_ ≤ n ∧ n ≤ c ∧ n ≤ 4398046511104
 lt : gr < w.heap.size
 lb : ∀ x ∈ bs, x < 256
namespace Rr
variable {w w1 : World} {gr n c at_ : Nat} {A : Option Addr} {fl : Int} {bs : List Nat}
theorem len (R : Rr w gr A n c at_ fl bs) : bs.length = n := by have := R.rd.1; rwa [cb_length] at this
theorem keep {L : List Nat} (R : Rr w gr A n c at_ fl bs) (h : Chg L w w1) (hg : gr ∉ L) (ha : ∀ g off, A = some ⟨g, off, none⟩ → 0 < n → g ∉ L) : Rr w1 gr A n c at_ fl bs where
 c0 := (h.cell (p := ⟨gr, 0, none⟩) R.lt hg).trans R.c0
 c1 := (h.cell (p := ⟨gr, 1, none⟩) R.lt hg).trans R.c1
 c2 := (h.cell (p := ⟨gr, 2, none⟩) R.lt hg).trans R.c2
 z1 := (h.frozen (p := ⟨gr, 1, none⟩) R.lt hg).trans R.z1
 z2 := (h.frozen (p := ⟨gr, 2, none⟩) R.lt hg).trans R.z2
 rd := h.rd' R.rd (Nat.le_of_lt R.lt) ha
 le := R.le
 lt := Nat.lt_of_lt_of_le R.lt h.size
 lb := R.lb
/-- Only what is greater than the reader turned. -/
theorem keep' {L : List Nat} (R : Rr w gr A n c at_ fl bs) (h : Chg L w w1) (hg : ∀ k ∈ L, gr < k) : Rr w1 gr A n c at_ fl bs :=
 R.keep h (fun hm => absurd (hg _ hm) (Nat.lt_irrefl _)) fun g off he hn hm => by
  obtain ⟨g', off', he', hb, _⟩ := R.rd.2 hn
  rw [he] at he'; injection he' with he'; injection he' with h1
  have := hg _ hm; omega
theorem move (R : Rr w gr A n c at_ fl bs) (at' : Nat) (h : at' ≤ n) : Rr (w.setCell ⟨gr, 1, none⟩ (.int .i64 (at' : Int))) gr A n c at' fl bs where
 c0 := (World.cell?_setCell_other w _ _ _ (by simp)).trans R.c0
 c1 := World.cell?_setCell_same _ _ _ R.c1
 c2 := (World.cell?_setCell_other w _ _ _ (by simp)).trans R.c2
 z1 := by rw [World.frozen?_setCell]; exact R.z1
 z2 := by rw [World.frozen?_setCell]; exact R.z2
 rd := R.rd.setCell (Nat.le_refl _) _
 le := ⟨h, R.le.2⟩
 lt := by simpa [World.setCell] using R.lt
 lb := R.lb
theorem fail (R : Rr w gr A n c at_ fl bs) (e : Int) : Rr (w.setCell ⟨gr, 2, none⟩ (.int .i64 e)) gr A n c at_ e bs where
 c0 := (World.cell?_setCell_other w _ _ _ (by simp)).trans R.c0
 c1 := (World.cell?_setCell_other w _ _ _ (by simp)).trans R.c1
 c2 := World.cell?_setCell_same _ _ _ R.c2
 z1 := by rw [World.frozen?_setCell]; exact R.z1
 z2 := by rw [World.frozen?_setCell]; exact R.z2
 rd := R.rd.setCell (Nat.le_refl _) _
 le := R.le
 lt := by simpa [World.setCell] using R.lt
 lb := R.lb
theorem drew (R : Rr w gr A n c at_ fl bs) : Rr w.drew gr A n c at_ fl bs := ⟨R.c0, R.c1, R.c2, R.z1, R.z2, R.rd, R.le, R.lt, R.lb⟩
end Rr
theorem must_yes (w : World) (e : Int) : Calls Try.prog 148 #[.bool true, .int .i64 e] w fun r w' => r = .returned (.tuple #[]) ∧ w = w' := by
 go_enter Try.func148, Try.ntmps148
 go_wp2_with fail
 go_end0
 exact ⟨rfl, rfl⟩
theorem must_no (w : World) (e : Int) : Calls Try.prog 148 #[.bool false, .int .i64 e] w fun r w' => r = giveUp e ∧ w = w' := by
 go_enter Try.func148, Try.ntmps148
 go_wp2_with fail
 exact ⟨rfl, rfl, rfl⟩
set_option maxHeartbeats 1000000 in
theorem catch_panicking (pf pr : Addr) (gr : Nat) (at_ ec : Int) (w : World) (hf : w.cell? pf = some (.int .i64 at_)) (hr : w.cell? pr = some (.pointer (some ⟨gr, 0, none⟩)))
  (h1 : ∃ u, w.cell? ⟨gr, 1, none⟩ = some u) (h2 : ∃ u, w.cell? ⟨gr, 2, none⟩ = some u) (z1 : w.frozen? ⟨gr, 1, none⟩ = false) (z2 : w.frozen? ⟨gr, 2, none⟩ = false) :
  CallsD Try.prog 152 #[.pointer (some pf), .pointer (some pr)] (.panicking [{ v := .iface 32 (.int .i64 ec), recovered := false }]) w fun e u' w' =>
   e = .returned (.tuple #[]) ∧ u' = .panicking [{ v := .iface 32 (.int .i64 ec), recovered := true }] ∧ w' = (w.setCell ⟨gr, 1, none⟩ (.int .i64 at_)).setCell ⟨gr, 2, none⟩ (.int .i64 ec) := by
 obtain ⟨q1, h1⟩ := h1
 obtain ⟨q2, h2⟩ := h2
 have hta : ∀ w, (Instr.typeAssert (.iface 32 (.int .i64 ec)) 20 32 true).run Try.prog w = .ok (.tuple #[.int .i64 ec, .bool true]) w := fun w => by
  simp [Instr.typeAssert, go_sem]
 refine callsD_of_wpS Try.func152 rfl fun c₀ cs hu => ?_
 simp only [Try.ntmps152, List.size_toArray, List.length_cons, List.length_nil, Nat.reduceAdd, Nat.reduceSub, Array.replicate_succ, Array.replicate_zero, List.push_toArray, List.nil_append, List.cons_append, List.append_toArray]
 apply wpS_seq
 apply wpS_region
 simp [wpOpsS, go_sem, recoverD, hu, hta, Exit.thenS]
 apply wpS_seq
 apply wpS_region
 simp [wpOpsS, go_sem, Exit.thenS]
 refine wpS_cond (t := true) (by simp [Act.eval]) ?_
 simp only [if_true]
 refine wpS_of_wp ?_
 go_wp2_with fail
 simp [bodyPostS, results, Try.results152]
theorem catch_idle (pf pr : Addr) (w : World) :
  CallsD Try.prog 152 #[.pointer (some pf), .pointer (some pr)] .returning w fun e u' w' => e = .returned (.tuple #[]) ∧ u' = .returning ∧ w' = w := by
 have hta : ∀ w, (Instr.typeAssert .nilIface 20 32 true).run Try.prog w = .ok (.tuple #[.int .i64 0, .bool false]) w := fun w => by
  simp [Instr.typeAssert, go_sem]
 refine callsD_of_wpS Try.func152 rfl fun c₀ cs hu => ?_
 simp only [Try.ntmps152, List.size_toArray, List.length_cons, List.length_nil, Nat.reduceAdd, Nat.reduceSub, Array.replicate_succ, Array.replicate_zero, List.push_toArray, List.nil_append, List.cons_append, List.append_toArray]
 apply wpS_seq
 apply wpS_region
 simp [wpOpsS, go_sem, recoverD, hu, hta, Exit.thenS]
 apply wpS_seq
 apply wpS_region
 simp [wpOpsS, go_sem, Exit.thenS]
 refine wpS_cond (t := false) (by simp [Act.eval]) ?_
 simp only [Bool.false_eq_true, if_false]
 refine wpS_of_wp (wp_skip ?_)
 cases c₀
 simp_all [bodyPostS, results, Try.results152]
end Go.Proofs.Ytbcmjjcbjojakaa
end
section
namespace Go.Proofs.Ytbcmjjcbjojakaa
open Go.RowKit
set_option linter.unusedVariables false
/-- A short form, group by group: its number and how many bytes it took, or the fault. -/
def numR : List Nat → Nat → Nat → Except Int (Nat × Nat)
 | [], _, _ => .error 70
 | c :: l, i, v =>
  if 9 ≤ i ∧ 1 < c then .error 71
  else if c < 128 then (if c = 0 ∧ i ≠ 0 then .error 71 else .ok (v + c % 128 * 2 ^ (7 * i), i + 1))
  else numR l (i + 1) (v + c % 128 * 2 ^ (7 * i))
/-- The number that bytes say, the lowest first. -/
def le256 : List Nat → Nat
 | [] => 0
 | c :: l => c + 256 * le256 l
theorem le256_snoc (l : List Nat) (c : Nat) : le256 (l ++ [c]) = le256 l + c * 256 ^ l.length := by
 induction l with
 | nil => simp [le256]
 | cons x l ih => simp only [List.cons_append, le256, ih, List.length_cons, Nat.pow_succ]; rw [Nat.mul_add, Nat.mul_comm (256 ^ l.length) 256, Nat.mul_left_comm c 256]; omega
theorem le256_lt (l : List Nat) (h : ∀ x ∈ l, x < 256) : le256 l < 256 ^ l.length := by
 induction l with
 | nil => simp [le256]
 | cons x l ih =>
  have h1 := h x (by simp)
  have h2 := ih fun y hy => h y (by simp [hy])
  simp only [le256, List.length_cons, Nat.pow_succ]
  omega
/-- The next k bytes. -/
def takeF (bs : List Nat) (at_ k : Nat) : Except Int (List Nat × Nat) := if k ≤ bs.length - at_ then .ok ((bs.drop at_).take k, at_ + k) else .error 70
def numF (bs : List Nat) (at_ : Nat) : Except Int (Nat × Nat) :=
 match numR (bs.drop at_) 0 0 with
 | .ok (v, m) => .ok (v, at_ + m)
 | .error e => .error e
def blockF (bs : List Nat) (at_ most : Nat) : Except Int (List Nat × Nat) :=
 match numF bs at_ with
 | .ok (k, a) => if k ≤ most then takeF bs a k else .error 71
 | .error e => .error e
/-- k blocks, one behind the other. -/
def rowsF (bs : List Nat) (each : Nat) : Nat → Nat → Except Int (List (List Nat) × Nat)
 | 0, a => .ok ([], a)
 | k + 1, a =>
  match blockF bs a each with
  | .error e => .error e
  | .ok (b, a1) =>
   match rowsF bs each k a1 with
   | .error e => .error e
   | .ok (l, a2) => .ok (b :: l, a2)
def fixF (bs : List Nat) (at_ k : Nat) : Except Int (Nat × Nat) :=
 match takeF bs at_ k with
 | .ok (l, a) => .ok (le256 l, a)
 | .error e => .error e
def bytesF (bs : List Nat) (at_ : Nat) (k : Int) : Except Int (List Nat × Nat) := if k < 0 then .error 2 else takeF bs at_ k.toNat
def blkF (bs : List Nat) (at_ : Nat) (most : Int) : Except Int (List Nat × Nat) := if most < 0 then .error 2 else blockF bs at_ most.toNat
def textsF (bs : List Nat) (at_ : Nat) (most each : Int) : Except Int (List (List Nat) × Nat) :=
 if most < 0 ∨ each < 0 then .error 2
 else match numF bs at_ with
  | .error e => .error e
  | .ok (k, a) => if k ≤ most.toNat then rowsF bs each.toNat k a else .error 71
/-- A reading: all of it or nothing. -/
def redo {α : Type} (o : Except Int (α × Nat)) (z : α) (at_ : Nat) (fl : Int) : α × Nat × Int :=
 if fl = 0 then (match o with
  | .ok (a, at') => (a, at', 0)
  | .error e => (z, at_, e))
 else (z, at_, fl)
theorem andNot_128 (C : Nat) (h : C < 256) : bits .andNot .u8 (C : Int) 128 = ((C % 128 : Nat) : Int) := by
 have : ((List.range 256).all fun C => bits .andNot .u8 (C : Int) 128 == ((C % 128 : Nat) : Int)) = true := by kernel_rfl
 have := List.all_eq_true.1 this C (List.mem_range.2 h)
 exact eq_of_beq this
theorem pow7 (k : Nat) (hk : k ≤ 8) : (2 : Nat) ^ (7 * k) * 128 ≤ 2 ^ 63 := by
 rw [show (128 : Nat) = 2 ^ 7 by rfl, ← Nat.pow_add]; exact Nat.pow_le_pow_right (by omega) (by omega)
/-- One group more. -/
theorem or_step (C k x : Nat) (hC : C < 256) (hk : k < 9 ∨ (k = 9 ∧ C ≤ 1)) (hx : x < 2 ^ (7 * k)) :
  bits .or .u64 (x : Int) (IntKind.u64.wrap (IntKind.u64.wrap (bits .andNot .u8 (C : Int) 128) * 2 ^ (7 * k))) = ((x + C % 128 * 2 ^ (7 * k) : Nat) : Int) ∧ x + C % 128 * 2 ^ (7 * k) < 2 ^ 64 := by
 have hm : C % 128 * 2 ^ (7 * k) + 2 ^ (7 * k) ≤ 2 ^ 64 := by
  rcases hk with hk | ⟨rfl, hc⟩
  ·have h1 := pow7 k (by omega)
   have h2 : C % 128 * 2 ^ (7 * k) ≤ 127 * 2 ^ (7 * k) := Nat.mul_le_mul_right _ (by omega)
   omega
  ·clear hx
   have h2 : C % 128 * 2 ^ (7 * 9) ≤ 1 * 2 ^ (7 * 9) := Nat.mul_le_mul_right _ (by omega)
   have h4 : (2 : Nat) ^ 64 = 2 ^ (7 * 9) + 2 ^ (7 * 9) := by decide
   rw [h4]
   obtain ⟨z, hz⟩ : ∃ z : Nat, 2 ^ (7 * 9) = z := ⟨_, rfl⟩
   rw [hz] at h2 ⊢
   clear h4 hz
   omega
 refine ⟨?_, by omega⟩
 rw [andNot_128 C hC]
 have e1 : IntKind.u64.wrap ((C % 128 : Nat) : Int) = ((C % 128 : Nat) : Int) := by rw [IntKind.wrap_u64]; omega
 have e2 : ((C % 128 : Nat) : Int) * 2 ^ (7 * k) = ((C % 128 * 2 ^ (7 * k) : Nat) : Int) := by push_cast; rfl
 rw [e1, e2]
 obtain ⟨y, hy⟩ : ∃ y, C % 128 * 2 ^ (7 * k) = y := ⟨_, rfl⟩
 have e3 : IntKind.u64.wrap (y : Int) = (y : Int) := by rw [IntKind.wrap_u64]; omega
 rw [hy, e3]
 have e4 : x < 18446744073709551616 ∧ y < 18446744073709551616 := by
  have : (2 : Nat) ^ 64 = 18446744073709551616 := by decide
  rw [this] at hm
  omega
 rw [u64_or_nat x y e4.1 e4.2]
 rw [← hy, Nat.or_comm, ← Nat.shiftLeft_eq, ← Nat.shiftLeft_add_eq_or_of_lt hx, Nat.add_comm]
theorem numR_hi (l : List Nat) : ∀ (i v x m : Nat), i ≤ 9 → v < 2 ^ (7 * i) → (∀ y ∈ l, y < 256) → numR l i v = .ok (x, m) → x < 2 ^ 64 ∧ i < m ∧ m ≤ i + l.length := by
 induction l with
 | nil => intro i v x m _ _ _ h; cases h
 | cons C l ih =>
  intro i v x m hi hv hl h
  have hC := hl C (by simp)
  unfold numR at h
  split at h
  ·cases h
  rename_i hbad
  have hk : i < 9 ∨ (i = 9 ∧ C ≤ 1) := by omega
  have hs := (or_step C i v hC hk hv).2
  split at h
  ·split at h
   ·cases h
   ·cases h; exact ⟨hs, by omega, by simp⟩
  ·have h9 : i < 9 := by omega
   have := ih (i + 1) _ x m (by omega) (by
    rw [show 7 * (i + 1) = 7 * i + 7 by omega, Nat.pow_add]
    have : C % 128 * 2 ^ (7 * i) ≤ 127 * 2 ^ (7 * i) := Nat.mul_le_mul_right _ (by omega)
    omega) (fun y hy => hl y (by simp [hy])) h
   simp only [List.length_cons]
   omega
end Go.Proofs.Ytbcmjjcbjojakaa
end
section
namespace Go.Proofs.Ytbcmjjcbjojakaa
open Go.RowKit
set_option linter.unusedVariables false
theorem Chg.drewN {L : List Nat} {w w1 : World} (h : Chg L w w1) (m : Nat) : Chg L w (w1.drewN m) := ⟨h.os, h.tape, h.output, h.size, h.block⟩
theorem Rr.drewN {w : World} {gr n c at_ : Nat} {A : Option Addr} {fl : Int} {bs : List Nat} (R : Rr w gr A n c at_ fl bs) (m : Nat) : Rr (w.drewN m) gr A n c at_ fl bs := ⟨R.c0, R.c1, R.c2, R.z1, R.z2, R.rd, R.le, R.lt, R.lb⟩
set_option maxRecDepth 20000 in
set_option maxHeartbeats 1000000 in
theorem take_yes (w : World) (gr n c at_ k : Nat) (A : Option Addr) (fl : Int) (bs : List Nat) (R : Rr w gr A n c at_ fl bs) (hk : k ≤ n - at_) :
  Calls Try.prog 139 #[.pointer (some ⟨gr, 0, none⟩), .int .u64 (k : Int)] w fun e w' => ∃ A' c', e = .returned (.slice A' k c') ∧ Chg [gr] w w' ∧ Rr w' gr A n c (at_ + k) fl bs ∧ Rd w' gr A' k (cb ((bs.drop at_).take k)) ∧ k ≤ c' := by
 have HR := Hd.mk R
 have g0 := R.c0
 have g1 := R.c1
 have z1 := R.z1
 obtain ⟨l1, l2, l3⟩ := R.le
 have HL : Hd (at_ ≤ n ∧ n ≤ c ∧ n ≤ 4398046511104 ∧ k ≤ n - at_) := ⟨l1, l2, l3, hk⟩
 have hcut : ∀ w, (Instr.slice 26 (.slice A n c) (some (.int .i64 (at_ : Int))) (some (.int .i64 ((at_ : Int) + (k : Int)))) none).run Try.prog w = .ok (.slice (cutA A c at_) k (c - at_)) w := by
  intro w
  have := run_cut (w := w) elB A n c at_ (at_ + k) (by omega) (by omega)
  rw [show at_ + k - at_ = k from by omega] at this
  push_cast at this
  exact this
 obtain ⟨AT, hAT⟩ : ∃ AT : Int, (at_ : Int) = AT := ⟨_, rfl⟩
 obtain ⟨K, hK⟩ : ∃ K : Int, (k : Int) = K := ⟨_, rfl⟩
 obtain ⟨N, hN⟩ : ∃ N : Int, (n : Int) = N := ⟨_, rfl⟩
 have b1 : 0 ≤ AT := by omega
 have b2 : 0 ≤ K := by omega
 have b3 : AT + K ≤ N := by omega
 have b4 : N ≤ 4398046511104 := by omega
 have HE : Hd ((at_ : Int) = AT ∧ (k : Int) = K ∧ (n : Int) = N) := ⟨hAT, hK, hN⟩
 rw [hAT] at g1 hcut
 rw [hK] at hcut ⊢
 have w1 : Hd (IntKind.i64.wrap (N - AT) = N - AT) := ⟨by rw [IntKind.wrap_i64]; omega⟩
 have w2 : Hd (IntKind.u64.wrap (N - AT) = N - AT) := ⟨by rw [IntKind.wrap_u64]; omega⟩
 have w3 : Hd (decide (K ≤ N - AT) = true) := ⟨by rw [decide_eq_true_iff]; omega⟩
 have w4 : Hd (IntKind.i64.wrap K = K) := ⟨by rw [IntKind.wrap_i64]; omega⟩
 have w5 : Hd (IntKind.i64.wrap (AT + K) = AT + K) := ⟨by rw [IntKind.wrap_i64]; omega⟩
 clear R l1 l2 l3 hk hAT hK
 go_enter Try.func139, Try.ntmps139
 go_wp2_with fail
 go_still_tail 13, (by kernel_rfl)
 change wpList _ _ _ _ _ w.drew
 go_wp2_with fail
 rw [w3.out]
 refine (must_yes w.drew 70).mono ?_
 rintro e z ⟨rfl, rfl⟩
 go_wp2_with fail
 have q4 := w4.out
 have q5 := w5.out
 go_quiet (fail)
 go_wp2_with fail
 go_ret
 have e1 : AT + K = ((at_ + k : Nat) : Int) := by have := HE.out; omega
 rw [e1]
 obtain ⟨l1, l2, l3, l4⟩ := HL.out
 have hm := (HR.out.drewN (1 + nq)).move (at_ + k) (by omega)
 refine ⟨_, _, rfl, ((Chg.refl [gr] w).drewN _).setCell (by simp) _, hm, ?_, by omega⟩
 have := HR.out.rd.cut (c := c) (l := at_) (h := at_ + k) (by omega) (by omega) l2
 rw [show at_ + k - at_ = k from by omega] at this
 have h2 : Rd (w.drewN (1 + nq)) gr (cutA A c at_) k (List.take k (List.drop at_ (cb bs))) := this
 have h3 := h2.setCell (p := ⟨gr, 1, none⟩) (Nat.le_refl _) (.int .i64 ((at_ + k : Nat) : Int))
 unfold cb at h3 ⊢
 rw [← List.map_drop, ← List.map_take] at h3
 exact h3
set_option maxRecDepth 20000 in
set_option maxHeartbeats 1000000 in
theorem take_no (w : World) (gr n c at_ : Nat) (K : Int) (A : Option Addr) (fl : Int) (bs : List Nat) (R : Rr w gr A n c at_ fl bs) (hk : (n : Int) - at_ < K) :
  Calls Try.prog 139 #[.pointer (some ⟨gr, 0, none⟩), .int .u64 K] w fun e w' => e = giveUp 70 ∧ Chg [gr] w w' ∧ Rr w' gr A n c at_ fl bs := by
 have HR := Hd.mk R
 have g0 := R.c0
 have g1 := R.c1
 obtain ⟨l1, l2, l3⟩ := R.le
 obtain ⟨AT, hAT⟩ : ∃ AT : Int, (at_ : Int) = AT := ⟨_, rfl⟩
 obtain ⟨N, hN⟩ : ∃ N : Int, (n : Int) = N := ⟨_, rfl⟩
 have b1 : 0 ≤ AT := by omega
 have b3 : AT ≤ N := by omega
 have b4 : N ≤ 4398046511104 := by omega
 rw [hAT] at g1 hk
 rw [hN] at hk
 have w3 : Hd (decide (K ≤ N - AT) = false) := ⟨by rw [decide_eq_false_iff_not]; omega⟩
 clear R l1 l2 l3 hk hAT
 go_enter Try.func139, Try.ntmps139
 go_wp2_with fail
 go_still_tail 13, (by kernel_rfl)
 change wpList _ _ _ _ _ w.drew
 go_wp2_with fail
 rw [w3.out]
 refine (must_no w.drew 70).mono ?_
 rintro e z ⟨he, rfl⟩
 unfold giveUp at he
 subst he
 go_wp2_with fail
 exact ⟨rfl, rfl, (Chg.refl _ _).drew, HR.out.drew⟩
end Go.Proofs.Ytbcmjjcbjojakaa
end
section
namespace Go.Proofs.Ytbcmjjcbjojakaa
open Go.RowKit
set_option linter.unusedVariables false
/-- What an inner reading gives: a value that K speaks of, and the place; or it gives up. -/
def Gives {α : Type} (w : World) (gr n c : Nat) (A : Option Addr) (fl : Int) (bs : List Nat) (K : Value → α → World → Prop) (o : Except Int (α × Nat)) (e : Ending) (w' : World) : Prop :=
  Chg [gr] w w' ∧ (∀ a at', o = .ok (a, at') → ∃ v, e = .returned v ∧ K v a w' ∧ Rr w' gr A n c at' fl bs) ∧ (∀ ec, o = .error ec → e = giveUp ec ∧ ∃ at', Rr w' gr A n c at' fl bs)
namespace Gives
variable {α : Type} {w w' : World} {gr n c : Nat} {A : Option Addr} {fl : Int} {bs : List Nat} {K : Value → α → World → Prop} {o : Except Int (α × Nat)} {e : Ending}
theorem yes {a : α} {at' : Nat} {v : Value} (ho : o = .ok (a, at')) (hc : Chg [gr] w w') (hk : K v a w') (R : Rr w' gr A n c at' fl bs) : Gives w gr n c A fl bs K o (.returned v) w' :=
  ⟨hc, fun a1 at1 h => by rw [ho] at h; cases h; exact ⟨v, rfl, hk, R⟩, fun ec h => by rw [ho] at h; cases h⟩
theorem no {ec : Int} {at' : Nat} (ho : o = .error ec) (hc : Chg [gr] w w') (R : Rr w' gr A n c at' fl bs) : Gives w gr n c A fl bs K o (giveUp ec) w' :=
  ⟨hc, fun a1 at1 h => by rw [ho] at h; (cases h), fun ec' h => by rw [ho] at h; cases h; exact ⟨rfl, at', R⟩⟩
end Gives
def KNum (v : Value) (a : Nat) (_ : World) : Prop := v = .int .u64 (a : Int)
theorem drop_cons (bs : List Nat) (k : Nat) (h : k < bs.length) : bs.drop k = bs.getD k 0 :: bs.drop (k + 1) := by
  rw [List.getD_eq_getElem?_getD, List.getElem?_eq_getElem h]; exact List.drop_eq_getElem_cons h
set_option maxHeartbeats 2000000 in
theorem number_any (w : World) (gr n c at_ : Nat) (A : Option Addr) (fl : Int) (bs : List Nat) (R : Rr w gr A n c at_ fl bs) :
    Calls Try.prog 142 #[.pointer (some ⟨gr, 0, none⟩)] w (Gives w gr n c A fl bs KNum (numF bs at_)) := by
  obtain ⟨o, ho⟩ : ∃ o, numF bs at_ = o := ⟨_, rfl⟩
  rw [ho]
  have HO := Hd.mk ho
  have HR := Hd.mk R
  clear R ho
  go_enter Try.func142, Try.ntmps142
  go_wp2_with fail
  go_loopw [3, 4] (fun v i wr => ∃ (k x : Nat), k ≤ 9 ∧ x < 2 ^ (7 * k) ∧ i = .int .i64 k ∧ v = .int .u64 (x : Int) ∧ Chg [gr] w wr ∧ Rr wr gr A n c (at_ + k) fl bs ∧
    (match numR (bs.drop (at_ + k)) k x with | .ok (v, m) => Except.ok (v, at_ + m) | .error e => .error e) = o) (fun _ i _ => 10 - (intOf i).toNat)
  case atStart => exact ⟨0, 0, by omega, by omega, rfl, rfl, Chg.refl _ _, HR.out, HO.out⟩
  case round =>
    obtain ⟨k, x, hk, hx, rfl, rfl, hc, hr, ho⟩ := hrel
    have H0 : Hd (x < 2 ^ (7 * k) ∧ Chg [gr] w wr ∧ Rr wr gr A n c (at_ + k) fl bs) := ⟨hx, hc, hr⟩
    have H1 := Hd.mk ho
    have hlen : bs.length = n := HR.out.len
    clear hx hc hr ho
    by_cases hlt : at_ + k < n
    · go_wp2_with fail
      refine (take_yes wr gr n c (at_ + k) 1 A fl bs H0.out.2.2 (by omega)).mono ?_
      rintro e w1 ⟨A1, c1, rfl, hch, hr1, hrd, hc1⟩
      have hdr := drop_cons bs (at_ + k) (by omega)
      obtain ⟨g, off, u, rfl, hg, hxx, hcell⟩ := hrd.at_ (k := 0) (by omega)
      have hb := HR.out.lb (bs.getD (at_ + k) 0) (by rw [List.getD_eq_getElem?_getD, List.getElem?_eq_getElem (by omega)]; exact List.getElem_mem _)
      rw [hdr] at hxx
      obtain ⟨C, hC⟩ : ∃ C, bs.getD (at_ + k) 0 = C := ⟨_, rfl⟩
      rw [hC] at hxx hdr hb
      injection hxx with hxx
      rw [← hxx, Nat.add_zero] at hcell
      have H2 : Hd (Chg [gr] wr w1 ∧ Rr w1 gr A n c (at_ + k + 1) fl bs ∧ bs.drop (at_ + k) = C :: bs.drop (at_ + k + 1) ∧ C < 256) := ⟨hch, hr1, hdr, hb⟩
      obtain ⟨X, hX⟩ : ∃ X : Int, (C : Int) = X := ⟨_, rfl⟩
      have x1 : 0 ≤ X := by omega
      have x2 : X ≤ 255 := by omega
      have HX := Hd.mk hX
      replace hcell : w1.cell? ⟨g, off, none⟩ = some (.int .u8 (C : Int)) := hcell
      rw [hX] at hcell
      clear hch hr1 hdr hb hrd hxx hC hX
      have hk1 : (k : Int) ≤ 9 := by omega
      by_cases hbad : 9 ≤ k ∧ 1 < C
      · have c1 : ¬ ((k : Int) < 9) := by omega
        have c2 : ¬ (X ≤ 1) := by have := HX.out; omega
        go_wp2_with fail
        rw [show (decide (X ≤ 1)) = false from by simp; omega, show (decide ((k : Int) < 9) || false) = false from by simp; omega]
        refine (must_no _ 71).mono ?_
        rintro e z ⟨he, rfl⟩
        unfold giveUp at he
        subst he
        go_wp2_with fail
        refine ⟨rfl, Gives.no (at' := at_ + k + 1) ?_ (H0.out.2.1.trans H2.out.1) H2.out.2.1⟩
        rw [← H1.out, H2.out.2.2.1, numR, if_pos hbad]
      · have hor : (k : Int) < 9 ∨ (¬ ((k : Int) < 9) ∧ X ≤ 1) := by have := HX.out; omega
        have HS := Hd.mk (or_step C k x H2.out.2.2.2 (by have := HX.out; omega) H0.out.1)
        rw [HX.out] at HS
        have HB := Hd.mk hbad
        clear hbad
        rcases hor with q1 | ⟨q1, q2⟩
        all_goals
          go_wp2_with fail
          refine (must_yes _ 71).mono ?_
          rintro e z ⟨rfl, rfl⟩
          by_cases hs : X < 128
          · go_wp2_with fail
            · by_cases h0 : k = 0
              · rw [show (decide (0 < X) || ((k : Int) == 0)) = true from by simp [h0]]
                have H00 := Hd.mk h0
                clear h0
                refine (must_yes _ 71).mono ?_
                rintro e z ⟨rfl, rfl⟩
                go_wp2_with fail
                go_ret
                refine Gives.yes (a := x + C % 128 * 2 ^ (7 * k)) (at' := at_ + k + 1) ?_ (H0.out.2.1.trans H2.out.1) ?_ H2.out.2.1
                · rw [← H1.out, H2.out.2.2.1, numR, if_neg HB.out, if_pos (by have := HX.out; omega), if_neg (by have := HX.out; have := H00.out; omega)]
                  rfl
                · show Value.int .u64 _ = Value.int .u64 _
                  rw [HS.out.1]
              · rw [show (decide (0 < X) || ((k : Int) == 0)) = false from by simp; omega]
                refine (must_no _ 71).mono ?_
                rintro e z ⟨he, rfl⟩
                unfold giveUp at he
                subst he
                go_wp2_with fail
                refine ⟨rfl, Gives.no (at' := at_ + k + 1) ?_ (H0.out.2.1.trans H2.out.1) H2.out.2.1⟩
                rw [← H1.out, H2.out.2.2.1, numR, if_neg HB.out, if_pos (by have := HX.out; omega), if_pos (by have := HX.out; omega)]
            · refine (must_yes _ 71).mono ?_
              rintro e z ⟨rfl, rfl⟩
              go_wp2_with fail
              go_ret
              refine Gives.yes (a := x + C % 128 * 2 ^ (7 * k)) (at' := at_ + k + 1) ?_ (H0.out.2.1.trans H2.out.1) ?_ H2.out.2.1
              · rw [← H1.out, H2.out.2.2.1, numR, if_neg HB.out, if_pos (by have := HX.out; omega), if_neg (by have := HX.out; omega)]
                rfl
              · show Value.int .u64 _ = Value.int .u64 _
                rw [HS.out.1]
          · first
            | (exfalso; omega)
            | (go_wp2_with fail
               go_roundw
               case rel =>
                 refine ⟨k + 1, x + C % 128 * 2 ^ (7 * k), by have := HX.out; have := HB.out; omega, ?_, by go_num, ?_, H0.out.2.1.trans H2.out.1, H2.out.2.1, ?_⟩
                 · have := H0.out.1
                   rw [show 7 * (k + 1) = 7 * k + 7 by omega, Nat.pow_add]
                   have : C % 128 * 2 ^ (7 * k) ≤ 127 * 2 ^ (7 * k) := Nat.mul_le_mul_right _ (by omega)
                   omega
                 · rw [HS.out.1]
                 · rw [← H1.out, H2.out.2.2.1, numR, if_neg HB.out, if_neg (by have := HX.out; omega)]
                   rfl
               case measure => simp [intOf] <;> (have := HX.out; have := HB.out; omega))
    · go_wp2_with fail
      refine (take_no wr gr n c (at_ + k) 1 A fl bs H0.out.2.2 (by have := H0.out.2.2.le.1; omega)).mono ?_
      rintro e w1 ⟨he, hch, hr1⟩
      unfold giveUp at he
      subst he
      go_wp2_with fail
      refine ⟨rfl, Gives.no (at' := at_ + k) ?_ (H0.out.2.1.trans hch) hr1⟩
      rw [← H1.out, List.drop_eq_nil_of_le (by omega)]
      rfl
end Go.Proofs.Ytbcmjjcbjojakaa
end
section
namespace Go.Proofs.Ytbcmjjcbjojakaa
open Go.RowKit
set_option linter.unusedVariables false
set_option maxRecDepth 20000 in
set_option maxHeartbeats 1000000 in
theorem reading_ok (w : World) (gr n c at_ : Nat) (A : Option Addr) (bs : List Nat) (R : Rr w gr A n c at_ 0 bs) (f : FuncId) (eg : ∀ args w, (callFunc f args).run Try.prog w = .ok (.enter f args) w) (caps : Array Value) (Q : World → Prop)
  (hdo : ∀ w1, Chg [] w w1 → w.heap.size ≤ w1.heap.size → Calls Try.prog f caps w1 fun e w2 => e = .returned (.tuple #[]) ∧ Q w2) :
  Calls Try.prog 137 #[.pointer (some ⟨gr, 0, none⟩), .func (.func f) #[] caps] w fun e w' => e = .returned (.tuple #[]) ∧ Q w' := by
 have hmf : ∀ (fn : Fn) (first cap : Array Value) (w : World), (Instr.makeFunc fn first cap).run Try.prog w = .ok (.func fn first cap) w := fun _ _ _ _ => rfl
 have HR := Hd.mk R
 have g1 := R.c1
 have g2 := R.c2
 have hlt := R.lt
 have HDO := Hd.mk hdo
 clear R hdo
 go_enter_defers Try.func137, Try.ntmps137
 go_wp2_with fail
 refine (HDO.out _ (((Chg.refl _ _).alloc _).alloc _) (by simp; omega)).mono ?_
 rintro e w2 ⟨rfl, hq⟩
 have HQ := Hd.mk hq
 clear hq
 go_wp2_with fail
 simp only [bodyPostD]
 refine leaves_cons (f := 152) (args := #[.pointer (some ⟨w.heap.size + 1, 0, none⟩), .pointer (some ⟨w.heap.size, 0, none⟩)]) (by simp) (by simp [go_sem]) ?_
 refine (catch_idle _ _ _).mono ?_
 rintro e u' w3 ⟨rfl, rfl, rfl⟩
 simp [Leaves, settle, results, Try.results137, go_sem]
 exact HQ.out
set_option maxRecDepth 20000 in
set_option maxHeartbeats 1000000 in
theorem reading_no (w : World) (gr n c at_ : Nat) (ec : Int) (A : Option Addr) (bs : List Nat) (R : Rr w gr A n c at_ 0 bs) (f : FuncId) (eg : ∀ args w, (callFunc f args).run Try.prog w = .ok (.enter f args) w) (caps : Array Value)
  (hdo : ∀ w1, Chg [] w w1 → w.heap.size ≤ w1.heap.size → Calls Try.prog f caps w1 fun e w2 => e = giveUp ec ∧ Chg [gr] w1 w2 ∧ ∃ at', Rr w2 gr A n c at' 0 bs) :
  Calls Try.prog 137 #[.pointer (some ⟨gr, 0, none⟩), .func (.func f) #[] caps] w fun e w' => e = .returned (.tuple #[]) ∧ Chg [gr] w w' ∧ Rr w' gr A n c at_ ec bs := by
 have hmf : ∀ (fn : Fn) (first cap : Array Value) (w : World), (Instr.makeFunc fn first cap).run Try.prog w = .ok (.func fn first cap) w := fun _ _ _ _ => rfl
 have HR := Hd.mk R
 have g1 := R.c1
 have g2 := R.c2
 have hlt := R.lt
 have HDO := Hd.mk hdo
 clear R hdo
 go_enter_defers Try.func137, Try.ntmps137
 go_wp2_with fail
 have hc1 : Chg [] w ((w.alloc (Obj.cells #[Value.pointer (some { block := gr, off := 0 })] 154)).alloc (Obj.cells #[Value.int IntKind.i64 ↑at_] 3)) := ((Chg.refl _ _).alloc _).alloc _
 obtain ⟨W1, hW⟩ : ∃ W1, ((w.alloc (Obj.cells #[Value.pointer (some { block := gr, off := 0 })] 154)).alloc (Obj.cells #[Value.int IntKind.i64 ↑at_] 3)) = W1 := ⟨_, rfl⟩
 have k1 : W1.cell? ⟨w.heap.size + 1, 0, none⟩ = some (.int .i64 (at_ : Int)) := by rw [← hW]; simp
 have k2 : W1.cell? ⟨w.heap.size, 0, none⟩ = some (.pointer (some ⟨gr, 0, none⟩)) := by rw [← hW]; simp
 have k3 : W1.heap.size = w.heap.size + 2 := by rw [← hW]; simp
 rw [hW] at hc1 ⊢
 have HW : Hd (Chg [] w W1 ∧ W1.cell? ⟨w.heap.size + 1, 0, none⟩ = some (.int .i64 (at_ : Int)) ∧ W1.cell? ⟨w.heap.size, 0, none⟩ = some (.pointer (some ⟨gr, 0, none⟩)) ∧ W1.heap.size = w.heap.size + 2) := ⟨hc1, k1, k2, k3⟩
 clear hc1 hW k1 k2 k3 g1 g2
 refine (HDO.out _ HW.out.1 HW.out.1.size).mono ?_
 rintro e w2 ⟨he, hc2, at', hr2⟩
 unfold giveUp at he
 subst he
 have H2 : Hd (Chg [gr] W1 w2 ∧ Rr w2 gr A n c at' 0 bs) := ⟨hc2, hr2⟩
 clear hc2 hr2
 go_wp2_with fail
 simp only [bodyPostD]
 refine leaves_cons (f := 152) (args := #[.pointer (some ⟨w.heap.size + 1, 0, none⟩), .pointer (some ⟨w.heap.size, 0, none⟩)]) (by simp) (by simp [go_sem]) ?_
 refine (catch_panicking _ _ gr at_ ec _ ?_ ?_ ⟨_, H2.out.2.c1⟩ ⟨_, H2.out.2.c2⟩ H2.out.2.z1 H2.out.2.z2).mono ?_
 ·rw [H2.out.1.cell (p := ⟨w.heap.size + 1, 0, none⟩) (by have := HW.out.2.2.2; simp; omega) (by simp; omega)]; exact HW.out.2.1
 ·rw [H2.out.1.cell (p := ⟨w.heap.size, 0, none⟩) (by have := HW.out.2.2.2; simp; omega) (by simp; omega)]; exact HW.out.2.2.1
 rintro e u' w3 ⟨rfl, rfl, rfl⟩
 simp [Leaves, settle, results, Try.results137, go_sem]
 exact ⟨((HW.out.1.mono (by simp)).trans H2.out.1).setCell (by simp) _ |>.setCell (by simp) _, (H2.out.2.move at_ HR.out.le.1).fail ec⟩
set_option maxRecDepth 20000 in
theorem reading_fault (w : World) (gr n c at_ : Nat) (fl : Int) (A : Option Addr) (bs : List Nat) (R : Rr w gr A n c at_ fl bs) (hfl : fl ≠ 0) (fv : Value) :
  Calls Try.prog 137 #[.pointer (some ⟨gr, 0, none⟩), fv] w fun e w' => e = .returned (.tuple #[]) ∧ Chg [] w w' := by
 have g1 := R.c1
 have g2 := R.c2
 have hlt := R.lt
 have hz : (fl != 0) = true := by simp [hfl]
 clear R
 go_enter_defers Try.func137, Try.ntmps137
 go_wp2_with fail
 simp [bodyPostD, Leaves, results, Try.results137, go_sem]
 exact (Chg.refl _ _).alloc _
end Go.Proofs.Ytbcmjjcbjojakaa
end
section
namespace Go.Proofs.Ytbcmjjcbjojakaa
open Go.RowKit
set_option linter.unusedVariables false
/-- A slice below the reader, of these bytes. -/
def KCut (gr : Nat) (v : Value) (a : List Nat) (w : World) : Prop := ∃ A' c', v = .slice A' a.length c' ∧ Rd w gr A' a.length (cb a) ∧ a.length ≤ c'
theorem take_any (w : World) (gr n c at_ : Nat) (K : Int) (k : Nat) (A : Option Addr) (fl : Int) (bs : List Nat) (R : Rr w gr A n c at_ fl bs) (hK : K = (k : Int)) :
  Calls Try.prog 139 #[.pointer (some ⟨gr, 0, none⟩), .int .u64 K] w (Gives w gr n c A fl bs (KCut gr) (takeF bs at_ k)) := by
 have hl := R.len
 have hle := R.le.1
 subst hK
 by_cases hk : k ≤ n - at_
 ·refine (take_yes w gr n c at_ k A fl bs R hk).mono ?_
  rintro e w1 ⟨A1, c1, rfl, hch, hr1, hrd, hc1⟩
  have hlen : ((bs.drop at_).take k).length = k := by rw [List.length_take, List.length_drop]; omega
  refine Gives.yes (a := (bs.drop at_).take k) (at' := at_ + k) (by unfold takeF; rw [if_pos (by omega)]) hch ⟨A1, c1, ?_, ?_, ?_⟩ hr1
  ·rw [hlen]
  ·rw [hlen]; exact hrd
  ·rw [hlen]; exact hc1
 ·refine (take_no w gr n c at_ k A fl bs R (by omega)).mono ?_
  rintro e w1 ⟨rfl, hch, hr1⟩
  exact Gives.no (by unfold takeF; rw [if_neg (by omega)]) hch hr1
theorem numF_hi (bs : List Nat) (at_ x a : Nat) (hb : ∀ y ∈ bs, y < 256) (h : numF bs at_ = .ok (x, a)) : x < 2 ^ 64 ∧ at_ < a ∧ (at_ ≤ bs.length → a ≤ bs.length) := by
 unfold numF at h
 split at h
 ·rename_i v m he
  cases h
  have := numR_hi (bs.drop at_) 0 0 x m (by omega) (by omega) (fun y hy => hb y (List.mem_of_mem_drop hy)) he
  rw [List.length_drop] at this
  exact ⟨this.1, by omega, by omega⟩
 ·cases h
set_option maxHeartbeats 1000000 in
theorem block_any (w : World) (gr n c at_ most : Nat) (A : Option Addr) (fl : Int) (bs : List Nat) (R : Rr w gr A n c at_ fl bs) (hm : most ≤ 9223372036854775807) :
  Calls Try.prog 149 #[.pointer (some ⟨gr, 0, none⟩), .int .i64 (most : Int)] w (Gives w gr n c A fl bs (KCut gr) (blockF bs at_ most)) := by
 have HR := Hd.mk R
 clear R
 obtain ⟨M, hM⟩ : ∃ M : Int, (most : Int) = M := ⟨_, rfl⟩
 have m1 : 0 ≤ M := by omega
 have m2 : M ≤ 9223372036854775807 := by omega
 have HM := Hd.mk hM
 rw [hM]
 clear hM hm
 go_enter Try.func149, Try.ntmps149
 go_wp2_with fail
 refine (number_any w gr n c at_ A fl bs HR.out).mono ?_
 rintro e w1 ⟨hch, hy, hn⟩
 rcases hnum : numF bs at_ with ec | ⟨k, a1⟩
 ·obtain ⟨rfl, at', hr⟩ := hn ec hnum
  have H1 : Hd (Chg [gr] w w1 ∧ Rr w1 gr A n c at' fl bs ∧ blockF bs at_ most = .error ec) := ⟨hch, hr, by unfold blockF; rw [hnum]⟩
  clear hch hy hn hnum hr
  unfold giveUp
  go_wp2_with fail
  exact ⟨rfl, Gives.no H1.out.2.2 H1.out.1 H1.out.2.1⟩
 ·obtain ⟨v, rfl, hk, hr⟩ := hy _ _ hnum
  unfold KNum at hk
  subst hk
  have hx := numF_hi bs at_ k a1 HR.out.lb hnum
  have H1 : Hd (Chg [gr] w w1 ∧ Rr w1 gr A n c a1 fl bs ∧ numF bs at_ = .ok (k, a1)) := ⟨hch, hr, hnum⟩
  obtain ⟨X, hX⟩ : ∃ X : Int, (k : Int) = X := ⟨_, rfl⟩
  have x1 : 0 ≤ X := by omega
  have x2 : X ≤ 18446744073709551615 := by omega
  have HX := Hd.mk hX
  rw [hX]
  clear hch hy hn hnum hr hx hX
  by_cases hle : X ≤ M
  ·go_wp2_with fail
   refine (must_yes _ 71).mono ?_
   rintro e z ⟨rfl, rfl⟩
   go_wp2_with fail
   refine (take_any w1 gr n c a1 X k A fl bs H1.out.2.1 HX.out.symm).mono ?_
   rintro e w2 ⟨hch2, hy2, hn2⟩
   have hb : blockF bs at_ most = takeF bs a1 k := by unfold blockF; rw [H1.out.2.2]; simp only; rw [if_pos (by have := HX.out; have := HM.out; omega)]
   rcases htk : takeF bs a1 k with ec | ⟨l, a2⟩
   ·obtain ⟨rfl, at', hr2⟩ := hn2 ec htk
    have H2 : Hd (Chg [gr] w1 w2 ∧ Rr w2 gr A n c at' fl bs ∧ blockF bs at_ most = .error ec) := ⟨hch2, hr2, hb.trans htk⟩
    clear hch2 hy2 hn2 hb htk hr2
    unfold giveUp
    go_wp2_with fail
    exact ⟨rfl, Gives.no H2.out.2.2 (H1.out.1.trans H2.out.1) H2.out.2.1⟩
   ·obtain ⟨v, rfl, hk2, hr2⟩ := hy2 _ _ htk
    have H2 : Hd (Chg [gr] w1 w2 ∧ Rr w2 gr A n c a2 fl bs ∧ blockF bs at_ most = .ok (l, a2) ∧ KCut gr v l w2) := ⟨hch2, hr2, hb.trans htk, hk2⟩
    clear hch2 hy2 hn2 hb htk hr2 hk2
    go_wp2_with fail
    go_ret
    exact Gives.yes H2.out.2.2.1 (H1.out.1.trans H2.out.1) H2.out.2.2.2 H2.out.2.1
  ·go_wp2_with fail
   rw [show decide (X ≤ M) = false from by simp; omega]
   refine (must_no _ 71).mono ?_
   rintro e z ⟨he, rfl⟩
   unfold giveUp at he
   subst he
   go_wp2_with fail
   refine ⟨rfl, Gives.no ?_ H1.out.1 H1.out.2.1⟩
   unfold blockF
   rw [H1.out.2.2]
   simp only
   rw [if_neg (by have := HX.out; have := HM.out; omega)]
/-- What a reading's closure does: the answer into its cell, or it gives up. -/
def Clo {α : Type} (w : World) (gr pv n c : Nat) (A : Option Addr) (bs : List Nat) (K : Value → α → World → Prop) (o : Except Int (α × Nat)) (e : Ending) (w' : World) : Prop :=
 (∀ a at', o = .ok (a, at') → e = .returned (.tuple #[]) ∧ Chg [gr, pv] w w' ∧ Rr w' gr A n c at' 0 bs ∧ ∃ v, w'.cell? ⟨pv, 0, none⟩ = some v ∧ w'.frozen? ⟨pv, 0, none⟩ = false ∧ K v a w') ∧
 (∀ ec, o = .error ec → e = giveUp ec ∧ Chg [gr] w w' ∧ ∃ at', Rr w' gr A n c at' 0 bs)
namespace Clo
variable {α : Type} {w w' : World} {gr pv n c : Nat} {A : Option Addr} {bs : List Nat} {K : Value → α → World → Prop} {o : Except Int (α × Nat)} {e : Ending}
theorem yes {a : α} {at' : Nat} {v : Value} (ho : o = .ok (a, at')) (hc : Chg [gr, pv] w w') (R : Rr w' gr A n c at' 0 bs) (hv : w'.cell? ⟨pv, 0, none⟩ = some v) (hz : w'.frozen? ⟨pv, 0, none⟩ = false) (hk : K v a w') : Clo w gr pv n c A bs K o (.returned (.tuple #[])) w' :=
 ⟨fun a1 at1 h => by rw [ho] at h; cases h; exact ⟨rfl, hc, R, v, hv, hz, hk⟩, fun ec h => by rw [ho] at h; cases h⟩
theorem no {ec : Int} {at' : Nat} (ho : o = .error ec) (hc : Chg [gr] w w') (R : Rr w' gr A n c at' 0 bs) : Clo w gr pv n c A bs K o (giveUp ec) w' :=
 ⟨fun a1 at1 h => by rw [ho] at h; (cases h), fun ec' h => by rw [ho] at h; cases h; exact ⟨rfl, hc, at', R⟩⟩
end Clo
/-- What stands behind a reading. -/
structure After {α : Type} (w : World) (gr pv n c at_ : Nat) (fl : Int) (A : Option Addr) (bs : List Nat) (K : Value → α → World → Prop) (r : α × Nat × Int) (w' : World) : Prop where
 ch : Chg [gr, pv] w w'
 cell : ∃ v, w'.cell? ⟨pv, 0, none⟩ = some v ∧ K v r.1 w'
 froz : w'.frozen? ⟨pv, 0, none⟩ = false
 rr : Rr w' gr A n c r.2.1 r.2.2 bs
theorem reading_all {α : Type} (w : World) (gr pv n c at_ : Nat) (fl : Int) (A : Option Addr) (bs : List Nat) (R : Rr w gr A n c at_ fl bs) (z : Value) (hz : w.cell? ⟨pv, 0, none⟩ = some z) (zf : w.frozen? ⟨pv, 0, none⟩ = false) (hp1 : gr < pv) (hp2 : pv < w.heap.size)
  (f : FuncId) (eg : ∀ args w, (callFunc f args).run Try.prog w = .ok (.enter f args) w) (caps : Array Value) (K : Value → α → World → Prop) (o : Except Int (α × Nat)) (zero : α) (hK0 : ∀ w', K z zero w')
  (hdo : fl = 0 → ∀ w1, Chg [] w w1 → Calls Try.prog f caps w1 (Clo w1 gr pv n c A bs K o)) :
  Calls Try.prog 137 #[.pointer (some ⟨gr, 0, none⟩), .func (.func f) #[] caps] w fun e w' => e = .returned (.tuple #[]) ∧ After w gr pv n c at_ fl A bs K (redo o zero at_ fl) w' := by
 by_cases hfl : fl = 0
 ·subst hfl
  rcases ho : o with ec | ⟨a, at'⟩
  ·refine (reading_no w gr n c at_ ec A bs R f eg caps fun w1 h1 _ => (hdo rfl w1 h1).mono ?_).mono ?_
   ·rintro e w2 ⟨_, h⟩
    obtain ⟨h1, h2, h3⟩ := h ec ho
    exact ⟨h1, h2, h3⟩
   ·rintro e w2 ⟨rfl, hch, hr⟩
    have hne : (⟨pv, 0, none⟩ : Addr).block ∉ [gr] := by simp; omega
    exact ⟨rfl, hch.mono (by simp), ⟨z, (hch.cell hp2 hne).trans hz, hK0 _⟩, (hch.frozen hp2 hne).trans zf, hr⟩
  ·refine (reading_ok w gr n c at_ A bs R f eg caps (fun w2 => After w gr pv n c at_ 0 A bs K (a, at', 0) w2) fun w1 h1 _ => (hdo rfl w1 h1).mono ?_).mono ?_
   ·rintro e w2 ⟨h, _⟩
    obtain ⟨he, hch, hr, v, hv, hfz, hk⟩ := h a at' ho
    exact ⟨he, (h1.mono (by simp)).trans hch, ⟨v, hv, hk⟩, hfz, hr⟩
   ·rintro e w2 ⟨rfl, h⟩
    exact ⟨rfl, h⟩
 ·refine (reading_fault w gr n c at_ fl A bs R hfl _).mono ?_
  rintro e w2 ⟨rfl, hch⟩
  refine ⟨rfl, ?_⟩
  unfold redo
  rw [if_neg hfl]
  exact ⟨hch.mono (by simp), ⟨z, (hch.cell (p := ⟨pv, 0, none⟩) hp2 (by simp)).trans hz, hK0 _⟩, (hch.frozen (p := ⟨pv, 0, none⟩) hp2 (by simp)).trans zf, R.keep' hch (by simp)⟩
end Go.Proofs.Ytbcmjjcbjojakaa
end
