/- What a reader computes, plainly. -/
import Derived.Test.YtjkenhkoakaaoaaPutsB
namespace Go.Proofs.Ytjkenhkoakaaoaa
open Go.RowKit
set_option linter.unusedVariables false
/-- A short form, group by group: its number and how many bytes it took, or the fault. -/
def numR : List Nat → Nat → Nat → Except Int (Nat × Nat)
  | [], _, _ => .error 70
  | c :: l, i, v =>
    if 9 ≤ i ∧ 1 < c then .error 71
    else if c < 128 then (if c = 0 ∧ i ≠ 0 then .error 71 else .ok (v + c % 128 * 2 ^ (7 * i), i + 1))
    else numR l (i + 1) (v + c % 128 * 2 ^ (7 * i))
/-- The number that bytes say, the lowest first. -/
def le256 : List Nat → Nat
  | [] => 0
  | c :: l => c + 256 * le256 l
theorem le256_snoc (l : List Nat) (c : Nat) : le256 (l ++ [c]) = le256 l + c * 256 ^ l.length := by
  induction l with
  | nil => simp [le256]
  | cons x l ih => simp only [List.cons_append, le256, ih, List.length_cons, Nat.pow_succ]; rw [Nat.mul_add, Nat.mul_comm (256 ^ l.length) 256, Nat.mul_left_comm c 256]; omega
theorem le256_lt (l : List Nat) (h : ∀ x ∈ l, x < 256) : le256 l < 256 ^ l.length := by
  induction l with
  | nil => simp [le256]
  | cons x l ih =>
    have h1 := h x (by simp)
    have h2 := ih fun y hy => h y (by simp [hy])
    simp only [le256, List.length_cons, Nat.pow_succ]
    omega
/-- The next k bytes. -/
def takeF (bs : List Nat) (at_ k : Nat) : Except Int (List Nat × Nat) := if k ≤ bs.length - at_ then .ok ((bs.drop at_).take k, at_ + k) else .error 70
def numF (bs : List Nat) (at_ : Nat) : Except Int (Nat × Nat) :=
  match numR (bs.drop at_) 0 0 with
  | .ok (v, m) => .ok (v, at_ + m)
  | .error e => .error e
def blockF (bs : List Nat) (at_ most : Nat) : Except Int (List Nat × Nat) :=
  match numF bs at_ with
  | .ok (k, a) => if k ≤ most then takeF bs a k else .error 71
  | .error e => .error e
/-- k blocks, one behind the other. -/
def rowsF (bs : List Nat) (each : Nat) : Nat → Nat → Except Int (List (List Nat) × Nat)
  | 0, a => .ok ([], a)
  | k + 1, a =>
    match blockF bs a each with
    | .error e => .error e
    | .ok (b, a1) =>
      match rowsF bs each k a1 with
      | .error e => .error e
      | .ok (l, a2) => .ok (b :: l, a2)
def fixF (bs : List Nat) (at_ k : Nat) : Except Int (Nat × Nat) :=
  match takeF bs at_ k with
  | .ok (l, a) => .ok (le256 l, a)
  | .error e => .error e
def bytesF (bs : List Nat) (at_ : Nat) (k : Int) : Except Int (List Nat × Nat) := if k < 0 then .error 2 else takeF bs at_ k.toNat
def blkF (bs : List Nat) (at_ : Nat) (most : Int) : Except Int (List Nat × Nat) := if most < 0 then .error 2 else blockF bs at_ most.toNat
def textsF (bs : List Nat) (at_ : Nat) (most each : Int) : Except Int (List (List Nat) × Nat) :=
  if most < 0 ∨ each < 0 then .error 2
  else match numF bs at_ with
    | .error e => .error e
    | .ok (k, a) => if k ≤ most.toNat then rowsF bs each.toNat k a else .error 71
/-- A reading: all of it or nothing. -/
def redo {α : Type} (o : Except Int (α × Nat)) (z : α) (at_ : Nat) (fl : Int) : α × Nat × Int :=
  if fl = 0 then (match o with
    | .ok (a, at') => (a, at', 0)
    | .error e => (z, at_, e))
  else (z, at_, fl)
theorem andNot_128 (C : Nat) (h : C < 256) : bits .andNot .u8 (C : Int) 128 = ((C % 128 : Nat) : Int) := by
  have : ((List.range 256).all fun C => bits .andNot .u8 (C : Int) 128 == ((C % 128 : Nat) : Int)) = true := by kernel_rfl
  have := List.all_eq_true.1 this C (List.mem_range.2 h)
  exact eq_of_beq this
theorem pow7 (k : Nat) (hk : k ≤ 8) : (2 : Nat) ^ (7 * k) * 128 ≤ 2 ^ 63 := by
  rw [show (128 : Nat) = 2 ^ 7 by rfl, ← Nat.pow_add]; exact Nat.pow_le_pow_right (by omega) (by omega)
/-- One group more. -/
theorem or_step (C k x : Nat) (hC : C < 256) (hk : k < 9 ∨ (k = 9 ∧ C ≤ 1)) (hx : x < 2 ^ (7 * k)) :
    bits .or .u64 (x : Int) (IntKind.u64.wrap (IntKind.u64.wrap (bits .andNot .u8 (C : Int) 128) * 2 ^ (7 * k))) = ((x + C % 128 * 2 ^ (7 * k) : Nat) : Int) ∧ x + C % 128 * 2 ^ (7 * k) < 2 ^ 64 := by
  have hm : C % 128 * 2 ^ (7 * k) + 2 ^ (7 * k) ≤ 2 ^ 64 := by
    rcases hk with hk | ⟨rfl, hc⟩
    · have h1 := pow7 k (by omega)
      have h2 : C % 128 * 2 ^ (7 * k) ≤ 127 * 2 ^ (7 * k) := Nat.mul_le_mul_right _ (by omega)
      omega
    · clear hx
      have h2 : C % 128 * 2 ^ (7 * 9) ≤ 1 * 2 ^ (7 * 9) := Nat.mul_le_mul_right _ (by omega)
      have h4 : (2 : Nat) ^ 64 = 2 ^ (7 * 9) + 2 ^ (7 * 9) := by decide
      rw [h4]
      obtain ⟨z, hz⟩ : ∃ z : Nat, 2 ^ (7 * 9) = z := ⟨_, rfl⟩
      rw [hz] at h2 ⊢
      clear h4 hz
      omega
  refine ⟨?_, by omega⟩
  rw [andNot_128 C hC]
  have e1 : IntKind.u64.wrap ((C % 128 : Nat) : Int) = ((C % 128 : Nat) : Int) := by rw [IntKind.wrap_u64]; omega
  have e2 : ((C % 128 : Nat) : Int) * 2 ^ (7 * k) = ((C % 128 * 2 ^ (7 * k) : Nat) : Int) := by push_cast; rfl
  rw [e1, e2]
  obtain ⟨y, hy⟩ : ∃ y, C % 128 * 2 ^ (7 * k) = y := ⟨_, rfl⟩
  have e3 : IntKind.u64.wrap (y : Int) = (y : Int) := by rw [IntKind.wrap_u64]; omega
  rw [hy, e3]
  have e4 : x < 18446744073709551616 ∧ y < 18446744073709551616 := by
    have : (2 : Nat) ^ 64 = 18446744073709551616 := by decide
    rw [this] at hm
    omega
  rw [u64_or_nat x y e4.1 e4.2]
  rw [← hy, Nat.or_comm, ← Nat.shiftLeft_eq, ← Nat.shiftLeft_add_eq_or_of_lt hx, Nat.add_comm]
theorem numR_hi (l : List Nat) : ∀ (i v x m : Nat), i ≤ 9 → v < 2 ^ (7 * i) → (∀ y ∈ l, y < 256) → numR l i v = .ok (x, m) → x < 2 ^ 64 ∧ i < m ∧ m ≤ i + l.length := by
  induction l with
  | nil => intro i v x m _ _ _ h; cases h
  | cons C l ih =>
    intro i v x m hi hv hl h
    have hC := hl C (by simp)
    unfold numR at h
    split at h
    · cases h
    rename_i hbad
    have hk : i < 9 ∨ (i = 9 ∧ C ≤ 1) := by omega
    have hs := (or_step C i v hC hk hv).2
    split at h
    · split at h
      · cases h
      · cases h; exact ⟨hs, by omega, by simp⟩
    · have h9 : i < 9 := by omega
      have := ih (i + 1) _ x m (by omega) (by
        rw [show 7 * (i + 1) = 7 * i + 7 by omega, Nat.pow_add]
        have : C % 128 * 2 ^ (7 * i) ≤ 127 * 2 ^ (7 * i) := Nat.mul_le_mul_right _ (by omega)
        omega) (fun y hy => hl y (by simp [hy])) h
      simp only [List.length_cons]
      omega
end Go.Proofs.Ytjkenhkoakaaoaa
