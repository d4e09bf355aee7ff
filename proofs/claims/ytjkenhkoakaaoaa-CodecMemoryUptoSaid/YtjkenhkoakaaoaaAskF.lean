/- What a call of a reader tells, plainly; what was put is read, a shorter beginning is refused, and what is read is what is put. -/
import Derived.Test.YtjkenhkoakaaoaaRdrX
namespace Go.Proofs.Ytjkenhkoakaaoaa
open Go.RowKit
set_option linter.unusedVariables false
/-- What a call tells: a number, bytes, texts. -/
structure Tld where
  U : Int
  B : List Nat
  T : List (List Nat)
def numT (r : Nat × Nat × Int) : Tld × Nat × Int := (⟨(r.1 : Int), [], []⟩, r.2)
def zagT (r : Nat × Nat × Int) : Tld × Nat × Int := (⟨IntKind.u64.wrap (unz (r.1 : Int)), [], []⟩, r.2)
def bytT (r : List Nat × Nat × Int) : Tld × Nat × Int := (⟨0, r.1, []⟩, r.2)
def txtT (r : List (List Nat) × Nat × Int) : Tld × Nat × Int := (⟨0, [], r.1⟩, r.2)
def askF (bs : List Nat) (at_ : Nat) (fl : Int) (N E : Int) : Nat → Tld × Nat × Int
  | 0 => numT (redo (fixF bs at_ 1) 0 at_ fl)
  | 1 => numT (redo (fixF bs at_ 2) 0 at_ fl)
  | 2 => numT (redo (fixF bs at_ 4) 0 at_ fl)
  | 3 => numT (redo (fixF bs at_ 8) 0 at_ fl)
  | 4 => numT (redo (fixF bs at_ 2) 0 at_ fl)
  | 5 => numT (redo (numF bs at_) 0 at_ fl)
  | 6 => zagT (redo (numF bs at_) 0 at_ fl)
  | 7 => bytT (redo (bytesF bs at_ N) [] at_ fl)
  | 8 => bytT (redo (blkF bs at_ N) [] at_ fl)
  | 9 => txtT (redo (textsF bs at_ N E) [] at_ fl)
  | 10 => (⟨((bs.length - at_ : Nat) : Int), [], []⟩, at_, fl)
  | 11 => (⟨fl, [], []⟩, at_, fl)
  | _ => (⟨endF bs.length at_ fl, [], []⟩, at_, fl)
/-- What is told of no reader. -/
def noneF : Nat → Tld
  | 11 => ⟨1, [], []⟩
  | 12 => ⟨1, [], []⟩
  | _ => ⟨0, [], []⟩
/-- A fault's number. -/
def Bad (e : Int) : Prop := e = 2 ∨ e = 70 ∨ e = 71
/-- A reading that goes well goes on, within the bytes; one that does not tells a fault. -/
def Well {α : Type} (bs : List Nat) (at_ : Nat) (o : Except Int (α × Nat)) : Prop :=
  match o with
  | .ok (_, a) => at_ ≤ a ∧ a ≤ bs.length
  | .error e => Bad e
theorem numR_err : ∀ (l : List Nat) (i v : Nat) (e : Int), numR l i v = .error e → Bad e
  | [], _, _, e, h => by cases h; exact .inr (.inl rfl)
  | c :: l, i, v, e, h => by
    unfold numR at h
    split at h
    · cases h; exact .inr (.inr rfl)
    · split at h
      · split at h
        · cases h; exact .inr (.inr rfl)
        · cases h
      · exact numR_err l _ _ e h
variable {bs : List Nat} {at_ : Nat}
theorem well_num (hb : ∀ y ∈ bs, y < 256) (ha : at_ ≤ bs.length) : Well bs at_ (numF bs at_) := by
  rcases h : numF bs at_ with e | ⟨x, a⟩
  · unfold numF at h
    split at h
    · cases h
    · rename_i e' h'
      cases h
      exact numR_err _ _ _ _ h'
  · have := numF_hi bs at_ x a hb h
    exact ⟨by omega, this.2.2 ha⟩
theorem well_take (k : Nat) (ha : at_ ≤ bs.length) : Well bs at_ (takeF bs at_ k) := by
  unfold takeF
  split
  · exact ⟨by omega, by omega⟩
  · exact .inr (.inl rfl)
theorem well_fix (k : Nat) (ha : at_ ≤ bs.length) : Well bs at_ (fixF bs at_ k) := by
  have := well_take k ha
  unfold fixF
  rcases h : takeF bs at_ k with e | ⟨x, a⟩ <;> rw [h] at this <;> exact this
theorem well_bytes (k : Int) (ha : at_ ≤ bs.length) : Well bs at_ (bytesF bs at_ k) := by
  unfold bytesF
  split
  · exact .inl rfl
  · exact well_take _ ha
theorem well_block (most : Nat) (hb : ∀ y ∈ bs, y < 256) (ha : at_ ≤ bs.length) : Well bs at_ (blockF bs at_ most) := by
  have h1 := well_num hb ha
  unfold blockF
  rcases h : numF bs at_ with e | ⟨x, a⟩ <;> rw [h] at h1
  · exact h1
  · simp only
    split
    · have h2 := well_take (bs := bs) x h1.2
      rcases h3 : takeF bs a x with e | ⟨y, a2⟩ <;> rw [h3] at h2
      · exact h2
      · exact ⟨Nat.le_trans h1.1 h2.1, h2.2⟩
    · exact .inr (.inr rfl)
theorem well_blk (most : Int) (hb : ∀ y ∈ bs, y < 256) (ha : at_ ≤ bs.length) : Well bs at_ (blkF bs at_ most) := by
  unfold blkF
  split
  · exact .inl rfl
  · exact well_block _ hb ha
theorem well_rows (each : Nat) (hb : ∀ y ∈ bs, y < 256) : ∀ (k at_ : Nat), at_ ≤ bs.length → Well bs at_ (rowsF bs each k at_)
  | 0, a, ha => ⟨Nat.le_refl _, ha⟩
  | k + 1, a, ha => by
    have h1 := well_block each hb ha
    unfold rowsF
    rcases h : blockF bs a each with e | ⟨x, a1⟩ <;> rw [h] at h1
    · exact h1
    · simp only
      have h2 := well_rows each hb k a1 h1.2
      rcases h3 : rowsF bs each k a1 with e | ⟨y, a2⟩ <;> rw [h3] at h2
      · exact h2
      · exact ⟨Nat.le_trans h1.1 h2.1, h2.2⟩
theorem well_texts (most each : Int) (hb : ∀ y ∈ bs, y < 256) (ha : at_ ≤ bs.length) : Well bs at_ (textsF bs at_ most each) := by
  have h1 := well_num hb ha
  unfold textsF
  split
  · exact .inl rfl
  rcases h : numF bs at_ with e | ⟨x, a⟩ <;> rw [h] at h1
  · exact h1
  · simp only
    split
    · have h2 := well_rows each.toNat hb x a h1.2
      rcases h3 : rowsF bs each.toNat x a with e | ⟨y, a2⟩ <;> rw [h3] at h2
      · exact h2
      · exact ⟨Nat.le_trans h1.1 h2.1, h2.2⟩
    · exact .inr (.inr rfl)
/-- What a reading comes to. -/
theorem redo_well {α : Type} {o : Except Int (α × Nat)} (z : α) (fl : Int) (h : Well bs at_ o) (ha : at_ ≤ bs.length) :
    (fl ≠ 0 ∧ redo o z at_ fl = (z, at_, fl)) ∨ (fl = 0 ∧ ∃ e, Bad e ∧ redo o z at_ fl = (z, at_, e)) ∨ (fl = 0 ∧ ∃ a at', o = .ok (a, at') ∧ redo o z at_ fl = (a, at', 0) ∧ at_ ≤ at' ∧ at' ≤ bs.length) := by
  unfold redo
  by_cases h0 : fl = 0
  · rw [if_pos h0]
    rcases ho : o with e | ⟨a, at'⟩ <;> rw [ho] at h
    · exact .inr (.inl ⟨h0, e, h, rfl⟩)
    · exact .inr (.inr ⟨h0, a, at', rfl, rfl, h.1, h.2⟩)
  · rw [if_neg h0]; exact .inl ⟨h0, rfl⟩
def zeroT : Tld := ⟨0, [], []⟩
theorem unz_0 : unz 0 = 0 := by decide
/-- What a reading tells, and where it leaves the reader. -/
theorem ask_read (hb : ∀ y ∈ bs, y < 256) (ha : at_ ≤ bs.length) (fl N E : Int) (k : Nat) (hk : k < 10) :
    (fl ≠ 0 ∧ askF bs at_ fl N E k = (zeroT, at_, fl)) ∨ (fl = 0 ∧ ∃ e, Bad e ∧ askF bs at_ fl N E k = (zeroT, at_, e)) ∨ (fl = 0 ∧ ∃ t at', askF bs at_ fl N E k = (t, at', 0) ∧ at_ ≤ at' ∧ at' ≤ bs.length) := by
  have num : ∀ o : Except Int (Nat × Nat), Well bs at_ o → (fl ≠ 0 ∧ numT (redo o 0 at_ fl) = (zeroT, at_, fl)) ∨ (fl = 0 ∧ ∃ e, Bad e ∧ numT (redo o 0 at_ fl) = (zeroT, at_, e)) ∨ (fl = 0 ∧ ∃ t at', numT (redo o 0 at_ fl) = (t, at', 0) ∧ at_ ≤ at' ∧ at' ≤ bs.length) := by
    intro o ho
    rcases redo_well (0 : Nat) fl ho ha with ⟨h0, h⟩ | ⟨h0, e, he, h⟩ | ⟨h0, a, at', _, h, h1, h2⟩ <;> rw [h]
    · exact .inl ⟨h0, rfl⟩
    · exact .inr (.inl ⟨h0, e, he, rfl⟩)
    · exact .inr (.inr ⟨h0, _, at', rfl, h1, h2⟩)
  have zg : ∀ o : Except Int (Nat × Nat), Well bs at_ o → (fl ≠ 0 ∧ zagT (redo o 0 at_ fl) = (zeroT, at_, fl)) ∨ (fl = 0 ∧ ∃ e, Bad e ∧ zagT (redo o 0 at_ fl) = (zeroT, at_, e)) ∨ (fl = 0 ∧ ∃ t at', zagT (redo o 0 at_ fl) = (t, at', 0) ∧ at_ ≤ at' ∧ at' ≤ bs.length) := by
    intro o ho
    rcases redo_well (0 : Nat) fl ho ha with ⟨h0, h⟩ | ⟨h0, e, he, h⟩ | ⟨h0, a, at', _, h, h1, h2⟩ <;> rw [h]
    · exact .inl ⟨h0, by unfold zagT zeroT; simp only [Int.natCast_zero, unz_0]; rfl⟩
    · exact .inr (.inl ⟨h0, e, he, by unfold zagT zeroT; simp only [Int.natCast_zero, unz_0]; rfl⟩)
    · exact .inr (.inr ⟨h0, _, at', rfl, h1, h2⟩)
  have byt : ∀ o : Except Int (List Nat × Nat), Well bs at_ o → (fl ≠ 0 ∧ bytT (redo o [] at_ fl) = (zeroT, at_, fl)) ∨ (fl = 0 ∧ ∃ e, Bad e ∧ bytT (redo o [] at_ fl) = (zeroT, at_, e)) ∨ (fl = 0 ∧ ∃ t at', bytT (redo o [] at_ fl) = (t, at', 0) ∧ at_ ≤ at' ∧ at' ≤ bs.length) := by
    intro o ho
    rcases redo_well ([] : List Nat) fl ho ha with ⟨h0, h⟩ | ⟨h0, e, he, h⟩ | ⟨h0, a, at', _, h, h1, h2⟩ <;> rw [h]
    · exact .inl ⟨h0, rfl⟩
    · exact .inr (.inl ⟨h0, e, he, rfl⟩)
    · exact .inr (.inr ⟨h0, _, at', rfl, h1, h2⟩)
  have txt : ∀ o : Except Int (List (List Nat) × Nat), Well bs at_ o → (fl ≠ 0 ∧ txtT (redo o [] at_ fl) = (zeroT, at_, fl)) ∨ (fl = 0 ∧ ∃ e, Bad e ∧ txtT (redo o [] at_ fl) = (zeroT, at_, e)) ∨ (fl = 0 ∧ ∃ t at', txtT (redo o [] at_ fl) = (t, at', 0) ∧ at_ ≤ at' ∧ at' ≤ bs.length) := by
    intro o ho
    rcases redo_well ([] : List (List Nat)) fl ho ha with ⟨h0, h⟩ | ⟨h0, e, he, h⟩ | ⟨h0, a, at', _, h, h1, h2⟩ <;> rw [h]
    · exact .inl ⟨h0, rfl⟩
    · exact .inr (.inl ⟨h0, e, he, rfl⟩)
    · exact .inr (.inr ⟨h0, _, at', rfl, h1, h2⟩)
  match k, hk with
  | 0, _ => exact num _ (well_fix 1 ha)
  | 1, _ => exact num _ (well_fix 2 ha)
  | 2, _ => exact num _ (well_fix 4 ha)
  | 3, _ => exact num _ (well_fix 8 ha)
  | 4, _ => exact num _ (well_fix 2 ha)
  | 5, _ => exact num _ (well_num hb ha)
  | 6, _ => exact zg _ (well_num hb ha)
  | 7, _ => exact byt _ (well_bytes N ha)
  | 8, _ => exact byt _ (well_blk N hb ha)
  | 9, _ => exact txt _ (well_texts N E hb ha)
end Go.Proofs.Ytjkenhkoakaaoaa
