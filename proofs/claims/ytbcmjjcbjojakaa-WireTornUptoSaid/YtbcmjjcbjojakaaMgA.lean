/- Put together of: AskF OneForm MsgP MsgF MsgA MsgW RqW AnW. -/
import Derived.Test.YtbcmjjcbjojakaaMgR
import Derived.Test.YtbcmjjcbjojakaaTellP
import Derived.Test.YtbcmjjcbjojakaaTellT
import Derived.Test.YtbcmjjcbjojakaaMemN
import Derived.Test.YtbcmjjcbjojakaaAskW
import Derived.Deep.Cut
import Derived.Deep.Light
section
/- What a call of a reader tells, plainly; what was put is read, a shorter beginning is refused, and what is read is what is put. -/
namespace Go.Proofs.Ytbcmjjcbjojakaa
open Go.RowKit
set_option linter.unusedVariables false
/-- What a call tells: a number, bytes, texts. -/
structure Tld where
  U : Int
  B : List Nat
  T : List (List Nat)
def numT (r : Nat × Nat × Int) : Tld × Nat × Int := (⟨(r.1 : Int), [], []⟩, r.2)
def zagT (r : Nat × Nat × Int) : Tld × Nat × Int := (⟨IntKind.u64.wrap (unz (r.1 : Int)), [], []⟩, r.2)
def bytT (r : List Nat × Nat × Int) : Tld × Nat × Int := (⟨0, r.1, []⟩, r.2)
def txtT (r : List (List Nat) × Nat × Int) : Tld × Nat × Int := (⟨0, [], r.1⟩, r.2)
def askF (bs : List Nat) (at_ : Nat) (fl : Int) (N E : Int) : Nat → Tld × Nat × Int
  | 0 => numT (redo (fixF bs at_ 1) 0 at_ fl)
  | 1 => numT (redo (fixF bs at_ 2) 0 at_ fl)
  | 2 => numT (redo (fixF bs at_ 4) 0 at_ fl)
  | 3 => numT (redo (fixF bs at_ 8) 0 at_ fl)
  | 4 => numT (redo (fixF bs at_ 2) 0 at_ fl)
  | 5 => numT (redo (numF bs at_) 0 at_ fl)
  | 6 => zagT (redo (numF bs at_) 0 at_ fl)
  | 7 => bytT (redo (bytesF bs at_ N) [] at_ fl)
  | 8 => bytT (redo (blkF bs at_ N) [] at_ fl)
  | 9 => txtT (redo (textsF bs at_ N E) [] at_ fl)
  | 10 => (⟨((bs.length - at_ : Nat) : Int), [], []⟩, at_, fl)
  | 11 => (⟨fl, [], []⟩, at_, fl)
  | _ => (⟨endF bs.length at_ fl, [], []⟩, at_, fl)
/-- What is told of no reader. -/
def noneF : Nat → Tld
  | 11 => ⟨1, [], []⟩
  | 12 => ⟨1, [], []⟩
  | _ => ⟨0, [], []⟩
/-- A fault's number. -/
def Bad (e : Int) : Prop := e = 2 ∨ e = 70 ∨ e = 71
/-- A reading that goes well goes on, within the bytes; one that does not tells a fault. -/
def Well {α : Type} (bs : List Nat) (at_ : Nat) (o : Except Int (α × Nat)) : Prop :=
  match o with
  | .ok (_, a) => at_ ≤ a ∧ a ≤ bs.length
  | .error e => Bad e
theorem numR_err : ∀ (l : List Nat) (i v : Nat) (e : Int), numR l i v = .error e → Bad e
  | [], _, _, e, h => by cases h; exact .inr (.inl rfl)
  | c :: l, i, v, e, h => by
    unfold numR at h
    split at h
    · cases h; exact .inr (.inr rfl)
    · split at h
      · split at h
        · cases h; exact .inr (.inr rfl)
        · cases h
      · exact numR_err l _ _ e h
variable {bs : List Nat} {at_ : Nat}
theorem well_num (hb : ∀ y ∈ bs, y < 256) (ha : at_ ≤ bs.length) : Well bs at_ (numF bs at_) := by
  rcases h : numF bs at_ with e | ⟨x, a⟩
  · unfold numF at h
    split at h
    · cases h
    · rename_i e' h'
      cases h
      exact numR_err _ _ _ _ h'
  · have := numF_hi bs at_ x a hb h
    exact ⟨by omega, this.2.2 ha⟩
theorem well_take (k : Nat) (ha : at_ ≤ bs.length) : Well bs at_ (takeF bs at_ k) := by
  unfold takeF
  split
  · exact ⟨by omega, by omega⟩
  · exact .inr (.inl rfl)
theorem well_fix (k : Nat) (ha : at_ ≤ bs.length) : Well bs at_ (fixF bs at_ k) := by
  have := well_take k ha
  unfold fixF
  rcases h : takeF bs at_ k with e | ⟨x, a⟩ <;> rw [h] at this <;> exact this
theorem well_bytes (k : Int) (ha : at_ ≤ bs.length) : Well bs at_ (bytesF bs at_ k) := by
  unfold bytesF
  split
  · exact .inl rfl
  · exact well_take _ ha
theorem well_block (most : Nat) (hb : ∀ y ∈ bs, y < 256) (ha : at_ ≤ bs.length) : Well bs at_ (blockF bs at_ most) := by
  have h1 := well_num hb ha
  unfold blockF
  rcases h : numF bs at_ with e | ⟨x, a⟩ <;> rw [h] at h1
  · exact h1
  · simp only
    split
    · have h2 := well_take (bs := bs) x h1.2
      rcases h3 : takeF bs a x with e | ⟨y, a2⟩ <;> rw [h3] at h2
      · exact h2
      · exact ⟨Nat.le_trans h1.1 h2.1, h2.2⟩
    · exact .inr (.inr rfl)
theorem well_blk (most : Int) (hb : ∀ y ∈ bs, y < 256) (ha : at_ ≤ bs.length) : Well bs at_ (blkF bs at_ most) := by
  unfold blkF
  split
  · exact .inl rfl
  · exact well_block _ hb ha
theorem well_rows (each : Nat) (hb : ∀ y ∈ bs, y < 256) : ∀ (k at_ : Nat), at_ ≤ bs.length → Well bs at_ (rowsF bs each k at_)
  | 0, a, ha => ⟨Nat.le_refl _, ha⟩
  | k + 1, a, ha => by
    have h1 := well_block each hb ha
    unfold rowsF
    rcases h : blockF bs a each with e | ⟨x, a1⟩ <;> rw [h] at h1
    · exact h1
    · simp only
      have h2 := well_rows each hb k a1 h1.2
      rcases h3 : rowsF bs each k a1 with e | ⟨y, a2⟩ <;> rw [h3] at h2
      · exact h2
      · exact ⟨Nat.le_trans h1.1 h2.1, h2.2⟩
theorem well_texts (most each : Int) (hb : ∀ y ∈ bs, y < 256) (ha : at_ ≤ bs.length) : Well bs at_ (textsF bs at_ most each) := by
  have h1 := well_num hb ha
  unfold textsF
  split
  · exact .inl rfl
  rcases h : numF bs at_ with e | ⟨x, a⟩ <;> rw [h] at h1
  · exact h1
  · simp only
    split
    · have h2 := well_rows each.toNat hb x a h1.2
      rcases h3 : rowsF bs each.toNat x a with e | ⟨y, a2⟩ <;> rw [h3] at h2
      · exact h2
      · exact ⟨Nat.le_trans h1.1 h2.1, h2.2⟩
    · exact .inr (.inr rfl)
/-- What a reading comes to. -/
theorem redo_well {α : Type} {o : Except Int (α × Nat)} (z : α) (fl : Int) (h : Well bs at_ o) (ha : at_ ≤ bs.length) :
    (fl ≠ 0 ∧ redo o z at_ fl = (z, at_, fl)) ∨ (fl = 0 ∧ ∃ e, Bad e ∧ redo o z at_ fl = (z, at_, e)) ∨ (fl = 0 ∧ ∃ a at', o = .ok (a, at') ∧ redo o z at_ fl = (a, at', 0) ∧ at_ ≤ at' ∧ at' ≤ bs.length) := by
  unfold redo
  by_cases h0 : fl = 0
  · rw [if_pos h0]
    rcases ho : o with e | ⟨a, at'⟩ <;> rw [ho] at h
    · exact .inr (.inl ⟨h0, e, h, rfl⟩)
    · exact .inr (.inr ⟨h0, a, at', rfl, rfl, h.1, h.2⟩)
  · rw [if_neg h0]; exact .inl ⟨h0, rfl⟩
def zeroT : Tld := ⟨0, [], []⟩
theorem unz_0 : unz 0 = 0 := by decide
/-- What a reading tells, and where it leaves the reader. -/
theorem ask_read (hb : ∀ y ∈ bs, y < 256) (ha : at_ ≤ bs.length) (fl N E : Int) (k : Nat) (hk : k < 10) :
    (fl ≠ 0 ∧ askF bs at_ fl N E k = (zeroT, at_, fl)) ∨ (fl = 0 ∧ ∃ e, Bad e ∧ askF bs at_ fl N E k = (zeroT, at_, e)) ∨ (fl = 0 ∧ ∃ t at', askF bs at_ fl N E k = (t, at', 0) ∧ at_ ≤ at' ∧ at' ≤ bs.length) := by
  have num : ∀ o : Except Int (Nat × Nat), Well bs at_ o → (fl ≠ 0 ∧ numT (redo o 0 at_ fl) = (zeroT, at_, fl)) ∨ (fl = 0 ∧ ∃ e, Bad e ∧ numT (redo o 0 at_ fl) = (zeroT, at_, e)) ∨ (fl = 0 ∧ ∃ t at', numT (redo o 0 at_ fl) = (t, at', 0) ∧ at_ ≤ at' ∧ at' ≤ bs.length) := by
    intro o ho
    rcases redo_well (0 : Nat) fl ho ha with ⟨h0, h⟩ | ⟨h0, e, he, h⟩ | ⟨h0, a, at', _, h, h1, h2⟩ <;> rw [h]
    · exact .inl ⟨h0, rfl⟩
    · exact .inr (.inl ⟨h0, e, he, rfl⟩)
    · exact .inr (.inr ⟨h0, _, at', rfl, h1, h2⟩)
  have zg : ∀ o : Except Int (Nat × Nat), Well bs at_ o → (fl ≠ 0 ∧ zagT (redo o 0 at_ fl) = (zeroT, at_, fl)) ∨ (fl = 0 ∧ ∃ e, Bad e ∧ zagT (redo o 0 at_ fl) = (zeroT, at_, e)) ∨ (fl = 0 ∧ ∃ t at', zagT (redo o 0 at_ fl) = (t, at', 0) ∧ at_ ≤ at' ∧ at' ≤ bs.length) := by
    intro o ho
    rcases redo_well (0 : Nat) fl ho ha with ⟨h0, h⟩ | ⟨h0, e, he, h⟩ | ⟨h0, a, at', _, h, h1, h2⟩ <;> rw [h]
    · exact .inl ⟨h0, by unfold zagT zeroT; simp only [Int.natCast_zero, unz_0]; rfl⟩
    · exact .inr (.inl ⟨h0, e, he, by unfold zagT zeroT; simp only [Int.natCast_zero, unz_0]; rfl⟩)
    · exact .inr (.inr ⟨h0, _, at', rfl, h1, h2⟩)
  have byt : ∀ o : Except Int (List Nat × Nat), Well bs at_ o → (fl ≠ 0 ∧ bytT (redo o [] at_ fl) = (zeroT, at_, fl)) ∨ (fl = 0 ∧ ∃ e, Bad e ∧ bytT (redo o [] at_ fl) = (zeroT, at_, e)) ∨ (fl = 0 ∧ ∃ t at', bytT (redo o [] at_ fl) = (t, at', 0) ∧ at_ ≤ at' ∧ at' ≤ bs.length) := by
    intro o ho
    rcases redo_well ([] : List Nat) fl ho ha with ⟨h0, h⟩ | ⟨h0, e, he, h⟩ | ⟨h0, a, at', _, h, h1, h2⟩ <;> rw [h]
    · exact .inl ⟨h0, rfl⟩
    · exact .inr (.inl ⟨h0, e, he, rfl⟩)
    · exact .inr (.inr ⟨h0, _, at', rfl, h1, h2⟩)
  have txt : ∀ o : Except Int (List (List Nat) × Nat), Well bs at_ o → (fl ≠ 0 ∧ txtT (redo o [] at_ fl) = (zeroT, at_, fl)) ∨ (fl = 0 ∧ ∃ e, Bad e ∧ txtT (redo o [] at_ fl) = (zeroT, at_, e)) ∨ (fl = 0 ∧ ∃ t at', txtT (redo o [] at_ fl) = (t, at', 0) ∧ at_ ≤ at' ∧ at' ≤ bs.length) := by
    intro o ho
    rcases redo_well ([] : List (List Nat)) fl ho ha with ⟨h0, h⟩ | ⟨h0, e, he, h⟩ | ⟨h0, a, at', _, h, h1, h2⟩ <;> rw [h]
    · exact .inl ⟨h0, rfl⟩
    · exact .inr (.inl ⟨h0, e, he, rfl⟩)
    · exact .inr (.inr ⟨h0, _, at', rfl, h1, h2⟩)
  match k, hk with
  | 0, _ => exact num _ (well_fix 1 ha)
  | 1, _ => exact num _ (well_fix 2 ha)
  | 2, _ => exact num _ (well_fix 4 ha)
  | 3, _ => exact num _ (well_fix 8 ha)
  | 4, _ => exact num _ (well_fix 2 ha)
  | 5, _ => exact num _ (well_num hb ha)
  | 6, _ => exact zg _ (well_num hb ha)
  | 7, _ => exact byt _ (well_bytes N ha)
  | 8, _ => exact byt _ (well_blk N hb ha)
  | 9, _ => exact txt _ (well_texts N E hb ha)
end Go.Proofs.Ytbcmjjcbjojakaa
end
section
/- What was put is read, of any shorter beginning the reading is refused, and what is read is what is put: plain. -/
namespace Go.Proofs.Ytbcmjjcbjojakaa
open Go.RowKit
set_option linter.unusedVariables false
/-! the groups of a number -/
theorem numR_put : ∀ (k i y v0 : Nat) (r : List Nat), i + k = 9 → y < 2 ^ (7 * k + 1) → (i = 0 ∨ y ≠ 0) → numR (uvf k y ++ r) i v0 = .ok (v0 + y * 2 ^ (7 * i), i + (uvf k y).length)
  | 0, i, y, v0, r, hi, hy, h0 => by
    have : y < 2 := by simpa using hy
    simp only [uvf, List.cons_append, List.nil_append, numR, List.length_cons, List.length_nil]
    rw [if_neg (by omega), if_pos (by omega), if_neg (by omega), show y % 128 = y by omega]
  | k + 1, i, y, v0, r, hi, hy, h0 => by
    unfold uvf
    split
    · rename_i h
      simp only [List.cons_append, List.nil_append, numR, List.length_cons, List.length_nil]
      rw [if_neg (by omega), if_pos h, if_neg (by omega), show y % 128 = y by omega]
    · rename_i h
      have hq : y / 128 < 2 ^ (7 * k + 1) := by
        rw [show 7 * (k + 1) + 1 = (7 * k + 1) + 7 by omega, Nat.pow_add] at hy
        exact Nat.div_lt_of_lt_mul (by rw [Nat.mul_comm]; exact hy)
      simp only [List.cons_append, numR]
      rw [if_neg (by omega), if_neg (by omega), numR_put k (i + 1) (y / 128) _ r (by omega) hq (.inr (by omega)), List.length_cons]
      congr 2
      · rw [show 7 * (i + 1) = 7 + 7 * i by omega, Nat.pow_add, show (y % 128 + 128) % 128 = y % 128 by omega]
        have hd : y = y % 128 + y / 128 * 2 ^ 7 := by omega
        generalize 2 ^ (7 * i) = z
        conv => rhs; rw [hd]
        rw [Nat.add_mul, Nat.mul_assoc, Nat.add_assoc]
      · omega
theorem numR_cut : ∀ (k i y v0 j : Nat), i + k = 9 → y < 2 ^ (7 * k + 1) → (i = 0 ∨ y ≠ 0) → j < (uvf k y).length → numR ((uvf k y).take j) i v0 = .error 70
  | 0, i, y, v0, j, hi, hy, h0, hj => by
    have : j = 0 := by simp [uvf] at hj; omega
    subst this; rfl
  | k + 1, i, y, v0, j, hi, hy, h0, hj => by
    unfold uvf at hj ⊢
    split
    · rename_i h
      rw [if_pos h] at hj
      have : j = 0 := by simp at hj; omega
      subst this; rfl
    · rename_i h
      rw [if_neg h] at hj
      rcases j with _ | j
      · rfl
      have hq : y / 128 < 2 ^ (7 * k + 1) := by
        rw [show 7 * (k + 1) + 1 = (7 * k + 1) + 7 by omega, Nat.pow_add] at hy
        exact Nat.div_lt_of_lt_mul (by rw [Nat.mul_comm]; exact hy)
      simp only [List.take_succ_cons, numR]
      rw [if_neg (by omega), if_neg (by omega)]
      exact numR_cut k (i + 1) (y / 128) _ j (by omega) hq (.inr (by omega)) (by simpa using hj)
theorem numR_form : ∀ (l : List Nat) (i v0 x m : Nat), i ≤ 9 → (∀ y ∈ l, y < 256) → numR l i v0 = .ok (x, m) → ∃ y, x = v0 + y * 2 ^ (7 * i) ∧ l.take (m - i) = uvf (9 - i) y ∧ (i = 0 ∨ y ≠ 0) ∧ i < m
  | [], _, _, _, _, _, _, h => by cases h
  | c :: l, i, v0, x, m, hi, hl, h => by
    have hc := hl c (by simp)
    unfold numR at h
    split at h
    · cases h
    rename_i hbad
    split at h
    · rename_i hlt
      split at h
      · cases h
      rename_i h0
      cases h
      refine ⟨c, by rw [show c % 128 = c by omega], ?_, by omega, by omega⟩
      rw [show i + 1 - i = 1 by omega, List.take_succ_cons, List.take_zero]
      rcases Nat.eq_zero_or_pos (9 - i) with h9 | h9
      · rw [h9]; rfl
      · obtain ⟨q, hq⟩ : ∃ q, 9 - i = q + 1 := ⟨9 - i - 1, by omega⟩
        rw [hq]; unfold uvf; rw [if_pos hlt]
    · rename_i hge
      obtain ⟨y, hx, ht, hy, hm⟩ := numR_form l (i + 1) _ x m (by omega) (fun y hy => hl y (by simp [hy])) h
      have hy0 : y ≠ 0 := by omega
      refine ⟨c % 128 + y * 128, ?_, ?_, .inr (by omega), by omega⟩
      · rw [hx, show 7 * (i + 1) = 7 + 7 * i by omega, Nat.pow_add, Nat.add_mul, Nat.mul_assoc, Nat.add_assoc]
      · obtain ⟨q, hq⟩ : ∃ q, 9 - i = q + 1 := ⟨9 - i - 1, by omega⟩
        rw [hq, show m - i = (m - (i + 1)) + 1 by omega, List.take_succ_cons, ht, show 9 - (i + 1) = q by omega]
        conv => rhs; unfold uvf
        rw [if_neg (by omega), show (c % 128 + y * 128) / 128 = y by omega, show (c % 128 + y * 128) % 128 + 128 = c by omega]
/-! a number at a place -/
theorem numF_put (pre r : List Nat) (v : Nat) (hv : v < 2 ^ 64) : numF (pre ++ uv v ++ r) pre.length = .ok (v, pre.length + (uv v).length) := by
  unfold numF
  rw [List.append_assoc, List.drop_left]
  have := numR_put 9 0 v 0 r rfl hv (.inl rfl)
  unfold uv
  rw [this]
  simp
theorem numF_cut (pre : List Nat) (v j : Nat) (hv : v < 2 ^ 64) (hj : j < (uv v).length) : numF (pre ++ (uv v).take j) pre.length = .error 70 := by
  unfold numF
  rw [List.drop_left]
  have := numR_cut 9 0 v 0 j rfl hv (.inl rfl) hj
  unfold uv
  rw [this]
theorem numF_form (bs : List Nat) (at_ x a : Nat) (hb : ∀ y ∈ bs, y < 256) (h : numF bs at_ = .ok (x, a)) : (bs.drop at_).take (a - at_) = uv x ∧ at_ < a := by
  unfold numF at h
  split at h
  · rename_i v m hr
    cases h
    obtain ⟨y, hx, ht, _, hm⟩ := numR_form _ 0 0 _ _ (by omega) (fun y hy => hb y (List.mem_of_mem_drop hy)) hr
    have : x = y := by rw [hx]; simp
    subst this
    rw [show at_ + m - at_ = m - 0 by omega, ht]
    exact ⟨rfl, by omega⟩
  · cases h
/-! bytes -/
theorem takeF_put (pre p r : List Nat) : takeF (pre ++ p ++ r) pre.length p.length = .ok (p, pre.length + p.length) := by
  unfold takeF
  rw [if_pos (by simp), List.append_assoc, List.drop_left, List.take_left]
theorem takeF_cut (pre p : List Nat) (j : Nat) (hj : j < p.length) : takeF (pre ++ p.take j) pre.length p.length = .error 70 := by
  unfold takeF
  rw [if_neg (by simp; omega)]
theorem takeF_form (bs : List Nat) (at_ k a : Nat) (l : List Nat) (h : takeF bs at_ k = .ok (l, a)) : l = (bs.drop at_).take k ∧ a = at_ + k ∧ (k = 0 ∨ at_ + k ≤ bs.length) ∧ l.length = k := by
  unfold takeF at h
  split at h
  · rename_i hk; cases h; exact ⟨rfl, rfl, by omega, by rw [List.length_take, List.length_drop]; omega⟩
  · cases h
/-- Two pieces that follow one another. -/
theorem cut_two (bs : List Nat) (a b c : Nat) (h1 : a ≤ b) (h2 : b ≤ c) : (bs.drop a).take (c - a) = (bs.drop a).take (b - a) ++ (bs.drop b).take (c - b) := by
  have e : c - a = (b - a) + (c - b) := by omega
  rw [e, List.take_add, List.drop_drop, show a + (b - a) = b by omega]
theorem fx_cons (k c r : Nat) (hc : c < 256) : fx (k + 1) (c + 256 * r) = c :: fx k r := by
  unfold fx
  rw [List.range_succ_eq_map, List.map_cons, List.map_map]
  congr 1
  · simp; omega
  · refine List.map_congr_left fun i _ => ?_
    simp only [Function.comp]
    rw [show 8 * (i + 1) = 8 + 8 * i by omega, Nat.pow_add, ← Nat.div_div_eq_div_mul, show (c + 256 * r) / 2 ^ 8 = r by omega]
theorem fx_le256 : ∀ (l : List Nat), (∀ x ∈ l, x < 256) → fx l.length (le256 l) = l
  | [], _ => rfl
  | c :: l, h => by
    rw [List.length_cons, le256, fx_cons _ _ _ (h c (by simp)), fx_le256 l fun x hx => h x (by simp [hx])]
theorem fx_zero (k : Nat) : le256 (fx k 0) = 0 := by
  induction k with
  | zero => rfl
  | succ k ih =>
    have := fx_cons k 0 0 (by omega)
    simp only [Nat.zero_add, Nat.mul_zero] at this
    rw [this, le256, ih]
theorem le256_fx : ∀ (k v : Nat), le256 (fx k v) = v % 256 ^ k
  | 0, v => by simp [fx, le256, Nat.mod_one]
  | k + 1, v => by
    have h := fx_cons k (v % 256) (v / 256) (by omega)
    rw [show v % 256 + 256 * (v / 256) = v by omega] at h
    rw [h, le256, le256_fx k, Nat.pow_succ, Nat.mul_comm (256 ^ k) 256, Nat.mod_mul]
theorem fixF_put (pre r : List Nat) (k v : Nat) (hv : v < 256 ^ k) : fixF (pre ++ fx k v ++ r) pre.length k = .ok (v, pre.length + (fx k v).length) := by
  unfold fixF
  have := takeF_put pre (fx k v) r
  rw [fx_len] at this
  rw [this]
  simp only
  rw [le256_fx, Nat.mod_eq_of_lt hv, fx_len]
theorem fixF_cut (pre : List Nat) (k v j : Nat) (hj : j < k) : fixF (pre ++ (fx k v).take j) pre.length k = .error 70 := by
  unfold fixF
  have := takeF_cut pre (fx k v) j (by rw [fx_len]; exact hj)
  rw [fx_len] at this
  rw [this]
theorem fixF_form (bs : List Nat) (at_ k x a : Nat) (hb : ∀ y ∈ bs, y < 256) (h : fixF bs at_ k = .ok (x, a)) : (bs.drop at_).take (a - at_) = fx k x ∧ at_ ≤ a := by
  unfold fixF at h
  split at h
  · rename_i l a' ht
    cases h
    obtain ⟨hl, ha, _, hk⟩ := takeF_form _ _ _ _ _ ht
    have := fx_le256 l fun y hy => hb y (by rw [hl] at hy; exact List.mem_of_mem_drop (List.mem_of_mem_take hy))
    rw [hk] at this
    rw [this, ha, show at_ + k - at_ = k by omega, hl]
    exact ⟨rfl, by omega⟩
  · cases h
/-! blocks -/
def blk (p : List Nat) : List Nat := uv p.length ++ p
theorem blockF_put (pre r p : List Nat) (most : Nat) (hp : p.length ≤ most) (h64 : p.length < 2 ^ 64) : blockF (pre ++ blk p ++ r) pre.length most = .ok (p, pre.length + (blk p).length) := by
  unfold blockF blk
  have h1 := numF_put pre (p ++ r) p.length h64
  rw [show pre ++ (uv p.length ++ p) ++ r = pre ++ uv p.length ++ (p ++ r) by simp, h1]
  simp only
  rw [if_pos hp]
  have h2 := takeF_put (pre ++ uv p.length) p r
  rw [show pre ++ uv p.length ++ (p ++ r) = pre ++ uv p.length ++ p ++ r by simp]
  rw [List.length_append] at h2
  rw [h2, List.length_append, Nat.add_assoc]
theorem blockF_cut (pre p : List Nat) (most j : Nat) (hp : p.length ≤ most) (h64 : p.length < 2 ^ 64) (hj : j < (blk p).length) : blockF (pre ++ (blk p).take j) pre.length most = .error 70 := by
  unfold blk at hj ⊢
  rw [List.length_append] at hj
  unfold blockF
  rcases Nat.lt_or_ge j (uv p.length).length with h | h
  · rw [List.take_append_of_le_length (by omega), numF_cut pre p.length j h64 h]
  · rw [List.take_append, List.take_of_length_le h]
    have h1 := numF_put pre (p.take (j - (uv p.length).length)) p.length h64
    rw [List.append_assoc] at h1
    rw [h1]
    simp only
    rw [if_pos hp]
    have h2 := takeF_cut (pre ++ uv p.length) p (j - (uv p.length).length) (by omega)
    rw [List.length_append, List.append_assoc] at h2
    exact h2
theorem blockF_form (bs : List Nat) (at_ most a : Nat) (l : List Nat) (hb : ∀ y ∈ bs, y < 256) (h : blockF bs at_ most = .ok (l, a)) : (bs.drop at_).take (a - at_) = blk l ∧ at_ ≤ a := by
  unfold blockF at h
  split at h
  · rename_i k a1 hn
    split at h
    · obtain ⟨h1, h2⟩ := numF_form bs at_ k a1 hb hn
      obtain ⟨hl, ha, _, hk⟩ := takeF_form _ _ _ _ _ h
      refine ⟨?_, by omega⟩
      rw [cut_two bs at_ a1 a (by omega) (by omega), h1, show a - a1 = k by omega, ← hl]
      unfold blk
      rw [hk]
    · cases h
  · cases h
/-! texts -/
def rws (ts : List (List Nat)) : List Nat := ts.flatMap blk
theorem rws_cons (t : List Nat) (ts : List (List Nat)) : rws (t :: ts) = blk t ++ rws ts := rfl
theorem rowsF_put (each : Nat) : ∀ (ts : List (List Nat)) (pre r : List Nat), (∀ t ∈ ts, t.length ≤ each ∧ t.length < 2 ^ 64) → rowsF (pre ++ rws ts ++ r) each ts.length pre.length = .ok (ts, pre.length + (rws ts).length)
  | [], pre, r, _ => by simp [rowsF, rws]
  | t :: ts, pre, r, h => by
    have ht := h t (by simp)
    have h1 := blockF_put pre (rws ts ++ r) t each ht.1 ht.2
    have h2 := rowsF_put each ts (pre ++ blk t) r fun x hx => h x (by simp [hx])
    rw [rws_cons, List.length_cons]
    unfold rowsF
    rw [show pre ++ (blk t ++ rws ts) ++ r = pre ++ blk t ++ (rws ts ++ r) by simp, h1]
    simp only
    rw [show pre ++ blk t ++ (rws ts ++ r) = pre ++ blk t ++ rws ts ++ r by simp]
    rw [List.length_append] at h2
    rw [h2]
    simp only [List.length_append, Nat.add_assoc]
theorem rowsF_cut (each : Nat) : ∀ (ts : List (List Nat)) (pre : List Nat) (j : Nat), (∀ t ∈ ts, t.length ≤ each ∧ t.length < 2 ^ 64) → j < (rws ts).length → rowsF (pre ++ (rws ts).take j) each ts.length pre.length = .error 70
  | [], pre, j, _, hj => by simp [rws] at hj
  | t :: ts, pre, j, h, hj => by
    have ht := h t (by simp)
    rw [rws_cons, List.length_append] at hj
    rw [rws_cons, List.length_cons]
    unfold rowsF
    rcases Nat.lt_or_ge j (blk t).length with hlt | hge
    · rw [List.take_append_of_le_length (by omega), blockF_cut pre t each j ht.1 ht.2 hlt]
    · have h1 := blockF_put pre ((rws ts).take (j - (blk t).length)) t each ht.1 ht.2
      have h2 := rowsF_cut each ts (pre ++ blk t) (j - (blk t).length) (fun x hx => h x (by simp [hx])) (by omega)
      rw [List.take_append, List.take_of_length_le hge]
      rw [List.append_assoc] at h1
      rw [h1]
      simp only
      rw [List.length_append, List.append_assoc] at h2
      rw [h2]
theorem rowsF_form (bs : List Nat) (each : Nat) (hb : ∀ y ∈ bs, y < 256) : ∀ (k at_ a : Nat) (l : List (List Nat)), rowsF bs each k at_ = .ok (l, a) → (bs.drop at_).take (a - at_) = rws l ∧ at_ ≤ a ∧ l.length = k
  | 0, at_, a, l, h => by cases h; simp [rws]
  | k + 1, at_, a, l, h => by
    unfold rowsF at h
    split at h
    · cases h
    rename_i b a1 hb1
    split at h
    · cases h
    rename_i l2 a2 hr
    cases h
    obtain ⟨h1, h2⟩ := blockF_form bs at_ each a1 b hb hb1
    obtain ⟨h3, h4, h5⟩ := rowsF_form bs each hb k a1 a l2 hr
    refine ⟨?_, by omega, by simp [h5]⟩
    rw [cut_two bs at_ a1 a h2 h4, h1, h3, rws_cons]
def txts (ts : List (List Nat)) : List Nat := uv ts.length ++ rws ts
theorem textsF_put (pre r : List Nat) (ts : List (List Nat)) (most each : Int) (h0 : ts.length ≤ most.toNat) (hm : 0 ≤ most) (he : 0 ≤ each) (h : ∀ t ∈ ts, t.length ≤ each.toNat ∧ t.length < 2 ^ 64) (h64 : ts.length < 2 ^ 64) :
    textsF (pre ++ txts ts ++ r) pre.length most each = .ok (ts, pre.length + (txts ts).length) := by
  unfold textsF txts
  rw [if_neg (by omega)]
  have h1 := numF_put pre (rws ts ++ r) ts.length h64
  rw [show pre ++ (uv ts.length ++ rws ts) ++ r = pre ++ uv ts.length ++ (rws ts ++ r) by simp, h1]
  simp only
  rw [if_pos h0]
  have h2 := rowsF_put each.toNat ts (pre ++ uv ts.length) r h
  rw [show pre ++ uv ts.length ++ (rws ts ++ r) = pre ++ uv ts.length ++ rws ts ++ r by simp]
  rw [List.length_append] at h2
  rw [h2, List.length_append, Nat.add_assoc]
theorem textsF_cut (pre : List Nat) (ts : List (List Nat)) (most each : Int) (j : Nat) (h0 : ts.length ≤ most.toNat) (hm : 0 ≤ most) (he : 0 ≤ each) (h : ∀ t ∈ ts, t.length ≤ each.toNat ∧ t.length < 2 ^ 64) (h64 : ts.length < 2 ^ 64) (hj : j < (txts ts).length) :
    textsF (pre ++ (txts ts).take j) pre.length most each = .error 70 := by
  unfold txts at hj ⊢
  rw [List.length_append] at hj
  unfold textsF
  rw [if_neg (by omega)]
  rcases Nat.lt_or_ge j (uv ts.length).length with hlt | hge
  · rw [List.take_append_of_le_length (by omega), numF_cut pre ts.length j h64 hlt]
  · rw [List.take_append, List.take_of_length_le hge]
    have h1 := numF_put pre ((rws ts).take (j - (uv ts.length).length)) ts.length h64
    rw [List.append_assoc] at h1
    rw [h1]
    simp only
    rw [if_pos h0]
    have h2 := rowsF_cut each.toNat ts (pre ++ uv ts.length) (j - (uv ts.length).length) h (by omega)
    rw [List.length_append, List.append_assoc] at h2
    exact h2
theorem textsF_form (bs : List Nat) (at_ : Nat) (most each : Int) (a : Nat) (l : List (List Nat)) (hb : ∀ y ∈ bs, y < 256) (h : textsF bs at_ most each = .ok (l, a)) : (bs.drop at_).take (a - at_) = txts l ∧ at_ ≤ a := by
  unfold textsF at h
  split at h
  · cases h
  split at h
  · cases h
  rename_i k a1 hn
  split at h
  · obtain ⟨h1, h2⟩ := numF_form bs at_ k a1 hb hn
    obtain ⟨h3, h4, h5⟩ := rowsF_form bs each.toNat hb k a1 a l h
    refine ⟨?_, by omega⟩
    rw [cut_two bs at_ a1 a (by omega) h4, h1, h3]
    unfold txts
    rw [h5]
  · cases h
end Go.Proofs.Ytbcmjjcbjojakaa
end
section
/- Plain: what a content says; what is put is read, and what is read is what is put. -/
namespace Go.Proofs.Ytbcmjjcbjojakaa
open Go.RowKit
set_option linter.unusedVariables false
/-! The steps of a reading: where it stands, and the fault. -/
def rFix (bs : List Nat) (k : Nat) (s : Nat × Int) : Nat × Nat × Int := redo (fixF bs s.1 k) 0 s.1 s.2
def rNum (bs : List Nat) (s : Nat × Int) : Nat × Nat × Int := redo (numF bs s.1) 0 s.1 s.2
def rBlk (bs : List Nat) (most : Int) (s : Nat × Int) : List Nat × Nat × Int := redo (blkF bs s.1 most) [] s.1 s.2
def rTxt (bs : List Nat) (most each : Int) (s : Nat × Int) : List (List Nat) × Nat × Int := redo (textsF bs s.1 most each) [] s.1 s.2
/-- A step that is made or not. -/
def opt {α : Type} (b : Bool) (z : α) (f : Nat × Int → α × Nat × Int) (s : Nat × Int) : α × Nat × Int := if b = true then f s else (z, s)
/-- The request that a content says. -/
def rdRq (bs : List Nat) : Option Rq :=
  let r1 := rFix bs 1 (0, 0)
  let r2 := rFix bs 8 r1.2
  let k : Int := (r1.1 : Int)
  let r3 := opt (cKey k) [] (rBlk bs 1024) r2.2
  let r4 := opt (cBody k) [] (rBlk bs 1048576) r3.2
  let r5 := opt (cAfter k) [] (rBlk bs 1024) r4.2
  let r6 := opt (cOff k) 0 (rNum bs) r5.2
  let r7 := opt (cDelim k) 0 (rNum bs) r6.2
  let r8 := opt (cNum k) 0 (rNum bs) r7.2
  if 1 ≤ k ∧ k ≤ 8 ∧ endF bs.length r8.2.1 r8.2.2 = 0 then some ⟨k, r2.1, bstr r3.1, bstr r5.1, unz (r6.1 : Int), unz (r8.1 : Int), unz (r7.1 : Int), r4.1⟩ else none
def qBody (k c : Int) : Bool := decide (c = 0 ∧ (k = 2 ∨ k = 3))
def qGen (k c : Int) : Bool := decide (c = 0 ∧ k = 4)
def qKeys (k c : Int) : Bool := decide (c = 0 ∧ (k = 6 ∨ k = 7))
def qPage (k c : Int) : Bool := decide (c = 0 ∧ k = 7)
def qMost (k : Int) : Int := if k = 6 then 65536 else 1000
/-- The answer that a content says. -/
def rdAn (bs : List Nat) : Option An :=
  let r1 := rFix bs 1 (0, 0)
  let r2 := rFix bs 8 r1.2
  let r3 := rNum bs r2.2
  let k : Int := (r1.1 : Int)
  let c : Int := (r3.1 : Int)
  let h1 := opt (decide (k = 8)) 0 (rNum bs) r3.2
  let h2 := opt (decide (k = 8)) 0 (rNum bs) h1.2
  let h3 := opt (decide (k = 8)) 0 (rNum bs) h2.2
  let h4 := opt (decide (k = 8)) 0 (rNum bs) h3.2
  let b := opt (qBody k c) [] (rBlk bs 1048576) h4.2
  let g1 := opt (qGen k c) 0 (rNum bs) b.2
  let g2 := opt (qGen k c) 0 (rNum bs) g1.2
  let g3 := opt (qGen k c) 0 (rNum bs) g2.2
  let ks := opt (qKeys k c) [] (rTxt bs (qMost k) 255) g3.2
  let gs := opt (qPage k c) [] (rTxt bs 1000 255) ks.2
  let nx := opt (qPage k c) [] (rBlk bs 255) gs.2
  let mo := opt (qPage k c) 0 (rFix bs 1) nx.2
  if 1 ≤ k ∧ k ≤ 8 ∧ c ≤ 2147483647 ∧ mo.1 ≤ 1 ∧ endF bs.length mo.2.1 mo.2.2 = 0 then
    some ⟨k, r2.1, c, b.1, ks.1.map bstr, gs.1.map bstr, bstr nx.1, decide (mo.1 = 1), unz (g1.1 : Int), unz (g2.1 : Int), unz (g3.1 : Int), unz (h1.1 : Int), unz (h2.1 : Int), unz (h3.1 : Int), unz (h4.1 : Int)⟩
  else none
theorem sb_bstr (l : List Nat) (h : ∀ x ∈ l, x < 256) : sb (bstr l) = l := by
  unfold sb
  rw [bstr_data, List.map_map]
  conv => rhs; rw [← List.map_id l]
  exact List.map_congr_left fun x hx => by have := h x hx; simp [Function.comp]; omega
theorem bstr_sb (s : ByteArray) : bstr (sb s) = s := by
  have h : (bstr (sb s)).data.toList = s.data.toList := by
    rw [bstr_data]; unfold sb; rw [List.map_map]
    conv => rhs; rw [← List.map_id s.data.toList]
    exact List.map_congr_left fun x _ => by simp [Function.comp]
  have h2 := Array.toList_inj.1 h
  obtain ⟨t, ht⟩ : ∃ t, bstr (sb s) = t := ⟨_, rfl⟩
  rw [ht] at h2 ⊢
  cases s
  cases t
  simp only at h2
  rw [h2]
theorem bstr_nil : bstr [] = emS := rfl
theorem bstr_size (l : List Nat) : (bstr l).size = l.length := by
  rw [← sb_len]; unfold sb; rw [bstr_data, List.length_map, List.length_map]
theorem us_bstr (l : List Nat) (h : ∀ x ∈ l, x < 256) : us (bstr l) = blk l := by unfold us blk; rw [sb_bstr l h, bstr_size]
theorem us_blk (s : ByteArray) : us s = blk (sb s) := by unfold us blk; rw [sb_len]
/-! What is put is read. -/
section
variable (pre r : List Nat)
theorem rFix_put (k v : Nat) (hv : v < 256 ^ k) : rFix (pre ++ fx k v ++ r) k (pre.length, 0) = (v, (pre ++ fx k v).length, 0) := by
  unfold rFix redo; simp only; rw [fixF_put pre r k v hv, List.length_append]; rfl
theorem rNum_put (v : Nat) (hv : v < 2 ^ 64) : rNum (pre ++ uv v ++ r) (pre.length, 0) = (v, (pre ++ uv v).length, 0) := by
  unfold rNum redo; simp only; rw [numF_put pre r v hv, List.length_append]; rfl
theorem rBlk_put (p : List Nat) (most : Nat) (hp : p.length ≤ most) (h64 : p.length < 2 ^ 64) : rBlk (pre ++ blk p ++ r) (most : Int) (pre.length, 0) = (p, (pre ++ blk p).length, 0) := by
  have e : blkF (pre ++ blk p ++ r) pre.length (most : Int) = blockF (pre ++ blk p ++ r) pre.length most := by unfold blkF; rw [if_neg (by omega), Int.toNat_natCast]
  unfold rBlk redo; simp only; rw [e, blockF_put pre r p most hp h64, List.length_append]; rfl
theorem rTxt_put (ts : List (List Nat)) (most : Int) (h0 : ts.length ≤ most.toNat) (hm : 0 ≤ most) (h : ∀ t ∈ ts, t.length ≤ 255) (h64 : ts.length < 2 ^ 64) : rTxt (pre ++ txts ts ++ r) most 255 (pre.length, 0) = (ts, (pre ++ txts ts).length, 0) := by
  unfold rTxt redo; simp only
  rw [textsF_put pre r ts most 255 h0 hm (by omega) (fun t ht => ⟨h t ht, by have := h t ht; omega⟩) h64, List.length_append]; rfl
end
theorem uz_put (pre r : List Nat) (v : Int) (h1 : -9223372036854775808 ≤ v) (h2 : v ≤ 9223372036854775807) : rNum (pre ++ uz v ++ r) (pre.length, 0) = ((zig v).toNat, (pre ++ uz v).length, 0) := rNum_put pre r _ (zig_nat v h1 h2).2
theorem unz_put (v : Int) (h1 : -9223372036854775808 ≤ v) (h2 : v ≤ 9223372036854775807) : unz (((zig v).toNat : Nat) : Int) = v := by rw [← (zig_nat v h1 h2).1, unz_zig]
theorem endF_0 (n : Nat) : endF n n 0 = 0 := by unfold endF; simp
/-- A reading stands ahead of 'rest'. -/
def At (bs : List Nat) (s : Nat × Int) (rest : List Nat) : Prop := ∃ pre, bs = pre ++ rest ∧ s = (pre.length, 0)
section
variable {bs r : List Nat} {s : Nat × Int}
theorem At.fix {k v : Nat} (h : At bs s (fx k v ++ r)) (hv : v < 256 ^ k) : ∃ s', rFix bs k s = (v, s') ∧ At bs s' r := by
  obtain ⟨pre, hb, rfl⟩ := h
  rw [← List.append_assoc] at hb
  exact ⟨_, by rw [hb]; exact rFix_put pre r k v hv, pre ++ fx k v, hb, rfl⟩
theorem At.num {v : Nat} (h : At bs s (uv v ++ r)) (hv : v < 2 ^ 64) : ∃ s', rNum bs s = (v, s') ∧ At bs s' r := by
  obtain ⟨pre, hb, rfl⟩ := h
  rw [← List.append_assoc] at hb
  exact ⟨_, by rw [hb]; exact rNum_put pre r v hv, pre ++ uv v, hb, rfl⟩
theorem At.blk {p : List Nat} {most : Nat} (h : At bs s (blk p ++ r)) (hp : p.length ≤ most) (h64 : p.length < 2 ^ 64) : ∃ s', rBlk bs (most : Int) s = (p, s') ∧ At bs s' r := by
  obtain ⟨pre, hb, rfl⟩ := h
  rw [← List.append_assoc] at hb
  exact ⟨_, by rw [hb]; exact rBlk_put pre r p most hp h64, pre ++ Go.Proofs.Ytbcmjjcbjojakaa.blk p, hb, rfl⟩
theorem At.txt {ts : List (List Nat)} {most : Int} (h : At bs s (txts ts ++ r)) (h0 : ts.length ≤ most.toNat) (hm : 0 ≤ most) (h1 : ∀ t ∈ ts, t.length ≤ 255) (h64 : ts.length < 2 ^ 64) : ∃ s', rTxt bs most 255 s = (ts, s') ∧ At bs s' r := by
  obtain ⟨pre, hb, rfl⟩ := h
  rw [← List.append_assoc] at hb
  exact ⟨_, by rw [hb]; exact rTxt_put pre r ts most h0 hm h1 h64, pre ++ txts ts, hb, rfl⟩
theorem At.opt {α : Type} {b : Bool} {z v : α} {f : Nat × Int → α × Nat × Int} {enc : List Nat} (h : At bs s ((if b = true then enc else []) ++ r)) (hf : b = true → At bs s (enc ++ r) → ∃ s', f s = (v, s') ∧ At bs s' r) : ∃ s', opt b z f s = (if b = true then v else z, s') ∧ At bs s' r := by
  unfold Go.Proofs.Ytbcmjjcbjojakaa.opt
  cases b
  · exact ⟨s, by simp, by simpa using h⟩
  · simp only [if_true] at h ⊢; exact hf rfl h
end
theorem At.z {bs r : List Nat} {s : Nat × Int} {v : Int} (h : At bs s (uz v ++ r)) (h1 : -9223372036854775808 ≤ v) (h2 : v ≤ 9223372036854775807) : ∃ s', rNum bs s = ((zig v).toNat, s') ∧ At bs s' r := At.num h (zig_nat v h1 h2).2
theorem rqC_flat (R : Rq) : rqC R = fx 1 R.kind.toNat ++ (fx 8 R.tag ++ ((if cKey R.kind = true then blk (sb R.key) else []) ++ ((if cBody R.kind = true then blk R.body else []) ++ ((if cAfter R.kind = true then blk (sb R.after) else []) ++ ((if cOff R.kind = true then uz R.off else []) ++ ((if cDelim R.kind = true then uz R.delim else []) ++ (if cNum R.kind = true then uz R.num else []))))))) := by
  unfold rqC
  simp only [List.append_assoc, us_blk]
  rfl
/-- A request's content is read as it was. -/
theorem rdRq_put (R : Rq) (hok : rqOk R) (hfit : rqFit R) (hb : RqB R) : rdRq (rqC R) = some R := by
  obtain ⟨bs, hbs⟩ : ∃ bs, rqC R = bs := ⟨_, rfl⟩
  have hk : ((R.kind.toNat : Nat) : Int) = R.kind := by have := hok.1; omega
  obtain ⟨k1, k8, d1, d2, d3, d4, d5, d6⟩ := hok
  obtain ⟨f1, f2, f3⟩ := hfit
  have h0 : At bs (0, 0) (rqC R) := ⟨[], by rw [hbs]; rfl, rfl⟩
  rw [rqC_flat] at h0
  rw [hbs]
  obtain ⟨s1, e1, h1⟩ := h0.fix (k := 1) (by omega)
  obtain ⟨s2, e2, h2⟩ := h1.fix (k := 8) (by have := hb.tag; omega)
  obtain ⟨s3, e3, h3⟩ := h2.opt (z := []) (f := rBlk bs 1024) fun _ h => h.blk (most := 1024) (by rw [sb_len]; exact f1) (by rw [sb_len]; omega)
  obtain ⟨s4, e4, h4⟩ := h3.opt (z := []) (f := rBlk bs 1048576) fun _ h => h.blk (most := 1048576) f3 (by omega)
  obtain ⟨s5, e5, h5⟩ := h4.opt (z := []) (f := rBlk bs 1024) fun _ h => h.blk (most := 1024) (by rw [sb_len]; exact f2) (by rw [sb_len]; omega)
  obtain ⟨s6, e6, h6⟩ := h5.opt (z := 0) (f := rNum bs) fun _ h => h.z hb.o1 hb.o2
  obtain ⟨s7, e7, h7⟩ := h6.opt (z := 0) (f := rNum bs) fun _ h => h.z hb.d1 hb.d2
  rw [← List.append_nil (if cNum R.kind = true then uz R.num else [])] at h7
  obtain ⟨s8, e8, h8⟩ := h7.opt (z := 0) (f := rNum bs) fun _ h => h.z hb.n1 hb.n2
  obtain ⟨pre, hp, rfl⟩ := h8
  rw [List.append_nil] at hp
  subst hp
  unfold rdRq
  simp only [e1, e2, hk, e3, e4, e5, e6, e7, e8]
  rw [if_pos ⟨k1, k8, endF_0 _⟩]
  have z0 : unz ((0 : Nat) : Int) = 0 := by decide
  have m1 : bstr (if cKey R.kind = true then sb R.key else []) = R.key := by
    split
    · exact bstr_sb _
    · rename_i h; rw [bstr_nil, d1 (by simpa using h)]
  have m2 : bstr (if cAfter R.kind = true then sb R.after else []) = R.after := by
    split
    · exact bstr_sb _
    · rename_i h; rw [bstr_nil, d3 (by simpa using h)]
  have m3 : unz (((if cOff R.kind = true then (zig R.off).toNat else 0 : Nat) : Nat) : Int) = R.off := by
    split
    · exact unz_put R.off hb.o1 hb.o2
    · rename_i h; rw [d4 (by simpa using h)]; exact z0
  have m4 : unz (((if cDelim R.kind = true then (zig R.delim).toNat else 0 : Nat) : Nat) : Int) = R.delim := by
    split
    · exact unz_put R.delim hb.d1 hb.d2
    · rename_i h; rw [d6 (by simpa using h)]; exact z0
  have m5 : unz (((if cNum R.kind = true then (zig R.num).toNat else 0 : Nat) : Nat) : Int) = R.num := by
    split
    · exact unz_put R.num hb.n1 hb.n2
    · rename_i h; rw [d5 (by simpa using h)]; exact z0
  have m6 : (if cBody R.kind = true then R.body else []) = R.body := by
    split
    · rfl
    · rename_i h; rw [d2 (by simpa using h)]
  rw [m1, m2, m3, m4, m5, m6]
end Go.Proofs.Ytbcmjjcbjojakaa
end
section
/- Plain: what is read is what is put: one form. -/
namespace Go.Proofs.Ytbcmjjcbjojakaa
open Go.RowKit
set_option linter.unusedVariables false
section
variable {bs : List Nat}
/-- A step of a reading that went well: what stands there is 'enc'. -/
structure Step (bs : List Nat) (s s' : Nat × Int) (enc : List Nat) : Prop where
  f : s.2 = 0
  le : s.1 ≤ bs.length → s'.1 ≤ bs.length
  cut : bs.take s'.1 = bs.take s.1 ++ enc
theorem step_of (bs : List Nat) {a a' : Nat} {enc : List Nat} (h : (bs.drop a).take (a' - a) = enc) (hle : a ≤ a') (hl : a ≤ bs.length → a' ≤ bs.length) : Step bs (a, 0) (a', 0) enc := by
  refine ⟨rfl, hl, ?_⟩
  have : a' = a + (a' - a) := by omega
  simp only
  rw [← h, this, List.take_add]
  simp
theorem Step.of_redo {α : Type} {o : Except Int (α × Nat)} {z v : α} {a a' : Nat} {f : Int} (h : redo o z a f = (v, a', 0)) (hne : ∀ e, o = .error e → e ≠ 0) : f = 0 ∧ o = .ok (v, a') := by
  unfold redo at h
  split at h
  · rename_i hf
    cases ho : o with
    | ok x => rw [ho] at h; simp only [Prod.mk.injEq] at h; obtain ⟨h1, h2, _⟩ := h; subst h1 h2; exact ⟨hf, rfl⟩
    | error e => rw [ho] at h; simp only [Prod.mk.injEq] at h; exact absurd h.2.2 (hne e ho)
  · rename_i hf
    simp only [Prod.mk.injEq] at h
    exact absurd h.2.2 hf
theorem Bad.ne {e : Int} (h : Bad e) : e ≠ 0 := by unfold Bad at h; omega
theorem Well.ne {α : Type} {at_ : Nat} {o : Except Int (α × Nat)} (h : Well bs at_ o) : ∀ e, o = .error e → e ≠ 0 := fun e he => by rw [he] at h; exact Bad.ne h
variable (hb : ∀ y ∈ bs, y < 256)
theorem rFix_form {k v : Nat} {s s' : Nat × Int} (hs : s.1 ≤ bs.length) (h : rFix bs k s = (v, s')) (h0 : s'.2 = 0) (hb : ∀ y ∈ bs, y < 256) : Step bs s s' (fx k v) ∧ v < 256 ^ k := by
  obtain ⟨a, f⟩ := s
  obtain ⟨a', f'⟩ := s'
  simp only at h0 hs; subst h0
  have hw := well_fix (bs := bs) k hs
  obtain ⟨rfl, ho⟩ := Step.of_redo h hw.ne
  rw [ho] at hw
  obtain ⟨h1, h2⟩ := fixF_form bs a k v a' hb ho
  refine ⟨step_of bs h1 h2 fun _ => hw.2, ?_⟩
  unfold fixF at ho
  split at ho
  · rename_i l a2 ht
    cases ho
    obtain ⟨e1, e2, e3, e4⟩ := takeF_form _ _ _ _ _ ht
    have := le256_lt l fun x hx => hb x (by rw [e1] at hx; exact List.mem_of_mem_drop (List.mem_of_mem_take hx))
    rwa [e4] at this
  · cases ho
theorem rNum_form {v : Nat} {s s' : Nat × Int} (hs : s.1 ≤ bs.length) (h : rNum bs s = (v, s')) (h0 : s'.2 = 0) (hb : ∀ y ∈ bs, y < 256) : Step bs s s' (uv v) ∧ v < 2 ^ 64 := by
  obtain ⟨a, f⟩ := s
  obtain ⟨a', f'⟩ := s'
  simp only at h0 hs; subst h0
  have hw := well_num (bs := bs) hb hs
  obtain ⟨rfl, ho⟩ := Step.of_redo h hw.ne
  rw [ho] at hw
  obtain ⟨h1, h2⟩ := numF_form bs a v a' hb ho
  exact ⟨step_of bs h1 (by omega) fun _ => hw.2, (numF_hi bs a v a' hb ho).1⟩
theorem blk_hi {most : Nat} {a a' : Nat} {l : List Nat} (h : blockF bs a most = .ok (l, a')) (hb : ∀ y ∈ bs, y < 256) : l.length ≤ most ∧ ∀ x ∈ l, x < 256 := by
  unfold blockF at h
  split at h
  · rename_i k a1 hn
    split at h
    · rename_i hk
      obtain ⟨e1, e2, e3, e4⟩ := takeF_form _ _ _ _ _ h
      exact ⟨by omega, fun x hx => hb x (by rw [e1] at hx; exact List.mem_of_mem_drop (List.mem_of_mem_take hx))⟩
    · cases h
  · cases h
theorem rBlk_form {l : List Nat} {most : Nat} {s s' : Nat × Int} (hs : s.1 ≤ bs.length) (h : rBlk bs (most : Int) s = (l, s')) (h0 : s'.2 = 0) (hb : ∀ y ∈ bs, y < 256) : Step bs s s' (blk l) ∧ l.length ≤ most ∧ ∀ x ∈ l, x < 256 := by
  obtain ⟨a, f⟩ := s
  obtain ⟨a', f'⟩ := s'
  simp only at h0 hs; subst h0
  have hw := well_blk (bs := bs) (most : Int) hb hs
  obtain ⟨rfl, ho⟩ := Step.of_redo h hw.ne
  rw [ho] at hw
  unfold blkF at ho
  rw [if_neg (by omega), Int.toNat_natCast] at ho
  obtain ⟨h1, h2⟩ := blockF_form bs a most a' l hb ho
  exact ⟨step_of bs h1 h2 fun _ => hw.2, blk_hi ho hb⟩
theorem rows_hi {each : Nat} (hb : ∀ y ∈ bs, y < 256) : ∀ (k a a' : Nat) (l : List (List Nat)), rowsF bs each k a = .ok (l, a') → l.length = k ∧ ∀ t ∈ l, t.length ≤ each ∧ ∀ x ∈ t, x < 256
  | 0, a, a', l, h => by cases h; simp
  | k + 1, a, a', l, h => by
    unfold rowsF at h
    split at h
    · cases h
    rename_i b a1 h1
    split at h
    · cases h
    rename_i l2 a2 h2
    cases h
    obtain ⟨e1, e2⟩ := rows_hi hb k a1 a' l2 h2
    refine ⟨by simp [e1], fun t ht => ?_⟩
    rcases List.mem_cons.1 ht with rfl | ht
    · exact blk_hi h1 hb
    · exact e2 t ht
theorem rTxt_form {l : List (List Nat)} {most each : Nat} {s s' : Nat × Int} (hs : s.1 ≤ bs.length) (h : rTxt bs (most : Int) (each : Int) s = (l, s')) (h0 : s'.2 = 0) (hb : ∀ y ∈ bs, y < 256) : Step bs s s' (txts l) ∧ l.length ≤ most ∧ ∀ t ∈ l, t.length ≤ each ∧ ∀ x ∈ t, x < 256 := by
  obtain ⟨a, f⟩ := s
  obtain ⟨a', f'⟩ := s'
  simp only at h0 hs; subst h0
  have hw := well_texts (bs := bs) (most : Int) (each : Int) hb hs
  obtain ⟨rfl, ho⟩ := Step.of_redo h hw.ne
  rw [ho] at hw
  obtain ⟨h1, h2⟩ := textsF_form bs a _ _ a' l hb ho
  refine ⟨step_of bs h1 h2 fun _ => hw.2, ?_⟩
  unfold textsF at ho
  rw [if_neg (by omega)] at ho
  split at ho
  · cases ho
  rename_i k a1 hn
  split at ho
  · rename_i hk
    obtain ⟨e1, e2⟩ := rows_hi hb k a1 a' l ho
    rw [Int.toNat_natCast] at e2 hk
    exact ⟨by omega, e2⟩
  · cases ho
/-- A step that is made or not. -/
theorem opt_form {α : Type} {b : Bool} {z v : α} {f : Nat × Int → α × Nat × Int} {s s' : Nat × Int} (h : opt b z f s = (v, s')) {enc : List Nat} (hf : b = true → f s = (v, s') → Step bs s s' enc) (h0 : s'.2 = 0) : Step bs s s' (if b = true then enc else []) ∧ (b = false → v = z) := by
  unfold opt at h
  cases b
  · simp only [Bool.false_eq_true, if_false, Prod.mk.injEq] at h ⊢
    obtain ⟨rfl, rfl⟩ := h
    exact ⟨⟨h0, id, by simp⟩, fun _ => rfl⟩
  · simp only [if_true] at h ⊢
    exact ⟨hf rfl h, fun h => by cases h⟩
end
/-! A reading stays within the bytes. -/
theorem redo_le {α : Type} {bs : List Nat} {o : Except Int (α × Nat)} (z : α) {a : Nat} (f : Int) (h : Well bs a o) (ha : a ≤ bs.length) : (redo o z a f).2.1 ≤ bs.length := by
  rcases redo_well z f h ha with ⟨_, e⟩ | ⟨_, _, _, e⟩ | ⟨_, _, _, _, e, _, h2⟩ <;> rw [e] <;> assumption
section
variable {bs : List Nat} {s : Nat × Int}
theorem rFix_le (k : Nat) (hs : s.1 ≤ bs.length) : (rFix bs k s).2.1 ≤ bs.length := redo_le _ _ (well_fix k hs) hs
theorem rNum_le (hb : ∀ y ∈ bs, y < 256) (hs : s.1 ≤ bs.length) : (rNum bs s).2.1 ≤ bs.length := redo_le _ _ (well_num hb hs) hs
theorem rBlk_le (most : Int) (hb : ∀ y ∈ bs, y < 256) (hs : s.1 ≤ bs.length) : (rBlk bs most s).2.1 ≤ bs.length := redo_le _ _ (well_blk most hb hs) hs
theorem rTxt_le (most each : Int) (hb : ∀ y ∈ bs, y < 256) (hs : s.1 ≤ bs.length) : (rTxt bs most each s).2.1 ≤ bs.length := redo_le _ _ (well_texts most each hb hs) hs
theorem opt_le {α : Type} (b : Bool) (z : α) {f : Nat × Int → α × Nat × Int} (hf : (f s).2.1 ≤ bs.length) (hs : s.1 ≤ bs.length) : (opt b z f s).2.1 ≤ bs.length := by
  unfold opt; cases b
  · exact hs
  · exact hf
end
theorem endF_ok {n a : Nat} {f : Int} (h : endF n a f = 0) : f = 0 ∧ n ≤ a := by
  unfold endF at h
  split at h
  · omega
  · split at h <;> omega
theorem ob {b : Bool} {α : Type} {x y : α} (h : b = false → x = y) (hb : ¬ b = true) : x = y := h (by simpa using hb)
theorem u64i {v : Nat} (h : v < 2 ^ 64) : -9223372036854775808 ≤ unz (v : Int) ∧ unz (v : Int) ≤ 9223372036854775807 := unz_bd _ (by omega) (by omega)
theorem uz_unz {v : Nat} : uz (unz (v : Int)) = uv v := by unfold uz; rw [zig_unz _ (by omega)]; rfl
theorem opt_uz {b : Bool} {v : Nat} (h : b = false → v = 0) : (if b = true then uz (unz (v : Int)) else []) = (if b = true then uv v else []) := by rw [uz_unz]
theorem opt_us {b : Bool} {l : List Nat} (h : ∀ x ∈ l, x < 256) : (if b = true then us (bstr l) else []) = (if b = true then blk l else []) := by rw [us_bstr l h]
theorem opt_lt {α : Type} {b : Bool} {z v : α} {f : Nat × Int → α × Nat × Int} {s s' : Nat × Int} (h : opt b z f s = (v, s')) {P : α → Prop} (hz : P z) (hf : b = true → f s = (v, s') → P v) : P v := by
  unfold opt at h
  cases b
  · simp only [Bool.false_eq_true, if_false, Prod.mk.injEq] at h; rw [← h.1]; exact hz
  · exact hf rfl h
theorem rdRq_form (bs : List Nat) (R : Rq) (hb : ∀ y ∈ bs, y < 256) (h : rdRq bs = some R) : bs = rqC R ∧ rqOk R ∧ rqFit R ∧ RqB R := by
  unfold rdRq at h
  simp only at h
  obtain ⟨v1, s1, h1⟩ : ∃ v s, rFix bs 1 (0, 0) = (v, s) := ⟨_, _, rfl⟩
  rw [h1] at h; simp only at h
  have p1 : s1.1 ≤ bs.length := by have := rFix_le (s := (0, 0)) (bs := bs) 1 (Nat.zero_le _); rwa [h1] at this
  obtain ⟨v2, s2, h2⟩ : ∃ v s, rFix bs 8 s1 = (v, s) := ⟨_, _, rfl⟩
  rw [h2] at h; simp only at h
  have p2 : s2.1 ≤ bs.length := by have := rFix_le (s := s1) (bs := bs) 8 p1; rwa [h2] at this
  obtain ⟨b3, hb3⟩ : ∃ b, cKey (v1 : Int) = b := ⟨_, rfl⟩
  obtain ⟨v3, s3, h3⟩ : ∃ v s, opt b3 [] (rBlk bs 1024) s2 = (v, s) := ⟨_, _, rfl⟩
  rw [hb3, h3] at h; simp only at h
  have p3 : s3.1 ≤ bs.length := by have := opt_le (bs := bs) b3 [] (f := rBlk bs 1024) (rBlk_le 1024 hb p2) p2; rwa [h3] at this
  obtain ⟨b4, hb4⟩ : ∃ b, cBody (v1 : Int) = b := ⟨_, rfl⟩
  obtain ⟨v4, s4, h4⟩ : ∃ v s, opt b4 [] (rBlk bs 1048576) s3 = (v, s) := ⟨_, _, rfl⟩
  rw [hb4, h4] at h; simp only at h
  have p4 : s4.1 ≤ bs.length := by have := opt_le (bs := bs) b4 [] (f := rBlk bs 1048576) (rBlk_le 1048576 hb p3) p3; rwa [h4] at this
  obtain ⟨b5, hb5⟩ : ∃ b, cAfter (v1 : Int) = b := ⟨_, rfl⟩
  obtain ⟨v5, s5, h5⟩ : ∃ v s, opt b5 [] (rBlk bs 1024) s4 = (v, s) := ⟨_, _, rfl⟩
  rw [hb5, h5] at h; simp only at h
  have p5 : s5.1 ≤ bs.length := by have := opt_le (bs := bs) b5 [] (f := rBlk bs 1024) (rBlk_le 1024 hb p4) p4; rwa [h5] at this
  obtain ⟨b6, hb6⟩ : ∃ b, cOff (v1 : Int) = b := ⟨_, rfl⟩
  obtain ⟨v6, s6, h6⟩ : ∃ v s, opt b6 0 (rNum bs) s5 = (v, s) := ⟨_, _, rfl⟩
  rw [hb6, h6] at h; simp only at h
  have p6 : s6.1 ≤ bs.length := by have := opt_le (bs := bs) b6 0 (f := rNum bs) (rNum_le hb p5) p5; rwa [h6] at this
  obtain ⟨b7, hb7⟩ : ∃ b, cDelim (v1 : Int) = b := ⟨_, rfl⟩
  obtain ⟨v7, s7, h7⟩ : ∃ v s, opt b7 0 (rNum bs) s6 = (v, s) := ⟨_, _, rfl⟩
  rw [hb7, h7] at h; simp only at h
  have p7 : s7.1 ≤ bs.length := by have := opt_le (bs := bs) b7 0 (f := rNum bs) (rNum_le hb p6) p6; rwa [h7] at this
  obtain ⟨b8, hb8⟩ : ∃ b, cNum (v1 : Int) = b := ⟨_, rfl⟩
  obtain ⟨v8, s8, h8⟩ : ∃ v s, opt b8 0 (rNum bs) s7 = (v, s) := ⟨_, _, rfl⟩
  rw [hb8, h8] at h; simp only at h
  have p8 : s8.1 ≤ bs.length := by have := opt_le (bs := bs) b8 0 (f := rNum bs) (rNum_le hb p7) p7; rwa [h8] at this
  split at h
  case isFalse => cases h
  rename_i hc
  obtain ⟨k1, k8, he⟩ := hc
  injection h with h
  subst h
  obtain ⟨f8, e8⟩ := endF_ok he
  have q8 := opt_form h8 (fun _ g => (rNum_form p7 g f8 hb).1) f8
  have q7 := opt_form h7 (fun _ g => (rNum_form p6 g q8.1.f hb).1) q8.1.f
  have q6 := opt_form h6 (fun _ g => (rNum_form p5 g q7.1.f hb).1) q7.1.f
  have q5 := opt_form h5 (fun _ g => (rBlk_form (most := 1024) p4 g q6.1.f hb).1) q6.1.f
  have q4 := opt_form h4 (fun _ g => (rBlk_form (most := 1048576) p3 g q5.1.f hb).1) q5.1.f
  have q3 := opt_form h3 (fun _ g => (rBlk_form (most := 1024) p2 g q4.1.f hb).1) q4.1.f
  have q2 := rFix_form p1 h2 q3.1.f hb
  have q1 := rFix_form (s := (0, 0)) (Nat.zero_le _) h1 q2.1.f hb
  have t3 := opt_lt h3 (P := fun l => l.length ≤ 1024 ∧ ∀ x ∈ l, x < 256) ⟨by simp, by simp⟩ (fun _ g => (rBlk_form (most := 1024) p2 g q4.1.f hb).2)
  have t4 := opt_lt h4 (P := fun l => l.length ≤ 1048576 ∧ ∀ x ∈ l, x < 256) ⟨by simp, by simp⟩ (fun _ g => (rBlk_form (most := 1048576) p3 g q5.1.f hb).2)
  have t5 := opt_lt h5 (P := fun l => l.length ≤ 1024 ∧ ∀ x ∈ l, x < 256) ⟨by simp, by simp⟩ (fun _ g => (rBlk_form (most := 1024) p4 g q6.1.f hb).2)
  have t6 := opt_lt h6 (P := fun v => v < 2 ^ 64) (by omega) (fun _ g => (rNum_form p5 g q7.1.f hb).2)
  have t7 := opt_lt h7 (P := fun v => v < 2 ^ 64) (by omega) (fun _ g => (rNum_form p6 g q8.1.f hb).2)
  have t8 := opt_lt h8 (P := fun v => v < 2 ^ 64) (by omega) (fun _ g => (rNum_form p7 g f8 hb).2)
  have z0 : unz ((0 : Nat) : Int) = 0 := by decide
  refine ⟨?_, ⟨k1, k8, ?_, ?_, ?_, ?_, ?_, ?_⟩, ⟨by simp only [bstr_size]; exact t3.1, by simp only [bstr_size]; exact t5.1, t4.1⟩, ⟨by have := q2.2; simp only; omega, (u64i t6).1, (u64i t6).2, (u64i t8).1, (u64i t8).2, (u64i t7).1, (u64i t7).2, t4.2⟩⟩
  · unfold rqC
    simp only [hb3, hb4, hb5, hb6, hb7, hb8, Int.toNat_natCast]
    rw [opt_us t3.2, opt_us t5.2, opt_uz q6.2, opt_uz q7.2, opt_uz q8.2]
    have c := q8.1.cut
    rw [List.take_of_length_le e8, q7.1.cut, q6.1.cut, q5.1.cut, q4.1.cut, q3.1.cut, q2.1.cut, q1.1.cut] at c
    simpa [ub, blk, List.append_assoc] using c
  · intro hh; simp only [hb3] at hh ⊢; rw [q3.2 hh, bstr_nil]
  · intro hh; simp only [hb4] at hh ⊢; rw [q4.2 hh]
  · intro hh; simp only [hb5] at hh ⊢; rw [q5.2 hh, bstr_nil]
  · intro hh; simp only [hb6] at hh ⊢; rw [q6.2 hh, z0]
  · intro hh; simp only [hb8] at hh ⊢; rw [q8.2 hh, z0]
  · intro hh; simp only [hb7] at hh ⊢; rw [q7.2 hh, z0]
end Go.Proofs.Ytbcmjjcbjojakaa
end
section
/- Plain: an answer's content is read as it was, and what is read is what is put. -/
namespace Go.Proofs.Ytbcmjjcbjojakaa
open Go.RowKit
set_option linter.unusedVariables false
theorem if_four {b : Bool} {p q x y : List Nat} : (if b = true then p ++ q ++ x ++ y else []) = (if b = true then p else []) ++ ((if b = true then q else []) ++ ((if b = true then x else []) ++ (if b = true then y else []))) := by cases b <;> simp
theorem if_three {b : Bool} {p q x : List Nat} : (if b = true then p ++ q ++ x else []) = (if b = true then p else []) ++ ((if b = true then q else []) ++ (if b = true then x else [])) := by cases b <;> simp
theorem ut_txts (l : List ByteArray) : ut l = txts (l.map sb) := by
  unfold ut txts rws tx
  rw [List.length_map, List.flatMap_map]
  congr 2
  funext t
  unfold blk; rw [sb_len]
/-- An answer's content, part by part. -/
theorem anC_flat (a : An) : anC a = fx 1 a.kind.toNat ++ (fx 8 a.tag ++ (uv a.code.toNat ++ ((if decide (a.kind = 8) = true then uz a.h1 else []) ++ ((if decide (a.kind = 8) = true then uz a.h2 else []) ++ ((if decide (a.kind = 8) = true then uz a.h3 else []) ++ ((if decide (a.kind = 8) = true then uz a.h4 else []) ++
    ((if qBody a.kind a.code = true then blk a.body else []) ++ ((if qGen a.kind a.code = true then uz a.ge else []) ++ ((if qGen a.kind a.code = true then uz a.gc else []) ++ ((if qGen a.kind a.code = true then uz a.size else []) ++ ((if qKeys a.kind a.code = true then txts (a.keys.map sb) else []) ++
    ((if qPage a.kind a.code = true then txts (a.groups.map sb) else []) ++ ((if qPage a.kind a.code = true then blk (sb a.next) else []) ++ (if qPage a.kind a.code = true then fx 1 (if a.more = true then 1 else 0) else [])))))))))))))) := by
  have e0 : (if a.kind = 8 then uz a.h1 ++ uz a.h2 ++ uz a.h3 ++ uz a.h4 else []) = (if decide (a.kind = 8) = true then uz a.h1 ++ uz a.h2 ++ uz a.h3 ++ uz a.h4 else []) := by simp only [decide_eq_true_iff]
  have hp : ∀ (p : Prop) [Decidable p] (b : Bool) (l : List Nat), (b = true ↔ p) → (if p then l else []) = (if b = true then l else []) := fun p _ b l h => by
    by_cases hq : p
    · rw [if_pos hq, if_pos (h.2 hq)]
    · rw [if_neg hq, if_neg (fun g => hq (h.1 g))]
  have q1 : qBody a.kind a.code = true ↔ tBody a := by unfold qBody tBody; exact decide_eq_true_iff
  have q2 : qGen a.kind a.code = true ↔ tGen a := by unfold qGen tGen; exact decide_eq_true_iff
  have q3 : qKeys a.kind a.code = true ↔ tKeys a := by unfold qKeys tKeys; exact decide_eq_true_iff
  have q4 : qPage a.kind a.code = true ↔ tPage a := by unfold qPage tPage; exact decide_eq_true_iff
  unfold anC
  rw [e0, if_four, @hp (tBody a) (Classical.propDecidable _) _ _ q1, @hp (tGen a) (Classical.propDecidable _) _ _ q2, if_three, @hp (tKeys a) (Classical.propDecidable _) _ _ q3, @hp (tPage a) (Classical.propDecidable _) _ _ q4, if_three]
  simp only [List.append_assoc, ut_txts, us_blk]
  have m1 : [if a.more = true then 1 else 0] = fx 1 (if a.more = true then 1 else 0) := by cases a.more <;> rfl
  rw [m1]
  rfl
theorem map_bstr_sb (l : List ByteArray) : (l.map sb).map bstr = l := by
  rw [List.map_map]
  conv => rhs; rw [← List.map_id l]
  exact List.map_congr_left fun t _ => bstr_sb t
theorem rdAn_put (a : An) (hok : anOk a) (hfit : anFit a) (hb : AnB a) : rdAn (anC a) = some a := by
  obtain ⟨bs, hbs⟩ : ∃ bs, anC a = bs := ⟨_, rfl⟩
  have hk : ((a.kind.toNat : Nat) : Int) = a.kind := by have := hok.1; omega
  have hcd : ((a.code.toNat : Nat) : Int) = a.code := by have := hok.2.2.1; omega
  obtain ⟨k1, k8, c0, cm, d1, d2, d3, d4, d5⟩ := hok
  obtain ⟨f1, f2, f3, f4⟩ := hfit
  have hz : ∀ {v : Int} {s : Nat × Int} {r : List Nat}, (v = a.ge ∨ v = a.gc ∨ v = a.size ∨ v = a.h1 ∨ v = a.h2 ∨ v = a.h3 ∨ v = a.h4) → At bs s (uz v ++ r) → ∃ s', rNum bs s = ((zig v).toNat, s') ∧ At bs s' r := fun hv h => At.num h (zig_nat _ (hb.n _ hv).1 (hb.n _ hv).2).2
  have h0 : At bs (0, 0) (anC a) := ⟨[], by rw [hbs]; rfl, rfl⟩
  rw [anC_flat] at h0
  rw [hbs]
  obtain ⟨s1, e1, h1⟩ := h0.fix (k := 1) (by omega)
  obtain ⟨s2, e2, h2⟩ := h1.fix (k := 8) (by have := hb.tag; omega)
  obtain ⟨s3, e3, h3⟩ := h2.num (by omega)
  obtain ⟨s4, e4, h4⟩ := h3.opt (z := 0) (f := rNum bs) fun _ h => hz (by simp) h
  obtain ⟨s5, e5, h5⟩ := h4.opt (z := 0) (f := rNum bs) fun _ h => hz (by simp) h
  obtain ⟨s6, e6, h6⟩ := h5.opt (z := 0) (f := rNum bs) fun _ h => hz (by simp) h
  obtain ⟨s7, e7, h7⟩ := h6.opt (z := 0) (f := rNum bs) fun _ h => hz (by simp) h
  obtain ⟨s8, e8, h8⟩ := h7.opt (z := []) (f := rBlk bs 1048576) fun _ h => h.blk (most := 1048576) f1 (by omega)
  obtain ⟨s9, e9, h9⟩ := h8.opt (z := 0) (f := rNum bs) fun _ h => hz (by simp) h
  obtain ⟨s10, e10, h10⟩ := h9.opt (z := 0) (f := rNum bs) fun _ h => hz (by simp) h
  obtain ⟨s11, e11, h11⟩ := h10.opt (z := 0) (f := rNum bs) fun _ h => hz (by simp) h
  obtain ⟨s12, e12, h12⟩ := h11.opt (z := []) (f := rTxt bs (qMost a.kind) 255) fun _ h => h.txt (by
      rw [List.length_map]; have := f2.1; unfold qMost; split at this <;> rename_i h6
      · rw [if_pos h6]; omega
      · rw [if_neg h6]; omega) (by unfold qMost; split <;> omega) (fun t ht => by obtain ⟨x, hx, rfl⟩ := List.mem_map.1 ht; rw [sb_len]; exact f2.2 x hx) (by rw [List.length_map]; have := f2.1; split at this <;> omega)
  obtain ⟨s13, e13, h13⟩ := h12.opt (z := []) (f := rTxt bs 1000 255) fun _ h => h.txt (by rw [List.length_map]; have := f3.1; omega) (by omega) (fun t ht => by obtain ⟨x, hx, rfl⟩ := List.mem_map.1 ht; rw [sb_len]; exact f3.2 x hx) (by rw [List.length_map]; have := f3.1; omega)
  obtain ⟨s14, e14, h14⟩ := h13.opt (z := []) (f := rBlk bs 255) fun _ h => h.blk (most := 255) (by rw [sb_len]; exact f4) (by rw [sb_len]; omega)
  rw [← List.append_nil (if qPage a.kind a.code = true then fx 1 (if a.more = true then 1 else 0) else [])] at h14
  obtain ⟨s15, e15, h15⟩ := h14.opt (z := 0) (f := rFix bs 1) fun _ h => h.fix (k := 1) (by split <;> omega)
  obtain ⟨pre, hp, rfl⟩ := h15
  rw [List.append_nil] at hp
  subst hp
  unfold rdAn
  simp only [e1, e2, e3, hk, hcd, e4, e5, e6, e7, e8, e9, e10, e11, e12, e13, e14, e15]
  have z0 : unz ((0 : Nat) : Int) = 0 := by decide
  have un : ∀ v, (v = a.ge ∨ v = a.gc ∨ v = a.size ∨ v = a.h1 ∨ v = a.h2 ∨ v = a.h3 ∨ v = a.h4) → unz (((zig v).toNat : Nat) : Int) = v := fun v hv => unz_put v (hb.n v hv).1 (hb.n v hv).2
  have q1 : ¬ qBody a.kind a.code = true → a.body = [] := fun h => d1 fun t => h (by unfold qBody; exact decide_eq_true t)
  have q2 : ¬ qGen a.kind a.code = true → a.ge = 0 ∧ a.gc = 0 ∧ a.size = 0 := fun h => d2 fun t => h (by unfold qGen; exact decide_eq_true t)
  have q3 : ¬ qKeys a.kind a.code = true → a.keys = [] := fun h => d3 fun t => h (by unfold qKeys; exact decide_eq_true t)
  have q4 : ¬ qPage a.kind a.code = true → a.groups = [] ∧ a.next = emS ∧ a.more = false := fun h => d4 fun t => h (by unfold qPage; exact decide_eq_true t)
  have q5 : ¬ decide (a.kind = 8) = true → a.h1 = 0 ∧ a.h2 = 0 ∧ a.h3 = 0 ∧ a.h4 = 0 := fun h => d5 fun t => h (decide_eq_true t)
  rw [if_pos ⟨k1, k8, cm, by (repeat' split) <;> omega, endF_0 _⟩]
  have m0 : (if qBody a.kind a.code = true then a.body else []) = a.body := by split; rfl; rename_i h; rw [q1 h]
  have m1 : (if qKeys a.kind a.code = true then a.keys.map sb else []).map bstr = a.keys := by split; exact map_bstr_sb _; rename_i h; rw [q3 h]; rfl
  have m2 : (if qPage a.kind a.code = true then a.groups.map sb else []).map bstr = a.groups := by split; exact map_bstr_sb _; rename_i h; rw [(q4 h).1]; rfl
  have m3 : bstr (if qPage a.kind a.code = true then sb a.next else []) = a.next := by split; exact bstr_sb _; rename_i h; rw [(q4 h).2.1]; rfl
  have m4 : decide ((if qPage a.kind a.code = true then (if a.more = true then 1 else 0) else 0) = 1) = a.more := by
    split
    · cases a.more <;> rfl
    · rename_i h; rw [(q4 h).2.2]; rfl
  have m5 : ∀ (b : Bool) (v : Int), (v = a.ge ∨ v = a.gc ∨ v = a.size ∨ v = a.h1 ∨ v = a.h2 ∨ v = a.h3 ∨ v = a.h4) → (¬ b = true → v = 0) → unz (((if b = true then (zig v).toNat else 0 : Nat) : Nat) : Int) = v := fun b v hv h => by
    split
    · exact un v hv
    · rename_i hn; rw [h hn]; exact z0
  rw [m0, m1, m2, m3, m4, m5 _ a.ge (by simp) (fun h => (q2 h).1), m5 _ a.gc (by simp) (fun h => (q2 h).2.1), m5 _ a.size (by simp) (fun h => (q2 h).2.2), m5 _ a.h1 (by simp) (fun h => (q5 h).1), m5 _ a.h2 (by simp) (fun h => (q5 h).2.1), m5 _ a.h3 (by simp) (fun h => (q5 h).2.2.1), m5 _ a.h4 (by simp) (fun h => (q5 h).2.2.2)]
theorem map_sb_bstr (l : List (List Nat)) (h : ∀ t ∈ l, ∀ x ∈ t, x < 256) : (l.map bstr).map sb = l := by
  rw [List.map_map]
  conv => rhs; rw [← List.map_id l]
  exact List.map_congr_left fun t ht => sb_bstr t (h t ht)
theorem rdAn_form (bs : List Nat) (a : An) (hb : ∀ y ∈ bs, y < 256) (h : rdAn bs = some a) : bs = anC a ∧ anOk a ∧ anFit a ∧ AnB a := by
  unfold rdAn at h
  simp only at h
  obtain ⟨v1, s1, h1⟩ : ∃ v s, rFix bs 1 (0, 0) = (v, s) := ⟨_, _, rfl⟩
  rw [h1] at h; simp only at h
  have p1 : s1.1 ≤ bs.length := by have := rFix_le (s := (0, 0)) (bs := bs) 1 (Nat.zero_le _); rwa [h1] at this
  obtain ⟨v2, s2, h2⟩ : ∃ v s, rFix bs 8 s1 = (v, s) := ⟨_, _, rfl⟩
  rw [h2] at h; simp only at h
  have p2 : s2.1 ≤ bs.length := by have := rFix_le (s := s1) (bs := bs) 8 p1; rwa [h2] at this
  obtain ⟨v3, s3, h3⟩ : ∃ v s, rNum bs s2 = (v, s) := ⟨_, _, rfl⟩
  rw [h3] at h; simp only at h
  have p3 : s3.1 ≤ bs.length := by have := rNum_le (s := s2) (bs := bs) hb p2; rwa [h3] at this
  obtain ⟨w0, hw0⟩ : ∃ b, decide ((v1 : Int) = 8) = b := ⟨_, rfl⟩
  obtain ⟨w1, hw1⟩ : ∃ b, qBody (v1 : Int) (v3 : Int) = b := ⟨_, rfl⟩
  obtain ⟨w2, hw2⟩ : ∃ b, qGen (v1 : Int) (v3 : Int) = b := ⟨_, rfl⟩
  obtain ⟨w3, hw3⟩ : ∃ b, qKeys (v1 : Int) (v3 : Int) = b := ⟨_, rfl⟩
  obtain ⟨w4, hw4⟩ : ∃ b, qPage (v1 : Int) (v3 : Int) = b := ⟨_, rfl⟩
  rw [hw0, hw1, hw2, hw3, hw4] at h
  obtain ⟨v4, s4, h4⟩ : ∃ v s, opt w0 0 (rNum bs) s3 = (v, s) := ⟨_, _, rfl⟩
  rw [h4] at h; simp only at h
  have p4 : s4.1 ≤ bs.length := by have := opt_le (bs := bs) w0 0 (f := rNum bs) (rNum_le hb p3) p3; rwa [h4] at this
  obtain ⟨v5, s5, h5⟩ : ∃ v s, opt w0 0 (rNum bs) s4 = (v, s) := ⟨_, _, rfl⟩
  rw [h5] at h; simp only at h
  have p5 : s5.1 ≤ bs.length := by have := opt_le (bs := bs) w0 0 (f := rNum bs) (rNum_le hb p4) p4; rwa [h5] at this
  obtain ⟨v6, s6, h6⟩ : ∃ v s, opt w0 0 (rNum bs) s5 = (v, s) := ⟨_, _, rfl⟩
  rw [h6] at h; simp only at h
  have p6 : s6.1 ≤ bs.length := by have := opt_le (bs := bs) w0 0 (f := rNum bs) (rNum_le hb p5) p5; rwa [h6] at this
  obtain ⟨v7, s7, h7⟩ : ∃ v s, opt w0 0 (rNum bs) s6 = (v, s) := ⟨_, _, rfl⟩
  rw [h7] at h; simp only at h
  have p7 : s7.1 ≤ bs.length := by have := opt_le (bs := bs) w0 0 (f := rNum bs) (rNum_le hb p6) p6; rwa [h7] at this
  obtain ⟨v8, s8, h8⟩ : ∃ v s, opt w1 [] (rBlk bs 1048576) s7 = (v, s) := ⟨_, _, rfl⟩
  rw [h8] at h; simp only at h
  have p8 : s8.1 ≤ bs.length := by have := opt_le (bs := bs) w1 [] (f := rBlk bs 1048576) (rBlk_le 1048576 hb p7) p7; rwa [h8] at this
  obtain ⟨v9, s9, h9⟩ : ∃ v s, opt w2 0 (rNum bs) s8 = (v, s) := ⟨_, _, rfl⟩
  rw [h9] at h; simp only at h
  have p9 : s9.1 ≤ bs.length := by have := opt_le (bs := bs) w2 0 (f := rNum bs) (rNum_le hb p8) p8; rwa [h9] at this
  obtain ⟨v10, s10, h10⟩ : ∃ v s, opt w2 0 (rNum bs) s9 = (v, s) := ⟨_, _, rfl⟩
  rw [h10] at h; simp only at h
  have p10 : s10.1 ≤ bs.length := by have := opt_le (bs := bs) w2 0 (f := rNum bs) (rNum_le hb p9) p9; rwa [h10] at this
  obtain ⟨v11, s11, h11⟩ : ∃ v s, opt w2 0 (rNum bs) s10 = (v, s) := ⟨_, _, rfl⟩
  rw [h11] at h; simp only at h
  have p11 : s11.1 ≤ bs.length := by have := opt_le (bs := bs) w2 0 (f := rNum bs) (rNum_le hb p10) p10; rwa [h11] at this
  obtain ⟨v12, s12, h12⟩ : ∃ v s, opt w3 [] (rTxt bs (qMost (v1 : Int)) 255) s11 = (v, s) := ⟨_, _, rfl⟩
  rw [h12] at h; simp only at h
  have p12 : s12.1 ≤ bs.length := by have := opt_le (bs := bs) w3 [] (f := rTxt bs (qMost (v1 : Int)) 255) (rTxt_le _ _ hb p11) p11; rwa [h12] at this
  obtain ⟨v13, s13, h13⟩ : ∃ v s, opt w4 [] (rTxt bs 1000 255) s12 = (v, s) := ⟨_, _, rfl⟩
  rw [h13] at h; simp only at h
  have p13 : s13.1 ≤ bs.length := by have := opt_le (bs := bs) w4 [] (f := rTxt bs 1000 255) (rTxt_le _ _ hb p12) p12; rwa [h13] at this
  obtain ⟨v14, s14, h14⟩ : ∃ v s, opt w4 [] (rBlk bs 255) s13 = (v, s) := ⟨_, _, rfl⟩
  rw [h14] at h; simp only at h
  have p14 : s14.1 ≤ bs.length := by have := opt_le (bs := bs) w4 [] (f := rBlk bs 255) (rBlk_le 255 hb p13) p13; rwa [h14] at this
  obtain ⟨v15, s15, h15⟩ : ∃ v s, opt w4 0 (rFix bs 1) s14 = (v, s) := ⟨_, _, rfl⟩
  rw [h15] at h; simp only at h
  have p15 : s15.1 ≤ bs.length := by have := opt_le (bs := bs) w4 0 (f := rFix bs 1) (rFix_le 1 p14) p14; rwa [h15] at this
  split at h
  case isFalse => cases h
  rename_i hc
  obtain ⟨k1, k8, c31, hm1, he⟩ := hc
  injection h with h
  subst h
  obtain ⟨f15, e15⟩ := endF_ok he
  obtain ⟨M, hM, hMi⟩ : ∃ M : Nat, qMost (v1 : Int) = (M : Int) ∧ M = if (v1 : Int) = 6 then 65536 else 1000 := by unfold qMost; split; exact ⟨65536, rfl, rfl⟩; exact ⟨1000, rfl, rfl⟩
  rw [hM] at h12
  have q15 := opt_form h15 (fun _ g => (rFix_form p14 g f15 hb).1) f15
  have q14 := opt_form h14 (fun _ g => (rBlk_form (most := 255) p13 g q15.1.f hb).1) q15.1.f
  have q13 := opt_form h13 (fun _ g => (rTxt_form (most := 1000) (each := 255) p12 g q14.1.f hb).1) q14.1.f
  have q12 := opt_form h12 (fun _ g => (rTxt_form (most := M) (each := 255) p11 g q13.1.f hb).1) q13.1.f
  have q11 := opt_form h11 (fun _ g => (rNum_form p10 g q12.1.f hb).1) q12.1.f
  have q10 := opt_form h10 (fun _ g => (rNum_form p9 g q11.1.f hb).1) q11.1.f
  have q9 := opt_form h9 (fun _ g => (rNum_form p8 g q10.1.f hb).1) q10.1.f
  have q8 := opt_form h8 (fun _ g => (rBlk_form (most := 1048576) p7 g q9.1.f hb).1) q9.1.f
  have q7 := opt_form h7 (fun _ g => (rNum_form p6 g q8.1.f hb).1) q8.1.f
  have q6 := opt_form h6 (fun _ g => (rNum_form p5 g q7.1.f hb).1) q7.1.f
  have q5 := opt_form h5 (fun _ g => (rNum_form p4 g q6.1.f hb).1) q6.1.f
  have q4 := opt_form h4 (fun _ g => (rNum_form p3 g q5.1.f hb).1) q5.1.f
  have q3 := rNum_form p2 h3 q4.1.f hb
  have q2 := rFix_form p1 h2 q3.1.f hb
  have q1 := rFix_form (s := (0, 0)) (Nat.zero_le _) h1 q2.1.f hb
  have t4 := opt_lt h4 (P := fun v => v < 2 ^ 64) (by omega) (fun _ g => (rNum_form p3 g q5.1.f hb).2)
  have t5 := opt_lt h5 (P := fun v => v < 2 ^ 64) (by omega) (fun _ g => (rNum_form p4 g q6.1.f hb).2)
  have t6 := opt_lt h6 (P := fun v => v < 2 ^ 64) (by omega) (fun _ g => (rNum_form p5 g q7.1.f hb).2)
  have t7 := opt_lt h7 (P := fun v => v < 2 ^ 64) (by omega) (fun _ g => (rNum_form p6 g q8.1.f hb).2)
  have t8 := opt_lt h8 (P := fun l => l.length ≤ 1048576 ∧ ∀ x ∈ l, x < 256) ⟨by simp, by simp⟩ (fun _ g => (rBlk_form (most := 1048576) p7 g q9.1.f hb).2)
  have t9 := opt_lt h9 (P := fun v => v < 2 ^ 64) (by omega) (fun _ g => (rNum_form p8 g q10.1.f hb).2)
  have t10 := opt_lt h10 (P := fun v => v < 2 ^ 64) (by omega) (fun _ g => (rNum_form p9 g q11.1.f hb).2)
  have t11 := opt_lt h11 (P := fun v => v < 2 ^ 64) (by omega) (fun _ g => (rNum_form p10 g q12.1.f hb).2)
  have t12 := opt_lt h12 (P := fun l => l.length ≤ M ∧ ∀ t ∈ l, t.length ≤ 255 ∧ ∀ x ∈ t, x < 256) ⟨by simp, by simp⟩ (fun _ g => (rTxt_form (most := M) (each := 255) p11 g q13.1.f hb).2)
  have t13 := opt_lt h13 (P := fun l => l.length ≤ 1000 ∧ ∀ t ∈ l, t.length ≤ 255 ∧ ∀ x ∈ t, x < 256) ⟨by simp, by simp⟩ (fun _ g => (rTxt_form (most := 1000) (each := 255) p12 g q14.1.f hb).2)
  have t14 := opt_lt h14 (P := fun l => l.length ≤ 255 ∧ ∀ x ∈ l, x < 256) ⟨by simp, by simp⟩ (fun _ g => (rBlk_form (most := 255) p13 g q15.1.f hb).2)
  have z0 : unz ((0 : Nat) : Int) = 0 := by decide
  have sz : ∀ (l : List (List Nat)), (∀ t ∈ l, t.length ≤ 255 ∧ ∀ x ∈ t, x < 256) → ∀ t ∈ l.map bstr, t.size ≤ 255 := fun l hl t ht => by
    obtain ⟨x, hx, rfl⟩ := List.mem_map.1 ht
    rw [bstr_size]; exact (hl x hx).1
  refine ⟨?_, ⟨k1, k8, by simp only; omega, c31, fun hh => q8.2 ?_, fun hh => ?_, fun hh => ?_, fun hh => ?_, fun hh => ?_⟩, ⟨t8.1, ⟨by simp only [List.length_map]; rw [← hMi]; exact t12.1, sz _ t12.2⟩, ⟨by simp only [List.length_map]; exact t13.1, sz _ t13.2⟩, by simp only [bstr_size]; exact t14.1⟩, ⟨by have := q2.2; simp only; omega, t8.2, fun v hv => ?_⟩⟩
  · rw [anC_flat]
    simp only [Int.toNat_natCast, hw0, hw1, hw2, hw3, hw4]
    rw [map_sb_bstr _ fun t ht => (t12.2 t ht).2, map_sb_bstr _ fun t ht => (t13.2 t ht).2, sb_bstr _ t14.2]
    simp only [uz_unz]
    have m : (if decide (v15 = 1) = true then 1 else 0) = v15 := by
      by_cases h : v15 = 1
      · simp [h]
      · simp [h]; omega
    rw [m]
    have c := q15.1.cut
    rw [List.take_of_length_le e15, q14.1.cut, q13.1.cut, q12.1.cut, q11.1.cut, q10.1.cut, q9.1.cut, q8.1.cut, q7.1.cut, q6.1.cut, q5.1.cut, q4.1.cut, q3.1.cut, q2.1.cut, q1.1.cut] at c
    simpa [List.append_assoc] using c
  · rw [← hw1]; unfold qBody; exact decide_eq_false hh
  · have hf : w2 = false := by rw [← hw2]; unfold qGen; exact decide_eq_false hh
    simp only
    rw [q9.2 hf, q10.2 hf, q11.2 hf, z0]; exact ⟨rfl, rfl, rfl⟩
  · have hf : w3 = false := by rw [← hw3]; unfold qKeys; exact decide_eq_false hh
    simp only
    rw [q12.2 hf]; rfl
  · have hf : w4 = false := by rw [← hw4]; unfold qPage; exact decide_eq_false hh
    simp only
    rw [q13.2 hf, q14.2 hf, q15.2 hf]; exact ⟨rfl, rfl, rfl⟩
  · have hf : w0 = false := by rw [← hw0]; exact decide_eq_false hh
    simp only
    rw [q4.2 hf, q5.2 hf, q6.2 hf, q7.2 hf, z0]; exact ⟨rfl, rfl, rfl, rfl⟩
  · simp only at hv
    rcases hv with rfl | rfl | rfl | rfl | rfl | rfl | rfl
    · exact u64i t9
    · exact u64i t10
    · exact u64i t11
    · exact u64i t4
    · exact u64i t5
    · exact u64i t6
    · exact u64i t7
end Go.Proofs.Ytbcmjjcbjojakaa
end
section
/- Written messages: their cells and the rows that they own; the steps of a codec reader in the plain words of MsgP. -/
namespace Go.Proofs.Ytbcmjjcbjojakaa
open Go.RowKit
set_option linter.unusedVariables false
/-- A message as it lies in memory: its cells, and the rows that it owns. -/
structure Wm where
  cells : List Value
  rows : List (Nat × Value × List Value)
/-- Its rows stand, from block 'base' on. -/
def Wm.ok (w : World) (base : Nat) (W : Wm) : Prop := ∀ r ∈ W.rows, w.ownsRow base r.1 1 r.2.1 r.2.2.length r.2.2
/-- No row of it lies in a block of X. -/
def Wm.off (X : List Nat) (W : Wm) : Prop := ∀ r ∈ W.rows, ∀ k, r.2.1.ownBlock = some k → k ∉ X
def rqW (R : Rq) (vb : Value) : Wm := ⟨[.int .i64 R.kind, .int .u64 (R.tag : Int), .string R.key, .string R.after, .int .i64 R.off, .int .i64 R.num, .int .i64 R.delim, vb], [(5, vb, cb R.body)]⟩
def anW (a : An) (v1 v2 v3 : Value) : Wm :=
  ⟨[.int .i64 a.kind, .int .u64 (a.tag : Int), .int .i64 a.code, v1, v2, v3, .string a.next, .bool a.more, .int .i64 a.ge, .int .i64 a.gc, .int .i64 a.size, .int .i64 a.h1, .int .i64 a.h2, .int .i64 a.h3, .int .i64 a.h4],
   [(5, v1, cb a.body), (9, v2, cs a.keys), (9, v3, cs a.groups)]⟩
def rqIs (W : Wm) (R : Rq) : Prop := ∃ vb, W = rqW R vb
def anIs (W : Wm) (a : An) : Prop := ∃ v1 v2 v3, W = anW a v1 v2 v3
section
variable {w w1 : World} {base base' : Nat} {W : Wm} {X : List Nat}
theorem Wm.ok.below (h : W.ok w base) (b : Below w.heap.size w w1) : W.ok w1 base := fun r hr => own_below' (h r hr) b
theorem Wm.ok.lower (h : W.ok w base) (hb : base' ≤ base) : W.ok w base' := fun r hr => own_base (h r hr) hb
theorem Wm.ok.chg (h : W.ok w base) (c : Chg X w w1) (ho : W.off X) : W.ok w1 base := fun r hr => c.own (h r hr) (ho r hr)
theorem Wm.ok.lt (h : W.ok w base) {r : Nat × Value × List Value} (hr : r ∈ W.rows) {k : Nat} (hk : r.2.1.ownBlock = some k) : base ≤ k ∧ k < w.heap.size := (h r hr).lt k hk
/-- What has been made since is apart from what was there. -/
theorem Wm.ok.off_old (h : W.ok w base) (hX : ∀ k ∈ X, k < base) : W.off X := fun r hr k hk hm => by
  have := (h.lt hr hk).1; have := hX k hm; omega
theorem Wm.off.mono {Y : List Nat} (h : W.off X) (hY : ∀ k ∈ Y, k ∈ X) : W.off Y := fun r hr k hk hm => h r hr k hk (hY k hm)
/-- New blocks may be written too. -/
theorem Wm.off.new {Y : List Nat} (h : W.off X) (ho : W.ok w base) (hY : ∀ k ∈ Y, k ∈ X ∨ w.heap.size ≤ k) : W.off Y := fun r hr k hk hm => by
  rcases hY k hm with h1 | h1
  · exact h r hr k hk h1
  · have := (ho.lt hr hk).2; omega
end
theorem own_one {w : World} {base e n : Nat} {v : Value} {xs : List Value} (h : w.ownsRow base e 1 v n xs) : v.oneCell' = true := by
  obtain ⟨A, c, rfl, _⟩ := own_form h; rfl
theorem rqW_one {w : World} {base : Nat} {R : Rq} {vb : Value} (h : (rqW R vb).ok w base) : (rqW R vb).cells.length = 8 ∧ (rqW R vb).cells.toArray.all (·.oneCell') = true := by
  have hv : vb.oneCell' = true := own_one (h _ (List.mem_singleton.2 rfl))
  exact ⟨rfl, by simp [rqW, hv]; simp [Value.oneCell']⟩
theorem anW_one {w : World} {base : Nat} {a : An} {v1 v2 v3 : Value} (h : (anW a v1 v2 v3).ok w base) : (anW a v1 v2 v3).cells.length = 15 ∧ (anW a v1 v2 v3).cells.toArray.all (·.oneCell') = true := by
  have h1 : v1.oneCell' = true := own_one (h _ (List.mem_cons_self ..))
  have h2 : v2.oneCell' = true := own_one (h _ (List.mem_cons_of_mem _ (List.mem_cons_self ..)))
  have h3 : v3.oneCell' = true := own_one (h _ (List.mem_cons_of_mem _ (List.mem_cons_of_mem _ (List.mem_cons_self ..))))
  exact ⟨rfl, by simp [anW, h1, h2, h3]; simp [Value.oneCell']⟩
/-! The steps of a codec reader. -/
theorem redo_val {α : Type} {P : α → Prop} {o : Except Int (α × Nat)} {z : α} {a : Nat} {f : Int} (hz : P z) (h : ∀ v a', o = .ok (v, a') → P v) : P (redo o z a f).1 := by
  unfold redo
  split
  · rcases ho : o with e | ⟨v, a'⟩
    · exact hz
    · exact h v a' ho
  · exact hz
section
variable {w : World} {gr n c : Nat} {A : Option Addr} {s : Nat × Int} {bs : List Nat}
theorem cFix1 (R : Rr w gr A n c s.1 s.2 bs) : Calls Try.prog 126 #[.pointer (some ⟨gr, 0, none⟩)] w fun e w' => ∃ v s', rFix bs 1 s = (v, s') ∧ e = .returned (.int .u8 (v : Int)) ∧ v < 256 ∧ Chg [gr] w w' ∧ Rr w' gr A n c s'.1 s'.2 bs := by
  refine (take_uint8_any w gr n c s.1 s.2 A bs R).mono ?_
  rintro e w' ⟨v, rfl, hc, hk, hR⟩
  unfold KT at hk
  subst hk
  refine ⟨_, _, rfl, rfl, ?_, hc, hR⟩
  refine redo_val (P := fun v => v < 256) (by omega) fun v a' h => ?_
  unfold fixF at h
  split at h
  · rename_i l a2 ht
    cases h
    obtain ⟨e1, e2, e3, e4⟩ := takeF_form _ _ _ _ _ ht
    have := le256_lt l fun x hx => R.lb x (by rw [e1] at hx; exact List.mem_of_mem_drop (List.mem_of_mem_take hx))
    rw [e4] at this; omega
  · cases h
theorem cFix8 (R : Rr w gr A n c s.1 s.2 bs) : Calls Try.prog 127 #[.pointer (some ⟨gr, 0, none⟩)] w fun e w' => ∃ v s', rFix bs 8 s = (v, s') ∧ e = .returned (.int .u64 (v : Int)) ∧ v < 18446744073709551616 ∧ Chg [gr] w w' ∧ Rr w' gr A n c s'.1 s'.2 bs := by
  refine (take_uint64_any w gr n c s.1 s.2 A bs R).mono ?_
  rintro e w' ⟨v, rfl, hc, hk, hR⟩
  unfold KT at hk
  subst hk
  refine ⟨_, _, rfl, rfl, ?_, hc, hR⟩
  refine redo_val (P := fun v => v < 18446744073709551616) (by omega) fun v a' h => ?_
  unfold fixF at h
  split at h
  · rename_i l a2 ht
    cases h
    obtain ⟨e1, e2, e3, e4⟩ := takeF_form _ _ _ _ _ ht
    have := le256_lt l fun x hx => R.lb x (by rw [e1] at hx; exact List.mem_of_mem_drop (List.mem_of_mem_take hx))
    rw [e4] at this; omega
  · cases h
theorem rNum_bd (R : Rr w gr A n c s.1 s.2 bs) : (rNum bs s).1 < 18446744073709551616 := by
  refine redo_val (P := fun v => v < 18446744073709551616) (by omega) fun v a' h => ?_
  have := (numF_hi bs s.1 v a' R.lb h).1
  omega
theorem cNumU (R : Rr w gr A n c s.1 s.2 bs) : Calls Try.prog 128 #[.pointer (some ⟨gr, 0, none⟩)] w fun e w' => ∃ v s', rNum bs s = (v, s') ∧ e = .returned (.int .u64 (v : Int)) ∧ v < 18446744073709551616 ∧ Chg [gr] w w' ∧ Rr w' gr A n c s'.1 s'.2 bs := by
  refine (uvarint_any w gr n c s.1 s.2 A bs R).mono ?_
  rintro e w' ⟨v, rfl, hc, hk, hR⟩
  unfold KNum at hk
  subst hk
  exact ⟨_, _, rfl, rfl, rNum_bd R, hc, hR⟩
theorem cNumV (R : Rr w gr A n c s.1 s.2 bs) : Calls Try.prog 129 #[.pointer (some ⟨gr, 0, none⟩)] w fun e w' => ∃ v s', rNum bs s = (v, s') ∧ e = .returned (.int .i64 (unz (v : Int))) ∧ (-9223372036854775808 ≤ unz (v : Int) ∧ unz (v : Int) ≤ 9223372036854775807) ∧ Chg [gr] w w' ∧ Rr w' gr A n c s'.1 s'.2 bs := by
  refine (varint_any w gr n c s.1 s.2 A bs R).mono ?_
  rintro e w' ⟨v, rfl, hc, hk, hR⟩
  unfold KZag at hk
  subst hk
  have h5 : ∀ v : Nat, v < 18446744073709551616 → -9223372036854775808 ≤ unz (v : Int) ∧ unz (v : Int) ≤ 9223372036854775807 := fun v hv => unz_bd _ (by omega) (by omega)
  exact ⟨_, _, rfl, rfl, h5 _ (rNum_bd R), hc, hR⟩
theorem cBlk (most : Nat) (hm : most ≤ 1048576) (R : Rr w gr A n c s.1 s.2 bs) : Calls Try.prog 131 #[.pointer (some ⟨gr, 0, none⟩), .int .i64 (most : Int)] w fun e w' => ∃ l s' vb cp, rBlk bs (most : Int) s = (l, s') ∧ e = .returned (.slice vb l.length cp) ∧ w'.ownsRow w.heap.size 5 1 (.slice vb l.length cp) l.length (cb l) ∧ Chg [gr] w w' ∧ Rr w' gr A n c s'.1 s'.2 bs := by
  refine (blk_any w gr n c s.1 s.2 A bs (most : Int) (by omega) R).mono ?_
  rintro e w' ⟨v, rfl, hc, hk, hR⟩
  obtain ⟨A', c', rfl, _, _⟩ := own_form hk
  exact ⟨_, _, A', c', rfl, rfl, hk, hc, hR⟩
theorem cTxt (most each : Nat) (hm : most ≤ 1048576) (he : each ≤ 1048576) (R : Rr w gr A n c s.1 s.2 bs) : Calls Try.prog 132 #[.pointer (some ⟨gr, 0, none⟩), .int .i64 (most : Int), .int .i64 (each : Int)] w fun e w' => ∃ l s' vb cp, rTxt bs (most : Int) (each : Int) s = (l, s') ∧ e = .returned (.slice vb l.length cp) ∧ w'.ownsRow w.heap.size 9 1 (.slice vb l.length cp) l.length (cs (l.map bstr)) ∧ Chg [gr] w w' ∧ Rr w' gr A n c s'.1 s'.2 bs := by
  refine (texts_any w gr n c s.1 s.2 A bs (most : Int) (each : Int) (by omega) (by omega) R).mono ?_
  rintro e w' ⟨v, rfl, hc, hk, hR⟩
  unfold KTxt at hk
  obtain ⟨A', c', rfl, _, _⟩ := own_form hk
  exact ⟨_, _, A', c', rfl, rfl, hk, hc, hR⟩
end
theorem infoRq8 : (Try.prog.info? 28).map (·.size) = some 8 := by kernel_rfl
theorem infoAn15 : (Try.prog.info? 43).map (·.size) = some 15 := by kernel_rfl
/-- Where a reading of a message stands: the box of the result, the message's own, the codec's reader. -/
structure QS (w W : World) (t gx gq gr : Nat) (A : Option Addr) (n c : Nat) (s : Nat × Int) (bs : List Nat) (zs : Array Value) (M : Wm) : Prop where
  box : W.heap[gq]? = some (.cells M.cells.toArray t)
  res : W.heap[gx]? = some (.cells zs t)
  rdr : Rr W gr A n c s.1 s.2 bs
  ch : Chg [gr] w W
  ok : M.ok W (gq + 1)
  l1 : gr < w.heap.size
  l2 : w.heap.size ≤ gx
  l3 : gx < gq
section
variable {w W W' : World} {t gx gq gr n c : Nat} {A : Option Addr} {s s' : Nat × Int} {bs : List Nat} {zs : Array Value} {M M' : Wm}
theorem QS.lt (h : QS w W t gx gq gr A n c s bs zs M) : gq < W.heap.size := (Array.getElem?_eq_some_iff.1 h.box).1
/-- A call of the codec's reader. -/
theorem QS.call (h : QS w W t gx gq gr A n c s bs zs M) (hc : Chg [gr] W W') (hR : Rr W' gr A n c s'.1 s'.2 bs) : QS w W' t gx gq gr A n c s' bs zs M where
  box := by rw [hc.block gq h.lt (by have := h.l1; have := h.l2; have := h.l3; simp; omega)]; exact h.box
  res := by rw [hc.block gx (by have := h.lt; have := h.l3; omega) (by have := h.l1; have := h.l2; simp; omega)]; exact h.res
  rdr := hR
  ch := h.ch.trans hc
  ok := h.ok.chg hc fun r hr k hk => by have := (h.ok.lt hr hk).1; have := h.l1; have := h.l2; have := h.l3; simp; omega
  l1 := h.l1
  l2 := h.l2
  l3 := h.l3
theorem QS.below (h : QS w W t gx gq gr A n c s bs zs M) (hb : Chg [] W W') : QS w W' t gx gq gr A n c s bs zs M :=
  h.call (hb.mono (by simp)) (h.rdr.keep hb (by simp) (by simp))
/-- A field is written; a row more may be owned. -/
theorem QS.set (h : QS w W t gx gq gr A n c s bs zs M) (i : Nat) (u : Value) (hM : M'.cells = M.cells.set i u) (hok : M'.ok W (gq + 1)) : QS w (W.setCell ⟨gq, i, none⟩ u) t gx gq gr A n c s bs zs M' where
  box := by rw [heap_set W gq i u _ _ h.box, hM]; simp
  res := by rw [Below.heap_setCell _ _ _ _ (by show gx ≠ gq; have := h.l3; omega)]; exact h.res
  rdr := h.rdr.keep' ((Chg.refl [gq] W).setCell (by simp) u) (by simp; have := h.l1; have := h.l2; have := h.l3; omega)
  ch := h.ch.setNew (by show w.heap.size ≤ gq; have := h.l2; have := h.l3; omega) u
  ok := hok.chg ((Chg.refl [gq] W).setCell (by simp) u) fun r hr k hk => by have := (hok.lt hr hk).1; simp; omega
  l1 := h.l1
  l2 := h.l2
  l3 := h.l3
theorem QS.at_ (h : QS w W t gx gq gr A n c s bs zs M) (i : Nat) {v : Value} (hv : M.cells[i]? = some v) : W.cell? ⟨gq, i, none⟩ = some v := by rw [cell_of_row W gq i _ _ (0, 0) h.box]; simpa using hv
theorem QS.range (h : QS w W t gx gq gr A n c s bs zs M) : W.rangeAt gq 0 M.cells := fun j v hj => by rw [Nat.zero_add]; exact h.at_ j hj
theorem QS.stored (h : QS w W t gx gq gr A n c s bs zs M) {cells : Array Value} (hs : W'.heap[gx]? = some (.cells cells t)) (hg : W.grownBy W' (some gx)) : QS w W' t gx gq gr A n c s bs cells M where
  box := by rw [hg.block gq h.lt (by have := h.l3; intro e; injection e; omega)]; exact h.box
  res := hs
  rdr := h.rdr.keep' (L := [gx]) ⟨hg.os, hg.tape, hg.output, hg.size, fun k hk hm => hg.block k hk (by simpa using hm)⟩ (by simp; have := h.l1; have := h.l2; omega)
  ch := ⟨hg.os.trans h.ch.os, hg.tape.trans h.ch.tape, hg.output.trans h.ch.output, Nat.le_trans h.ch.size hg.size, fun k hk hm => (hg.block k (Nat.lt_of_lt_of_le hk h.ch.size) (by have := h.l2; intro e; injection e; omega)).trans (h.ch.block k hk hm)⟩
  ok := h.ok.chg (X := [gx]) ⟨hg.os, hg.tape, hg.output, hg.size, fun k hk hm => hg.block k hk (by simpa using hm)⟩ fun r hr k hk => by have := (h.ok.lt hr hk).1; have := h.l3; simp; omega
  l1 := h.l1
  l2 := h.l2
  l3 := h.l3
theorem QS.z (h : QS w W t gx gq gr A n c s bs zs M) (i : Nat) : W.frozen? ⟨gq, i, none⟩ = false := by simp [World.frozen?, h.box]
end
/-- A whole value laid into a box, as a step of a region that draws its order. -/
theorem step_store {P : Program} {ops : Array Oper} {o : Oper} {a : Act} {w : World} {K : Act → World → Prop} {Q : Exit → Act → World → Prop} {Z : Prop} (hgd : o.guard = none) (ty : TypeId) (x y : Operand) (ho : o.op = .store ty x y)
    (g : Nat) (cells : Array Value) (hx : a.eval x = .pointer (some ⟨g, 0, none⟩)) (hy : a.eval y = .agg cells) (t : TypeId) (old : Array Value) (hg : w.heap[g]? = some (.cells old t (0, 0))) (hi : (P.info? ty).map (·.size) = some cells.size)
    (hold : old.size = cells.size) (h1 : cells.all (·.oneCell') = true)
    (h : ∀ w2, w2.heap[g]? = some (.cells cells t (0, 0)) → w.grownBy w2 (some g) → K (a.put o.dst undef) w2) : if Region.wanted o (yielded ops a.tmps) = true then Oper.wp P o a w K Q else Z := by
  have hw : Region.wanted o (yielded ops a.tmps) = true := by simp [Region.wanted, hgd]
  rw [if_pos hw]
  exact wp_store_row ty x y ho g cells hx hy t old hg hi hold h1 (h _ (setRow_heap _ _ _ _ _ _ hg) ⟨rfl, rfl, rfl, by simp [World.setRow], fun k _ hk => setRow_other w g k cells (fun e => hk (by rw [e]))⟩)
/-- What a reading of a message answers. -/
def MsgPost (T : Type) (rd : List Nat → Option T) (is : Wm → T → Prop) (m : Nat) (w : World) (gr : Nat) (bs : List Nat) (e : Ending) (w' : World) : Prop :=
  ∃ (W : Wm) (ok : Bool), e = .returned (.tuple #[.agg W.cells.toArray, .bool ok]) ∧ Chg [gr] w w' ∧ W.cells.length = m ∧ W.cells.toArray.all (·.oneCell') = true ∧ ((∃ x, ok = true ∧ rd bs = some x ∧ is W x ∧ W.ok w' w.heap.size) ∨ (ok = false ∧ rd bs = none))
end Go.Proofs.Ytbcmjjcbjojakaa
end
section
/- Contract of wire.request. (tools/rqwgen.py prints it.) -/
namespace Go.Proofs.Ytbcmjjcbjojakaa
open Go.RowKit
set_option linter.unusedVariables false
set_option linter.unusedSimpArgs false
def rq0 : Array Value := #[.int .i64 0, .int .u64 0, .string emS, .string emS, .int .i64 0, .int .i64 0, .int .i64 0, .slice none 0 0]
def rqX (k tag : Nat) (l3 l5 : List Nat) (v6 v8 v7 : Nat) (l4 : List Nat) : Rq := ⟨(k : Int), tag, bstr l3, bstr l5, unz (v6 : Int), unz (v8 : Int), unz (v7 : Int), l4⟩
theorem nil_ok (w : World) (base : Nat) (k tag : Nat) (l3 l5 : List Nat) (v6 v8 v7 : Nat) : (rqW (rqX k tag l3 l5 v6 v8 v7 []) (.slice none 0 0)).ok w base := fun r hr => by
  rw [List.mem_singleton.1 hr]; exact World.ownsRow_nil _ _ _ _
theorem bod_ok {w : World} {base : Nat} {k tag : Nat} {l3 l5 : List Nat} {v6 v8 v7 : Nat} {vb : Value} {l : List Nat} (h : w.ownsRow base 5 1 vb l.length (cb l)) : (rqW (rqX k tag l3 l5 v6 v8 v7 l) vb).ok w base := fun r hr => by
  rw [List.mem_singleton.1 hr]; simp only [cb_length]; exact h
set_option maxRecDepth 20000 in
set_option maxHeartbeats 8000000 in
theorem request_any (w : World) (gr n c : Nat) (A : Option Addr) (bs : List Nat) (R : Rr w gr A n c 0 0 bs) :
    Calls Try.prog 115 #[.pointer (some ⟨gr, 0, none⟩)] w (MsgPost Rq rdRq rqIs 8 w gr bs) := by
  have HR := Hd.mk R
  have hlt := R.lt
  obtain ⟨gx, hgx⟩ : ∃ gx, w.heap.size = gx := ⟨_, rfl⟩
  obtain ⟨w0, hw0⟩ : ∃ W, w.alloc (.cells #[.int .i64 0, .int .u64 0, .string emS, .string emS, .int .i64 0, .int .i64 0, .int .i64 0, .slice none 0 0] 28) = W := ⟨_, rfl⟩
  have H0 : Hd (Rr w0 gr A n c (0, 0).1 (0, 0).2 bs ∧ w0.heap[gx]? = some (.cells rq0 28) ∧ Chg [gr] w w0 ∧ gr < gx ∧ gx < w0.heap.size) := ⟨by rw [← hw0]; exact R.keep ((Chg.refl [] w).alloc _) (by simp) (by simp), by rw [← hw0, ← hgx]; exact heap_alloc_new w _, by rw [← hw0]; exact (Chg.refl _ w).alloc _, by omega, by rw [← hw0]; simp; omega⟩
  have HG := Hd.mk hgx
  clear R hlt hgx
  go_enter Try.func115, Try.ntmps115
  go_upto_region 1 with fail
  have hz : (⟨#[]⟩ : ByteArray) = emS := rfl
  try rw [hz]
  rw [hw0, HG.out]
  clear hw0 hz
  go_wp2_with fail
  refine (cFix1 (s := (0, 0)) H0.out.1).mono ?_
  rintro e w1 ⟨v1, s1, e1, rfl, hv1, hc, hR⟩
  have H1 : Hd (Rr w1 gr A n c s1.1 s1.2 bs ∧ w1.heap[gx]? = some (.cells rq0 28) ∧ Chg [gr] w w1 ∧ gr < gx ∧ gx < w1.heap.size) := ⟨hR, by rw [hc.block gx H0.out.2.2.2.2 (by have := H0.out.2.2.2.1; simp; omega)]; exact H0.out.2.1, H0.out.2.2.1.trans hc, H0.out.2.2.2.1, Nat.lt_of_lt_of_le H0.out.2.2.2.2 hc.size⟩
  have E1 := Hd.mk e1
  clear hc hR e1 H0
  go_wp2_with fail
  refine (cFix8 (s := s1) H1.out.1).mono ?_
  rintro e w2 ⟨v2, s2, e2, rfl, hv2, hc, hR⟩
  have H2 : Hd (Rr w2 gr A n c s2.1 s2.2 bs ∧ w2.heap[gx]? = some (.cells rq0 28) ∧ Chg [gr] w w2 ∧ gr < gx ∧ gx < w2.heap.size) := ⟨hR, by rw [hc.block gx H1.out.2.2.2.2 (by have := H1.out.2.2.2.1; simp; omega)]; exact H1.out.2.1, H1.out.2.2.1.trans hc, H1.out.2.2.2.1, Nat.lt_of_lt_of_le H1.out.2.2.2.2 hc.size⟩
  have E2 := Hd.mk e2
  clear hc hR e2 H1
  go_upto_region 2 with (refine at_store (x := .tmp 4) ?_; refine wpList_boxed rfl 28 (.tmp 4) (.tmp 12) rfl w2.heap.size rfl (rqW (rqX v1 v2 [] [] 0 0 0 []) (.slice none 0 0)).cells.toArray rfl rfl infoRq8 rfl (by simp [rqW, rqX, Value.oneCell']) ?_; intro w3 hB3)
  obtain ⟨gq, hgq⟩ : ∃ gq, w2.heap.size = gq := ⟨_, rfl⟩
  rw [hgq] at hB3 ⊢
  have hc3 : Chg [gr] w2 w3 := ⟨hB3.out.2.1.os, hB3.out.2.1.tape, hB3.out.2.1.output, hB3.out.2.1.size, fun k hk _ => hB3.out.2.1.block k (by omega)⟩
  have H3 : Hd (QS w w3 28 gx gq gr A n c s2 bs rq0 (rqW (rqX v1 v2 [] [] 0 0 0 []) (.slice none 0 0))) := ⟨hB3.out.1, by rw [hc3.block gx H2.out.2.2.2.2 (by have := H2.out.2.2.2.1; simp; omega)]; exact H2.out.2.1, H2.out.1.keep (L := []) ⟨hc3.os, hc3.tape, hc3.output, hc3.size, fun k hk _ => hB3.out.2.1.block k (by omega)⟩ (by simp) (by simp), H2.out.2.2.1.trans hc3, nil_ok _ _ _ _ _ _ _ _ _, by have := HG.out; have := H2.out.2.2.2.1; omega, by have := HG.out; omega, by have := H2.out.2.2.2.2; omega⟩
  clear hB3 hc3 hgq H2
  have c0 := H3.out.at_ 0 rfl
  go_wp2_with fail
  clear c0
  obtain ⟨b1, h1⟩ : ∃ b, cKey (v1 : Int) = b := ⟨_, rfl⟩
  obtain ⟨b2, h2⟩ : ∃ b, cBody (v1 : Int) = b := ⟨_, rfl⟩
  obtain ⟨b3, h3⟩ : ∃ b, cAfter (v1 : Int) = b := ⟨_, rfl⟩
  obtain ⟨b4, h4⟩ : ∃ b, cOff (v1 : Int) = b := ⟨_, rfl⟩
  obtain ⟨b5, h5⟩ : ∃ b, cNum (v1 : Int) = b := ⟨_, rfl⟩
  obtain ⟨b6, h6⟩ : ∃ b, cDelim (v1 : Int) = b := ⟨_, rfl⟩
  obtain ⟨b7, h7⟩ : ∃ b, decide (1 ≤ (v1 : Int) ∧ (v1 : Int) ≤ 8) = b := ⟨_, rfl⟩
  have HK : Hd (cKey (v1 : Int) = b1 ∧ cBody (v1 : Int) = b2 ∧ cAfter (v1 : Int) = b3 ∧ cOff (v1 : Int) = b4 ∧ cNum (v1 : Int) = b5 ∧ cDelim (v1 : Int) = b6 ∧ decide (1 ≤ (v1 : Int) ∧ (v1 : Int) ≤ 8) = b7) := ⟨h1, h2, h3, h4, h5, h6, h7⟩
  clear h1 h2 h3 h4 h5 h6 h7
  refine (counts_to _ (v1 : Int) 0 b1 b2 b3 b4 b5 b6 b7 HK.out).mono ?_
  rintro e w4 ⟨rfl, hb⟩
  have H4 := Hd.mk (H3.out.below ⟨hb.os, hb.tape, hb.output, hb.size, fun k hk _ => hb.block k hk⟩)
  clear hb H3
  go_upto_region 3 with (refine at_store (x := .tmp 5) ?_; refine wpList_boxed rfl 114 (.tmp 5) (.tmp 17) rfl w4.heap.size rfl #[.bool b1, .bool b2, .bool b3, .bool b4, .bool b5, .bool b6] rfl rfl infoC rfl (by simp [Value.oneCell']) ?_; intro w5 hB5)
  obtain ⟨gc, hgc⟩ : ∃ gc, w4.heap.size = gc := ⟨_, rfl⟩
  rw [hgc] at hB5 ⊢
  have H5 : Hd (QS w w5 28 gx gq gr A n c s2 bs rq0 (rqW (rqX v1 v2 [] [] 0 0 0 []) (.slice none 0 0)) ∧ w5.heap[gc]? = some (.cells #[.bool b1, .bool b2, .bool b3, .bool b4, .bool b5, .bool b6] 114) ∧ gq < gc) := ⟨H4.out.below ⟨hB5.out.2.1.os, hB5.out.2.1.tape, hB5.out.2.1.output, hB5.out.2.1.size, fun k hk _ => hB5.out.2.1.block k (by omega)⟩, hB5.out.1, by have := H4.out.lt; omega⟩
  clear hB5 hgc H4
  rcases hb7 : b7 with _ | _
  · subst hb7
    have HNO : Hd (rdRq bs = none) := ⟨by
      have hk : ¬ (1 ≤ (v1 : Int) ∧ (v1 : Int) ≤ 8) := of_decide_eq_false HK.out.2.2.2.2.2.2
      unfold rdRq
      simp only [E1.out, E2.out]
      rw [if_neg (fun h => hk ⟨h.1, h.2.1⟩)]⟩
    clear HK
    have hrow := H5.out.1.res
    have hch := Hd.mk H5.out.1.ch
    clear H5
    go_wp2_with (refine at_store (x := .tmp 2) ?_; refine wpList_stored rfl 28 (.tmp 2) (.tmp 21) rfl gx rq0 rfl rfl 28 rq0 hrow infoRq8 rfl (by simp [rq0, Value.oneCell']) ?_; intro w6 hB6)
    (try simp only [Exit.inBlock, Exit.then])
    refine bodyPost_ret (results_cell_tmp rfl _ _ gx 28 rq0 (0, 0) _ rfl hB6.out.1 Try.underlying28 rfl infoRq8) rfl ?_
    exact ⟨⟨rq0.toList, []⟩, false, rfl, ⟨hB6.out.2.1.os.trans hch.out.os, hB6.out.2.1.tape.trans hch.out.tape, hB6.out.2.1.output.trans hch.out.output, Nat.le_trans hch.out.size hB6.out.2.1.size, fun k hk hm => (hB6.out.2.1.block k (Nat.lt_of_lt_of_le hk hch.out.size) (by have := HG.out; intro h; injection h; omega)).trans (hch.out.block k hk hm)⟩, rfl, by simp [rq0, Value.oneCell'], .inr ⟨rfl, HNO.out⟩⟩
  subst hb7
  have HYES : Hd (1 ≤ (v1 : Int) ∧ (v1 : Int) ≤ 8) := ⟨of_decide_eq_true HK.out.2.2.2.2.2.2⟩
  have ct0 : ∀ W : World, W.heap[gc]? = some (.cells #[.bool b1, .bool b2, .bool b3, .bool b4, .bool b5, .bool b6] 114) → ∀ i, W.cell? ⟨gc, i, none⟩ = (#[.bool b1, .bool b2, .bool b3, .bool b4, .bool b5, .bool b6] : Array Value)[i]? := fun W h i => cell_of_row W gc i _ _ (0, 0) h
  have HCT := Hd.mk ct0
  clear ct0
  have e0 : w5.cell? ⟨gc, 0, none⟩ = some (.bool b1) := (HCT.out w5 H5.out.2.1 0).trans rfl
  go_upto_if 23 with fail
  go_cut [] from 22 (fun wx => ∃ (l3' : List Nat) (s' : Nat × Int), opt b1 [] (rBlk bs 1024) s2 = (l3', s') ∧ QS w wx 28 gx gq gr A n c s' bs rq0 (rqW (rqX v1 v2 l3' [] 0 0 0 []) (.slice none 0 0)) ∧ wx.heap[gc]? = some (.cells #[.bool b1, .bool b2, .bool b3, .bool b4, .bool b5, .bool b6] 114) ∧ gq < gc)
  case first =>
    clear HYES HK
    rcases hb : b1 with _ | _
    · subst hb
      go_wp2_with fail
      go_meet
      case rel => exact ⟨[], s2, rfl, H5.out⟩
    · subst hb
      clear e0
      go_wp2_with fail
      refine (cBlk (s := s2) 1024 (by omega) H5.out.1.rdr).mono ?_
      rintro e wz ⟨lz, sz, vz, cz, ez, rfl, hoz, hc, hR⟩
      have HZ : Hd (QS w wz 28 gx gq gr A n c sz bs rq0 (rqW (rqX v1 v2 [] [] 0 0 0 []) (.slice none 0 0)) ∧ wz.heap[gc]? = some (.cells #[.bool true, .bool b2, .bool b3, .bool b4, .bool b5, .bool b6] 114) ∧ gq < gc) := ⟨H5.out.1.call hc hR, by rw [hc.block gc (Array.getElem?_eq_some_iff.1 H5.out.2.1).1 (by have := H5.out.1.l1; have := H5.out.1.l2; have := H5.out.1.l3; have := H5.out.2.2; simp; omega)]; exact H5.out.2.1, H5.out.2.2⟩
      have EZ := Hd.mk ez
      have hcv : (convert 26 9 (.slice vz lz.length cz)).run Try.prog wz = .ok (.string (bstr lz)) wz := conv_any (Rd.of_own hoz)
      generalize hS : bstr lz = S at hcv
      have HS := Hd.mk hS
      clear hS hoz hc hR ez
      have d0 : wz.cell? ⟨gq, 2, none⟩ = some (.string emS) := HZ.out.1.at_ 2 rfl
      have d1 := HZ.out.1.z 2
      go_wp2_with fail
      go_meet
      case rel =>
        rw [← HS.out]
        exact ⟨lz, sz, EZ.out, HZ.out.1.set (M' := (rqW (rqX v1 v2 lz [] 0 0 0 []) (.slice none 0 0))) 2 (.string (bstr lz)) rfl (fun r hr => HZ.out.1.ok r hr), by rw [Below.heap_setCell _ _ _ _ (by show gc ≠ gq; have := HZ.out.2.2; omega)]; exact HZ.out.2.1, HZ.out.2.2⟩
  case rest =>
    obtain ⟨l3, s3, e3, hQ⟩ := hcut
    have E3 := Hd.mk e3
    have HB3 := Hd.mk hQ
    clear hQ e3 H5 e0
    obtain ⟨W3, hW3⟩ : ∃ W : World, wc = W := ⟨_, rfl⟩
    subst hW3
    have e0 : wc.cell? ⟨gc, 1, none⟩ = some (.bool b2) := (HCT.out wc HB3.out.2.1 1).trans rfl
    go_upto_if 29 with fail
    go_cut [] from 28 (fun wx => ∃ (l4' : List Nat) (s' : Nat × Int) (vb' : Value), opt b2 [] (rBlk bs 1048576) s3 = (l4', s') ∧ QS w wx 28 gx gq gr A n c s' bs rq0 (rqW (rqX v1 v2 l3 [] 0 0 0 l4') vb') ∧ wx.heap[gc]? = some (.cells #[.bool b1, .bool b2, .bool b3, .bool b4, .bool b5, .bool b6] 114) ∧ gq < gc)
    case first =>
      clear HYES HK
      rcases hb : b2 with _ | _
      · subst hb
        go_wp2_with fail
        go_meet
        case rel => exact ⟨[], s3, (.slice none 0 0), rfl, HB3.out⟩
      · subst hb
        clear e0
        go_wp2_with fail
        refine (cBlk (s := s3) 1048576 (by omega) HB3.out.1.rdr).mono ?_
        rintro e wz ⟨lz, sz, vz, cz, ez, rfl, hoz, hc, hR⟩
        have HZ : Hd (QS w wz 28 gx gq gr A n c sz bs rq0 (rqW (rqX v1 v2 l3 [] 0 0 0 []) (.slice none 0 0)) ∧ wz.heap[gc]? = some (.cells #[.bool b1, .bool true, .bool b3, .bool b4, .bool b5, .bool b6] 114) ∧ gq < gc) := ⟨HB3.out.1.call hc hR, by rw [hc.block gc (Array.getElem?_eq_some_iff.1 HB3.out.2.1).1 (by have := HB3.out.1.l1; have := HB3.out.1.l2; have := HB3.out.1.l3; have := HB3.out.2.2; simp; omega)]; exact HB3.out.2.1, HB3.out.2.2⟩
        have EZ := Hd.mk ez
        have HOZ := Hd.mk (own_base hoz (base' := gq + 1) HB3.out.1.lt)
        clear hoz hc hR ez
        have d0 : wz.cell? ⟨gq, 7, none⟩ = some (.slice none 0 0) := HZ.out.1.at_ 7 rfl
        have d1 := HZ.out.1.z 7
        go_wp2_with fail
        go_meet
        case rel =>
          exact ⟨lz, sz, _, EZ.out, HZ.out.1.set (M' := (rqW (rqX v1 v2 l3 [] 0 0 0 lz) (.slice vz lz.length cz))) 7 (.slice vz lz.length cz) rfl (bod_ok HOZ.out), by rw [Below.heap_setCell _ _ _ _ (by show gc ≠ gq; have := HZ.out.2.2; omega)]; exact HZ.out.2.1, HZ.out.2.2⟩
    case rest =>
      obtain ⟨l4, s4, vb, e4, hQ⟩ := hcut
      have E4 := Hd.mk e4
      have HB4 := Hd.mk hQ
      clear hQ e4 HB3 e0
      obtain ⟨W4, hW4⟩ : ∃ W : World, wc = W := ⟨_, rfl⟩
      subst hW4
      have e0 : wc.cell? ⟨gc, 2, none⟩ = some (.bool b3) := (HCT.out wc HB4.out.2.1 2).trans rfl
      go_upto_if 34 with fail
      go_cut [] from 33 (fun wx => ∃ (l5' : List Nat) (s' : Nat × Int), opt b3 [] (rBlk bs 1024) s4 = (l5', s') ∧ QS w wx 28 gx gq gr A n c s' bs rq0 (rqW (rqX v1 v2 l3 l5' 0 0 0 l4) vb) ∧ wx.heap[gc]? = some (.cells #[.bool b1, .bool b2, .bool b3, .bool b4, .bool b5, .bool b6] 114) ∧ gq < gc)
      case first =>
        clear HYES HK
        rcases hb : b3 with _ | _
        · subst hb
          go_wp2_with fail
          go_meet
          case rel => exact ⟨[], s4, rfl, HB4.out⟩
        · subst hb
          clear e0
          go_wp2_with fail
          refine (cBlk (s := s4) 1024 (by omega) HB4.out.1.rdr).mono ?_
          rintro e wz ⟨lz, sz, vz, cz, ez, rfl, hoz, hc, hR⟩
          have HZ : Hd (QS w wz 28 gx gq gr A n c sz bs rq0 (rqW (rqX v1 v2 l3 [] 0 0 0 l4) vb) ∧ wz.heap[gc]? = some (.cells #[.bool b1, .bool b2, .bool true, .bool b4, .bool b5, .bool b6] 114) ∧ gq < gc) := ⟨HB4.out.1.call hc hR, by rw [hc.block gc (Array.getElem?_eq_some_iff.1 HB4.out.2.1).1 (by have := HB4.out.1.l1; have := HB4.out.1.l2; have := HB4.out.1.l3; have := HB4.out.2.2; simp; omega)]; exact HB4.out.2.1, HB4.out.2.2⟩
          have EZ := Hd.mk ez
          have hcv : (convert 26 9 (.slice vz lz.length cz)).run Try.prog wz = .ok (.string (bstr lz)) wz := conv_any (Rd.of_own hoz)
          generalize hS : bstr lz = S at hcv
          have HS := Hd.mk hS
          clear hS hoz hc hR ez
          have d0 : wz.cell? ⟨gq, 3, none⟩ = some (.string emS) := HZ.out.1.at_ 3 rfl
          have d1 := HZ.out.1.z 3
          go_wp2_with fail
          go_meet
          case rel =>
            rw [← HS.out]
            exact ⟨lz, sz, EZ.out, HZ.out.1.set (M' := (rqW (rqX v1 v2 l3 lz 0 0 0 l4) vb)) 3 (.string (bstr lz)) rfl (fun r hr => HZ.out.1.ok r hr), by rw [Below.heap_setCell _ _ _ _ (by show gc ≠ gq; have := HZ.out.2.2; omega)]; exact HZ.out.2.1, HZ.out.2.2⟩
      case rest =>
        obtain ⟨l5, s5, e5, hQ⟩ := hcut
        have E5 := Hd.mk e5
        have HB5 := Hd.mk hQ
        clear hQ e5 HB4 e0
        obtain ⟨W5, hW5⟩ : ∃ W : World, wc = W := ⟨_, rfl⟩
        subst hW5
        have e0 : wc.cell? ⟨gc, 3, none⟩ = some (.bool b4) := (HCT.out wc HB5.out.2.1 3).trans rfl
        go_upto_if 40 with fail
        go_cut [] from 39 (fun wx => ∃ (v6' : Nat) (s' : Nat × Int), opt b4 0 (rNum bs) s5 = (v6', s') ∧ QS w wx 28 gx gq gr A n c s' bs rq0 (rqW (rqX v1 v2 l3 l5 v6' 0 0 l4) vb) ∧ wx.heap[gc]? = some (.cells #[.bool b1, .bool b2, .bool b3, .bool b4, .bool b5, .bool b6] 114) ∧ gq < gc)
        case first =>
          clear HYES HK
          rcases hb : b4 with _ | _
          · subst hb
            go_wp2_with fail
            go_meet
            case rel => exact ⟨0, s5, rfl, HB5.out⟩
          · subst hb
            clear e0
            go_wp2_with fail
            refine (cNumV (s := s5) HB5.out.1.rdr).mono ?_
            rintro e wz ⟨vz, sz, ez, rfl, hzb, hc, hR⟩
            have HZ : Hd (QS w wz 28 gx gq gr A n c sz bs rq0 (rqW (rqX v1 v2 l3 l5 0 0 0 l4) vb) ∧ wz.heap[gc]? = some (.cells #[.bool b1, .bool b2, .bool b3, .bool true, .bool b5, .bool b6] 114) ∧ gq < gc) := ⟨HB5.out.1.call hc hR, by rw [hc.block gc (Array.getElem?_eq_some_iff.1 HB5.out.2.1).1 (by have := HB5.out.1.l1; have := HB5.out.1.l2; have := HB5.out.1.l3; have := HB5.out.2.2; simp; omega)]; exact HB5.out.2.1, HB5.out.2.2⟩
            have EZ := Hd.mk ez
            obtain ⟨u, hu⟩ : ∃ u, unz (vz : Int) = u := ⟨_, rfl⟩
            rw [hu] at hzb ⊢
            have HU := Hd.mk hu
            clear hu hc hR ez
            have d0 : wz.cell? ⟨gq, 4, none⟩ = some (.int .i64 0) := HZ.out.1.at_ 4 rfl
            have d1 := HZ.out.1.z 4
            go_wp2_with fail
            go_meet
            case rel =>
              rw [← HU.out]
              exact ⟨vz, sz, EZ.out, HZ.out.1.set (M' := (rqW (rqX v1 v2 l3 l5 vz 0 0 l4) vb)) 4 (.int .i64 (unz (vz : Int))) rfl (fun r hr => HZ.out.1.ok r hr), by rw [Below.heap_setCell _ _ _ _ (by show gc ≠ gq; have := HZ.out.2.2; omega)]; exact HZ.out.2.1, HZ.out.2.2⟩
        case rest =>
          obtain ⟨v6, s6, e6, hQ⟩ := hcut
          have E6 := Hd.mk e6
          have HB6 := Hd.mk hQ
          clear hQ e6 HB5 e0
          obtain ⟨W6, hW6⟩ : ∃ W : World, wc = W := ⟨_, rfl⟩
          subst hW6
          have e0 : wc.cell? ⟨gc, 5, none⟩ = some (.bool b6) := (HCT.out wc HB6.out.2.1 5).trans rfl
          go_upto_if 45 with fail
          go_cut [] from 44 (fun wx => ∃ (v7' : Nat) (s' : Nat × Int), opt b6 0 (rNum bs) s6 = (v7', s') ∧ QS w wx 28 gx gq gr A n c s' bs rq0 (rqW (rqX v1 v2 l3 l5 v6 0 v7' l4) vb) ∧ wx.heap[gc]? = some (.cells #[.bool b1, .bool b2, .bool b3, .bool b4, .bool b5, .bool b6] 114) ∧ gq < gc)
          case first =>
            clear HYES HK
            rcases hb : b6 with _ | _
            · subst hb
              go_wp2_with fail
              go_meet
              case rel => exact ⟨0, s6, rfl, HB6.out⟩
            · subst hb
              clear e0
              go_wp2_with fail
              refine (cNumV (s := s6) HB6.out.1.rdr).mono ?_
              rintro e wz ⟨vz, sz, ez, rfl, hzb, hc, hR⟩
              have HZ : Hd (QS w wz 28 gx gq gr A n c sz bs rq0 (rqW (rqX v1 v2 l3 l5 v6 0 0 l4) vb) ∧ wz.heap[gc]? = some (.cells #[.bool b1, .bool b2, .bool b3, .bool b4, .bool b5, .bool true] 114) ∧ gq < gc) := ⟨HB6.out.1.call hc hR, by rw [hc.block gc (Array.getElem?_eq_some_iff.1 HB6.out.2.1).1 (by have := HB6.out.1.l1; have := HB6.out.1.l2; have := HB6.out.1.l3; have := HB6.out.2.2; simp; omega)]; exact HB6.out.2.1, HB6.out.2.2⟩
              have EZ := Hd.mk ez
              obtain ⟨u, hu⟩ : ∃ u, unz (vz : Int) = u := ⟨_, rfl⟩
              rw [hu] at hzb ⊢
              have HU := Hd.mk hu
              clear hu hc hR ez
              have d0 : wz.cell? ⟨gq, 6, none⟩ = some (.int .i64 0) := HZ.out.1.at_ 6 rfl
              have d1 := HZ.out.1.z 6
              go_wp2_with fail
              go_meet
              case rel =>
                rw [← HU.out]
                exact ⟨vz, sz, EZ.out, HZ.out.1.set (M' := (rqW (rqX v1 v2 l3 l5 v6 0 vz l4) vb)) 6 (.int .i64 (unz (vz : Int))) rfl (fun r hr => HZ.out.1.ok r hr), by rw [Below.heap_setCell _ _ _ _ (by show gc ≠ gq; have := HZ.out.2.2; omega)]; exact HZ.out.2.1, HZ.out.2.2⟩
          case rest =>
            obtain ⟨v7, s7, e7, hQ⟩ := hcut
            have E7 := Hd.mk e7
            have HB7 := Hd.mk hQ
            clear hQ e7 HB6 e0
            obtain ⟨W7, hW7⟩ : ∃ W : World, wc = W := ⟨_, rfl⟩
            subst hW7
            have e0 : wc.cell? ⟨gc, 4, none⟩ = some (.bool b5) := (HCT.out wc HB7.out.2.1 4).trans rfl
            go_upto_if 50 with fail
            go_cut [] from 49 (fun wx => ∃ (v8' : Nat) (s' : Nat × Int), opt b5 0 (rNum bs) s7 = (v8', s') ∧ QS w wx 28 gx gq gr A n c s' bs rq0 (rqW (rqX v1 v2 l3 l5 v6 v8' v7 l4) vb) ∧ wx.heap[gc]? = some (.cells #[.bool b1, .bool b2, .bool b3, .bool b4, .bool b5, .bool b6] 114) ∧ gq < gc)
            case first =>
              clear HYES HK
              rcases hb : b5 with _ | _
              · subst hb
                go_wp2_with fail
                go_meet
                case rel => exact ⟨0, s7, rfl, HB7.out⟩
              · subst hb
                clear e0
                go_wp2_with fail
                refine (cNumV (s := s7) HB7.out.1.rdr).mono ?_
                rintro e wz ⟨vz, sz, ez, rfl, hzb, hc, hR⟩
                have HZ : Hd (QS w wz 28 gx gq gr A n c sz bs rq0 (rqW (rqX v1 v2 l3 l5 v6 0 v7 l4) vb) ∧ wz.heap[gc]? = some (.cells #[.bool b1, .bool b2, .bool b3, .bool b4, .bool true, .bool b6] 114) ∧ gq < gc) := ⟨HB7.out.1.call hc hR, by rw [hc.block gc (Array.getElem?_eq_some_iff.1 HB7.out.2.1).1 (by have := HB7.out.1.l1; have := HB7.out.1.l2; have := HB7.out.1.l3; have := HB7.out.2.2; simp; omega)]; exact HB7.out.2.1, HB7.out.2.2⟩
                have EZ := Hd.mk ez
                obtain ⟨u, hu⟩ : ∃ u, unz (vz : Int) = u := ⟨_, rfl⟩
                rw [hu] at hzb ⊢
                have HU := Hd.mk hu
                clear hu hc hR ez
                have d0 : wz.cell? ⟨gq, 5, none⟩ = some (.int .i64 0) := HZ.out.1.at_ 5 rfl
                have d1 := HZ.out.1.z 5
                go_wp2_with fail
                go_meet
                case rel =>
                  rw [← HU.out]
                  exact ⟨vz, sz, EZ.out, HZ.out.1.set (M' := (rqW (rqX v1 v2 l3 l5 v6 vz v7 l4) vb)) 5 (.int .i64 (unz (vz : Int))) rfl (fun r hr => HZ.out.1.ok r hr), by rw [Below.heap_setCell _ _ _ _ (by show gc ≠ gq; have := HZ.out.2.2; omega)]; exact HZ.out.2.1, HZ.out.2.2⟩
            case rest =>
              obtain ⟨v8, s8, e8, hQ⟩ := hcut
              have E8 := Hd.mk e8
              have HB8 := Hd.mk hQ
              clear hQ e8 HB7 e0
              obtain ⟨W8, hW8⟩ : ∃ W : World, wc = W := ⟨_, rfl⟩
              subst hW8
              go_upto_region 17 with fail
              have HW := Hd.mk HB8.out.1
              clear HB8
              obtain ⟨M, hM⟩ : ∃ M, (rqW (rqX v1 v2 l3 l5 v6 v8 v7 l4) vb) = M := ⟨_, rfl⟩
              have HM1 : Hd (M.cells.length = 8 ∧ M.cells.toArray.all (·.oneCell') = true) := ⟨by rw [← hM]; exact rqW_one HW.out.ok⟩
              have HMI : Hd (rqIs M (rqX v1 v2 l3 l5 v6 v8 v7 l4)) := ⟨vb, hM.symm⟩
              rw [hM] at HW
              clear hM
              obtain ⟨fe, hfe⟩ : ∃ f, endF n s8.1 s8.2 = f := ⟨_, rfl⟩
              have HFE := Hd.mk hfe
              have hn : bs.length = n := HW.out.rdr.len
              have HRD : Hd (rdRq bs = if fe = 0 then some (rqX v1 v2 l3 l5 v6 v8 v7 l4) else none) := ⟨by
                unfold rdRq
                simp only [E1.out, E2.out, HK.out.1, HK.out.2.1, HK.out.2.2.1, HK.out.2.2.2.1, HK.out.2.2.2.2.1, HK.out.2.2.2.2.2.1, E3.out, E4.out, E5.out, E6.out, E7.out, E8.out]
                rw [hn, hfe]
                by_cases h0 : fe = 0
                · rw [if_pos h0, if_pos ⟨HYES.out.1, HYES.out.2, h0⟩]; rfl
                · rw [if_neg h0, if_neg (fun h => h0 h.2.2)]⟩
              clear hn HK E1 E2 E3 E4 E5 E6 E7 E8 hfe
              refine wp_region_held_drew (S := fun W => ∃ zs : Array Value, zs.size = 8 ∧ QS w W 28 gx gq gr A n c s8 bs zs M) (by kernel_rfl) ⟨rq0, rfl, HW.out.below (Chg.refl _ _).drew⟩ (fun hHeld => ?_)
              refine wpAnyH_take (i := 0) (oi := ?oiR1) (v := .agg M.cells.toArray) ?hiR1 (by kernel_rfl) (by kernel_rfl) (by kernel_rfl) ?hQR1 ?hyR1 (by assumption) ?restR1
              case hiR1 => simp only [List.getElem?_toArray, List.getElem?_cons_succ, List.getElem?_cons_zero]; rfl
              case hQR1 => exact fun _ _ _ h => h
              case hyR1 => exact yieldsIf_load_mid rfl 28 (.tmp 4) rfl gq 0 rfl M.cells _ (fun W hW => let ⟨_, _, h⟩ := hW; h.range) Try.underlying28 rfl (by rw [infoRq8, HM1.out.1])
              simp only [Act.put, List.setIfInBounds_toArray, List.set_cons_zero, List.set_cons_succ]
              refine wpAnyH_take (i := 1) (oi := ?oi101) (v := ?v101) ?hi101 (by kernel_rfl) (by kernel_rfl) (by kernel_rfl) ?hQ101 (Or.inl ⟨?hw101, ?hy101⟩) (by assumption) ?rest101
              case hi101 => simp only [List.getElem?_toArray, List.getElem?_cons_succ, List.getElem?_cons_zero]; rfl
              case hQ101 => exact fun _ _ _ h => h
              case hw101 => rfl
              case hy101 => (intro W hW; skip; go_simp; all_goals rfl)
              simp only [Act.put, List.setIfInBounds_toArray, List.set_cons_zero, List.set_cons_succ]
              refine wpAnyH_ready (rs := [2]) (by kernel_rfl) (by simp) ?_
              refine AllReadyH.cons (i := 2) (o := ?o102) ?ho102 (fun Kq hK => ?step102) AllReadyH.nil
              case ho102 => simp only [List.getElem?_toArray, List.getElem?_cons_succ, List.getElem?_cons_zero]; rfl
              go_simp
              (obtain ⟨zs, hz8, hQ⟩ := hHeld; go_at_call 130; refine (end_any _ gr n c s8.1 s8.2 A bs hQ.rdr).mono ?_; rw [HFE.out]; rintro e w7 ⟨rfl, hc7⟩)
              have hF : ∃ zs : Array Value, zs.size = 8 ∧ QS w w7 28 gx gq gr A n c s8 bs zs M := ⟨zs, hz8, hQ.below hc7⟩
              refine hK.out _ _ hF (fun _ => ?_)
              clear hK Kq hQ hz8 hc7
              have hHeld := hF
              clear hF
              try simp only [Act.put, List.setIfInBounds_toArray, List.set_cons_zero, List.set_cons_succ]
              refine wpAnyH_take (i := 3) (oi := ?oi103) (v := ?v103) ?hi103 (by kernel_rfl) (by kernel_rfl) (by kernel_rfl) ?hQ103 (Or.inl ⟨?hw103, ?hy103⟩) (by assumption) ?rest103
              case hi103 => simp only [List.getElem?_toArray, List.getElem?_cons_succ, List.getElem?_cons_zero]; rfl
              case hQ103 => exact fun _ _ _ h => h
              case hw103 => rfl
              case hy103 => (intro W hW; skip; go_simp; all_goals rfl)
              simp only [Act.put, List.setIfInBounds_toArray, List.set_cons_zero, List.set_cons_succ]
              refine wpAnyH_ready (rs := [4]) (by kernel_rfl) (by simp) ?_
              refine AllReadyH.cons (i := 4) (o := ?oS) ?hoS (fun Kq hK => ?stepS) AllReadyH.nil
              case hoS => simp only [List.getElem?_toArray, List.getElem?_cons_succ, List.getElem?_cons_zero]; rfl
              obtain ⟨zs, hz8, hQ⟩ := hHeld
              refine step_store rfl 28 (.tmp 2) (.tmp 54) rfl gx M.cells.toArray rfl rfl 28 zs hQ.res (by rw [infoRq8]; simp [HM1.out.1]) (by rw [hz8]; simp [HM1.out.1]) HM1.out.2 ?_
              intro w8 hs8 hg8
              have hF : ∃ zs : Array Value, zs.size = 8 ∧ QS w w8 28 gx gq gr A n c s8 bs zs M := ⟨M.cells.toArray, by simp [HM1.out.1], hQ.stored hs8 hg8⟩
              have HRES : Hd (w8.heap[gx]? = some (.cells M.cells.toArray 28) ∧ QS w w8 28 gx gq gr A n c s8 bs M.cells.toArray M) := ⟨hs8, hQ.stored hs8 hg8⟩
              refine hK.out _ _ hF (fun _ => ?_)
              clear hK Kq hQ hz8 hs8 hg8
              have hHeld := hF
              clear hF
              try simp only [Act.put, List.setIfInBounds_toArray, List.set_cons_zero, List.set_cons_succ]
              refine wpAnyH_take (i := 5) (oi := ?oi201) (v := ?v201) ?hi201 (by kernel_rfl) (by kernel_rfl) (by kernel_rfl) ?hQ201 (Or.inl ⟨?hw201, ?hy201⟩) (by assumption) ?rest201
              case hi201 => simp only [List.getElem?_toArray, List.getElem?_cons_succ, List.getElem?_cons_zero]; rfl
              case hQ201 => exact fun _ _ _ h => h
              case hw201 => rfl
              case hy201 => (intro W hW; skip; go_simp; all_goals rfl)
              simp only [Act.put, List.setIfInBounds_toArray, List.set_cons_zero, List.set_cons_succ]
              refine wpAnyH_done (by kernel_rfl) ?_ _
              clear hHeld
              go_wp2_with fail
              (try simp only [Exit.inBlock, Exit.then])
              refine bodyPost_ret (results_cell_tmp rfl _ _ gx 28 M.cells.toArray (0, 0) _ rfl HRES.out.1 Try.underlying28 rfl (by rw [infoRq8]; simp [HM1.out.1])) rfl ?_
              refine ⟨M, decide (fe = 0), by (first | rfl | (simp [Act.put]; rfl) | skip), HRES.out.2.ch, HM1.out.1, HM1.out.2, ?_⟩
              rw [HRD.out]
              by_cases h0 : fe = 0
              · exact .inl ⟨_, decide_eq_true h0, if_pos h0, HMI.out, HRES.out.2.ok.lower (by have := HRES.out.2.l2; have := HRES.out.2.l3; omega)⟩
              · exact .inr ⟨decide_eq_false h0, if_neg h0⟩
end Go.Proofs.Ytbcmjjcbjojakaa
end
section
/- Contract of wire.answer. (tools/anwgen.py prints it.) -/
namespace Go.Proofs.Ytbcmjjcbjojakaa
open Go.RowKit
set_option linter.unusedVariables false
set_option linter.unusedSimpArgs false
def an0 : Array Value := #[.int .i64 0, .int .u64 0, .int .i64 0, .slice none 0 0, .slice none 0 0, .slice none 0 0, .string emS, .bool false, .int .i64 0, .int .i64 0, .int .i64 0, .int .i64 0, .int .i64 0, .int .i64 0, .int .i64 0]
def anX (k tag code : Nat) (b : List Nat) (ks gs : List (List Nat)) (nx : List Nat) (mo : Bool) (g1 g2 g3 h1 h2 h3 h4 : Nat) : An :=
  ⟨(k : Int), tag, (code : Int), b, ks.map bstr, gs.map bstr, bstr nx, mo, unz (g1 : Int), unz (g2 : Int), unz (g3 : Int), unz (h1 : Int), unz (h2 : Int), unz (h3 : Int), unz (h4 : Int)⟩
theorem opt_t {α : Type} (z : α) (f : Nat × Int → α × Nat × Int) (s : Nat × Int) : opt true z f s = f s := rfl
theorem opt_f {α : Type} (z : α) (f : Nat × Int → α × Nat × Int) (s : Nat × Int) : opt false z f s = (z, s) := rfl
section
variable {w : World} {base k tag code k' tag' code' : Nat} {b : List Nat} {ks gs : List (List Nat)} {nx nx' : List Nat} {mo mo' : Bool} {g1 g2 g3 h1 h2 h3 h4 g1' g2' g3' h1' h2' h3' h4' : Nat} {va vk vg : Value}
theorem an_ok (h1_ : w.ownsRow base 5 1 va b.length (cb b)) (h2_ : w.ownsRow base 9 1 vk ks.length (cs (ks.map bstr))) (h3_ : w.ownsRow base 9 1 vg gs.length (cs (gs.map bstr))) : (anW (anX k tag code b ks gs nx mo g1 g2 g3 h1 h2 h3 h4) va vk vg).ok w base := fun r hr => by
  simp only [anW, List.mem_cons, List.not_mem_nil, or_false] at hr
  rcases hr with rfl | rfl | rfl
  · simp only [cb_length]; exact h1_
  · simp only [anX, cs_len, List.length_map]; exact h2_
  · simp only [anX, cs_len, List.length_map]; exact h3_
theorem an_own (h : (anW (anX k tag code b ks gs nx mo g1 g2 g3 h1 h2 h3 h4) va vk vg).ok w base) : w.ownsRow base 5 1 va b.length (cb b) ∧ w.ownsRow base 9 1 vk ks.length (cs (ks.map bstr)) ∧ w.ownsRow base 9 1 vg gs.length (cs (gs.map bstr)) := by
  refine ⟨?_, ?_, ?_⟩
  · have := h _ (List.mem_cons_self ..); simp only [cb_length] at this; exact this
  · have := h _ (List.mem_cons_of_mem _ (List.mem_cons_self ..)); simp only [anX, cs_len, List.length_map] at this; exact this
  · have := h _ (List.mem_cons_of_mem _ (List.mem_cons_of_mem _ (List.mem_cons_self ..))); simp only [anX, cs_len, List.length_map] at this; exact this
theorem an_re (h : (anW (anX k tag code b ks gs nx mo g1 g2 g3 h1 h2 h3 h4) va vk vg).ok w base) : (anW (anX k' tag' code' b ks gs nx' mo' g1' g2' g3' h1' h2' h3' h4') va vk vg).ok w base := let ⟨a1, a2, a3⟩ := an_own h; an_ok a1 a2 a3
end
/-- What is read of a healing, number by number. -/
def hsF (bs : List Nat) (s : Nat × Int) : Nat → List Nat × Nat × Int
  | 0 => ([], s)
  | k + 1 => ((hsF bs s k).1 ++ [(rNum bs (hsF bs s k).2).1], (rNum bs (hsF bs s k).2).2)
theorem hsF_len (bs : List Nat) (s : Nat × Int) : ∀ k, (hsF bs s k).1.length = k
  | 0 => rfl
  | k + 1 => by simp [hsF, hsF_len bs s k]
theorem len2 {l : List Nat} (h : l.length = 2) : ∃ a b, l = [a, b] := by match l, h with | [a, b], _ => exact ⟨a, b, rfl⟩
theorem len3 {l : List Nat} (h : l.length = 3) : ∃ a b c, l = [a, b, c] := by match l, h with | [a, b, c], _ => exact ⟨a, b, c, rfl⟩
set_option maxRecDepth 20000 in
set_option maxHeartbeats 16000000 in
theorem answer_any (w : World) (gr n c : Nat) (A : Option Addr) (bs : List Nat) (R : Rr w gr A n c 0 0 bs) :
    Calls Try.prog 114 #[.pointer (some ⟨gr, 0, none⟩)] w (MsgPost An rdAn anIs 15 w gr bs) := by
  have HR := Hd.mk R
  have hlt := R.lt
  obtain ⟨gx, hgx⟩ : ∃ gx, w.heap.size = gx := ⟨_, rfl⟩
  obtain ⟨w0, hw0⟩ : ∃ W, w.alloc (.cells #[.int .i64 0, .int .u64 0, .int .i64 0, .slice none 0 0, .slice none 0 0, .slice none 0 0, .string emS, .bool false, .int .i64 0, .int .i64 0, .int .i64 0, .int .i64 0, .int .i64 0, .int .i64 0, .int .i64 0] 43) = W := ⟨_, rfl⟩
  have H0 : Hd (Rr w0 gr A n c (0, 0).1 (0, 0).2 bs ∧ w0.heap[gx]? = some (.cells an0 43) ∧ Chg [gr] w w0 ∧ gr < gx ∧ gx < w0.heap.size) := ⟨by rw [← hw0]; exact R.keep ((Chg.refl [] w).alloc _) (by simp) (by simp), by rw [← hw0, ← hgx]; exact heap_alloc_new w _, by rw [← hw0]; exact (Chg.refl _ w).alloc _, by omega, by rw [← hw0]; simp; omega⟩
  have HG := Hd.mk hgx
  clear R hlt hgx
  go_enter Try.func114, Try.ntmps114
  go_upto_region 1 with fail
  have hz : (⟨#[]⟩ : ByteArray) = emS := rfl
  try rw [hz]
  rw [hw0, HG.out]
  clear hw0 hz
  go_wp2_with fail
  refine (cFix1 (s := (0, 0)) H0.out.1).mono ?_
  rintro e w1 ⟨v1, s1, e1, rfl, hv1, hc, hR⟩
  have H1 : Hd (Rr w1 gr A n c s1.1 s1.2 bs ∧ w1.heap[gx]? = some (.cells an0 43) ∧ Chg [gr] w w1 ∧ gr < gx ∧ gx < w1.heap.size) := ⟨hR, by rw [hc.block gx H0.out.2.2.2.2 (by have := H0.out.2.2.2.1; simp; omega)]; exact H0.out.2.1, H0.out.2.2.1.trans hc, H0.out.2.2.2.1, Nat.lt_of_lt_of_le H0.out.2.2.2.2 hc.size⟩
  have E1 := Hd.mk e1
  clear hc hR e1 H0
  go_wp2_with fail
  refine (cFix8 (s := s1) H1.out.1).mono ?_
  rintro e w2 ⟨v2, s2, e2, rfl, hv2, hc, hR⟩
  have H2 : Hd (Rr w2 gr A n c s2.1 s2.2 bs ∧ w2.heap[gx]? = some (.cells an0 43) ∧ Chg [gr] w w2 ∧ gr < gx ∧ gx < w2.heap.size) := ⟨hR, by rw [hc.block gx H1.out.2.2.2.2 (by have := H1.out.2.2.2.1; simp; omega)]; exact H1.out.2.1, H1.out.2.2.1.trans hc, H1.out.2.2.2.1, Nat.lt_of_lt_of_le H1.out.2.2.2.2 hc.size⟩
  have E2 := Hd.mk e2
  clear hc hR e2 H1
  go_upto_region 2 with (refine at_store (x := .tmp 4) ?_; refine wpList_boxed rfl 43 (.tmp 4) (.tmp 14) rfl w2.heap.size rfl (anW (anX v1 v2 0 [] [] [] [] false 0 0 0 0 0 0 0) (.slice none 0 0) (.slice none 0 0) (.slice none 0 0)).cells.toArray rfl rfl infoAn15 rfl (by simp [anW, anX, Value.oneCell']) ?_; intro w3 hB3)
  obtain ⟨gq, hgq⟩ : ∃ gq, w2.heap.size = gq := ⟨_, rfl⟩
  rw [hgq] at hB3 ⊢
  have hc3 : Chg [gr] w2 w3 := ⟨hB3.out.2.1.os, hB3.out.2.1.tape, hB3.out.2.1.output, hB3.out.2.1.size, fun k hk _ => hB3.out.2.1.block k (by omega)⟩
  have H3 : Hd (QS w w3 43 gx gq gr A n c s2 bs an0 (anW (anX v1 v2 0 [] [] [] [] false 0 0 0 0 0 0 0) (.slice none 0 0) (.slice none 0 0) (.slice none 0 0))) := ⟨hB3.out.1, by rw [hc3.block gx H2.out.2.2.2.2 (by have := H2.out.2.2.2.1; simp; omega)]; exact H2.out.2.1, H2.out.1.keep (L := []) ⟨hc3.os, hc3.tape, hc3.output, hc3.size, fun k hk _ => hB3.out.2.1.block k (by omega)⟩ (by simp) (by simp), H2.out.2.2.1.trans hc3, an_ok (World.ownsRow_nil ..) (World.ownsRow_nil ..) (World.ownsRow_nil ..), by have := HG.out; have := H2.out.2.2.2.1; omega, by have := HG.out; omega, by have := H2.out.2.2.2.2; omega⟩
  clear hB3 hc3 hgq H2
  go_wp2_with fail
  refine (cNumU (s := s2) H3.out.rdr).mono ?_
  rintro e w4 ⟨v3, s3, e3, rfl, hv3, hc, hR⟩
  have H4 : Hd (QS w w4 43 gx gq gr A n c s3 bs an0 (anW (anX v1 v2 0 [] [] [] [] false 0 0 0 0 0 0 0) (.slice none 0 0) (.slice none 0 0) (.slice none 0 0))) := ⟨H3.out.call hc hR⟩
  have E3 := Hd.mk e3
  clear hc hR e3 H3
  have c0 : w4.cell? ⟨gq, 0, none⟩ = some (.int .i64 (v1 : Int)) := H4.out.at_ 0 rfl
  by_cases m1 : 2147483647 < v3
  · have m1i : (2147483647 : Int) < (v3 : Int) := by omega
    have HNO : Hd (rdAn bs = none) := ⟨by
      unfold rdAn; simp only [E1.out, E2.out, E3.out]; rw [if_neg (fun h => (by have := h.2.2.1; omega))]⟩
    have hrow := H4.out.res
    have hch := Hd.mk (And.intro H4.out.ch H4.out.l2)
    go_wp2_with (refine at_store (x := .tmp 2) ?_; refine wpList_stored rfl 43 (.tmp 2) (.tmp 29) rfl gx an0 rfl rfl 43 an0 hrow infoAn15 rfl (by simp [an0, Value.oneCell']) ?_; intro w9 hB9)
    (try simp only [Exit.inBlock, Exit.then])
    refine bodyPost_ret (results_cell_tmp rfl _ _ gx 43 an0 (0, 0) _ rfl hB9.out.1 Try.underlying43 rfl infoAn15) rfl ?_
    exact ⟨⟨an0.toList, []⟩, false, rfl, ⟨hB9.out.2.1.os.trans hch.out.1.os, hB9.out.2.1.tape.trans hch.out.1.tape, hB9.out.2.1.output.trans hch.out.1.output, Nat.le_trans hch.out.1.size hB9.out.2.1.size, fun k hk hm => (hB9.out.2.1.block k (Nat.lt_of_lt_of_le hk hch.out.1.size) (by have := hch.out.2; intro h; injection h; omega)).trans (hch.out.1.block k hk hm)⟩, rfl, by simp [an0, Value.oneCell'], .inr ⟨rfl, HNO.out⟩⟩
  have m1i : ¬ (2147483647 : Int) < (v3 : Int) := by omega
  by_cases m2 : v1 < 1
  · have m2i : (v1 : Int) < 1 := by omega
    have HNO : Hd (rdAn bs = none) := ⟨by
      unfold rdAn; simp only [E1.out, E2.out, E3.out]; rw [if_neg (fun h => (by have := h.1; omega))]⟩
    have hrow := H4.out.res
    have hch := Hd.mk (And.intro H4.out.ch H4.out.l2)
    go_wp2_with (refine at_store (x := .tmp 2) ?_; refine wpList_stored rfl 43 (.tmp 2) (.tmp 29) rfl gx an0 rfl rfl 43 an0 hrow infoAn15 rfl (by simp [an0, Value.oneCell']) ?_; intro w9 hB9)
    (try simp only [Exit.inBlock, Exit.then])
    refine bodyPost_ret (results_cell_tmp rfl _ _ gx 43 an0 (0, 0) _ rfl hB9.out.1 Try.underlying43 rfl infoAn15) rfl ?_
    exact ⟨⟨an0.toList, []⟩, false, rfl, ⟨hB9.out.2.1.os.trans hch.out.1.os, hB9.out.2.1.tape.trans hch.out.1.tape, hB9.out.2.1.output.trans hch.out.1.output, Nat.le_trans hch.out.1.size hB9.out.2.1.size, fun k hk hm => (hB9.out.2.1.block k (Nat.lt_of_lt_of_le hk hch.out.1.size) (by have := hch.out.2; intro h; injection h; omega)).trans (hch.out.1.block k hk hm)⟩, rfl, by simp [an0, Value.oneCell'], .inr ⟨rfl, HNO.out⟩⟩
  have m2i : ¬ (v1 : Int) < 1 := by omega
  by_cases m3 : 8 < v1
  · have m3i : (8 : Int) < (v1 : Int) := by omega
    have HNO : Hd (rdAn bs = none) := ⟨by
      unfold rdAn; simp only [E1.out, E2.out, E3.out]; rw [if_neg (fun h => (by have := h.2.1; omega))]⟩
    have hrow := H4.out.res
    have hch := Hd.mk (And.intro H4.out.ch H4.out.l2)
    go_wp2_with (refine at_store (x := .tmp 2) ?_; refine wpList_stored rfl 43 (.tmp 2) (.tmp 29) rfl gx an0 rfl rfl 43 an0 hrow infoAn15 rfl (by simp [an0, Value.oneCell']) ?_; intro w9 hB9)
    (try simp only [Exit.inBlock, Exit.then])
    refine bodyPost_ret (results_cell_tmp rfl _ _ gx 43 an0 (0, 0) _ rfl hB9.out.1 Try.underlying43 rfl infoAn15) rfl ?_
    exact ⟨⟨an0.toList, []⟩, false, rfl, ⟨hB9.out.2.1.os.trans hch.out.1.os, hB9.out.2.1.tape.trans hch.out.1.tape, hB9.out.2.1.output.trans hch.out.1.output, Nat.le_trans hch.out.1.size hB9.out.2.1.size, fun k hk hm => (hB9.out.2.1.block k (Nat.lt_of_lt_of_le hk hch.out.1.size) (by have := hch.out.2; intro h; injection h; omega)).trans (hch.out.1.block k hk hm)⟩, rfl, by simp [an0, Value.oneCell'], .inr ⟨rfl, HNO.out⟩⟩
  have m3i : ¬ (8 : Int) < (v1 : Int) := by omega
  have HYES : Hd (1 ≤ v1 ∧ v1 ≤ 8 ∧ v3 ≤ 2147483647) := ⟨by omega⟩
  have d2 : w4.cell? ⟨gq, 2, none⟩ = some (.int .i64 0) := H4.out.at_ 2 rfl
  have z2 := H4.out.z 2
  have hwr : IntKind.i64.wrap (v3 : Int) = (v3 : Int) := by rw [IntKind.wrap_i64]; omega
  go_upto_region 6 with fail
  obtain ⟨w5, hw5⟩ : ∃ W, w4.setCell ⟨gq, 2, none⟩ (.int .i64 (v3 : Int)) = W := ⟨_, rfl⟩
  rw [hw5]
  have H5 : Hd (QS w w5 43 gx gq gr A n c s3 bs an0 (anW (anX v1 v2 v3 [] [] [] [] false 0 0 0 0 0 0 0) (.slice none 0 0) (.slice none 0 0) (.slice none 0 0))) := ⟨by rw [← hw5]; exact H4.out.set (M' := (anW (anX v1 v2 v3 [] [] [] [] false 0 0 0 0 0 0 0) (.slice none 0 0) (.slice none 0 0) (.slice none 0 0))) 2 _ rfl (an_re H4.out.ok)⟩
  clear hw5 H4 c0 d2 z2 hwr m1 m2 m3 m1i m2i m3i
  have c0 : w5.cell? ⟨gq, 0, none⟩ = some (.int .i64 (v1 : Int)) := H5.out.at_ 0 rfl
  have c2 : w5.cell? ⟨gq, 2, none⟩ = some (.int .i64 (v3 : Int)) := H5.out.at_ 2 rfl
  by_cases k8 : v1 = 8
  · have k8b : ((v1 : Int) == 8) = true := by subst k8; rfl
    have q2 : ((v1 : Int) == 2) = false := by subst k8; rfl
    have q3 : ((v1 : Int) == 3) = false := by subst k8; rfl
    have q4 : ((v1 : Int) == 4) = false := by subst k8; rfl
    have q6 : ((v1 : Int) == 6) = false := by subst k8; rfl
    have q7 : ((v1 : Int) == 7) = false := by subst k8; rfl
    have HK8 := Hd.mk k8
    clear k8
    go_upto_region 8 with fail
    obtain ⟨g4, hg4⟩ : ∃ g4, w5.heap.size = g4 := ⟨_, rfl⟩
    obtain ⟨w6, hw6⟩ : ∃ W, w5.alloc (.cells #[.pointer (some ⟨gq, 11, none⟩), .pointer (some ⟨gq, 12, none⟩), .pointer (some ⟨gq, 13, none⟩), .pointer (some ⟨gq, 14, none⟩)] 171) = W := ⟨_, rfl⟩
    rw [hw6]
    try rw [hg4]
    have H6 : Hd (QS w w6 43 gx gq gr A n c s3 bs an0 (anW (anX v1 v2 v3 [] [] [] [] false 0 0 0 0 0 0 0) (.slice none 0 0) (.slice none 0 0) (.slice none 0 0)) ∧ w6.heap[g4]? = some (.cells #[.pointer (some ⟨gq, 11, none⟩), .pointer (some ⟨gq, 12, none⟩), .pointer (some ⟨gq, 13, none⟩), .pointer (some ⟨gq, 14, none⟩)] 171) ∧ gq < g4) := ⟨by rw [← hw6]; exact H5.out.below ((Chg.refl [] _).alloc _), by rw [← hw6, ← hg4]; exact heap_alloc_new _ _, by rw [← hg4]; exact H5.out.lt⟩
    clear hg4 hw6 H5 c0 c2
    go_loopw [46] (fun u46 wr => ∃ k : Nat, k ≤ 4 ∧ u46 = .int .i64 (k : Int) ∧ QS w wr 43 gx gq gr A n c (hsF bs s3 k).2 bs an0 (anW (anX v1 v2 v3 [] [] [] [] false 0 0 0 ((hsF bs s3 k).1.getD 0 0) ((hsF bs s3 k).1.getD 1 0) ((hsF bs s3 k).1.getD 2 0) ((hsF bs s3 k).1.getD 3 0)) (.slice none 0 0) (.slice none 0 0) (.slice none 0 0)) ∧ wr.heap[g4]? = some (.cells #[.pointer (some ⟨gq, 11, none⟩), .pointer (some ⟨gq, 12, none⟩), .pointer (some ⟨gq, 13, none⟩), .pointer (some ⟨gq, 14, none⟩)] 171)) (fun u46 _ => 4 - (intOf u46).toNat)
    case atStart => exact ⟨0, by omega, rfl, H6.out.1, H6.out.2.1⟩
    case round =>
      obtain ⟨k, hk, rfl, hQ, hg4⟩ := hrel
      have HT := Hd.mk (And.intro hQ hg4)
      have HG4 := Hd.mk H6.out.2.2
      clear hQ hg4
      by_cases hlt : k < 4
      · rcases (by omega : k = 0 ∨ k = 1 ∨ k = 2 ∨ k = 3) with rfl | rfl | rfl | rfl
        · have hcell : wr.cell? ⟨g4, 0, none⟩ = some (.pointer (some ⟨gq, 11, none⟩)) := by rw [cell_of_row wr g4 0 _ _ (0, 0) HT.out.2]; rfl
          go_wp2_with fail
          refine (cNumV (s := (hsF bs s3 0).2) HT.out.1.rdr).mono ?_
          rintro e wz ⟨x, s', ez, rfl, hzb, hc, hR⟩
          have HZ : Hd (QS w wz 43 gx gq gr A n c s' bs an0 (anW (anX v1 v2 v3 [] [] [] [] false 0 0 0 ((hsF bs s3 0).1.getD 0 0) ((hsF bs s3 0).1.getD 1 0) ((hsF bs s3 0).1.getD 2 0) ((hsF bs s3 0).1.getD 3 0)) (.slice none 0 0) (.slice none 0 0) (.slice none 0 0)) ∧ wz.heap[g4]? = some (.cells #[.pointer (some ⟨gq, 11, none⟩), .pointer (some ⟨gq, 12, none⟩), .pointer (some ⟨gq, 13, none⟩), .pointer (some ⟨gq, 14, none⟩)] 171)) := ⟨HT.out.1.call hc hR, by rw [hc.block g4 (Array.getElem?_eq_some_iff.1 HT.out.2).1 (by have := HT.out.1.l1; have := HT.out.1.l2; have := HT.out.1.l3; have := HG4.out; simp; omega)]; exact HT.out.2⟩
          obtain ⟨u, hu⟩ : ∃ u, unz (x : Int) = u := ⟨_, rfl⟩
          rw [hu] at hzb ⊢
          have HU := Hd.mk (And.intro hu ez)
          clear hu hc hR ez hcell HT
          have d0 : wz.cell? ⟨gq, 11, none⟩ = some (.int .i64 (unz (((hsF bs s3 0).1.getD 0 0 : Nat) : Int))) := HZ.out.1.at_ 11 rfl
          have d1 := HZ.out.1.z 11
          generalize unz (((hsF bs s3 0).1.getD 0 0 : Nat) : Int) = old at d0
          have HNX : Hd (hsF bs s3 1 = ((hsF bs s3 0).1 ++ [x], s')) := ⟨by show ((hsF bs s3 0).1 ++ [(rNum bs (hsF bs s3 0).2).1], (rNum bs (hsF bs s3 0).2).2) = _; rw [HU.out.2]⟩
          have HLN : Hd ((hsF bs s3 0).1.length = 0) := ⟨hsF_len bs s3 0⟩
          go_wp2_with fail
          go_roundw
          case rel =>
            have hq := HZ.out.1.set (M' := (anW (anX v1 v2 v3 [] [] [] [] false 0 0 0 ((hsF bs s3 1).1.getD 0 0) ((hsF bs s3 1).1.getD 1 0) ((hsF bs s3 1).1.getD 2 0) ((hsF bs s3 1).1.getD 3 0)) (.slice none 0 0) (.slice none 0 0) (.slice none 0 0))) 11 (.int .i64 u) (by rw [HNX.out, ← HU.out.1]; obtain ⟨l, hl⟩ : ∃ l, (hsF bs s3 0).1 = l := ⟨_, rfl⟩; have hll := HLN.out; rw [hl] at hll ⊢; obtain rfl := List.eq_nil_of_length_eq_zero hll; simp [anW, anX]) (an_re HZ.out.1.ok)
            have hs2 : (hsF bs s3 1).2 = s' := by rw [HNX.out]
            have hg5 : (wz.setCell ⟨gq, 11, none⟩ (.int .i64 u)).heap[g4]? = some (.cells #[.pointer (some ⟨gq, 11, none⟩), .pointer (some ⟨gq, 12, none⟩), .pointer (some ⟨gq, 13, none⟩), .pointer (some ⟨gq, 14, none⟩)] 171) := by rw [Below.heap_setCell _ _ _ _ (by show g4 ≠ gq; have := HG4.out; omega)]; exact HZ.out.2
            rw [← hs2] at hq
            first
              | exact ⟨1, by omega, by first | rfl | go_num, hq, hg5⟩
              | exact ⟨_, _, _, _, _, _, _, _, ⟨1, by omega, by first | rfl | go_num, hq, hg5⟩, rfl, rfl, rfl, rfl, rfl, rfl, rfl, rfl⟩
          case measure => simp [intOf]
        · have hcell : wr.cell? ⟨g4, 1, none⟩ = some (.pointer (some ⟨gq, 12, none⟩)) := by rw [cell_of_row wr g4 1 _ _ (0, 0) HT.out.2]; rfl
          go_wp2_with fail
          refine (cNumV (s := (hsF bs s3 1).2) HT.out.1.rdr).mono ?_
          rintro e wz ⟨x, s', ez, rfl, hzb, hc, hR⟩
          have HZ : Hd (QS w wz 43 gx gq gr A n c s' bs an0 (anW (anX v1 v2 v3 [] [] [] [] false 0 0 0 ((hsF bs s3 1).1.getD 0 0) ((hsF bs s3 1).1.getD 1 0) ((hsF bs s3 1).1.getD 2 0) ((hsF bs s3 1).1.getD 3 0)) (.slice none 0 0) (.slice none 0 0) (.slice none 0 0)) ∧ wz.heap[g4]? = some (.cells #[.pointer (some ⟨gq, 11, none⟩), .pointer (some ⟨gq, 12, none⟩), .pointer (some ⟨gq, 13, none⟩), .pointer (some ⟨gq, 14, none⟩)] 171)) := ⟨HT.out.1.call hc hR, by rw [hc.block g4 (Array.getElem?_eq_some_iff.1 HT.out.2).1 (by have := HT.out.1.l1; have := HT.out.1.l2; have := HT.out.1.l3; have := HG4.out; simp; omega)]; exact HT.out.2⟩
          obtain ⟨u, hu⟩ : ∃ u, unz (x : Int) = u := ⟨_, rfl⟩
          rw [hu] at hzb ⊢
          have HU := Hd.mk (And.intro hu ez)
          clear hu hc hR ez hcell HT
          have d0 : wz.cell? ⟨gq, 12, none⟩ = some (.int .i64 (unz (((hsF bs s3 1).1.getD 1 0 : Nat) : Int))) := HZ.out.1.at_ 12 rfl
          have d1 := HZ.out.1.z 12
          generalize unz (((hsF bs s3 1).1.getD 1 0 : Nat) : Int) = old at d0
          have HNX : Hd (hsF bs s3 2 = ((hsF bs s3 1).1 ++ [x], s')) := ⟨by show ((hsF bs s3 1).1 ++ [(rNum bs (hsF bs s3 1).2).1], (rNum bs (hsF bs s3 1).2).2) = _; rw [HU.out.2]⟩
          have HLN : Hd ((hsF bs s3 1).1.length = 1) := ⟨hsF_len bs s3 1⟩
          go_wp2_with fail
          go_roundw
          case rel =>
            have hq := HZ.out.1.set (M' := (anW (anX v1 v2 v3 [] [] [] [] false 0 0 0 ((hsF bs s3 2).1.getD 0 0) ((hsF bs s3 2).1.getD 1 0) ((hsF bs s3 2).1.getD 2 0) ((hsF bs s3 2).1.getD 3 0)) (.slice none 0 0) (.slice none 0 0) (.slice none 0 0))) 12 (.int .i64 u) (by rw [HNX.out, ← HU.out.1]; obtain ⟨l, hl⟩ : ∃ l, (hsF bs s3 1).1 = l := ⟨_, rfl⟩; have hll := HLN.out; rw [hl] at hll ⊢; obtain ⟨a1, rfl⟩ := List.length_eq_one_iff.1 hll; simp [anW, anX]) (an_re HZ.out.1.ok)
            have hs2 : (hsF bs s3 2).2 = s' := by rw [HNX.out]
            have hg5 : (wz.setCell ⟨gq, 12, none⟩ (.int .i64 u)).heap[g4]? = some (.cells #[.pointer (some ⟨gq, 11, none⟩), .pointer (some ⟨gq, 12, none⟩), .pointer (some ⟨gq, 13, none⟩), .pointer (some ⟨gq, 14, none⟩)] 171) := by rw [Below.heap_setCell _ _ _ _ (by show g4 ≠ gq; have := HG4.out; omega)]; exact HZ.out.2
            rw [← hs2] at hq
            first
              | exact ⟨2, by omega, by first | rfl | go_num, hq, hg5⟩
              | exact ⟨_, _, _, _, _, _, _, _, ⟨2, by omega, by first | rfl | go_num, hq, hg5⟩, rfl, rfl, rfl, rfl, rfl, rfl, rfl, rfl⟩
          case measure => simp [intOf]
        · have hcell : wr.cell? ⟨g4, 2, none⟩ = some (.pointer (some ⟨gq, 13, none⟩)) := by rw [cell_of_row wr g4 2 _ _ (0, 0) HT.out.2]; rfl
          go_wp2_with fail
          refine (cNumV (s := (hsF bs s3 2).2) HT.out.1.rdr).mono ?_
          rintro e wz ⟨x, s', ez, rfl, hzb, hc, hR⟩
          have HZ : Hd (QS w wz 43 gx gq gr A n c s' bs an0 (anW (anX v1 v2 v3 [] [] [] [] false 0 0 0 ((hsF bs s3 2).1.getD 0 0) ((hsF bs s3 2).1.getD 1 0) ((hsF bs s3 2).1.getD 2 0) ((hsF bs s3 2).1.getD 3 0)) (.slice none 0 0) (.slice none 0 0) (.slice none 0 0)) ∧ wz.heap[g4]? = some (.cells #[.pointer (some ⟨gq, 11, none⟩), .pointer (some ⟨gq, 12, none⟩), .pointer (some ⟨gq, 13, none⟩), .pointer (some ⟨gq, 14, none⟩)] 171)) := ⟨HT.out.1.call hc hR, by rw [hc.block g4 (Array.getElem?_eq_some_iff.1 HT.out.2).1 (by have := HT.out.1.l1; have := HT.out.1.l2; have := HT.out.1.l3; have := HG4.out; simp; omega)]; exact HT.out.2⟩
          obtain ⟨u, hu⟩ : ∃ u, unz (x : Int) = u := ⟨_, rfl⟩
          rw [hu] at hzb ⊢
          have HU := Hd.mk (And.intro hu ez)
          clear hu hc hR ez hcell HT
          have d0 : wz.cell? ⟨gq, 13, none⟩ = some (.int .i64 (unz (((hsF bs s3 2).1.getD 2 0 : Nat) : Int))) := HZ.out.1.at_ 13 rfl
          have d1 := HZ.out.1.z 13
          generalize unz (((hsF bs s3 2).1.getD 2 0 : Nat) : Int) = old at d0
          have HNX : Hd (hsF bs s3 3 = ((hsF bs s3 2).1 ++ [x], s')) := ⟨by show ((hsF bs s3 2).1 ++ [(rNum bs (hsF bs s3 2).2).1], (rNum bs (hsF bs s3 2).2).2) = _; rw [HU.out.2]⟩
          have HLN : Hd ((hsF bs s3 2).1.length = 2) := ⟨hsF_len bs s3 2⟩
          go_wp2_with fail
          go_roundw
          case rel =>
            have hq := HZ.out.1.set (M' := (anW (anX v1 v2 v3 [] [] [] [] false 0 0 0 ((hsF bs s3 3).1.getD 0 0) ((hsF bs s3 3).1.getD 1 0) ((hsF bs s3 3).1.getD 2 0) ((hsF bs s3 3).1.getD 3 0)) (.slice none 0 0) (.slice none 0 0) (.slice none 0 0))) 13 (.int .i64 u) (by rw [HNX.out, ← HU.out.1]; obtain ⟨l, hl⟩ : ∃ l, (hsF bs s3 2).1 = l := ⟨_, rfl⟩; have hll := HLN.out; rw [hl] at hll ⊢; obtain ⟨a1, a2, rfl⟩ := len2 hll; simp [anW, anX]) (an_re HZ.out.1.ok)
            have hs2 : (hsF bs s3 3).2 = s' := by rw [HNX.out]
            have hg5 : (wz.setCell ⟨gq, 13, none⟩ (.int .i64 u)).heap[g4]? = some (.cells #[.pointer (some ⟨gq, 11, none⟩), .pointer (some ⟨gq, 12, none⟩), .pointer (some ⟨gq, 13, none⟩), .pointer (some ⟨gq, 14, none⟩)] 171) := by rw [Below.heap_setCell _ _ _ _ (by show g4 ≠ gq; have := HG4.out; omega)]; exact HZ.out.2
            rw [← hs2] at hq
            first
              | exact ⟨3, by omega, by first | rfl | go_num, hq, hg5⟩
              | exact ⟨_, _, _, _, _, _, _, _, ⟨3, by omega, by first | rfl | go_num, hq, hg5⟩, rfl, rfl, rfl, rfl, rfl, rfl, rfl, rfl⟩
          case measure => simp [intOf]
        · have hcell : wr.cell? ⟨g4, 3, none⟩ = some (.pointer (some ⟨gq, 14, none⟩)) := by rw [cell_of_row wr g4 3 _ _ (0, 0) HT.out.2]; rfl
          go_wp2_with fail
          refine (cNumV (s := (hsF bs s3 3).2) HT.out.1.rdr).mono ?_
          rintro e wz ⟨x, s', ez, rfl, hzb, hc, hR⟩
          have HZ : Hd (QS w wz 43 gx gq gr A n c s' bs an0 (anW (anX v1 v2 v3 [] [] [] [] false 0 0 0 ((hsF bs s3 3).1.getD 0 0) ((hsF bs s3 3).1.getD 1 0) ((hsF bs s3 3).1.getD 2 0) ((hsF bs s3 3).1.getD 3 0)) (.slice none 0 0) (.slice none 0 0) (.slice none 0 0)) ∧ wz.heap[g4]? = some (.cells #[.pointer (some ⟨gq, 11, none⟩), .pointer (some ⟨gq, 12, none⟩), .pointer (some ⟨gq, 13, none⟩), .pointer (some ⟨gq, 14, none⟩)] 171)) := ⟨HT.out.1.call hc hR, by rw [hc.block g4 (Array.getElem?_eq_some_iff.1 HT.out.2).1 (by have := HT.out.1.l1; have := HT.out.1.l2; have := HT.out.1.l3; have := HG4.out; simp; omega)]; exact HT.out.2⟩
          obtain ⟨u, hu⟩ : ∃ u, unz (x : Int) = u := ⟨_, rfl⟩
          rw [hu] at hzb ⊢
          have HU := Hd.mk (And.intro hu ez)
          clear hu hc hR ez hcell HT
          have d0 : wz.cell? ⟨gq, 14, none⟩ = some (.int .i64 (unz (((hsF bs s3 3).1.getD 3 0 : Nat) : Int))) := HZ.out.1.at_ 14 rfl
          have d1 := HZ.out.1.z 14
          generalize unz (((hsF bs s3 3).1.getD 3 0 : Nat) : Int) = old at d0
          have HNX : Hd (hsF bs s3 4 = ((hsF bs s3 3).1 ++ [x], s')) := ⟨by show ((hsF bs s3 3).1 ++ [(rNum bs (hsF bs s3 3).2).1], (rNum bs (hsF bs s3 3).2).2) = _; rw [HU.out.2]⟩
          have HLN : Hd ((hsF bs s3 3).1.length = 3) := ⟨hsF_len bs s3 3⟩
          go_wp2_with fail
          go_roundw
          case rel =>
            have hq := HZ.out.1.set (M' := (anW (anX v1 v2 v3 [] [] [] [] false 0 0 0 ((hsF bs s3 4).1.getD 0 0) ((hsF bs s3 4).1.getD 1 0) ((hsF bs s3 4).1.getD 2 0) ((hsF bs s3 4).1.getD 3 0)) (.slice none 0 0) (.slice none 0 0) (.slice none 0 0))) 14 (.int .i64 u) (by rw [HNX.out, ← HU.out.1]; obtain ⟨l, hl⟩ : ∃ l, (hsF bs s3 3).1 = l := ⟨_, rfl⟩; have hll := HLN.out; rw [hl] at hll ⊢; obtain ⟨a1, a2, a3, rfl⟩ := len3 hll; simp [anW, anX]) (an_re HZ.out.1.ok)
            have hs2 : (hsF bs s3 4).2 = s' := by rw [HNX.out]
            have hg5 : (wz.setCell ⟨gq, 14, none⟩ (.int .i64 u)).heap[g4]? = some (.cells #[.pointer (some ⟨gq, 11, none⟩), .pointer (some ⟨gq, 12, none⟩), .pointer (some ⟨gq, 13, none⟩), .pointer (some ⟨gq, 14, none⟩)] 171) := by rw [Below.heap_setCell _ _ _ _ (by show g4 ≠ gq; have := HG4.out; omega)]; exact HZ.out.2
            rw [← hs2] at hq
            first
              | exact ⟨4, by omega, by first | rfl | go_num, hq, hg5⟩
              | exact ⟨_, _, _, _, _, _, _, _, ⟨4, by omega, by first | rfl | go_num, hq, hg5⟩, rfl, rfl, rfl, rfl, rfl, rfl, rfl, rfl⟩
          case measure => simp [intOf]
      · have hk4 : k = 4 := by omega
        subst hk4
        obtain ⟨x1, t1, r1⟩ : ∃ x t, rNum bs s3 = (x, t) := ⟨_, _, rfl⟩
        obtain ⟨x2, t2, r2⟩ : ∃ x t, rNum bs t1 = (x, t) := ⟨_, _, rfl⟩
        obtain ⟨x3, t3, r3⟩ : ∃ x t, rNum bs t2 = (x, t) := ⟨_, _, rfl⟩
        obtain ⟨x4, t4, r4⟩ : ∃ x t, rNum bs t3 = (x, t) := ⟨_, _, rfl⟩
        have hh : hsF bs s3 4 = ([x1, x2, x3, x4], t4) := by simp [hsF, r1, r2, r3, r4]
        have HE : Hd (QS w wr 43 gx gq gr A n c t4 bs an0 (anW (anX v1 v2 v3 [] [] [] [] false 0 0 0 x1 x2 x3 x4) (.slice none 0 0) (.slice none 0 0) (.slice none 0 0))) := ⟨by have := HT.out.1; rw [hh] at this; exact this⟩
        have E4 := Hd.mk r1
        have E5 := Hd.mk r2
        have E6 := Hd.mk r3
        have E7 := Hd.mk r4
        clear HT HG4 r1 r2 r3 r4 hh H6
        have c0 : wr.cell? ⟨gq, 0, none⟩ = some (.int .i64 (v1 : Int)) := HE.out.at_ 0 rfl
        have c2 : wr.cell? ⟨gq, 2, none⟩ = some (.int .i64 (v3 : Int)) := HE.out.at_ 2 rfl
        by_cases k0 : v3 = 0
        · have k0b : ((v3 : Int) == 0) = true := by subst k0; rfl
          have HK0 := Hd.mk k0
          clear k0
          go_upto_region 32 with fail
          have HW := Hd.mk HE.out
          clear HE
          try clear c0
          try clear c2
          obtain ⟨M, hM⟩ : ∃ M, (anW (anX v1 v2 v3 [] [] [] [] false 0 0 0 x1 x2 x3 x4) (.slice none 0 0) (.slice none 0 0) (.slice none 0 0)) = M := ⟨_, rfl⟩
          have HM1 : Hd (M.cells.length = 15 ∧ M.cells.toArray.all (·.oneCell') = true) := ⟨by rw [← hM]; exact anW_one HW.out.ok⟩
          have HMI : Hd (anIs M (anX v1 v2 v3 [] [] [] [] false 0 0 0 x1 x2 x3 x4)) := ⟨_, _, _, hM.symm⟩
          rw [hM] at HW
          clear hM
          obtain ⟨fe, hfe⟩ : ∃ f, endF n t4.1 t4.2 = f := ⟨_, rfl⟩
          have HFE := Hd.mk hfe
          have hn : bs.length = n := HW.out.rdr.len
          have HRD : Hd (rdAn bs = if fe = 0 then some (anX v1 v2 v3 [] [] [] [] false 0 0 0 x1 x2 x3 x4) else none) := ⟨by
            have ky := HYES.out
            have z0 : unz ((0 : Nat) : Int) = 0 := by decide
            have B8 : decide ((v1 : Int) = 8) = true := by (try unfold qBody); (try unfold qGen); (try unfold qKeys); (try unfold qPage); exact decide_eq_true (by have := HK8.out; omega)
            have BB : qBody (v1 : Int) (v3 : Int) = false := by (try unfold qBody); (try unfold qGen); (try unfold qKeys); (try unfold qPage); exact decide_eq_false (by have := HK8.out; omega)
            have BG : qGen (v1 : Int) (v3 : Int) = false := by (try unfold qBody); (try unfold qGen); (try unfold qKeys); (try unfold qPage); exact decide_eq_false (by have := HK8.out; omega)
            have BK : qKeys (v1 : Int) (v3 : Int) = false := by (try unfold qBody); (try unfold qGen); (try unfold qKeys); (try unfold qPage); exact decide_eq_false (by have := HK8.out; omega)
            have BP : qPage (v1 : Int) (v3 : Int) = false := by (try unfold qBody); (try unfold qGen); (try unfold qKeys); (try unfold qPage); exact decide_eq_false (by have := HK8.out; omega)
            unfold rdAn
            simp only [E1.out, E2.out, E3.out, B8, BB, BG, BK, BP, opt_t, opt_f, E4.out, E5.out, E6.out, E7.out]
            rw [hn, hfe]
            by_cases h0 : fe = 0
            · rw [if_pos h0, if_pos ⟨by omega, by omega, by omega, by omega, h0⟩]; rfl
            · rw [if_neg h0, if_neg (fun h => h0 h.2.2.2.2)]⟩
          clear hn hfe
          refine wp_region_held_drew (S := fun W => ∃ zs : Array Value, zs.size = 15 ∧ QS w W 43 gx gq gr A n c t4 bs zs M) (by kernel_rfl) ⟨an0, rfl, HW.out.below (Chg.refl _ _).drew⟩ (fun hHeld => ?_)
          refine wpAnyH_take (i := 0) (oi := ?oiR100) (v := .agg M.cells.toArray) ?hiR100 (by kernel_rfl) (by kernel_rfl) (by kernel_rfl) ?hQR100 ?hyR100 (by assumption) ?restR100
          case hiR100 => simp only [List.getElem?_toArray, List.getElem?_cons_succ, List.getElem?_cons_zero]; rfl
          case hQR100 => exact fun _ _ _ h => h
          case hyR100 => exact yieldsIf_load_mid rfl 43 (.tmp 4) rfl gq 0 rfl M.cells _ (fun W hW => let ⟨_, _, h⟩ := hW; h.range) Try.underlying43 rfl (by rw [infoAn15, HM1.out.1])
          simp only [Act.put, List.setIfInBounds_toArray, List.set_cons_zero, List.set_cons_succ]
          refine wpAnyH_take (i := 1) (oi := ?oi201) (v := ?v201) ?hi201 (by kernel_rfl) (by kernel_rfl) (by kernel_rfl) ?hQ201 (Or.inl ⟨?hw201, ?hy201⟩) (by assumption) ?rest201
          case hi201 => simp only [List.getElem?_toArray, List.getElem?_cons_succ, List.getElem?_cons_zero]; rfl
          case hQ201 => exact fun _ _ _ h => h
          case hw201 => rfl
          case hy201 => (intro W hW; skip; go_simp; all_goals rfl)
          simp only [Act.put, List.setIfInBounds_toArray, List.set_cons_zero, List.set_cons_succ]
          refine wpAnyH_ready (rs := [2]) (by kernel_rfl) (by simp) ?_
          refine AllReadyH.cons (i := 2) (o := ?o202) ?ho202 (fun Kq hK => ?step202) AllReadyH.nil
          case ho202 => simp only [List.getElem?_toArray, List.getElem?_cons_succ, List.getElem?_cons_zero]; rfl
          go_simp
          (obtain ⟨zs, hz8, hQ⟩ := hHeld; go_at_call 130; refine (end_any _ gr n c t4.1 t4.2 A bs hQ.rdr).mono ?_; rw [HFE.out]; rintro e w7 ⟨rfl, hc7⟩)
          have hF : ∃ zs : Array Value, zs.size = 15 ∧ QS w w7 43 gx gq gr A n c t4 bs zs M := ⟨zs, hz8, hQ.below hc7⟩
          refine hK.out _ _ hF (fun _ => ?_)
          clear hK Kq hQ hz8 hc7
          have hHeld := hF
          clear hF
          try simp only [Act.put, List.setIfInBounds_toArray, List.set_cons_zero, List.set_cons_succ]
          refine wpAnyH_take (i := 3) (oi := ?oi203) (v := ?v203) ?hi203 (by kernel_rfl) (by kernel_rfl) (by kernel_rfl) ?hQ203 (Or.inl ⟨?hw203, ?hy203⟩) (by assumption) ?rest203
          case hi203 => simp only [List.getElem?_toArray, List.getElem?_cons_succ, List.getElem?_cons_zero]; rfl
          case hQ203 => exact fun _ _ _ h => h
          case hw203 => rfl
          case hy203 => (intro W hW; skip; go_simp; all_goals rfl)
          simp only [Act.put, List.setIfInBounds_toArray, List.set_cons_zero, List.set_cons_succ]
          refine wpAnyH_ready (rs := [4]) (by kernel_rfl) (by simp) ?_
          refine AllReadyH.cons (i := 4) (o := ?oS100) ?hoS100 (fun Kq hK => ?stepS100) AllReadyH.nil
          case hoS100 => simp only [List.getElem?_toArray, List.getElem?_cons_succ, List.getElem?_cons_zero]; rfl
          obtain ⟨zs, hz8, hQ⟩ := hHeld
          refine step_store rfl 43 (.tmp 2) (.tmp 108) rfl gx M.cells.toArray rfl rfl 43 zs hQ.res (by rw [infoAn15]; simp [HM1.out.1]) (by rw [hz8]; simp [HM1.out.1]) HM1.out.2 ?_
          intro w8 hs8 hg8
          have hF : ∃ zs : Array Value, zs.size = 15 ∧ QS w w8 43 gx gq gr A n c t4 bs zs M := ⟨M.cells.toArray, by simp [HM1.out.1], hQ.stored hs8 hg8⟩
          have HRES : Hd (w8.heap[gx]? = some (.cells M.cells.toArray 43) ∧ QS w w8 43 gx gq gr A n c t4 bs M.cells.toArray M) := ⟨hs8, hQ.stored hs8 hg8⟩
          refine hK.out _ _ hF (fun _ => ?_)
          clear hK Kq hQ hz8 hs8 hg8
          have hHeld := hF
          clear hF
          try simp only [Act.put, List.setIfInBounds_toArray, List.set_cons_zero, List.set_cons_succ]
          refine wpAnyH_take (i := 5) (oi := ?oi301) (v := ?v301) ?hi301 (by kernel_rfl) (by kernel_rfl) (by kernel_rfl) ?hQ301 (Or.inl ⟨?hw301, ?hy301⟩) (by assumption) ?rest301
          case hi301 => simp only [List.getElem?_toArray, List.getElem?_cons_succ, List.getElem?_cons_zero]; rfl
          case hQ301 => exact fun _ _ _ h => h
          case hw301 => rfl
          case hy301 => (intro W hW; skip; go_simp; all_goals rfl)
          simp only [Act.put, List.setIfInBounds_toArray, List.set_cons_zero, List.set_cons_succ]
          refine wpAnyH_done (by kernel_rfl) ?_ _
          clear hHeld
          go_wp2_with fail
          (try simp only [Exit.inBlock, Exit.then])
          refine bodyPost_ret (results_cell_tmp rfl _ _ gx 43 M.cells.toArray (0, 0) _ rfl HRES.out.1 Try.underlying43 rfl (by rw [infoAn15]; simp [HM1.out.1])) rfl ?_
          refine ⟨M, decide (fe = 0), by (first | rfl | (simp [Act.put]; rfl) | skip), HRES.out.2.ch, HM1.out.1, HM1.out.2, ?_⟩
          rw [HRD.out]
          by_cases h0 : fe = 0
          · exact .inl ⟨_, decide_eq_true h0, if_pos h0, HMI.out, HRES.out.2.ok.lower (by have := HRES.out.2.l2; have := HRES.out.2.l3; omega)⟩
          · exact .inr ⟨decide_eq_false h0, if_neg h0⟩
        · have k0b : ((v3 : Int) == 0) = false := beq_eq_false_iff_ne.2 (by omega)
          have HK0 := Hd.mk k0
          clear k0
          go_upto_region 13 with fail
          have HW := Hd.mk HE.out
          clear HE
          try clear c0
          try clear c2
          obtain ⟨M, hM⟩ : ∃ M, (anW (anX v1 v2 v3 [] [] [] [] false 0 0 0 x1 x2 x3 x4) (.slice none 0 0) (.slice none 0 0) (.slice none 0 0)) = M := ⟨_, rfl⟩
          have HM1 : Hd (M.cells.length = 15 ∧ M.cells.toArray.all (·.oneCell') = true) := ⟨by rw [← hM]; exact anW_one HW.out.ok⟩
          have HMI : Hd (anIs M (anX v1 v2 v3 [] [] [] [] false 0 0 0 x1 x2 x3 x4)) := ⟨_, _, _, hM.symm⟩
          rw [hM] at HW
          clear hM
          obtain ⟨fe, hfe⟩ : ∃ f, endF n t4.1 t4.2 = f := ⟨_, rfl⟩
          have HFE := Hd.mk hfe
          have hn : bs.length = n := HW.out.rdr.len
          have HRD : Hd (rdAn bs = if fe = 0 then some (anX v1 v2 v3 [] [] [] [] false 0 0 0 x1 x2 x3 x4) else none) := ⟨by
            have ky := HYES.out
            have z0 : unz ((0 : Nat) : Int) = 0 := by decide
            have B8 : decide ((v1 : Int) = 8) = true := by (try unfold qBody); (try unfold qGen); (try unfold qKeys); (try unfold qPage); exact decide_eq_true (by have := HK8.out; omega)
            have BB : qBody (v1 : Int) (v3 : Int) = false := by (try unfold qBody); (try unfold qGen); (try unfold qKeys); (try unfold qPage); exact decide_eq_false (by have := HK8.out; omega)
            have BG : qGen (v1 : Int) (v3 : Int) = false := by (try unfold qBody); (try unfold qGen); (try unfold qKeys); (try unfold qPage); exact decide_eq_false (by have := HK8.out; omega)
            have BK : qKeys (v1 : Int) (v3 : Int) = false := by (try unfold qBody); (try unfold qGen); (try unfold qKeys); (try unfold qPage); exact decide_eq_false (by have := HK8.out; omega)
            have BP : qPage (v1 : Int) (v3 : Int) = false := by (try unfold qBody); (try unfold qGen); (try unfold qKeys); (try unfold qPage); exact decide_eq_false (by have := HK8.out; omega)
            unfold rdAn
            simp only [E1.out, E2.out, E3.out, B8, BB, BG, BK, BP, opt_t, opt_f, E4.out, E5.out, E6.out, E7.out]
            rw [hn, hfe]
            by_cases h0 : fe = 0
            · rw [if_pos h0, if_pos ⟨by omega, by omega, by omega, by omega, h0⟩]; rfl
            · rw [if_neg h0, if_neg (fun h => h0 h.2.2.2.2)]⟩
          clear hn hfe
          refine wp_region_held_drew (S := fun W => ∃ zs : Array Value, zs.size = 15 ∧ QS w W 43 gx gq gr A n c t4 bs zs M) (by kernel_rfl) ⟨an0, rfl, HW.out.below (Chg.refl _ _).drew⟩ (fun hHeld => ?_)
          refine wpAnyH_take (i := 0) (oi := ?oiR400) (v := .agg M.cells.toArray) ?hiR400 (by kernel_rfl) (by kernel_rfl) (by kernel_rfl) ?hQR400 ?hyR400 (by assumption) ?restR400
          case hiR400 => simp only [List.getElem?_toArray, List.getElem?_cons_succ, List.getElem?_cons_zero]; rfl
          case hQR400 => exact fun _ _ _ h => h
          case hyR400 => exact yieldsIf_load_mid rfl 43 (.tmp 4) rfl gq 0 rfl M.cells _ (fun W hW => let ⟨_, _, h⟩ := hW; h.range) Try.underlying43 rfl (by rw [infoAn15, HM1.out.1])
          simp only [Act.put, List.setIfInBounds_toArray, List.set_cons_zero, List.set_cons_succ]
          refine wpAnyH_take (i := 1) (oi := ?oi501) (v := ?v501) ?hi501 (by kernel_rfl) (by kernel_rfl) (by kernel_rfl) ?hQ501 (Or.inl ⟨?hw501, ?hy501⟩) (by assumption) ?rest501
          case hi501 => simp only [List.getElem?_toArray, List.getElem?_cons_succ, List.getElem?_cons_zero]; rfl
          case hQ501 => exact fun _ _ _ h => h
          case hw501 => rfl
          case hy501 => (intro W hW; skip; go_simp; all_goals rfl)
          simp only [Act.put, List.setIfInBounds_toArray, List.set_cons_zero, List.set_cons_succ]
          refine wpAnyH_ready (rs := [2]) (by kernel_rfl) (by simp) ?_
          refine AllReadyH.cons (i := 2) (o := ?o502) ?ho502 (fun Kq hK => ?step502) AllReadyH.nil
          case ho502 => simp only [List.getElem?_toArray, List.getElem?_cons_succ, List.getElem?_cons_zero]; rfl
          go_simp
          (obtain ⟨zs, hz8, hQ⟩ := hHeld; go_at_call 130; refine (end_any _ gr n c t4.1 t4.2 A bs hQ.rdr).mono ?_; rw [HFE.out]; rintro e w7 ⟨rfl, hc7⟩)
          have hF : ∃ zs : Array Value, zs.size = 15 ∧ QS w w7 43 gx gq gr A n c t4 bs zs M := ⟨zs, hz8, hQ.below hc7⟩
          refine hK.out _ _ hF (fun _ => ?_)
          clear hK Kq hQ hz8 hc7
          have hHeld := hF
          clear hF
          try simp only [Act.put, List.setIfInBounds_toArray, List.set_cons_zero, List.set_cons_succ]
          refine wpAnyH_take (i := 3) (oi := ?oi503) (v := ?v503) ?hi503 (by kernel_rfl) (by kernel_rfl) (by kernel_rfl) ?hQ503 (Or.inl ⟨?hw503, ?hy503⟩) (by assumption) ?rest503
          case hi503 => simp only [List.getElem?_toArray, List.getElem?_cons_succ, List.getElem?_cons_zero]; rfl
          case hQ503 => exact fun _ _ _ h => h
          case hw503 => rfl
          case hy503 => (intro W hW; skip; go_simp; all_goals rfl)
          simp only [Act.put, List.setIfInBounds_toArray, List.set_cons_zero, List.set_cons_succ]
          refine wpAnyH_ready (rs := [4]) (by kernel_rfl) (by simp) ?_
          refine AllReadyH.cons (i := 4) (o := ?oS400) ?hoS400 (fun Kq hK => ?stepS400) AllReadyH.nil
          case hoS400 => simp only [List.getElem?_toArray, List.getElem?_cons_succ, List.getElem?_cons_zero]; rfl
          obtain ⟨zs, hz8, hQ⟩ := hHeld
          refine step_store rfl 43 (.tmp 2) (.tmp 58) rfl gx M.cells.toArray rfl rfl 43 zs hQ.res (by rw [infoAn15]; simp [HM1.out.1]) (by rw [hz8]; simp [HM1.out.1]) HM1.out.2 ?_
          intro w8 hs8 hg8
          have hF : ∃ zs : Array Value, zs.size = 15 ∧ QS w w8 43 gx gq gr A n c t4 bs zs M := ⟨M.cells.toArray, by simp [HM1.out.1], hQ.stored hs8 hg8⟩
          have HRES : Hd (w8.heap[gx]? = some (.cells M.cells.toArray 43) ∧ QS w w8 43 gx gq gr A n c t4 bs M.cells.toArray M) := ⟨hs8, hQ.stored hs8 hg8⟩
          refine hK.out _ _ hF (fun _ => ?_)
          clear hK Kq hQ hz8 hs8 hg8
          have hHeld := hF
          clear hF
          try simp only [Act.put, List.setIfInBounds_toArray, List.set_cons_zero, List.set_cons_succ]
          refine wpAnyH_take (i := 5) (oi := ?oi601) (v := ?v601) ?hi601 (by kernel_rfl) (by kernel_rfl) (by kernel_rfl) ?hQ601 (Or.inl ⟨?hw601, ?hy601⟩) (by assumption) ?rest601
          case hi601 => simp only [List.getElem?_toArray, List.getElem?_cons_succ, List.getElem?_cons_zero]; rfl
          case hQ601 => exact fun _ _ _ h => h
          case hw601 => rfl
          case hy601 => (intro W hW; skip; go_simp; all_goals rfl)
          simp only [Act.put, List.setIfInBounds_toArray, List.set_cons_zero, List.set_cons_succ]
          refine wpAnyH_done (by kernel_rfl) ?_ _
          clear hHeld
          go_wp2_with fail
          (try simp only [Exit.inBlock, Exit.then])
          refine bodyPost_ret (results_cell_tmp rfl _ _ gx 43 M.cells.toArray (0, 0) _ rfl HRES.out.1 Try.underlying43 rfl (by rw [infoAn15]; simp [HM1.out.1])) rfl ?_
          refine ⟨M, decide (fe = 0), by (first | rfl | (simp [Act.put]; rfl) | skip), HRES.out.2.ch, HM1.out.1, HM1.out.2, ?_⟩
          rw [HRD.out]
          by_cases h0 : fe = 0
          · exact .inl ⟨_, decide_eq_true h0, if_pos h0, HMI.out, HRES.out.2.ok.lower (by have := HRES.out.2.l2; have := HRES.out.2.l3; omega)⟩
          · exact .inr ⟨decide_eq_false h0, if_neg h0⟩
  have k8b : ((v1 : Int) == 8) = false := beq_eq_false_iff_ne.2 (by omega)
  by_cases k0 : v3 = 0
  case neg =>
    have k0b : ((v3 : Int) == 0) = false := beq_eq_false_iff_ne.2 (by omega)
    have HK0 := Hd.mk (And.intro k0 k8)
    clear k0 k8
    go_upto_region 13 with fail
    have HW := Hd.mk H5.out
    clear H5
    try clear c0
    try clear c2
    obtain ⟨M, hM⟩ : ∃ M, (anW (anX v1 v2 v3 [] [] [] [] false 0 0 0 0 0 0 0) (.slice none 0 0) (.slice none 0 0) (.slice none 0 0)) = M := ⟨_, rfl⟩
    have HM1 : Hd (M.cells.length = 15 ∧ M.cells.toArray.all (·.oneCell') = true) := ⟨by rw [← hM]; exact anW_one HW.out.ok⟩
    have HMI : Hd (anIs M (anX v1 v2 v3 [] [] [] [] false 0 0 0 0 0 0 0)) := ⟨_, _, _, hM.symm⟩
    rw [hM] at HW
    clear hM
    obtain ⟨fe, hfe⟩ : ∃ f, endF n s3.1 s3.2 = f := ⟨_, rfl⟩
    have HFE := Hd.mk hfe
    have hn : bs.length = n := HW.out.rdr.len
    have HRD : Hd (rdAn bs = if fe = 0 then some (anX v1 v2 v3 [] [] [] [] false 0 0 0 0 0 0 0) else none) := ⟨by
      have ky := HYES.out
      have z0 : unz ((0 : Nat) : Int) = 0 := by decide
      have B8 : decide ((v1 : Int) = 8) = false := by (try unfold qBody); (try unfold qGen); (try unfold qKeys); (try unfold qPage); exact decide_eq_false (by have := HK0.out; omega)
      have BB : qBody (v1 : Int) (v3 : Int) = false := by (try unfold qBody); (try unfold qGen); (try unfold qKeys); (try unfold qPage); exact decide_eq_false (by have := HK0.out; omega)
      have BG : qGen (v1 : Int) (v3 : Int) = false := by (try unfold qBody); (try unfold qGen); (try unfold qKeys); (try unfold qPage); exact decide_eq_false (by have := HK0.out; omega)
      have BK : qKeys (v1 : Int) (v3 : Int) = false := by (try unfold qBody); (try unfold qGen); (try unfold qKeys); (try unfold qPage); exact decide_eq_false (by have := HK0.out; omega)
      have BP : qPage (v1 : Int) (v3 : Int) = false := by (try unfold qBody); (try unfold qGen); (try unfold qKeys); (try unfold qPage); exact decide_eq_false (by have := HK0.out; omega)
      unfold rdAn
      simp only [E1.out, E2.out, E3.out, B8, BB, BG, BK, BP, opt_t, opt_f]
      rw [hn, hfe]
      by_cases h0 : fe = 0
      · rw [if_pos h0, if_pos ⟨by omega, by omega, by omega, by omega, h0⟩]; rfl
      · rw [if_neg h0, if_neg (fun h => h0 h.2.2.2.2)]⟩
    clear hn hfe
    refine wp_region_held_drew (S := fun W => ∃ zs : Array Value, zs.size = 15 ∧ QS w W 43 gx gq gr A n c s3 bs zs M) (by kernel_rfl) ⟨an0, rfl, HW.out.below (Chg.refl _ _).drew⟩ (fun hHeld => ?_)
    refine wpAnyH_take (i := 0) (oi := ?oiR700) (v := .agg M.cells.toArray) ?hiR700 (by kernel_rfl) (by kernel_rfl) (by kernel_rfl) ?hQR700 ?hyR700 (by assumption) ?restR700
    case hiR700 => simp only [List.getElem?_toArray, List.getElem?_cons_succ, List.getElem?_cons_zero]; rfl
    case hQR700 => exact fun _ _ _ h => h
    case hyR700 => exact yieldsIf_load_mid rfl 43 (.tmp 4) rfl gq 0 rfl M.cells _ (fun W hW => let ⟨_, _, h⟩ := hW; h.range) Try.underlying43 rfl (by rw [infoAn15, HM1.out.1])
    simp only [Act.put, List.setIfInBounds_toArray, List.set_cons_zero, List.set_cons_succ]
    refine wpAnyH_take (i := 1) (oi := ?oi801) (v := ?v801) ?hi801 (by kernel_rfl) (by kernel_rfl) (by kernel_rfl) ?hQ801 (Or.inl ⟨?hw801, ?hy801⟩) (by assumption) ?rest801
    case hi801 => simp only [List.getElem?_toArray, List.getElem?_cons_succ, List.getElem?_cons_zero]; rfl
    case hQ801 => exact fun _ _ _ h => h
    case hw801 => rfl
    case hy801 => (intro W hW; skip; go_simp; all_goals rfl)
    simp only [Act.put, List.setIfInBounds_toArray, List.set_cons_zero, List.set_cons_succ]
    refine wpAnyH_ready (rs := [2]) (by kernel_rfl) (by simp) ?_
    refine AllReadyH.cons (i := 2) (o := ?o802) ?ho802 (fun Kq hK => ?step802) AllReadyH.nil
    case ho802 => simp only [List.getElem?_toArray, List.getElem?_cons_succ, List.getElem?_cons_zero]; rfl
    go_simp
    (obtain ⟨zs, hz8, hQ⟩ := hHeld; go_at_call 130; refine (end_any _ gr n c s3.1 s3.2 A bs hQ.rdr).mono ?_; rw [HFE.out]; rintro e w7 ⟨rfl, hc7⟩)
    have hF : ∃ zs : Array Value, zs.size = 15 ∧ QS w w7 43 gx gq gr A n c s3 bs zs M := ⟨zs, hz8, hQ.below hc7⟩
    refine hK.out _ _ hF (fun _ => ?_)
    clear hK Kq hQ hz8 hc7
    have hHeld := hF
    clear hF
    try simp only [Act.put, List.setIfInBounds_toArray, List.set_cons_zero, List.set_cons_succ]
    refine wpAnyH_take (i := 3) (oi := ?oi803) (v := ?v803) ?hi803 (by kernel_rfl) (by kernel_rfl) (by kernel_rfl) ?hQ803 (Or.inl ⟨?hw803, ?hy803⟩) (by assumption) ?rest803
    case hi803 => simp only [List.getElem?_toArray, List.getElem?_cons_succ, List.getElem?_cons_zero]; rfl
    case hQ803 => exact fun _ _ _ h => h
    case hw803 => rfl
    case hy803 => (intro W hW; skip; go_simp; all_goals rfl)
    simp only [Act.put, List.setIfInBounds_toArray, List.set_cons_zero, List.set_cons_succ]
    refine wpAnyH_ready (rs := [4]) (by kernel_rfl) (by simp) ?_
    refine AllReadyH.cons (i := 4) (o := ?oS700) ?hoS700 (fun Kq hK => ?stepS700) AllReadyH.nil
    case hoS700 => simp only [List.getElem?_toArray, List.getElem?_cons_succ, List.getElem?_cons_zero]; rfl
    obtain ⟨zs, hz8, hQ⟩ := hHeld
    refine step_store rfl 43 (.tmp 2) (.tmp 58) rfl gx M.cells.toArray rfl rfl 43 zs hQ.res (by rw [infoAn15]; simp [HM1.out.1]) (by rw [hz8]; simp [HM1.out.1]) HM1.out.2 ?_
    intro w8 hs8 hg8
    have hF : ∃ zs : Array Value, zs.size = 15 ∧ QS w w8 43 gx gq gr A n c s3 bs zs M := ⟨M.cells.toArray, by simp [HM1.out.1], hQ.stored hs8 hg8⟩
    have HRES : Hd (w8.heap[gx]? = some (.cells M.cells.toArray 43) ∧ QS w w8 43 gx gq gr A n c s3 bs M.cells.toArray M) := ⟨hs8, hQ.stored hs8 hg8⟩
    refine hK.out _ _ hF (fun _ => ?_)
    clear hK Kq hQ hz8 hs8 hg8
    have hHeld := hF
    clear hF
    try simp only [Act.put, List.setIfInBounds_toArray, List.set_cons_zero, List.set_cons_succ]
    refine wpAnyH_take (i := 5) (oi := ?oi901) (v := ?v901) ?hi901 (by kernel_rfl) (by kernel_rfl) (by kernel_rfl) ?hQ901 (Or.inl ⟨?hw901, ?hy901⟩) (by assumption) ?rest901
    case hi901 => simp only [List.getElem?_toArray, List.getElem?_cons_succ, List.getElem?_cons_zero]; rfl
    case hQ901 => exact fun _ _ _ h => h
    case hw901 => rfl
    case hy901 => (intro W hW; skip; go_simp; all_goals rfl)
    simp only [Act.put, List.setIfInBounds_toArray, List.set_cons_zero, List.set_cons_succ]
    refine wpAnyH_done (by kernel_rfl) ?_ _
    clear hHeld
    go_wp2_with fail
    (try simp only [Exit.inBlock, Exit.then])
    refine bodyPost_ret (results_cell_tmp rfl _ _ gx 43 M.cells.toArray (0, 0) _ rfl HRES.out.1 Try.underlying43 rfl (by rw [infoAn15]; simp [HM1.out.1])) rfl ?_
    refine ⟨M, decide (fe = 0), by (first | rfl | (simp [Act.put]; rfl) | skip), HRES.out.2.ch, HM1.out.1, HM1.out.2, ?_⟩
    rw [HRD.out]
    by_cases h0 : fe = 0
    · exact .inl ⟨_, decide_eq_true h0, if_pos h0, HMI.out, HRES.out.2.ok.lower (by have := HRES.out.2.l2; have := HRES.out.2.l3; omega)⟩
    · exact .inr ⟨decide_eq_false h0, if_neg h0⟩
  have k0b : ((v3 : Int) == 0) = true := by subst k0; rfl
  by_cases k2 : v1 = 2
  · have kk := k2
    have q2 : ((v1 : Int) == 2) = true := by rw [kk]; rfl
    have q3 : ((v1 : Int) == 3) = false := beq_eq_false_iff_ne.2 (by omega)
    have q4 : ((v1 : Int) == 4) = false := beq_eq_false_iff_ne.2 (by omega)
    have q6 : ((v1 : Int) == 6) = false := beq_eq_false_iff_ne.2 (by omega)
    have q7 : ((v1 : Int) == 7) = false := beq_eq_false_iff_ne.2 (by omega)
    have HK0 := Hd.mk (And.intro kk k0)
    clear kk k2 k0 k8
    go_wp2_with fail
    refine (cBlk (s := s3) 1048576 (by omega) H5.out.rdr).mono ?_
    rintro e wz101 ⟨x101, s101, p101, q101, ez, rfl, hoz, hc, hR⟩
    have HZ : Hd (QS w wz101 43 gx gq gr A n c s101 bs an0 (anW (anX v1 v2 v3 [] [] [] [] false 0 0 0 0 0 0 0) (.slice none 0 0) (.slice none 0 0) (.slice none 0 0))) := ⟨H5.out.call hc hR⟩
    have E101 : Hd (rBlk bs 1048576 s3 = (x101, s101)) := ⟨ez⟩
    have HOZ := Hd.mk (own_base hoz (base' := gq + 1) H5.out.lt)
    clear hoz hc hR ez
    have d0 : wz101.cell? ⟨gq, 3, none⟩ = some (.slice none 0 0) := HZ.out.at_ 3 rfl
    have d1 := HZ.out.z 3
    try clear c0
    try clear c2
    go_upto_region 32 with fail
    obtain ⟨ww101, hww⟩ : ∃ W, wz101.setCell ⟨gq, 3, none⟩ (.slice p101 x101.length q101) = W := ⟨_, rfl⟩
    rw [hww]
    have HB101 : Hd (QS w ww101 43 gx gq gr A n c s101 bs an0 (anW (anX v1 v2 v3 x101 [] [] [] false 0 0 0 0 0 0 0) (.slice p101 x101.length q101) (.slice none 0 0) (.slice none 0 0))) := ⟨by rw [← hww]; exact HZ.out.set (M' := (anW (anX v1 v2 v3 x101 [] [] [] false 0 0 0 0 0 0 0) (.slice p101 x101.length q101) (.slice none 0 0) (.slice none 0 0))) 3 _ rfl (an_ok HOZ.out (an_own HZ.out.ok).2.1 (an_own HZ.out.ok).2.2)⟩
    clear hww HZ d0 d1 H5
    have HW := Hd.mk HB101.out
    clear HB101
    try clear c0
    try clear c2
    obtain ⟨M, hM⟩ : ∃ M, (anW (anX v1 v2 v3 x101 [] [] [] false 0 0 0 0 0 0 0) (.slice p101 x101.length q101) (.slice none 0 0) (.slice none 0 0)) = M := ⟨_, rfl⟩
    have HM1 : Hd (M.cells.length = 15 ∧ M.cells.toArray.all (·.oneCell') = true) := ⟨by rw [← hM]; exact anW_one HW.out.ok⟩
    have HMI : Hd (anIs M (anX v1 v2 v3 x101 [] [] [] false 0 0 0 0 0 0 0)) := ⟨_, _, _, hM.symm⟩
    rw [hM] at HW
    clear hM
    obtain ⟨fe, hfe⟩ : ∃ f, endF n s101.1 s101.2 = f := ⟨_, rfl⟩
    have HFE := Hd.mk hfe
    have hn : bs.length = n := HW.out.rdr.len
    have HRD : Hd (rdAn bs = if fe = 0 then some (anX v1 v2 v3 x101 [] [] [] false 0 0 0 0 0 0 0) else none) := ⟨by
      have ky := HYES.out
      have z0 : unz ((0 : Nat) : Int) = 0 := by decide
      have B8 : decide ((v1 : Int) = 8) = false := by (try unfold qBody); (try unfold qGen); (try unfold qKeys); (try unfold qPage); exact decide_eq_false (by have := HK0.out; omega)
      have BB : qBody (v1 : Int) (v3 : Int) = true := by (try unfold qBody); (try unfold qGen); (try unfold qKeys); (try unfold qPage); exact decide_eq_true (by have := HK0.out; omega)
      have BG : qGen (v1 : Int) (v3 : Int) = false := by (try unfold qBody); (try unfold qGen); (try unfold qKeys); (try unfold qPage); exact decide_eq_false (by have := HK0.out; omega)
      have BK : qKeys (v1 : Int) (v3 : Int) = false := by (try unfold qBody); (try unfold qGen); (try unfold qKeys); (try unfold qPage); exact decide_eq_false (by have := HK0.out; omega)
      have BP : qPage (v1 : Int) (v3 : Int) = false := by (try unfold qBody); (try unfold qGen); (try unfold qKeys); (try unfold qPage); exact decide_eq_false (by have := HK0.out; omega)
      unfold rdAn
      simp only [E1.out, E2.out, E3.out, B8, BB, BG, BK, BP, opt_t, opt_f, E101.out]
      rw [hn, hfe]
      by_cases h0 : fe = 0
      · rw [if_pos h0, if_pos ⟨by omega, by omega, by omega, by omega, h0⟩]; rfl
      · rw [if_neg h0, if_neg (fun h => h0 h.2.2.2.2)]⟩
    clear hn hfe
    refine wp_region_held_drew (S := fun W => ∃ zs : Array Value, zs.size = 15 ∧ QS w W 43 gx gq gr A n c s101 bs zs M) (by kernel_rfl) ⟨an0, rfl, HW.out.below (Chg.refl _ _).drew⟩ (fun hHeld => ?_)
    refine wpAnyH_take (i := 0) (oi := ?oiR1000) (v := .agg M.cells.toArray) ?hiR1000 (by kernel_rfl) (by kernel_rfl) (by kernel_rfl) ?hQR1000 ?hyR1000 (by assumption) ?restR1000
    case hiR1000 => simp only [List.getElem?_toArray, List.getElem?_cons_succ, List.getElem?_cons_zero]; rfl
    case hQR1000 => exact fun _ _ _ h => h
    case hyR1000 => exact yieldsIf_load_mid rfl 43 (.tmp 4) rfl gq 0 rfl M.cells _ (fun W hW => let ⟨_, _, h⟩ := hW; h.range) Try.underlying43 rfl (by rw [infoAn15, HM1.out.1])
    simp only [Act.put, List.setIfInBounds_toArray, List.set_cons_zero, List.set_cons_succ]
    refine wpAnyH_take (i := 1) (oi := ?oi1101) (v := ?v1101) ?hi1101 (by kernel_rfl) (by kernel_rfl) (by kernel_rfl) ?hQ1101 (Or.inl ⟨?hw1101, ?hy1101⟩) (by assumption) ?rest1101
    case hi1101 => simp only [List.getElem?_toArray, List.getElem?_cons_succ, List.getElem?_cons_zero]; rfl
    case hQ1101 => exact fun _ _ _ h => h
    case hw1101 => rfl
    case hy1101 => (intro W hW; skip; go_simp; all_goals rfl)
    simp only [Act.put, List.setIfInBounds_toArray, List.set_cons_zero, List.set_cons_succ]
    refine wpAnyH_ready (rs := [2]) (by kernel_rfl) (by simp) ?_
    refine AllReadyH.cons (i := 2) (o := ?o1102) ?ho1102 (fun Kq hK => ?step1102) AllReadyH.nil
    case ho1102 => simp only [List.getElem?_toArray, List.getElem?_cons_succ, List.getElem?_cons_zero]; rfl
    go_simp
    (obtain ⟨zs, hz8, hQ⟩ := hHeld; go_at_call 130; refine (end_any _ gr n c s101.1 s101.2 A bs hQ.rdr).mono ?_; rw [HFE.out]; rintro e w7 ⟨rfl, hc7⟩)
    have hF : ∃ zs : Array Value, zs.size = 15 ∧ QS w w7 43 gx gq gr A n c s101 bs zs M := ⟨zs, hz8, hQ.below hc7⟩
    refine hK.out _ _ hF (fun _ => ?_)
    clear hK Kq hQ hz8 hc7
    have hHeld := hF
    clear hF
    try simp only [Act.put, List.setIfInBounds_toArray, List.set_cons_zero, List.set_cons_succ]
    refine wpAnyH_take (i := 3) (oi := ?oi1103) (v := ?v1103) ?hi1103 (by kernel_rfl) (by kernel_rfl) (by kernel_rfl) ?hQ1103 (Or.inl ⟨?hw1103, ?hy1103⟩) (by assumption) ?rest1103
    case hi1103 => simp only [List.getElem?_toArray, List.getElem?_cons_succ, List.getElem?_cons_zero]; rfl
    case hQ1103 => exact fun _ _ _ h => h
    case hw1103 => rfl
    case hy1103 => (intro W hW; skip; go_simp; all_goals rfl)
    simp only [Act.put, List.setIfInBounds_toArray, List.set_cons_zero, List.set_cons_succ]
    refine wpAnyH_ready (rs := [4]) (by kernel_rfl) (by simp) ?_
    refine AllReadyH.cons (i := 4) (o := ?oS1000) ?hoS1000 (fun Kq hK => ?stepS1000) AllReadyH.nil
    case hoS1000 => simp only [List.getElem?_toArray, List.getElem?_cons_succ, List.getElem?_cons_zero]; rfl
    obtain ⟨zs, hz8, hQ⟩ := hHeld
    refine step_store rfl 43 (.tmp 2) (.tmp 108) rfl gx M.cells.toArray rfl rfl 43 zs hQ.res (by rw [infoAn15]; simp [HM1.out.1]) (by rw [hz8]; simp [HM1.out.1]) HM1.out.2 ?_
    intro w8 hs8 hg8
    have hF : ∃ zs : Array Value, zs.size = 15 ∧ QS w w8 43 gx gq gr A n c s101 bs zs M := ⟨M.cells.toArray, by simp [HM1.out.1], hQ.stored hs8 hg8⟩
    have HRES : Hd (w8.heap[gx]? = some (.cells M.cells.toArray 43) ∧ QS w w8 43 gx gq gr A n c s101 bs M.cells.toArray M) := ⟨hs8, hQ.stored hs8 hg8⟩
    refine hK.out _ _ hF (fun _ => ?_)
    clear hK Kq hQ hz8 hs8 hg8
    have hHeld := hF
    clear hF
    try simp only [Act.put, List.setIfInBounds_toArray, List.set_cons_zero, List.set_cons_succ]
    refine wpAnyH_take (i := 5) (oi := ?oi1201) (v := ?v1201) ?hi1201 (by kernel_rfl) (by kernel_rfl) (by kernel_rfl) ?hQ1201 (Or.inl ⟨?hw1201, ?hy1201⟩) (by assumption) ?rest1201
    case hi1201 => simp only [List.getElem?_toArray, List.getElem?_cons_succ, List.getElem?_cons_zero]; rfl
    case hQ1201 => exact fun _ _ _ h => h
    case hw1201 => rfl
    case hy1201 => (intro W hW; skip; go_simp; all_goals rfl)
    simp only [Act.put, List.setIfInBounds_toArray, List.set_cons_zero, List.set_cons_succ]
    refine wpAnyH_done (by kernel_rfl) ?_ _
    clear hHeld
    go_wp2_with fail
    (try simp only [Exit.inBlock, Exit.then])
    refine bodyPost_ret (results_cell_tmp rfl _ _ gx 43 M.cells.toArray (0, 0) _ rfl HRES.out.1 Try.underlying43 rfl (by rw [infoAn15]; simp [HM1.out.1])) rfl ?_
    refine ⟨M, decide (fe = 0), by (first | rfl | (simp [Act.put]; rfl) | skip), HRES.out.2.ch, HM1.out.1, HM1.out.2, ?_⟩
    rw [HRD.out]
    by_cases h0 : fe = 0
    · exact .inl ⟨_, decide_eq_true h0, if_pos h0, HMI.out, HRES.out.2.ok.lower (by have := HRES.out.2.l2; have := HRES.out.2.l3; omega)⟩
    · exact .inr ⟨decide_eq_false h0, if_neg h0⟩
  by_cases k3 : v1 = 3
  · have kk := k3
    have q2 : ((v1 : Int) == 2) = false := beq_eq_false_iff_ne.2 (by omega)
    have q3 : ((v1 : Int) == 3) = true := by rw [kk]; rfl
    have q4 : ((v1 : Int) == 4) = false := beq_eq_false_iff_ne.2 (by omega)
    have q6 : ((v1 : Int) == 6) = false := beq_eq_false_iff_ne.2 (by omega)
    have q7 : ((v1 : Int) == 7) = false := beq_eq_false_iff_ne.2 (by omega)
    have HK0 := Hd.mk (And.intro kk k0)
    clear kk k3 k0 k8 k2
    go_wp2_with fail
    refine (cBlk (s := s3) 1048576 (by omega) H5.out.rdr).mono ?_
    rintro e wz102 ⟨x102, s102, p102, q102, ez, rfl, hoz, hc, hR⟩
    have HZ : Hd (QS w wz102 43 gx gq gr A n c s102 bs an0 (anW (anX v1 v2 v3 [] [] [] [] false 0 0 0 0 0 0 0) (.slice none 0 0) (.slice none 0 0) (.slice none 0 0))) := ⟨H5.out.call hc hR⟩
    have E102 : Hd (rBlk bs 1048576 s3 = (x102, s102)) := ⟨ez⟩
    have HOZ := Hd.mk (own_base hoz (base' := gq + 1) H5.out.lt)
    clear hoz hc hR ez
    have d0 : wz102.cell? ⟨gq, 3, none⟩ = some (.slice none 0 0) := HZ.out.at_ 3 rfl
    have d1 := HZ.out.z 3
    try clear c0
    try clear c2
    go_upto_region 32 with fail
    obtain ⟨ww102, hww⟩ : ∃ W, wz102.setCell ⟨gq, 3, none⟩ (.slice p102 x102.length q102) = W := ⟨_, rfl⟩
    rw [hww]
    have HB102 : Hd (QS w ww102 43 gx gq gr A n c s102 bs an0 (anW (anX v1 v2 v3 x102 [] [] [] false 0 0 0 0 0 0 0) (.slice p102 x102.length q102) (.slice none 0 0) (.slice none 0 0))) := ⟨by rw [← hww]; exact HZ.out.set (M' := (anW (anX v1 v2 v3 x102 [] [] [] false 0 0 0 0 0 0 0) (.slice p102 x102.length q102) (.slice none 0 0) (.slice none 0 0))) 3 _ rfl (an_ok HOZ.out (an_own HZ.out.ok).2.1 (an_own HZ.out.ok).2.2)⟩
    clear hww HZ d0 d1 H5
    have HW := Hd.mk HB102.out
    clear HB102
    try clear c0
    try clear c2
    obtain ⟨M, hM⟩ : ∃ M, (anW (anX v1 v2 v3 x102 [] [] [] false 0 0 0 0 0 0 0) (.slice p102 x102.length q102) (.slice none 0 0) (.slice none 0 0)) = M := ⟨_, rfl⟩
    have HM1 : Hd (M.cells.length = 15 ∧ M.cells.toArray.all (·.oneCell') = true) := ⟨by rw [← hM]; exact anW_one HW.out.ok⟩
    have HMI : Hd (anIs M (anX v1 v2 v3 x102 [] [] [] false 0 0 0 0 0 0 0)) := ⟨_, _, _, hM.symm⟩
    rw [hM] at HW
    clear hM
    obtain ⟨fe, hfe⟩ : ∃ f, endF n s102.1 s102.2 = f := ⟨_, rfl⟩
    have HFE := Hd.mk hfe
    have hn : bs.length = n := HW.out.rdr.len
    have HRD : Hd (rdAn bs = if fe = 0 then some (anX v1 v2 v3 x102 [] [] [] false 0 0 0 0 0 0 0) else none) := ⟨by
      have ky := HYES.out
      have z0 : unz ((0 : Nat) : Int) = 0 := by decide
      have B8 : decide ((v1 : Int) = 8) = false := by (try unfold qBody); (try unfold qGen); (try unfold qKeys); (try unfold qPage); exact decide_eq_false (by have := HK0.out; omega)
      have BB : qBody (v1 : Int) (v3 : Int) = true := by (try unfold qBody); (try unfold qGen); (try unfold qKeys); (try unfold qPage); exact decide_eq_true (by have := HK0.out; omega)
      have BG : qGen (v1 : Int) (v3 : Int) = false := by (try unfold qBody); (try unfold qGen); (try unfold qKeys); (try unfold qPage); exact decide_eq_false (by have := HK0.out; omega)
      have BK : qKeys (v1 : Int) (v3 : Int) = false := by (try unfold qBody); (try unfold qGen); (try unfold qKeys); (try unfold qPage); exact decide_eq_false (by have := HK0.out; omega)
      have BP : qPage (v1 : Int) (v3 : Int) = false := by (try unfold qBody); (try unfold qGen); (try unfold qKeys); (try unfold qPage); exact decide_eq_false (by have := HK0.out; omega)
      unfold rdAn
      simp only [E1.out, E2.out, E3.out, B8, BB, BG, BK, BP, opt_t, opt_f, E102.out]
      rw [hn, hfe]
      by_cases h0 : fe = 0
      · rw [if_pos h0, if_pos ⟨by omega, by omega, by omega, by omega, h0⟩]; rfl
      · rw [if_neg h0, if_neg (fun h => h0 h.2.2.2.2)]⟩
    clear hn hfe
    refine wp_region_held_drew (S := fun W => ∃ zs : Array Value, zs.size = 15 ∧ QS w W 43 gx gq gr A n c s102 bs zs M) (by kernel_rfl) ⟨an0, rfl, HW.out.below (Chg.refl _ _).drew⟩ (fun hHeld => ?_)
    refine wpAnyH_take (i := 0) (oi := ?oiR1300) (v := .agg M.cells.toArray) ?hiR1300 (by kernel_rfl) (by kernel_rfl) (by kernel_rfl) ?hQR1300 ?hyR1300 (by assumption) ?restR1300
    case hiR1300 => simp only [List.getElem?_toArray, List.getElem?_cons_succ, List.getElem?_cons_zero]; rfl
    case hQR1300 => exact fun _ _ _ h => h
    case hyR1300 => exact yieldsIf_load_mid rfl 43 (.tmp 4) rfl gq 0 rfl M.cells _ (fun W hW => let ⟨_, _, h⟩ := hW; h.range) Try.underlying43 rfl (by rw [infoAn15, HM1.out.1])
    simp only [Act.put, List.setIfInBounds_toArray, List.set_cons_zero, List.set_cons_succ]
    refine wpAnyH_take (i := 1) (oi := ?oi1401) (v := ?v1401) ?hi1401 (by kernel_rfl) (by kernel_rfl) (by kernel_rfl) ?hQ1401 (Or.inl ⟨?hw1401, ?hy1401⟩) (by assumption) ?rest1401
    case hi1401 => simp only [List.getElem?_toArray, List.getElem?_cons_succ, List.getElem?_cons_zero]; rfl
    case hQ1401 => exact fun _ _ _ h => h
    case hw1401 => rfl
    case hy1401 => (intro W hW; skip; go_simp; all_goals rfl)
    simp only [Act.put, List.setIfInBounds_toArray, List.set_cons_zero, List.set_cons_succ]
    refine wpAnyH_ready (rs := [2]) (by kernel_rfl) (by simp) ?_
    refine AllReadyH.cons (i := 2) (o := ?o1402) ?ho1402 (fun Kq hK => ?step1402) AllReadyH.nil
    case ho1402 => simp only [List.getElem?_toArray, List.getElem?_cons_succ, List.getElem?_cons_zero]; rfl
    go_simp
    (obtain ⟨zs, hz8, hQ⟩ := hHeld; go_at_call 130; refine (end_any _ gr n c s102.1 s102.2 A bs hQ.rdr).mono ?_; rw [HFE.out]; rintro e w7 ⟨rfl, hc7⟩)
    have hF : ∃ zs : Array Value, zs.size = 15 ∧ QS w w7 43 gx gq gr A n c s102 bs zs M := ⟨zs, hz8, hQ.below hc7⟩
    refine hK.out _ _ hF (fun _ => ?_)
    clear hK Kq hQ hz8 hc7
    have hHeld := hF
    clear hF
    try simp only [Act.put, List.setIfInBounds_toArray, List.set_cons_zero, List.set_cons_succ]
    refine wpAnyH_take (i := 3) (oi := ?oi1403) (v := ?v1403) ?hi1403 (by kernel_rfl) (by kernel_rfl) (by kernel_rfl) ?hQ1403 (Or.inl ⟨?hw1403, ?hy1403⟩) (by assumption) ?rest1403
    case hi1403 => simp only [List.getElem?_toArray, List.getElem?_cons_succ, List.getElem?_cons_zero]; rfl
    case hQ1403 => exact fun _ _ _ h => h
    case hw1403 => rfl
    case hy1403 => (intro W hW; skip; go_simp; all_goals rfl)
    simp only [Act.put, List.setIfInBounds_toArray, List.set_cons_zero, List.set_cons_succ]
    refine wpAnyH_ready (rs := [4]) (by kernel_rfl) (by simp) ?_
    refine AllReadyH.cons (i := 4) (o := ?oS1300) ?hoS1300 (fun Kq hK => ?stepS1300) AllReadyH.nil
    case hoS1300 => simp only [List.getElem?_toArray, List.getElem?_cons_succ, List.getElem?_cons_zero]; rfl
    obtain ⟨zs, hz8, hQ⟩ := hHeld
    refine step_store rfl 43 (.tmp 2) (.tmp 108) rfl gx M.cells.toArray rfl rfl 43 zs hQ.res (by rw [infoAn15]; simp [HM1.out.1]) (by rw [hz8]; simp [HM1.out.1]) HM1.out.2 ?_
    intro w8 hs8 hg8
    have hF : ∃ zs : Array Value, zs.size = 15 ∧ QS w w8 43 gx gq gr A n c s102 bs zs M := ⟨M.cells.toArray, by simp [HM1.out.1], hQ.stored hs8 hg8⟩
    have HRES : Hd (w8.heap[gx]? = some (.cells M.cells.toArray 43) ∧ QS w w8 43 gx gq gr A n c s102 bs M.cells.toArray M) := ⟨hs8, hQ.stored hs8 hg8⟩
    refine hK.out _ _ hF (fun _ => ?_)
    clear hK Kq hQ hz8 hs8 hg8
    have hHeld := hF
    clear hF
    try simp only [Act.put, List.setIfInBounds_toArray, List.set_cons_zero, List.set_cons_succ]
    refine wpAnyH_take (i := 5) (oi := ?oi1501) (v := ?v1501) ?hi1501 (by kernel_rfl) (by kernel_rfl) (by kernel_rfl) ?hQ1501 (Or.inl ⟨?hw1501, ?hy1501⟩) (by assumption) ?rest1501
    case hi1501 => simp only [List.getElem?_toArray, List.getElem?_cons_succ, List.getElem?_cons_zero]; rfl
    case hQ1501 => exact fun _ _ _ h => h
    case hw1501 => rfl
    case hy1501 => (intro W hW; skip; go_simp; all_goals rfl)
    simp only [Act.put, List.setIfInBounds_toArray, List.set_cons_zero, List.set_cons_succ]
    refine wpAnyH_done (by kernel_rfl) ?_ _
    clear hHeld
    go_wp2_with fail
    (try simp only [Exit.inBlock, Exit.then])
    refine bodyPost_ret (results_cell_tmp rfl _ _ gx 43 M.cells.toArray (0, 0) _ rfl HRES.out.1 Try.underlying43 rfl (by rw [infoAn15]; simp [HM1.out.1])) rfl ?_
    refine ⟨M, decide (fe = 0), by (first | rfl | (simp [Act.put]; rfl) | skip), HRES.out.2.ch, HM1.out.1, HM1.out.2, ?_⟩
    rw [HRD.out]
    by_cases h0 : fe = 0
    · exact .inl ⟨_, decide_eq_true h0, if_pos h0, HMI.out, HRES.out.2.ok.lower (by have := HRES.out.2.l2; have := HRES.out.2.l3; omega)⟩
    · exact .inr ⟨decide_eq_false h0, if_neg h0⟩
  by_cases k4 : v1 = 4
  · have kk := k4
    have q2 : ((v1 : Int) == 2) = false := beq_eq_false_iff_ne.2 (by omega)
    have q3 : ((v1 : Int) == 3) = false := beq_eq_false_iff_ne.2 (by omega)
    have q4 : ((v1 : Int) == 4) = true := by rw [kk]; rfl
    have q6 : ((v1 : Int) == 6) = false := beq_eq_false_iff_ne.2 (by omega)
    have q7 : ((v1 : Int) == 7) = false := beq_eq_false_iff_ne.2 (by omega)
    have HK0 := Hd.mk (And.intro kk k0)
    clear kk k4 k0 k8 k2 k3
    go_wp2_with fail
    refine (cNumV (s := s3) H5.out.rdr).mono ?_
    rintro e wz103 ⟨x103, s103, ez, rfl, hzb, hc, hR⟩
    have HZ : Hd (QS w wz103 43 gx gq gr A n c s103 bs an0 (anW (anX v1 v2 v3 [] [] [] [] false 0 0 0 0 0 0 0) (.slice none 0 0) (.slice none 0 0) (.slice none 0 0))) := ⟨H5.out.call hc hR⟩
    have E103 : Hd (rNum bs s3 = (x103, s103)) := ⟨ez⟩
    obtain ⟨u103, hu⟩ : ∃ u, unz (x103 : Int) = u := ⟨_, rfl⟩
    rw [hu] at hzb ⊢
    have HU := Hd.mk hu
    clear hu hc hR ez
    have d0 : wz103.cell? ⟨gq, 8, none⟩ = some (.int .i64 0) := HZ.out.at_ 8 rfl
    have d1 := HZ.out.z 8
    try clear c0
    try clear c2
    go_upto_region 20 with fail
    obtain ⟨ww103, hww⟩ : ∃ W, wz103.setCell ⟨gq, 8, none⟩ (.int .i64 u103) = W := ⟨_, rfl⟩
    rw [hww]
    rw [← HU.out] at hww
    have HB103 : Hd (QS w ww103 43 gx gq gr A n c s103 bs an0 (anW (anX v1 v2 v3 [] [] [] [] false x103 0 0 0 0 0 0) (.slice none 0 0) (.slice none 0 0) (.slice none 0 0))) := ⟨by rw [← hww]; exact HZ.out.set (M' := (anW (anX v1 v2 v3 [] [] [] [] false x103 0 0 0 0 0 0) (.slice none 0 0) (.slice none 0 0) (.slice none 0 0))) 8 _ rfl (an_re HZ.out.ok)⟩
    clear hww HZ d0 d1 H5
    clear HU
    clear hzb
    try clear hcv
    go_wp2_with fail
    refine (cNumV (s := s103) HB103.out.rdr).mono ?_
    rintro e wz104 ⟨x104, s104, ez, rfl, hzb, hc, hR⟩
    have HZ : Hd (QS w wz104 43 gx gq gr A n c s104 bs an0 (anW (anX v1 v2 v3 [] [] [] [] false x103 0 0 0 0 0 0) (.slice none 0 0) (.slice none 0 0) (.slice none 0 0))) := ⟨HB103.out.call hc hR⟩
    have E104 : Hd (rNum bs s103 = (x104, s104)) := ⟨ez⟩
    obtain ⟨u104, hu⟩ : ∃ u, unz (x104 : Int) = u := ⟨_, rfl⟩
    rw [hu] at hzb ⊢
    have HU := Hd.mk hu
    clear hu hc hR ez
    have d0 : wz104.cell? ⟨gq, 9, none⟩ = some (.int .i64 0) := HZ.out.at_ 9 rfl
    have d1 := HZ.out.z 9
    try clear c0
    try clear c2
    go_upto_region 21 with fail
    obtain ⟨ww104, hww⟩ : ∃ W, wz104.setCell ⟨gq, 9, none⟩ (.int .i64 u104) = W := ⟨_, rfl⟩
    rw [hww]
    rw [← HU.out] at hww
    have HB104 : Hd (QS w ww104 43 gx gq gr A n c s104 bs an0 (anW (anX v1 v2 v3 [] [] [] [] false x103 x104 0 0 0 0 0) (.slice none 0 0) (.slice none 0 0) (.slice none 0 0))) := ⟨by rw [← hww]; exact HZ.out.set (M' := (anW (anX v1 v2 v3 [] [] [] [] false x103 x104 0 0 0 0 0) (.slice none 0 0) (.slice none 0 0) (.slice none 0 0))) 9 _ rfl (an_re HZ.out.ok)⟩
    clear hww HZ d0 d1 HB103
    clear HU
    clear hzb
    try clear hcv
    go_wp2_with fail
    refine (cNumV (s := s104) HB104.out.rdr).mono ?_
    rintro e wz105 ⟨x105, s105, ez, rfl, hzb, hc, hR⟩
    have HZ : Hd (QS w wz105 43 gx gq gr A n c s105 bs an0 (anW (anX v1 v2 v3 [] [] [] [] false x103 x104 0 0 0 0 0) (.slice none 0 0) (.slice none 0 0) (.slice none 0 0))) := ⟨HB104.out.call hc hR⟩
    have E105 : Hd (rNum bs s104 = (x105, s105)) := ⟨ez⟩
    obtain ⟨u105, hu⟩ : ∃ u, unz (x105 : Int) = u := ⟨_, rfl⟩
    rw [hu] at hzb ⊢
    have HU := Hd.mk hu
    clear hu hc hR ez
    have d0 : wz105.cell? ⟨gq, 10, none⟩ = some (.int .i64 0) := HZ.out.at_ 10 rfl
    have d1 := HZ.out.z 10
    try clear c0
    try clear c2
    go_upto_region 32 with fail
    obtain ⟨ww105, hww⟩ : ∃ W, wz105.setCell ⟨gq, 10, none⟩ (.int .i64 u105) = W := ⟨_, rfl⟩
    rw [hww]
    rw [← HU.out] at hww
    have HB105 : Hd (QS w ww105 43 gx gq gr A n c s105 bs an0 (anW (anX v1 v2 v3 [] [] [] [] false x103 x104 x105 0 0 0 0) (.slice none 0 0) (.slice none 0 0) (.slice none 0 0))) := ⟨by rw [← hww]; exact HZ.out.set (M' := (anW (anX v1 v2 v3 [] [] [] [] false x103 x104 x105 0 0 0 0) (.slice none 0 0) (.slice none 0 0) (.slice none 0 0))) 10 _ rfl (an_re HZ.out.ok)⟩
    clear hww HZ d0 d1 HB104
    clear HU
    clear hzb
    try clear hcv
    have HW := Hd.mk HB105.out
    clear HB105
    try clear c0
    try clear c2
    obtain ⟨M, hM⟩ : ∃ M, (anW (anX v1 v2 v3 [] [] [] [] false x103 x104 x105 0 0 0 0) (.slice none 0 0) (.slice none 0 0) (.slice none 0 0)) = M := ⟨_, rfl⟩
    have HM1 : Hd (M.cells.length = 15 ∧ M.cells.toArray.all (·.oneCell') = true) := ⟨by rw [← hM]; exact anW_one HW.out.ok⟩
    have HMI : Hd (anIs M (anX v1 v2 v3 [] [] [] [] false x103 x104 x105 0 0 0 0)) := ⟨_, _, _, hM.symm⟩
    rw [hM] at HW
    clear hM
    obtain ⟨fe, hfe⟩ : ∃ f, endF n s105.1 s105.2 = f := ⟨_, rfl⟩
    have HFE := Hd.mk hfe
    have hn : bs.length = n := HW.out.rdr.len
    have HRD : Hd (rdAn bs = if fe = 0 then some (anX v1 v2 v3 [] [] [] [] false x103 x104 x105 0 0 0 0) else none) := ⟨by
      have ky := HYES.out
      have z0 : unz ((0 : Nat) : Int) = 0 := by decide
      have B8 : decide ((v1 : Int) = 8) = false := by (try unfold qBody); (try unfold qGen); (try unfold qKeys); (try unfold qPage); exact decide_eq_false (by have := HK0.out; omega)
      have BB : qBody (v1 : Int) (v3 : Int) = false := by (try unfold qBody); (try unfold qGen); (try unfold qKeys); (try unfold qPage); exact decide_eq_false (by have := HK0.out; omega)
      have BG : qGen (v1 : Int) (v3 : Int) = true := by (try unfold qBody); (try unfold qGen); (try unfold qKeys); (try unfold qPage); exact decide_eq_true (by have := HK0.out; omega)
      have BK : qKeys (v1 : Int) (v3 : Int) = false := by (try unfold qBody); (try unfold qGen); (try unfold qKeys); (try unfold qPage); exact decide_eq_false (by have := HK0.out; omega)
      have BP : qPage (v1 : Int) (v3 : Int) = false := by (try unfold qBody); (try unfold qGen); (try unfold qKeys); (try unfold qPage); exact decide_eq_false (by have := HK0.out; omega)
      unfold rdAn
      simp only [E1.out, E2.out, E3.out, B8, BB, BG, BK, BP, opt_t, opt_f, E103.out, E104.out, E105.out]
      rw [hn, hfe]
      by_cases h0 : fe = 0
      · rw [if_pos h0, if_pos ⟨by omega, by omega, by omega, by omega, h0⟩]; rfl
      · rw [if_neg h0, if_neg (fun h => h0 h.2.2.2.2)]⟩
    clear hn hfe
    refine wp_region_held_drew (S := fun W => ∃ zs : Array Value, zs.size = 15 ∧ QS w W 43 gx gq gr A n c s105 bs zs M) (by kernel_rfl) ⟨an0, rfl, HW.out.below (Chg.refl _ _).drew⟩ (fun hHeld => ?_)
    refine wpAnyH_take (i := 0) (oi := ?oiR1600) (v := .agg M.cells.toArray) ?hiR1600 (by kernel_rfl) (by kernel_rfl) (by kernel_rfl) ?hQR1600 ?hyR1600 (by assumption) ?restR1600
    case hiR1600 => simp only [List.getElem?_toArray, List.getElem?_cons_succ, List.getElem?_cons_zero]; rfl
    case hQR1600 => exact fun _ _ _ h => h
    case hyR1600 => exact yieldsIf_load_mid rfl 43 (.tmp 4) rfl gq 0 rfl M.cells _ (fun W hW => let ⟨_, _, h⟩ := hW; h.range) Try.underlying43 rfl (by rw [infoAn15, HM1.out.1])
    simp only [Act.put, List.setIfInBounds_toArray, List.set_cons_zero, List.set_cons_succ]
    refine wpAnyH_take (i := 1) (oi := ?oi1701) (v := ?v1701) ?hi1701 (by kernel_rfl) (by kernel_rfl) (by kernel_rfl) ?hQ1701 (Or.inl ⟨?hw1701, ?hy1701⟩) (by assumption) ?rest1701
    case hi1701 => simp only [List.getElem?_toArray, List.getElem?_cons_succ, List.getElem?_cons_zero]; rfl
    case hQ1701 => exact fun _ _ _ h => h
    case hw1701 => rfl
    case hy1701 => (intro W hW; skip; go_simp; all_goals rfl)
    simp only [Act.put, List.setIfInBounds_toArray, List.set_cons_zero, List.set_cons_succ]
    refine wpAnyH_ready (rs := [2]) (by kernel_rfl) (by simp) ?_
    refine AllReadyH.cons (i := 2) (o := ?o1702) ?ho1702 (fun Kq hK => ?step1702) AllReadyH.nil
    case ho1702 => simp only [List.getElem?_toArray, List.getElem?_cons_succ, List.getElem?_cons_zero]; rfl
    go_simp
    (obtain ⟨zs, hz8, hQ⟩ := hHeld; go_at_call 130; refine (end_any _ gr n c s105.1 s105.2 A bs hQ.rdr).mono ?_; rw [HFE.out]; rintro e w7 ⟨rfl, hc7⟩)
    have hF : ∃ zs : Array Value, zs.size = 15 ∧ QS w w7 43 gx gq gr A n c s105 bs zs M := ⟨zs, hz8, hQ.below hc7⟩
    refine hK.out _ _ hF (fun _ => ?_)
    clear hK Kq hQ hz8 hc7
    have hHeld := hF
    clear hF
    try simp only [Act.put, List.setIfInBounds_toArray, List.set_cons_zero, List.set_cons_succ]
    refine wpAnyH_take (i := 3) (oi := ?oi1703) (v := ?v1703) ?hi1703 (by kernel_rfl) (by kernel_rfl) (by kernel_rfl) ?hQ1703 (Or.inl ⟨?hw1703, ?hy1703⟩) (by assumption) ?rest1703
    case hi1703 => simp only [List.getElem?_toArray, List.getElem?_cons_succ, List.getElem?_cons_zero]; rfl
    case hQ1703 => exact fun _ _ _ h => h
    case hw1703 => rfl
    case hy1703 => (intro W hW; skip; go_simp; all_goals rfl)
    simp only [Act.put, List.setIfInBounds_toArray, List.set_cons_zero, List.set_cons_succ]
    refine wpAnyH_ready (rs := [4]) (by kernel_rfl) (by simp) ?_
    refine AllReadyH.cons (i := 4) (o := ?oS1600) ?hoS1600 (fun Kq hK => ?stepS1600) AllReadyH.nil
    case hoS1600 => simp only [List.getElem?_toArray, List.getElem?_cons_succ, List.getElem?_cons_zero]; rfl
    obtain ⟨zs, hz8, hQ⟩ := hHeld
    refine step_store rfl 43 (.tmp 2) (.tmp 108) rfl gx M.cells.toArray rfl rfl 43 zs hQ.res (by rw [infoAn15]; simp [HM1.out.1]) (by rw [hz8]; simp [HM1.out.1]) HM1.out.2 ?_
    intro w8 hs8 hg8
    have hF : ∃ zs : Array Value, zs.size = 15 ∧ QS w w8 43 gx gq gr A n c s105 bs zs M := ⟨M.cells.toArray, by simp [HM1.out.1], hQ.stored hs8 hg8⟩
    have HRES : Hd (w8.heap[gx]? = some (.cells M.cells.toArray 43) ∧ QS w w8 43 gx gq gr A n c s105 bs M.cells.toArray M) := ⟨hs8, hQ.stored hs8 hg8⟩
    refine hK.out _ _ hF (fun _ => ?_)
    clear hK Kq hQ hz8 hs8 hg8
    have hHeld := hF
    clear hF
    try simp only [Act.put, List.setIfInBounds_toArray, List.set_cons_zero, List.set_cons_succ]
    refine wpAnyH_take (i := 5) (oi := ?oi1801) (v := ?v1801) ?hi1801 (by kernel_rfl) (by kernel_rfl) (by kernel_rfl) ?hQ1801 (Or.inl ⟨?hw1801, ?hy1801⟩) (by assumption) ?rest1801
    case hi1801 => simp only [List.getElem?_toArray, List.getElem?_cons_succ, List.getElem?_cons_zero]; rfl
    case hQ1801 => exact fun _ _ _ h => h
    case hw1801 => rfl
    case hy1801 => (intro W hW; skip; go_simp; all_goals rfl)
    simp only [Act.put, List.setIfInBounds_toArray, List.set_cons_zero, List.set_cons_succ]
    refine wpAnyH_done (by kernel_rfl) ?_ _
    clear hHeld
    go_wp2_with fail
    (try simp only [Exit.inBlock, Exit.then])
    refine bodyPost_ret (results_cell_tmp rfl _ _ gx 43 M.cells.toArray (0, 0) _ rfl HRES.out.1 Try.underlying43 rfl (by rw [infoAn15]; simp [HM1.out.1])) rfl ?_
    refine ⟨M, decide (fe = 0), by (first | rfl | (simp [Act.put]; rfl) | skip), HRES.out.2.ch, HM1.out.1, HM1.out.2, ?_⟩
    rw [HRD.out]
    by_cases h0 : fe = 0
    · exact .inl ⟨_, decide_eq_true h0, if_pos h0, HMI.out, HRES.out.2.ok.lower (by have := HRES.out.2.l2; have := HRES.out.2.l3; omega)⟩
    · exact .inr ⟨decide_eq_false h0, if_neg h0⟩
  by_cases k6 : v1 = 6
  · have kk := k6
    have q2 : ((v1 : Int) == 2) = false := beq_eq_false_iff_ne.2 (by omega)
    have q3 : ((v1 : Int) == 3) = false := beq_eq_false_iff_ne.2 (by omega)
    have q4 : ((v1 : Int) == 4) = false := beq_eq_false_iff_ne.2 (by omega)
    have q6 : ((v1 : Int) == 6) = true := by rw [kk]; rfl
    have q7 : ((v1 : Int) == 7) = false := beq_eq_false_iff_ne.2 (by omega)
    have HK0 := Hd.mk (And.intro kk k0)
    have HM6 : Hd (qMost (v1 : Int) = 65536) := ⟨by unfold qMost; rw [if_pos (by omega)]⟩
    clear kk k6 k0 k8 k2 k3 k4
    go_wp2_with fail
    refine (cTxt (s := s3) 65536 255 (by omega) (by omega) H5.out.rdr).mono ?_
    rintro e wz106 ⟨x106, s106, p106, q106, ez, rfl, hoz, hc, hR⟩
    have HZ : Hd (QS w wz106 43 gx gq gr A n c s106 bs an0 (anW (anX v1 v2 v3 [] [] [] [] false 0 0 0 0 0 0 0) (.slice none 0 0) (.slice none 0 0) (.slice none 0 0))) := ⟨H5.out.call hc hR⟩
    have E106 : Hd (rTxt bs 65536 255 s3 = (x106, s106)) := ⟨ez⟩
    have HOZ := Hd.mk (own_base hoz (base' := gq + 1) H5.out.lt)
    clear hoz hc hR ez
    have d0 : wz106.cell? ⟨gq, 4, none⟩ = some (.slice none 0 0) := HZ.out.at_ 4 rfl
    have d1 := HZ.out.z 4
    try clear c0
    try clear c2
    go_upto_region 32 with fail
    obtain ⟨ww106, hww⟩ : ∃ W, wz106.setCell ⟨gq, 4, none⟩ (.slice p106 x106.length q106) = W := ⟨_, rfl⟩
    rw [hww]
    have HB106 : Hd (QS w ww106 43 gx gq gr A n c s106 bs an0 (anW (anX v1 v2 v3 [] x106 [] [] false 0 0 0 0 0 0 0) (.slice none 0 0) (.slice p106 x106.length q106) (.slice none 0 0))) := ⟨by rw [← hww]; exact HZ.out.set (M' := (anW (anX v1 v2 v3 [] x106 [] [] false 0 0 0 0 0 0 0) (.slice none 0 0) (.slice p106 x106.length q106) (.slice none 0 0))) 4 _ rfl (an_ok (an_own HZ.out.ok).1 HOZ.out (an_own HZ.out.ok).2.2)⟩
    clear hww HZ d0 d1 H5
    have HW := Hd.mk HB106.out
    clear HB106
    try clear c0
    try clear c2
    obtain ⟨M, hM⟩ : ∃ M, (anW (anX v1 v2 v3 [] x106 [] [] false 0 0 0 0 0 0 0) (.slice none 0 0) (.slice p106 x106.length q106) (.slice none 0 0)) = M := ⟨_, rfl⟩
    have HM1 : Hd (M.cells.length = 15 ∧ M.cells.toArray.all (·.oneCell') = true) := ⟨by rw [← hM]; exact anW_one HW.out.ok⟩
    have HMI : Hd (anIs M (anX v1 v2 v3 [] x106 [] [] false 0 0 0 0 0 0 0)) := ⟨_, _, _, hM.symm⟩
    rw [hM] at HW
    clear hM
    obtain ⟨fe, hfe⟩ : ∃ f, endF n s106.1 s106.2 = f := ⟨_, rfl⟩
    have HFE := Hd.mk hfe
    have hn : bs.length = n := HW.out.rdr.len
    have HRD : Hd (rdAn bs = if fe = 0 then some (anX v1 v2 v3 [] x106 [] [] false 0 0 0 0 0 0 0) else none) := ⟨by
      have ky := HYES.out
      have z0 : unz ((0 : Nat) : Int) = 0 := by decide
      have B8 : decide ((v1 : Int) = 8) = false := by (try unfold qBody); (try unfold qGen); (try unfold qKeys); (try unfold qPage); exact decide_eq_false (by have := HK0.out; omega)
      have BB : qBody (v1 : Int) (v3 : Int) = false := by (try unfold qBody); (try unfold qGen); (try unfold qKeys); (try unfold qPage); exact decide_eq_false (by have := HK0.out; omega)
      have BG : qGen (v1 : Int) (v3 : Int) = false := by (try unfold qBody); (try unfold qGen); (try unfold qKeys); (try unfold qPage); exact decide_eq_false (by have := HK0.out; omega)
      have BK : qKeys (v1 : Int) (v3 : Int) = true := by (try unfold qBody); (try unfold qGen); (try unfold qKeys); (try unfold qPage); exact decide_eq_true (by have := HK0.out; omega)
      have BP : qPage (v1 : Int) (v3 : Int) = false := by (try unfold qBody); (try unfold qGen); (try unfold qKeys); (try unfold qPage); exact decide_eq_false (by have := HK0.out; omega)
      unfold rdAn
      simp only [E1.out, E2.out, E3.out, B8, BB, BG, BK, BP, opt_t, opt_f, HM6.out, E106.out]
      rw [hn, hfe]
      by_cases h0 : fe = 0
      · rw [if_pos h0, if_pos ⟨by omega, by omega, by omega, by omega, h0⟩]; rfl
      · rw [if_neg h0, if_neg (fun h => h0 h.2.2.2.2)]⟩
    clear hn hfe
    refine wp_region_held_drew (S := fun W => ∃ zs : Array Value, zs.size = 15 ∧ QS w W 43 gx gq gr A n c s106 bs zs M) (by kernel_rfl) ⟨an0, rfl, HW.out.below (Chg.refl _ _).drew⟩ (fun hHeld => ?_)
    refine wpAnyH_take (i := 0) (oi := ?oiR1900) (v := .agg M.cells.toArray) ?hiR1900 (by kernel_rfl) (by kernel_rfl) (by kernel_rfl) ?hQR1900 ?hyR1900 (by assumption) ?restR1900
    case hiR1900 => simp only [List.getElem?_toArray, List.getElem?_cons_succ, List.getElem?_cons_zero]; rfl
    case hQR1900 => exact fun _ _ _ h => h
    case hyR1900 => exact yieldsIf_load_mid rfl 43 (.tmp 4) rfl gq 0 rfl M.cells _ (fun W hW => let ⟨_, _, h⟩ := hW; h.range) Try.underlying43 rfl (by rw [infoAn15, HM1.out.1])
    simp only [Act.put, List.setIfInBounds_toArray, List.set_cons_zero, List.set_cons_succ]
    refine wpAnyH_take (i := 1) (oi := ?oi2001) (v := ?v2001) ?hi2001 (by kernel_rfl) (by kernel_rfl) (by kernel_rfl) ?hQ2001 (Or.inl ⟨?hw2001, ?hy2001⟩) (by assumption) ?rest2001
    case hi2001 => simp only [List.getElem?_toArray, List.getElem?_cons_succ, List.getElem?_cons_zero]; rfl
    case hQ2001 => exact fun _ _ _ h => h
    case hw2001 => rfl
    case hy2001 => (intro W hW; skip; go_simp; all_goals rfl)
    simp only [Act.put, List.setIfInBounds_toArray, List.set_cons_zero, List.set_cons_succ]
    refine wpAnyH_ready (rs := [2]) (by kernel_rfl) (by simp) ?_
    refine AllReadyH.cons (i := 2) (o := ?o2002) ?ho2002 (fun Kq hK => ?step2002) AllReadyH.nil
    case ho2002 => simp only [List.getElem?_toArray, List.getElem?_cons_succ, List.getElem?_cons_zero]; rfl
    go_simp
    (obtain ⟨zs, hz8, hQ⟩ := hHeld; go_at_call 130; refine (end_any _ gr n c s106.1 s106.2 A bs hQ.rdr).mono ?_; rw [HFE.out]; rintro e w7 ⟨rfl, hc7⟩)
    have hF : ∃ zs : Array Value, zs.size = 15 ∧ QS w w7 43 gx gq gr A n c s106 bs zs M := ⟨zs, hz8, hQ.below hc7⟩
    refine hK.out _ _ hF (fun _ => ?_)
    clear hK Kq hQ hz8 hc7
    have hHeld := hF
    clear hF
    try simp only [Act.put, List.setIfInBounds_toArray, List.set_cons_zero, List.set_cons_succ]
    refine wpAnyH_take (i := 3) (oi := ?oi2003) (v := ?v2003) ?hi2003 (by kernel_rfl) (by kernel_rfl) (by kernel_rfl) ?hQ2003 (Or.inl ⟨?hw2003, ?hy2003⟩) (by assumption) ?rest2003
    case hi2003 => simp only [List.getElem?_toArray, List.getElem?_cons_succ, List.getElem?_cons_zero]; rfl
    case hQ2003 => exact fun _ _ _ h => h
    case hw2003 => rfl
    case hy2003 => (intro W hW; skip; go_simp; all_goals rfl)
    simp only [Act.put, List.setIfInBounds_toArray, List.set_cons_zero, List.set_cons_succ]
    refine wpAnyH_ready (rs := [4]) (by kernel_rfl) (by simp) ?_
    refine AllReadyH.cons (i := 4) (o := ?oS1900) ?hoS1900 (fun Kq hK => ?stepS1900) AllReadyH.nil
    case hoS1900 => simp only [List.getElem?_toArray, List.getElem?_cons_succ, List.getElem?_cons_zero]; rfl
    obtain ⟨zs, hz8, hQ⟩ := hHeld
    refine step_store rfl 43 (.tmp 2) (.tmp 108) rfl gx M.cells.toArray rfl rfl 43 zs hQ.res (by rw [infoAn15]; simp [HM1.out.1]) (by rw [hz8]; simp [HM1.out.1]) HM1.out.2 ?_
    intro w8 hs8 hg8
    have hF : ∃ zs : Array Value, zs.size = 15 ∧ QS w w8 43 gx gq gr A n c s106 bs zs M := ⟨M.cells.toArray, by simp [HM1.out.1], hQ.stored hs8 hg8⟩
    have HRES : Hd (w8.heap[gx]? = some (.cells M.cells.toArray 43) ∧ QS w w8 43 gx gq gr A n c s106 bs M.cells.toArray M) := ⟨hs8, hQ.stored hs8 hg8⟩
    refine hK.out _ _ hF (fun _ => ?_)
    clear hK Kq hQ hz8 hs8 hg8
    have hHeld := hF
    clear hF
    try simp only [Act.put, List.setIfInBounds_toArray, List.set_cons_zero, List.set_cons_succ]
    refine wpAnyH_take (i := 5) (oi := ?oi2101) (v := ?v2101) ?hi2101 (by kernel_rfl) (by kernel_rfl) (by kernel_rfl) ?hQ2101 (Or.inl ⟨?hw2101, ?hy2101⟩) (by assumption) ?rest2101
    case hi2101 => simp only [List.getElem?_toArray, List.getElem?_cons_succ, List.getElem?_cons_zero]; rfl
    case hQ2101 => exact fun _ _ _ h => h
    case hw2101 => rfl
    case hy2101 => (intro W hW; skip; go_simp; all_goals rfl)
    simp only [Act.put, List.setIfInBounds_toArray, List.set_cons_zero, List.set_cons_succ]
    refine wpAnyH_done (by kernel_rfl) ?_ _
    clear hHeld
    go_wp2_with fail
    (try simp only [Exit.inBlock, Exit.then])
    refine bodyPost_ret (results_cell_tmp rfl _ _ gx 43 M.cells.toArray (0, 0) _ rfl HRES.out.1 Try.underlying43 rfl (by rw [infoAn15]; simp [HM1.out.1])) rfl ?_
    refine ⟨M, decide (fe = 0), by (first | rfl | (simp [Act.put]; rfl) | skip), HRES.out.2.ch, HM1.out.1, HM1.out.2, ?_⟩
    rw [HRD.out]
    by_cases h0 : fe = 0
    · exact .inl ⟨_, decide_eq_true h0, if_pos h0, HMI.out, HRES.out.2.ok.lower (by have := HRES.out.2.l2; have := HRES.out.2.l3; omega)⟩
    · exact .inr ⟨decide_eq_false h0, if_neg h0⟩
  by_cases k7 : v1 = 7
  · have kk := k7
    have q2 : ((v1 : Int) == 2) = false := beq_eq_false_iff_ne.2 (by omega)
    have q3 : ((v1 : Int) == 3) = false := beq_eq_false_iff_ne.2 (by omega)
    have q4 : ((v1 : Int) == 4) = false := beq_eq_false_iff_ne.2 (by omega)
    have q6 : ((v1 : Int) == 6) = false := beq_eq_false_iff_ne.2 (by omega)
    have q7 : ((v1 : Int) == 7) = true := by rw [kk]; rfl
    have HK0 := Hd.mk (And.intro kk k0)
    have HM6 : Hd (qMost (v1 : Int) = 1000) := ⟨by unfold qMost; rw [if_neg (by omega)]⟩
    clear kk k7 k0 k8 k2 k3 k4 k6
    go_wp2_with fail
    refine (cTxt (s := s3) 1000 255 (by omega) (by omega) H5.out.rdr).mono ?_
    rintro e wz107 ⟨x107, s107, p107, q107, ez, rfl, hoz, hc, hR⟩
    have HZ : Hd (QS w wz107 43 gx gq gr A n c s107 bs an0 (anW (anX v1 v2 v3 [] [] [] [] false 0 0 0 0 0 0 0) (.slice none 0 0) (.slice none 0 0) (.slice none 0 0))) := ⟨H5.out.call hc hR⟩
    have E107 : Hd (rTxt bs 1000 255 s3 = (x107, s107)) := ⟨ez⟩
    have HOZ := Hd.mk (own_base hoz (base' := gq + 1) H5.out.lt)
    clear hoz hc hR ez
    have d0 : wz107.cell? ⟨gq, 4, none⟩ = some (.slice none 0 0) := HZ.out.at_ 4 rfl
    have d1 := HZ.out.z 4
    try clear c0
    try clear c2
    go_upto_region 26 with fail
    obtain ⟨ww107, hww⟩ : ∃ W, wz107.setCell ⟨gq, 4, none⟩ (.slice p107 x107.length q107) = W := ⟨_, rfl⟩
    rw [hww]
    have HB107 : Hd (QS w ww107 43 gx gq gr A n c s107 bs an0 (anW (anX v1 v2 v3 [] x107 [] [] false 0 0 0 0 0 0 0) (.slice none 0 0) (.slice p107 x107.length q107) (.slice none 0 0))) := ⟨by rw [← hww]; exact HZ.out.set (M' := (anW (anX v1 v2 v3 [] x107 [] [] false 0 0 0 0 0 0 0) (.slice none 0 0) (.slice p107 x107.length q107) (.slice none 0 0))) 4 _ rfl (an_ok (an_own HZ.out.ok).1 HOZ.out (an_own HZ.out.ok).2.2)⟩
    clear hww HZ d0 d1 H5
    go_wp2_with fail
    refine (cTxt (s := s107) 1000 255 (by omega) (by omega) HB107.out.rdr).mono ?_
    rintro e wz108 ⟨x108, s108, p108, q108, ez, rfl, hoz, hc, hR⟩
    have HZ : Hd (QS w wz108 43 gx gq gr A n c s108 bs an0 (anW (anX v1 v2 v3 [] x107 [] [] false 0 0 0 0 0 0 0) (.slice none 0 0) (.slice p107 x107.length q107) (.slice none 0 0))) := ⟨HB107.out.call hc hR⟩
    have E108 : Hd (rTxt bs 1000 255 s107 = (x108, s108)) := ⟨ez⟩
    have HOZ := Hd.mk (own_base hoz (base' := gq + 1) HB107.out.lt)
    clear hoz hc hR ez
    have d0 : wz108.cell? ⟨gq, 5, none⟩ = some (.slice none 0 0) := HZ.out.at_ 5 rfl
    have d1 := HZ.out.z 5
    try clear c0
    try clear c2
    go_upto_region 27 with fail
    obtain ⟨ww108, hww⟩ : ∃ W, wz108.setCell ⟨gq, 5, none⟩ (.slice p108 x108.length q108) = W := ⟨_, rfl⟩
    rw [hww]
    have HB108 : Hd (QS w ww108 43 gx gq gr A n c s108 bs an0 (anW (anX v1 v2 v3 [] x107 x108 [] false 0 0 0 0 0 0 0) (.slice none 0 0) (.slice p107 x107.length q107) (.slice p108 x108.length q108))) := ⟨by rw [← hww]; exact HZ.out.set (M' := (anW (anX v1 v2 v3 [] x107 x108 [] false 0 0 0 0 0 0 0) (.slice none 0 0) (.slice p107 x107.length q107) (.slice p108 x108.length q108))) 5 _ rfl (an_ok (an_own HZ.out.ok).1 (an_own HZ.out.ok).2.1 HOZ.out)⟩
    clear hww HZ d0 d1 HB107
    go_wp2_with fail
    refine (cBlk (s := s108) 255 (by omega) HB108.out.rdr).mono ?_
    rintro e wz109 ⟨x109, s109, p109, q109, ez, rfl, hoz, hc, hR⟩
    have HZ : Hd (QS w wz109 43 gx gq gr A n c s109 bs an0 (anW (anX v1 v2 v3 [] x107 x108 [] false 0 0 0 0 0 0 0) (.slice none 0 0) (.slice p107 x107.length q107) (.slice p108 x108.length q108))) := ⟨HB108.out.call hc hR⟩
    have E109 : Hd (rBlk bs 255 s108 = (x109, s109)) := ⟨ez⟩
    have hcv : (convert 26 9 (.slice p109 x109.length q109)).run Try.prog wz109 = .ok (.string (bstr x109)) wz109 := conv_any (Rd.of_own hoz)
    generalize hS : bstr x109 = S109 at hcv
    have HU := Hd.mk hS
    clear hS hoz hc hR ez
    have d0 : wz109.cell? ⟨gq, 6, none⟩ = some (.string emS) := HZ.out.at_ 6 rfl
    have d1 := HZ.out.z 6
    try clear c0
    try clear c2
    go_upto_region 28 with fail
    obtain ⟨ww109, hww⟩ : ∃ W, wz109.setCell ⟨gq, 6, none⟩ (.string S109) = W := ⟨_, rfl⟩
    rw [hww]
    rw [← HU.out] at hww
    have HB109 : Hd (QS w ww109 43 gx gq gr A n c s109 bs an0 (anW (anX v1 v2 v3 [] x107 x108 x109 false 0 0 0 0 0 0 0) (.slice none 0 0) (.slice p107 x107.length q107) (.slice p108 x108.length q108))) := ⟨by rw [← hww]; exact HZ.out.set (M' := (anW (anX v1 v2 v3 [] x107 x108 x109 false 0 0 0 0 0 0 0) (.slice none 0 0) (.slice p107 x107.length q107) (.slice p108 x108.length q108))) 6 _ rfl (an_re HZ.out.ok)⟩
    clear hww HZ d0 d1 HB108
    clear HU
    try clear hcv
    go_wp2_with fail
    refine (cFix1 (s := s109) HB109.out.rdr).mono ?_
    rintro e wf ⟨vf, sf, ef, rfl, hvf, hc, hR⟩
    have HF : Hd (QS w wf 43 gx gq gr A n c sf bs an0 (anW (anX v1 v2 v3 [] x107 x108 x109 false 0 0 0 0 0 0 0) (.slice none 0 0) (.slice p107 x107.length q107) (.slice p108 x108.length q108))) := ⟨HB109.out.call hc hR⟩
    have EF := Hd.mk ef
    clear hc hR ef HB109
    by_cases hm1 : 1 < vf
    · have hm1i : (1 : Int) < (vf : Int) := by omega
      have HNO : Hd (rdAn bs = none) := ⟨by
        have ky := HYES.out
        have B8 : decide ((v1 : Int) = 8) = false := by (try unfold qBody); (try unfold qGen); (try unfold qKeys); (try unfold qPage); exact decide_eq_false (by have := HK0.out; omega)
        have BB : qBody (v1 : Int) (v3 : Int) = false := by (try unfold qBody); (try unfold qGen); (try unfold qKeys); (try unfold qPage); exact decide_eq_false (by have := HK0.out; omega)
        have BG : qGen (v1 : Int) (v3 : Int) = false := by (try unfold qBody); (try unfold qGen); (try unfold qKeys); (try unfold qPage); exact decide_eq_false (by have := HK0.out; omega)
        have BK : qKeys (v1 : Int) (v3 : Int) = true := by (try unfold qBody); (try unfold qGen); (try unfold qKeys); (try unfold qPage); exact decide_eq_true (by have := HK0.out; omega)
        have BP : qPage (v1 : Int) (v3 : Int) = true := by (try unfold qBody); (try unfold qGen); (try unfold qKeys); (try unfold qPage); exact decide_eq_true (by have := HK0.out; omega)
        unfold rdAn
        simp only [E1.out, E2.out, E3.out, B8, BB, BG, BK, BP, opt_t, opt_f, HM6.out, E107.out, E108.out, E109.out, EF.out]
        rw [if_neg (fun h => (by have := h.2.2.2.1; omega))]⟩
      have hrow := HF.out.res
      have hch := Hd.mk (And.intro HF.out.ch HF.out.l2)
      go_wp2_with (refine at_store (x := .tmp 2) ?_; refine wpList_stored rfl 43 (.tmp 2) (.tmp 104) rfl gx an0 rfl rfl 43 an0 hrow infoAn15 rfl (by simp [an0, Value.oneCell']) ?_; intro w9 hB9)
      (try simp only [Exit.inBlock, Exit.then])
      refine bodyPost_ret (results_cell_tmp rfl _ _ gx 43 an0 (0, 0) _ rfl hB9.out.1 Try.underlying43 rfl infoAn15) rfl ?_
      exact ⟨⟨an0.toList, []⟩, false, rfl, ⟨hB9.out.2.1.os.trans hch.out.1.os, hB9.out.2.1.tape.trans hch.out.1.tape, hB9.out.2.1.output.trans hch.out.1.output, Nat.le_trans hch.out.1.size hB9.out.2.1.size, fun k hk hm => (hB9.out.2.1.block k (Nat.lt_of_lt_of_le hk hch.out.1.size) (by have := hch.out.2; intro h; injection h; omega)).trans (hch.out.1.block k hk hm)⟩, rfl, by simp [an0, Value.oneCell'], .inr ⟨rfl, HNO.out⟩⟩
    have hm1i : ¬ (1 : Int) < (vf : Int) := by omega
    have HVF : Hd (vf ≤ 1) := ⟨by omega⟩
    have hvb : ((vf : Int) == 1) = decide (vf = 1) := by rw [Bool.eq_iff_iff]; simp; omega
    clear hm1
    have d7 : wf.cell? ⟨gq, 7, none⟩ = some (.bool false) := HF.out.at_ 7 rfl
    have z7 := HF.out.z 7
    generalize hdv : decide (vf = 1) = dv at hvb
    have HDV := Hd.mk hdv
    clear hdv
    go_upto_region 32 with fail
    obtain ⟨wg, hwg⟩ : ∃ W, wf.setCell ⟨gq, 7, none⟩ (.bool dv) = W := ⟨_, rfl⟩
    rw [hwg]
    rw [← HDV.out] at hwg
    have HBF : Hd (QS w wg 43 gx gq gr A n c sf bs an0 (anW (anX v1 v2 v3 [] x107 x108 x109 (decide (vf = 1)) 0 0 0 0 0 0 0) (.slice none 0 0) (.slice p107 x107.length q107) (.slice p108 x108.length q108))) := ⟨by rw [← hwg]; exact HF.out.set (M' := (anW (anX v1 v2 v3 [] x107 x108 x109 (decide (vf = 1)) 0 0 0 0 0 0 0) (.slice none 0 0) (.slice p107 x107.length q107) (.slice p108 x108.length q108))) 7 _ rfl (an_re HF.out.ok)⟩
    clear hwg HF d7 z7 HDV hvb
    have HW := Hd.mk HBF.out
    clear HBF
    try clear c0
    try clear c2
    obtain ⟨M, hM⟩ : ∃ M, (anW (anX v1 v2 v3 [] x107 x108 x109 (decide (vf = 1)) 0 0 0 0 0 0 0) (.slice none 0 0) (.slice p107 x107.length q107) (.slice p108 x108.length q108)) = M := ⟨_, rfl⟩
    have HM1 : Hd (M.cells.length = 15 ∧ M.cells.toArray.all (·.oneCell') = true) := ⟨by rw [← hM]; exact anW_one HW.out.ok⟩
    have HMI : Hd (anIs M (anX v1 v2 v3 [] x107 x108 x109 (decide (vf = 1)) 0 0 0 0 0 0 0)) := ⟨_, _, _, hM.symm⟩
    rw [hM] at HW
    clear hM
    obtain ⟨fe, hfe⟩ : ∃ f, endF n sf.1 sf.2 = f := ⟨_, rfl⟩
    have HFE := Hd.mk hfe
    have hn : bs.length = n := HW.out.rdr.len
    have HRD : Hd (rdAn bs = if fe = 0 then some (anX v1 v2 v3 [] x107 x108 x109 (decide (vf = 1)) 0 0 0 0 0 0 0) else none) := ⟨by
      have ky := HYES.out
      have z0 : unz ((0 : Nat) : Int) = 0 := by decide
      have hvf1 := HVF.out
      have B8 : decide ((v1 : Int) = 8) = false := by (try unfold qBody); (try unfold qGen); (try unfold qKeys); (try unfold qPage); exact decide_eq_false (by have := HK0.out; omega)
      have BB : qBody (v1 : Int) (v3 : Int) = false := by (try unfold qBody); (try unfold qGen); (try unfold qKeys); (try unfold qPage); exact decide_eq_false (by have := HK0.out; omega)
      have BG : qGen (v1 : Int) (v3 : Int) = false := by (try unfold qBody); (try unfold qGen); (try unfold qKeys); (try unfold qPage); exact decide_eq_false (by have := HK0.out; omega)
      have BK : qKeys (v1 : Int) (v3 : Int) = true := by (try unfold qBody); (try unfold qGen); (try unfold qKeys); (try unfold qPage); exact decide_eq_true (by have := HK0.out; omega)
      have BP : qPage (v1 : Int) (v3 : Int) = true := by (try unfold qBody); (try unfold qGen); (try unfold qKeys); (try unfold qPage); exact decide_eq_true (by have := HK0.out; omega)
      unfold rdAn
      simp only [E1.out, E2.out, E3.out, B8, BB, BG, BK, BP, opt_t, opt_f, HM6.out, E107.out, E108.out, E109.out, EF.out]
      rw [hn, hfe]
      by_cases h0 : fe = 0
      · rw [if_pos h0, if_pos ⟨by omega, by omega, by omega, by omega, h0⟩]; rfl
      · rw [if_neg h0, if_neg (fun h => h0 h.2.2.2.2)]⟩
    clear hn hfe
    refine wp_region_held_drew (S := fun W => ∃ zs : Array Value, zs.size = 15 ∧ QS w W 43 gx gq gr A n c sf bs zs M) (by kernel_rfl) ⟨an0, rfl, HW.out.below (Chg.refl _ _).drew⟩ (fun hHeld => ?_)
    refine wpAnyH_take (i := 0) (oi := ?oiR2200) (v := .agg M.cells.toArray) ?hiR2200 (by kernel_rfl) (by kernel_rfl) (by kernel_rfl) ?hQR2200 ?hyR2200 (by assumption) ?restR2200
    case hiR2200 => simp only [List.getElem?_toArray, List.getElem?_cons_succ, List.getElem?_cons_zero]; rfl
    case hQR2200 => exact fun _ _ _ h => h
    case hyR2200 => exact yieldsIf_load_mid rfl 43 (.tmp 4) rfl gq 0 rfl M.cells _ (fun W hW => let ⟨_, _, h⟩ := hW; h.range) Try.underlying43 rfl (by rw [infoAn15, HM1.out.1])
    simp only [Act.put, List.setIfInBounds_toArray, List.set_cons_zero, List.set_cons_succ]
    refine wpAnyH_take (i := 1) (oi := ?oi2301) (v := ?v2301) ?hi2301 (by kernel_rfl) (by kernel_rfl) (by kernel_rfl) ?hQ2301 (Or.inl ⟨?hw2301, ?hy2301⟩) (by assumption) ?rest2301
    case hi2301 => simp only [List.getElem?_toArray, List.getElem?_cons_succ, List.getElem?_cons_zero]; rfl
    case hQ2301 => exact fun _ _ _ h => h
    case hw2301 => rfl
    case hy2301 => (intro W hW; skip; go_simp; all_goals rfl)
    simp only [Act.put, List.setIfInBounds_toArray, List.set_cons_zero, List.set_cons_succ]
    refine wpAnyH_ready (rs := [2]) (by kernel_rfl) (by simp) ?_
    refine AllReadyH.cons (i := 2) (o := ?o2302) ?ho2302 (fun Kq hK => ?step2302) AllReadyH.nil
    case ho2302 => simp only [List.getElem?_toArray, List.getElem?_cons_succ, List.getElem?_cons_zero]; rfl
    go_simp
    (obtain ⟨zs, hz8, hQ⟩ := hHeld; go_at_call 130; refine (end_any _ gr n c sf.1 sf.2 A bs hQ.rdr).mono ?_; rw [HFE.out]; rintro e w7 ⟨rfl, hc7⟩)
    have hF : ∃ zs : Array Value, zs.size = 15 ∧ QS w w7 43 gx gq gr A n c sf bs zs M := ⟨zs, hz8, hQ.below hc7⟩
    refine hK.out _ _ hF (fun _ => ?_)
    clear hK Kq hQ hz8 hc7
    have hHeld := hF
    clear hF
    try simp only [Act.put, List.setIfInBounds_toArray, List.set_cons_zero, List.set_cons_succ]
    refine wpAnyH_take (i := 3) (oi := ?oi2303) (v := ?v2303) ?hi2303 (by kernel_rfl) (by kernel_rfl) (by kernel_rfl) ?hQ2303 (Or.inl ⟨?hw2303, ?hy2303⟩) (by assumption) ?rest2303
    case hi2303 => simp only [List.getElem?_toArray, List.getElem?_cons_succ, List.getElem?_cons_zero]; rfl
    case hQ2303 => exact fun _ _ _ h => h
    case hw2303 => rfl
    case hy2303 => (intro W hW; skip; go_simp; all_goals rfl)
    simp only [Act.put, List.setIfInBounds_toArray, List.set_cons_zero, List.set_cons_succ]
    refine wpAnyH_ready (rs := [4]) (by kernel_rfl) (by simp) ?_
    refine AllReadyH.cons (i := 4) (o := ?oS2200) ?hoS2200 (fun Kq hK => ?stepS2200) AllReadyH.nil
    case hoS2200 => simp only [List.getElem?_toArray, List.getElem?_cons_succ, List.getElem?_cons_zero]; rfl
    obtain ⟨zs, hz8, hQ⟩ := hHeld
    refine step_store rfl 43 (.tmp 2) (.tmp 108) rfl gx M.cells.toArray rfl rfl 43 zs hQ.res (by rw [infoAn15]; simp [HM1.out.1]) (by rw [hz8]; simp [HM1.out.1]) HM1.out.2 ?_
    intro w8 hs8 hg8
    have hF : ∃ zs : Array Value, zs.size = 15 ∧ QS w w8 43 gx gq gr A n c sf bs zs M := ⟨M.cells.toArray, by simp [HM1.out.1], hQ.stored hs8 hg8⟩
    have HRES : Hd (w8.heap[gx]? = some (.cells M.cells.toArray 43) ∧ QS w w8 43 gx gq gr A n c sf bs M.cells.toArray M) := ⟨hs8, hQ.stored hs8 hg8⟩
    refine hK.out _ _ hF (fun _ => ?_)
    clear hK Kq hQ hz8 hs8 hg8
    have hHeld := hF
    clear hF
    try simp only [Act.put, List.setIfInBounds_toArray, List.set_cons_zero, List.set_cons_succ]
    refine wpAnyH_take (i := 5) (oi := ?oi2401) (v := ?v2401) ?hi2401 (by kernel_rfl) (by kernel_rfl) (by kernel_rfl) ?hQ2401 (Or.inl ⟨?hw2401, ?hy2401⟩) (by assumption) ?rest2401
    case hi2401 => simp only [List.getElem?_toArray, List.getElem?_cons_succ, List.getElem?_cons_zero]; rfl
    case hQ2401 => exact fun _ _ _ h => h
    case hw2401 => rfl
    case hy2401 => (intro W hW; skip; go_simp; all_goals rfl)
    simp only [Act.put, List.setIfInBounds_toArray, List.set_cons_zero, List.set_cons_succ]
    refine wpAnyH_done (by kernel_rfl) ?_ _
    clear hHeld
    go_wp2_with fail
    (try simp only [Exit.inBlock, Exit.then])
    refine bodyPost_ret (results_cell_tmp rfl _ _ gx 43 M.cells.toArray (0, 0) _ rfl HRES.out.1 Try.underlying43 rfl (by rw [infoAn15]; simp [HM1.out.1])) rfl ?_
    refine ⟨M, decide (fe = 0), by (first | rfl | (simp [Act.put]; rfl) | skip), HRES.out.2.ch, HM1.out.1, HM1.out.2, ?_⟩
    rw [HRD.out]
    by_cases h0 : fe = 0
    · exact .inl ⟨_, decide_eq_true h0, if_pos h0, HMI.out, HRES.out.2.ok.lower (by have := HRES.out.2.l2; have := HRES.out.2.l3; omega)⟩
    · exact .inr ⟨decide_eq_false h0, if_neg h0⟩
  have HKE : Hd (v3 = 0 ∧ v1 ≠ 8 ∧ v1 ≠ 2 ∧ v1 ≠ 3 ∧ v1 ≠ 4 ∧ v1 ≠ 6 ∧ v1 ≠ 7) := ⟨k0, k8, k2, k3, k4, k6, k7⟩
  have q2 : ((v1 : Int) == 2) = false := beq_eq_false_iff_ne.2 (by omega)
  have q3 : ((v1 : Int) == 3) = false := beq_eq_false_iff_ne.2 (by omega)
  have q4 : ((v1 : Int) == 4) = false := beq_eq_false_iff_ne.2 (by omega)
  have q6 : ((v1 : Int) == 6) = false := beq_eq_false_iff_ne.2 (by omega)
  have q7 : ((v1 : Int) == 7) = false := beq_eq_false_iff_ne.2 (by omega)
  clear k0 k8 k2 k3 k4 k6 k7
  go_upto_region 32 with fail
  have HW := Hd.mk H5.out
  clear H5
  try clear c0
  try clear c2
  obtain ⟨M, hM⟩ : ∃ M, (anW (anX v1 v2 v3 [] [] [] [] false 0 0 0 0 0 0 0) (.slice none 0 0) (.slice none 0 0) (.slice none 0 0)) = M := ⟨_, rfl⟩
  have HM1 : Hd (M.cells.length = 15 ∧ M.cells.toArray.all (·.oneCell') = true) := ⟨by rw [← hM]; exact anW_one HW.out.ok⟩
  have HMI : Hd (anIs M (anX v1 v2 v3 [] [] [] [] false 0 0 0 0 0 0 0)) := ⟨_, _, _, hM.symm⟩
  rw [hM] at HW
  clear hM
  obtain ⟨fe, hfe⟩ : ∃ f, endF n s3.1 s3.2 = f := ⟨_, rfl⟩
  have HFE := Hd.mk hfe
  have hn : bs.length = n := HW.out.rdr.len
  have HRD : Hd (rdAn bs = if fe = 0 then some (anX v1 v2 v3 [] [] [] [] false 0 0 0 0 0 0 0) else none) := ⟨by
    have ky := HYES.out
    have z0 : unz ((0 : Nat) : Int) = 0 := by decide
    have B8 : decide ((v1 : Int) = 8) = false := by (try unfold qBody); (try unfold qGen); (try unfold qKeys); (try unfold qPage); exact decide_eq_false (by have := HKE.out; omega)
    have BB : qBody (v1 : Int) (v3 : Int) = false := by (try unfold qBody); (try unfold qGen); (try unfold qKeys); (try unfold qPage); exact decide_eq_false (by have := HKE.out; omega)
    have BG : qGen (v1 : Int) (v3 : Int) = false := by (try unfold qBody); (try unfold qGen); (try unfold qKeys); (try unfold qPage); exact decide_eq_false (by have := HKE.out; omega)
    have BK : qKeys (v1 : Int) (v3 : Int) = false := by (try unfold qBody); (try unfold qGen); (try unfold qKeys); (try unfold qPage); exact decide_eq_false (by have := HKE.out; omega)
    have BP : qPage (v1 : Int) (v3 : Int) = false := by (try unfold qBody); (try unfold qGen); (try unfold qKeys); (try unfold qPage); exact decide_eq_false (by have := HKE.out; omega)
    unfold rdAn
    simp only [E1.out, E2.out, E3.out, B8, BB, BG, BK, BP, opt_t, opt_f]
    rw [hn, hfe]
    by_cases h0 : fe = 0
    · rw [if_pos h0, if_pos ⟨by omega, by omega, by omega, by omega, h0⟩]; rfl
    · rw [if_neg h0, if_neg (fun h => h0 h.2.2.2.2)]⟩
  clear hn hfe
  refine wp_region_held_drew (S := fun W => ∃ zs : Array Value, zs.size = 15 ∧ QS w W 43 gx gq gr A n c s3 bs zs M) (by kernel_rfl) ⟨an0, rfl, HW.out.below (Chg.refl _ _).drew⟩ (fun hHeld => ?_)
  refine wpAnyH_take (i := 0) (oi := ?oiR2500) (v := .agg M.cells.toArray) ?hiR2500 (by kernel_rfl) (by kernel_rfl) (by kernel_rfl) ?hQR2500 ?hyR2500 (by assumption) ?restR2500
  case hiR2500 => simp only [List.getElem?_toArray, List.getElem?_cons_succ, List.getElem?_cons_zero]; rfl
  case hQR2500 => exact fun _ _ _ h => h
  case hyR2500 => exact yieldsIf_load_mid rfl 43 (.tmp 4) rfl gq 0 rfl M.cells _ (fun W hW => let ⟨_, _, h⟩ := hW; h.range) Try.underlying43 rfl (by rw [infoAn15, HM1.out.1])
  simp only [Act.put, List.setIfInBounds_toArray, List.set_cons_zero, List.set_cons_succ]
  refine wpAnyH_take (i := 1) (oi := ?oi2601) (v := ?v2601) ?hi2601 (by kernel_rfl) (by kernel_rfl) (by kernel_rfl) ?hQ2601 (Or.inl ⟨?hw2601, ?hy2601⟩) (by assumption) ?rest2601
  case hi2601 => simp only [List.getElem?_toArray, List.getElem?_cons_succ, List.getElem?_cons_zero]; rfl
  case hQ2601 => exact fun _ _ _ h => h
  case hw2601 => rfl
  case hy2601 => (intro W hW; skip; go_simp; all_goals rfl)
  simp only [Act.put, List.setIfInBounds_toArray, List.set_cons_zero, List.set_cons_succ]
  refine wpAnyH_ready (rs := [2]) (by kernel_rfl) (by simp) ?_
  refine AllReadyH.cons (i := 2) (o := ?o2602) ?ho2602 (fun Kq hK => ?step2602) AllReadyH.nil
  case ho2602 => simp only [List.getElem?_toArray, List.getElem?_cons_succ, List.getElem?_cons_zero]; rfl
  go_simp
  (obtain ⟨zs, hz8, hQ⟩ := hHeld; go_at_call 130; refine (end_any _ gr n c s3.1 s3.2 A bs hQ.rdr).mono ?_; rw [HFE.out]; rintro e w7 ⟨rfl, hc7⟩)
  have hF : ∃ zs : Array Value, zs.size = 15 ∧ QS w w7 43 gx gq gr A n c s3 bs zs M := ⟨zs, hz8, hQ.below hc7⟩
  refine hK.out _ _ hF (fun _ => ?_)
  clear hK Kq hQ hz8 hc7
  have hHeld := hF
  clear hF
  try simp only [Act.put, List.setIfInBounds_toArray, List.set_cons_zero, List.set_cons_succ]
  refine wpAnyH_take (i := 3) (oi := ?oi2603) (v := ?v2603) ?hi2603 (by kernel_rfl) (by kernel_rfl) (by kernel_rfl) ?hQ2603 (Or.inl ⟨?hw2603, ?hy2603⟩) (by assumption) ?rest2603
  case hi2603 => simp only [List.getElem?_toArray, List.getElem?_cons_succ, List.getElem?_cons_zero]; rfl
  case hQ2603 => exact fun _ _ _ h => h
  case hw2603 => rfl
  case hy2603 => (intro W hW; skip; go_simp; all_goals rfl)
  simp only [Act.put, List.setIfInBounds_toArray, List.set_cons_zero, List.set_cons_succ]
  refine wpAnyH_ready (rs := [4]) (by kernel_rfl) (by simp) ?_
  refine AllReadyH.cons (i := 4) (o := ?oS2500) ?hoS2500 (fun Kq hK => ?stepS2500) AllReadyH.nil
  case hoS2500 => simp only [List.getElem?_toArray, List.getElem?_cons_succ, List.getElem?_cons_zero]; rfl
  obtain ⟨zs, hz8, hQ⟩ := hHeld
  refine step_store rfl 43 (.tmp 2) (.tmp 108) rfl gx M.cells.toArray rfl rfl 43 zs hQ.res (by rw [infoAn15]; simp [HM1.out.1]) (by rw [hz8]; simp [HM1.out.1]) HM1.out.2 ?_
  intro w8 hs8 hg8
  have hF : ∃ zs : Array Value, zs.size = 15 ∧ QS w w8 43 gx gq gr A n c s3 bs zs M := ⟨M.cells.toArray, by simp [HM1.out.1], hQ.stored hs8 hg8⟩
  have HRES : Hd (w8.heap[gx]? = some (.cells M.cells.toArray 43) ∧ QS w w8 43 gx gq gr A n c s3 bs M.cells.toArray M) := ⟨hs8, hQ.stored hs8 hg8⟩
  refine hK.out _ _ hF (fun _ => ?_)
  clear hK Kq hQ hz8 hs8 hg8
  have hHeld := hF
  clear hF
  try simp only [Act.put, List.setIfInBounds_toArray, List.set_cons_zero, List.set_cons_succ]
  refine wpAnyH_take (i := 5) (oi := ?oi2701) (v := ?v2701) ?hi2701 (by kernel_rfl) (by kernel_rfl) (by kernel_rfl) ?hQ2701 (Or.inl ⟨?hw2701, ?hy2701⟩) (by assumption) ?rest2701
  case hi2701 => simp only [List.getElem?_toArray, List.getElem?_cons_succ, List.getElem?_cons_zero]; rfl
  case hQ2701 => exact fun _ _ _ h => h
  case hw2701 => rfl
  case hy2701 => (intro W hW; skip; go_simp; all_goals rfl)
  simp only [Act.put, List.setIfInBounds_toArray, List.set_cons_zero, List.set_cons_succ]
  refine wpAnyH_done (by kernel_rfl) ?_ _
  clear hHeld
  go_wp2_with fail
  (try simp only [Exit.inBlock, Exit.then])
  refine bodyPost_ret (results_cell_tmp rfl _ _ gx 43 M.cells.toArray (0, 0) _ rfl HRES.out.1 Try.underlying43 rfl (by rw [infoAn15]; simp [HM1.out.1])) rfl ?_
  refine ⟨M, decide (fe = 0), by (first | rfl | (simp [Act.put]; rfl) | skip), HRES.out.2.ch, HM1.out.1, HM1.out.2, ?_⟩
  rw [HRD.out]
  by_cases h0 : fe = 0
  · exact .inl ⟨_, decide_eq_true h0, if_pos h0, HMI.out, HRES.out.2.ok.lower (by have := HRES.out.2.l2; have := HRES.out.2.l3; omega)⟩
  · exact .inr ⟨decide_eq_false h0, if_neg h0⟩
end Go.Proofs.Ytbcmjjcbjojakaa
end
