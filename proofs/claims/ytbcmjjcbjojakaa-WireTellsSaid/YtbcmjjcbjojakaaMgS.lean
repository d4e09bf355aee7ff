/- Put together of: AskF OneForm MsgP MsgF MsgW. -/
import Derived.Test.YtbcmjjcbjojakaaMgR
import Derived.Test.YtbcmjjcbjojakaaTellP
import Derived.Test.YtbcmjjcbjojakaaTellT
import Derived.Test.YtbcmjjcbjojakaaMemN
section
/- What a call of a reader tells, plainly; what was put is read, a shorter beginning is refused, and what is read is what is put. -/
namespace Go.Proofs.Ytbcmjjcbjojakaa
open Go.RowKit
set_option linter.unusedVariables false
/-- What a call tells: a number, bytes, texts. -/
structure Tld where
  U : Int
  B : List Nat
  T : List (List Nat)
def numT (r : Nat × Nat × Int) : Tld × Nat × Int := (⟨(r.1 : Int), [], []⟩, r.2)
def zagT (r : Nat × Nat × Int) : Tld × Nat × Int := (⟨IntKind.u64.wrap (unz (r.1 : Int)), [], []⟩, r.2)
def bytT (r : List Nat × Nat × Int) : Tld × Nat × Int := (⟨0, r.1, []⟩, r.2)
def txtT (r : List (List Nat) × Nat × Int) : Tld × Nat × Int := (⟨0, [], r.1⟩, r.2)
def askF (bs : List Nat) (at_ : Nat) (fl : Int) (N E : Int) : Nat → Tld × Nat × Int
  | 0 => numT (redo (fixF bs at_ 1) 0 at_ fl)
  | 1 => numT (redo (fixF bs at_ 2) 0 at_ fl)
  | 2 => numT (redo (fixF bs at_ 4) 0 at_ fl)
  | 3 => numT (redo (fixF bs at_ 8) 0 at_ fl)
  | 4 => numT (redo (fixF bs at_ 2) 0 at_ fl)
  | 5 => numT (redo (numF bs at_) 0 at_ fl)
  | 6 => zagT (redo (numF bs at_) 0 at_ fl)
  | 7 => bytT (redo (bytesF bs at_ N) [] at_ fl)
  | 8 => bytT (redo (blkF bs at_ N) [] at_ fl)
  | 9 => txtT (redo (textsF bs at_ N E) [] at_ fl)
  | 10 => (⟨((bs.length - at_ : Nat) : Int), [], []⟩, at_, fl)
  | 11 => (⟨fl, [], []⟩, at_, fl)
  | _ => (⟨endF bs.length at_ fl, [], []⟩, at_, fl)
/-- What is told of no reader. -/
def noneF : Nat → Tld
  | 11 => ⟨1, [], []⟩
  | 12 => ⟨1, [], []⟩
  | _ => ⟨0, [], []⟩
/-- A fault's number. -/
def Bad (e : Int) : Prop := e = 2 ∨ e = 70 ∨ e = 71
/-- A reading that goes well goes on, within the bytes; one that does not tells a fault. -/
def Well {α : Type} (bs : List Nat) (at_ : Nat) (o : Except Int (α × Nat)) : Prop :=
  match o with
  | .ok (_, a) => at_ ≤ a ∧ a ≤ bs.length
  | .error e => Bad e
theorem numR_err : ∀ (l : List Nat) (i v : Nat) (e : Int), numR l i v = .error e → Bad e
  | [], _, _, e, h => by cases h; exact .inr (.inl rfl)
  | c :: l, i, v, e, h => by
    unfold numR at h
    split at h
    · cases h; exact .inr (.inr rfl)
    · split at h
      · split at h
        · cases h; exact .inr (.inr rfl)
        · cases h
      · exact numR_err l _ _ e h
variable {bs : List Nat} {at_ : Nat}
theorem well_num (hb : ∀ y ∈ bs, y < 256) (ha : at_ ≤ bs.length) : Well bs at_ (numF bs at_) := by
  rcases h : numF bs at_ with e | ⟨x, a⟩
  · unfold numF at h
    split at h
    · cases h
    · rename_i e' h'
      cases h
      exact numR_err _ _ _ _ h'
  · have := numF_hi bs at_ x a hb h
    exact ⟨by omega, this.2.2 ha⟩
theorem well_take (k : Nat) (ha : at_ ≤ bs.length) : Well bs at_ (takeF bs at_ k) := by
  unfold takeF
  split
  · exact ⟨by omega, by omega⟩
  · exact .inr (.inl rfl)
theorem well_fix (k : Nat) (ha : at_ ≤ bs.length) : Well bs at_ (fixF bs at_ k) := by
  have := well_take k ha
  unfold fixF
  rcases h : takeF bs at_ k with e | ⟨x, a⟩ <;> rw [h] at this <;> exact this
theorem well_bytes (k : Int) (ha : at_ ≤ bs.length) : Well bs at_ (bytesF bs at_ k) := by
  unfold bytesF
  split
  · exact .inl rfl
  · exact well_take _ ha
theorem well_block (most : Nat) (hb : ∀ y ∈ bs, y < 256) (ha : at_ ≤ bs.length) : Well bs at_ (blockF bs at_ most) := by
  have h1 := well_num hb ha
  unfold blockF
  rcases h : numF bs at_ with e | ⟨x, a⟩ <;> rw [h] at h1
  · exact h1
  · simp only
    split
    · have h2 := well_take (bs := bs) x h1.2
      rcases h3 : takeF bs a x with e | ⟨y, a2⟩ <;> rw [h3] at h2
      · exact h2
      · exact ⟨Nat.le_trans h1.1 h2.1, h2.2⟩
    · exact .inr (.inr rfl)
theorem well_blk (most : Int) (hb : ∀ y ∈ bs, y < 256) (ha : at_ ≤ bs.length) : Well bs at_ (blkF bs at_ most) := by
  unfold blkF
  split
  · exact .inl rfl
  · exact well_block _ hb ha
theorem well_rows (each : Nat) (hb : ∀ y ∈ bs, y < 256) : ∀ (k at_ : Nat), at_ ≤ bs.length → Well bs at_ (rowsF bs each k at_)
  | 0, a, ha => ⟨Nat.le_refl _, ha⟩
  | k + 1, a, ha => by
    have h1 := well_block each hb ha
    unfold rowsF
    rcases h : blockF bs a each with e | ⟨x, a1⟩ <;> rw [h] at h1
    · exact h1
    · simp only
      have h2 := well_rows each hb k a1 h1.2
      rcases h3 : rowsF bs each k a1 with e | ⟨y, a2⟩ <;> rw [h3] at h2
      · exact h2
      · exact ⟨Nat.le_trans h1.1 h2.1, h2.2⟩
theorem well_texts (most each : Int) (hb : ∀ y ∈ bs, y < 256) (ha : at_ ≤ bs.length) : Well bs at_ (textsF bs at_ most each) := by
  have h1 := well_num hb ha
  unfold textsF
  split
  · exact .inl rfl
  rcases h : numF bs at_ with e | ⟨x, a⟩ <;> rw [h] at h1
  · exact h1
  · simp only
    split
    · have h2 := well_rows each.toNat hb x a h1.2
      rcases h3 : rowsF bs each.toNat x a with e | ⟨y, a2⟩ <;> rw [h3] at h2
      · exact h2
      · exact ⟨Nat.le_trans h1.1 h2.1, h2.2⟩
    · exact .inr (.inr rfl)
/-- What a reading comes to. -/
theorem redo_well {α : Type} {o : Except Int (α × Nat)} (z : α) (fl : Int) (h : Well bs at_ o) (ha : at_ ≤ bs.length) :
    (fl ≠ 0 ∧ redo o z at_ fl = (z, at_, fl)) ∨ (fl = 0 ∧ ∃ e, Bad e ∧ redo o z at_ fl = (z, at_, e)) ∨ (fl = 0 ∧ ∃ a at', o = .ok (a, at') ∧ redo o z at_ fl = (a, at', 0) ∧ at_ ≤ at' ∧ at' ≤ bs.length) := by
  unfold redo
  by_cases h0 : fl = 0
  · rw [if_pos h0]
    rcases ho : o with e | ⟨a, at'⟩ <;> rw [ho] at h
    · exact .inr (.inl ⟨h0, e, h, rfl⟩)
    · exact .inr (.inr ⟨h0, a, at', rfl, rfl, h.1, h.2⟩)
  · rw [if_neg h0]; exact .inl ⟨h0, rfl⟩
def zeroT : Tld := ⟨0, [], []⟩
theorem unz_0 : unz 0 = 0 := by decide
/-- What a reading tells, and where it leaves the reader. -/
theorem ask_read (hb : ∀ y ∈ bs, y < 256) (ha : at_ ≤ bs.length) (fl N E : Int) (k : Nat) (hk : k < 10) :
    (fl ≠ 0 ∧ askF bs at_ fl N E k = (zeroT, at_, fl)) ∨ (fl = 0 ∧ ∃ e, Bad e ∧ askF bs at_ fl N E k = (zeroT, at_, e)) ∨ (fl = 0 ∧ ∃ t at', askF bs at_ fl N E k = (t, at', 0) ∧ at_ ≤ at' ∧ at' ≤ bs.length) := by
  have num : ∀ o : Except Int (Nat × Nat), Well bs at_ o → (fl ≠ 0 ∧ numT (redo o 0 at_ fl) = (zeroT, at_, fl)) ∨ (fl = 0 ∧ ∃ e, Bad e ∧ numT (redo o 0 at_ fl) = (zeroT, at_, e)) ∨ (fl = 0 ∧ ∃ t at', numT (redo o 0 at_ fl) = (t, at', 0) ∧ at_ ≤ at' ∧ at' ≤ bs.length) := by
    intro o ho
    rcases redo_well (0 : Nat) fl ho ha with ⟨h0, h⟩ | ⟨h0, e, he, h⟩ | ⟨h0, a, at', _, h, h1, h2⟩ <;> rw [h]
    · exact .inl ⟨h0, rfl⟩
    · exact .inr (.inl ⟨h0, e, he, rfl⟩)
    · exact .inr (.inr ⟨h0, _, at', rfl, h1, h2⟩)
  have zg : ∀ o : Except Int (Nat × Nat), Well bs at_ o → (fl ≠ 0 ∧ zagT (redo o 0 at_ fl) = (zeroT, at_, fl)) ∨ (fl = 0 ∧ ∃ e, Bad e ∧ zagT (redo o 0 at_ fl) = (zeroT, at_, e)) ∨ (fl = 0 ∧ ∃ t at', zagT (redo o 0 at_ fl) = (t, at', 0) ∧ at_ ≤ at' ∧ at' ≤ bs.length) := by
    intro o ho
    rcases redo_well (0 : Nat) fl ho ha with ⟨h0, h⟩ | ⟨h0, e, he, h⟩ | ⟨h0, a, at', _, h, h1, h2⟩ <;> rw [h]
    · exact .inl ⟨h0, by unfold zagT zeroT; simp only [Int.natCast_zero, unz_0]; rfl⟩
    · exact .inr (.inl ⟨h0, e, he, by unfold zagT zeroT; simp only [Int.natCast_zero, unz_0]; rfl⟩)
    · exact .inr (.inr ⟨h0, _, at', rfl, h1, h2⟩)
  have byt : ∀ o : Except Int (List Nat × Nat), Well bs at_ o → (fl ≠ 0 ∧ bytT (redo o [] at_ fl) = (zeroT, at_, fl)) ∨ (fl = 0 ∧ ∃ e, Bad e ∧ bytT (redo o [] at_ fl) = (zeroT, at_, e)) ∨ (fl = 0 ∧ ∃ t at', bytT (redo o [] at_ fl) = (t, at', 0) ∧ at_ ≤ at' ∧ at' ≤ bs.length) := by
    intro o ho
    rcases redo_well ([] : List Nat) fl ho ha with ⟨h0, h⟩ | ⟨h0, e, he, h⟩ | ⟨h0, a, at', _, h, h1, h2⟩ <;> rw [h]
    · exact .inl ⟨h0, rfl⟩
    · exact .inr (.inl ⟨h0, e, he, rfl⟩)
    · exact .inr (.inr ⟨h0, _, at', rfl, h1, h2⟩)
  have txt : ∀ o : Except Int (List (List Nat) × Nat), Well bs at_ o → (fl ≠ 0 ∧ txtT (redo o [] at_ fl) = (zeroT, at_, fl)) ∨ (fl = 0 ∧ ∃ e, Bad e ∧ txtT (redo o [] at_ fl) = (zeroT, at_, e)) ∨ (fl = 0 ∧ ∃ t at', txtT (redo o [] at_ fl) = (t, at', 0) ∧ at_ ≤ at' ∧ at' ≤ bs.length) := by
    intro o ho
    rcases redo_well ([] : List (List Nat)) fl ho ha with ⟨h0, h⟩ | ⟨h0, e, he, h⟩ | ⟨h0, a, at', _, h, h1, h2⟩ <;> rw [h]
    · exact .inl ⟨h0, rfl⟩
    · exact .inr (.inl ⟨h0, e, he, rfl⟩)
    · exact .inr (.inr ⟨h0, _, at', rfl, h1, h2⟩)
  match k, hk with
  | 0, _ => exact num _ (well_fix 1 ha)
  | 1, _ => exact num _ (well_fix 2 ha)
  | 2, _ => exact num _ (well_fix 4 ha)
  | 3, _ => exact num _ (well_fix 8 ha)
  | 4, _ => exact num _ (well_fix 2 ha)
  | 5, _ => exact num _ (well_num hb ha)
  | 6, _ => exact zg _ (well_num hb ha)
  | 7, _ => exact byt _ (well_bytes N ha)
  | 8, _ => exact byt _ (well_blk N hb ha)
  | 9, _ => exact txt _ (well_texts N E hb ha)
end Go.Proofs.Ytbcmjjcbjojakaa
end
section
/- What was put is read, of any shorter beginning the reading is refused, and what is read is what is put: plain. -/
namespace Go.Proofs.Ytbcmjjcbjojakaa
open Go.RowKit
set_option linter.unusedVariables false
/-! the groups of a number -/
theorem numR_put : ∀ (k i y v0 : Nat) (r : List Nat), i + k = 9 → y < 2 ^ (7 * k + 1) → (i = 0 ∨ y ≠ 0) → numR (uvf k y ++ r) i v0 = .ok (v0 + y * 2 ^ (7 * i), i + (uvf k y).length)
  | 0, i, y, v0, r, hi, hy, h0 => by
    have : y < 2 := by simpa using hy
    simp only [uvf, List.cons_append, List.nil_append, numR, List.length_cons, List.length_nil]
    rw [if_neg (by omega), if_pos (by omega), if_neg (by omega), show y % 128 = y by omega]
  | k + 1, i, y, v0, r, hi, hy, h0 => by
    unfold uvf
    split
    · rename_i h
      simp only [List.cons_append, List.nil_append, numR, List.length_cons, List.length_nil]
      rw [if_neg (by omega), if_pos h, if_neg (by omega), show y % 128 = y by omega]
    · rename_i h
      have hq : y / 128 < 2 ^ (7 * k + 1) := by
        rw [show 7 * (k + 1) + 1 = (7 * k + 1) + 7 by omega, Nat.pow_add] at hy
        exact Nat.div_lt_of_lt_mul (by rw [Nat.mul_comm]; exact hy)
      simp only [List.cons_append, numR]
      rw [if_neg (by omega), if_neg (by omega), numR_put k (i + 1) (y / 128) _ r (by omega) hq (.inr (by omega)), List.length_cons]
      congr 2
      · rw [show 7 * (i + 1) = 7 + 7 * i by omega, Nat.pow_add, show (y % 128 + 128) % 128 = y % 128 by omega]
        have hd : y = y % 128 + y / 128 * 2 ^ 7 := by omega
        generalize 2 ^ (7 * i) = z
        conv => rhs; rw [hd]
        rw [Nat.add_mul, Nat.mul_assoc, Nat.add_assoc]
      · omega
theorem numR_cut : ∀ (k i y v0 j : Nat), i + k = 9 → y < 2 ^ (7 * k + 1) → (i = 0 ∨ y ≠ 0) → j < (uvf k y).length → numR ((uvf k y).take j) i v0 = .error 70
  | 0, i, y, v0, j, hi, hy, h0, hj => by
    have : j = 0 := by simp [uvf] at hj; omega
    subst this; rfl
  | k + 1, i, y, v0, j, hi, hy, h0, hj => by
    unfold uvf at hj ⊢
    split
    · rename_i h
      rw [if_pos h] at hj
      have : j = 0 := by simp at hj; omega
      subst this; rfl
    · rename_i h
      rw [if_neg h] at hj
      rcases j with _ | j
      · rfl
      have hq : y / 128 < 2 ^ (7 * k + 1) := by
        rw [show 7 * (k + 1) + 1 = (7 * k + 1) + 7 by omega, Nat.pow_add] at hy
        exact Nat.div_lt_of_lt_mul (by rw [Nat.mul_comm]; exact hy)
      simp only [List.take_succ_cons, numR]
      rw [if_neg (by omega), if_neg (by omega)]
      exact numR_cut k (i + 1) (y / 128) _ j (by omega) hq (.inr (by omega)) (by simpa using hj)
theorem numR_form : ∀ (l : List Nat) (i v0 x m : Nat), i ≤ 9 → (∀ y ∈ l, y < 256) → numR l i v0 = .ok (x, m) → ∃ y, x = v0 + y * 2 ^ (7 * i) ∧ l.take (m - i) = uvf (9 - i) y ∧ (i = 0 ∨ y ≠ 0) ∧ i < m
  | [], _, _, _, _, _, _, h => by cases h
  | c :: l, i, v0, x, m, hi, hl, h => by
    have hc := hl c (by simp)
    unfold numR at h
    split at h
    · cases h
    rename_i hbad
    split at h
    · rename_i hlt
      split at h
      · cases h
      rename_i h0
      cases h
      refine ⟨c, by rw [show c % 128 = c by omega], ?_, by omega, by omega⟩
      rw [show i + 1 - i = 1 by omega, List.take_succ_cons, List.take_zero]
      rcases Nat.eq_zero_or_pos (9 - i) with h9 | h9
      · rw [h9]; rfl
      · obtain ⟨q, hq⟩ : ∃ q, 9 - i = q + 1 := ⟨9 - i - 1, by omega⟩
        rw [hq]; unfold uvf; rw [if_pos hlt]
    · rename_i hge
      obtain ⟨y, hx, ht, hy, hm⟩ := numR_form l (i + 1) _ x m (by omega) (fun y hy => hl y (by simp [hy])) h
      have hy0 : y ≠ 0 := by omega
      refine ⟨c % 128 + y * 128, ?_, ?_, .inr (by omega), by omega⟩
      · rw [hx, show 7 * (i + 1) = 7 + 7 * i by omega, Nat.pow_add, Nat.add_mul, Nat.mul_assoc, Nat.add_assoc]
      · obtain ⟨q, hq⟩ : ∃ q, 9 - i = q + 1 := ⟨9 - i - 1, by omega⟩
        rw [hq, show m - i = (m - (i + 1)) + 1 by omega, List.take_succ_cons, ht, show 9 - (i + 1) = q by omega]
        conv => rhs; unfold uvf
        rw [if_neg (by omega), show (c % 128 + y * 128) / 128 = y by omega, show (c % 128 + y * 128) % 128 + 128 = c by omega]
/-! a number at a place -/
theorem numF_put (pre r : List Nat) (v : Nat) (hv : v < 2 ^ 64) : numF (pre ++ uv v ++ r) pre.length = .ok (v, pre.length + (uv v).length) := by
  unfold numF
  rw [List.append_assoc, List.drop_left]
  have := numR_put 9 0 v 0 r rfl hv (.inl rfl)
  unfold uv
  rw [this]
  simp
theorem numF_cut (pre : List Nat) (v j : Nat) (hv : v < 2 ^ 64) (hj : j < (uv v).length) : numF (pre ++ (uv v).take j) pre.length = .error 70 := by
  unfold numF
  rw [List.drop_left]
  have := numR_cut 9 0 v 0 j rfl hv (.inl rfl) hj
  unfold uv
  rw [this]
theorem numF_form (bs : List Nat) (at_ x a : Nat) (hb : ∀ y ∈ bs, y < 256) (h : numF bs at_ = .ok (x, a)) : (bs.drop at_).take (a - at_) = uv x ∧ at_ < a := by
  unfold numF at h
  split at h
  · rename_i v m hr
    cases h
    obtain ⟨y, hx, ht, _, hm⟩ := numR_form _ 0 0 _ _ (by omega) (fun y hy => hb y (List.mem_of_mem_drop hy)) hr
    have : x = y := by rw [hx]; simp
    subst this
    rw [show at_ + m - at_ = m - 0 by omega, ht]
    exact ⟨rfl, by omega⟩
  · cases h
/-! bytes -/
theorem takeF_put (pre p r : List Nat) : takeF (pre ++ p ++ r) pre.length p.length = .ok (p, pre.length + p.length) := by
  unfold takeF
  rw [if_pos (by simp), List.append_assoc, List.drop_left, List.take_left]
theorem takeF_cut (pre p : List Nat) (j : Nat) (hj : j < p.length) : takeF (pre ++ p.take j) pre.length p.length = .error 70 := by
  unfold takeF
  rw [if_neg (by simp; omega)]
theorem takeF_form (bs : List Nat) (at_ k a : Nat) (l : List Nat) (h : takeF bs at_ k = .ok (l, a)) : l = (bs.drop at_).take k ∧ a = at_ + k ∧ (k = 0 ∨ at_ + k ≤ bs.length) ∧ l.length = k := by
  unfold takeF at h
  split at h
  · rename_i hk; cases h; exact ⟨rfl, rfl, by omega, by rw [List.length_take, List.length_drop]; omega⟩
  · cases h
/-- Two pieces that follow one another. -/
theorem cut_two (bs : List Nat) (a b c : Nat) (h1 : a ≤ b) (h2 : b ≤ c) : (bs.drop a).take (c - a) = (bs.drop a).take (b - a) ++ (bs.drop b).take (c - b) := by
  have e : c - a = (b - a) + (c - b) := by omega
  rw [e, List.take_add, List.drop_drop, show a + (b - a) = b by omega]
theorem fx_cons (k c r : Nat) (hc : c < 256) : fx (k + 1) (c + 256 * r) = c :: fx k r := by
  unfold fx
  rw [List.range_succ_eq_map, List.map_cons, List.map_map]
  congr 1
  · simp; omega
  · refine List.map_congr_left fun i _ => ?_
    simp only [Function.comp]
    rw [show 8 * (i + 1) = 8 + 8 * i by omega, Nat.pow_add, ← Nat.div_div_eq_div_mul, show (c + 256 * r) / 2 ^ 8 = r by omega]
theorem fx_le256 : ∀ (l : List Nat), (∀ x ∈ l, x < 256) → fx l.length (le256 l) = l
  | [], _ => rfl
  | c :: l, h => by
    rw [List.length_cons, le256, fx_cons _ _ _ (h c (by simp)), fx_le256 l fun x hx => h x (by simp [hx])]
theorem fx_zero (k : Nat) : le256 (fx k 0) = 0 := by
  induction k with
  | zero => rfl
  | succ k ih =>
    have := fx_cons k 0 0 (by omega)
    simp only [Nat.zero_add, Nat.mul_zero] at this
    rw [this, le256, ih]
theorem le256_fx : ∀ (k v : Nat), le256 (fx k v) = v % 256 ^ k
  | 0, v => by simp [fx, le256, Nat.mod_one]
  | k + 1, v => by
    have h := fx_cons k (v % 256) (v / 256) (by omega)
    rw [show v % 256 + 256 * (v / 256) = v by omega] at h
    rw [h, le256, le256_fx k, Nat.pow_succ, Nat.mul_comm (256 ^ k) 256, Nat.mod_mul]
theorem fixF_put (pre r : List Nat) (k v : Nat) (hv : v < 256 ^ k) : fixF (pre ++ fx k v ++ r) pre.length k = .ok (v, pre.length + (fx k v).length) := by
  unfold fixF
  have := takeF_put pre (fx k v) r
  rw [fx_len] at this
  rw [this]
  simp only
  rw [le256_fx, Nat.mod_eq_of_lt hv, fx_len]
theorem fixF_cut (pre : List Nat) (k v j : Nat) (hj : j < k) : fixF (pre ++ (fx k v).take j) pre.length k = .error 70 := by
  unfold fixF
  have := takeF_cut pre (fx k v) j (by rw [fx_len]; exact hj)
  rw [fx_len] at this
  rw [this]
theorem fixF_form (bs : List Nat) (at_ k x a : Nat) (hb : ∀ y ∈ bs, y < 256) (h : fixF bs at_ k = .ok (x, a)) : (bs.drop at_).take (a - at_) = fx k x ∧ at_ ≤ a := by
  unfold fixF at h
  split at h
  · rename_i l a' ht
    cases h
    obtain ⟨hl, ha, _, hk⟩ := takeF_form _ _ _ _ _ ht
    have := fx_le256 l fun y hy => hb y (by rw [hl] at hy; exact List.mem_of_mem_drop (List.mem_of_mem_take hy))
    rw [hk] at this
    rw [this, ha, show at_ + k - at_ = k by omega, hl]
    exact ⟨rfl, by omega⟩
  · cases h
/-! blocks -/
def blk (p : List Nat) : List Nat := uv p.length ++ p
theorem blockF_put (pre r p : List Nat) (most : Nat) (hp : p.length ≤ most) (h64 : p.length < 2 ^ 64) : blockF (pre ++ blk p ++ r) pre.length most = .ok (p, pre.length + (blk p).length) := by
  unfold blockF blk
  have h1 := numF_put pre (p ++ r) p.length h64
  rw [show pre ++ (uv p.length ++ p) ++ r = pre ++ uv p.length ++ (p ++ r) by simp, h1]
  simp only
  rw [if_pos hp]
  have h2 := takeF_put (pre ++ uv p.length) p r
  rw [show pre ++ uv p.length ++ (p ++ r) = pre ++ uv p.length ++ p ++ r by simp]
  rw [List.length_append] at h2
  rw [h2, List.length_append, Nat.add_assoc]
theorem blockF_cut (pre p : List Nat) (most j : Nat) (hp : p.length ≤ most) (h64 : p.length < 2 ^ 64) (hj : j < (blk p).length) : blockF (pre ++ (blk p).take j) pre.length most = .error 70 := by
  unfold blk at hj ⊢
  rw [List.length_append] at hj
  unfold blockF
  rcases Nat.lt_or_ge j (uv p.length).length with h | h
  · rw [List.take_append_of_le_length (by omega), numF_cut pre p.length j h64 h]
  · rw [List.take_append, List.take_of_length_le h]
    have h1 := numF_put pre (p.take (j - (uv p.length).length)) p.length h64
    rw [List.append_assoc] at h1
    rw [h1]
    simp only
    rw [if_pos hp]
    have h2 := takeF_cut (pre ++ uv p.length) p (j - (uv p.length).length) (by omega)
    rw [List.length_append, List.append_assoc] at h2
    exact h2
theorem blockF_form (bs : List Nat) (at_ most a : Nat) (l : List Nat) (hb : ∀ y ∈ bs, y < 256) (h : blockF bs at_ most = .ok (l, a)) : (bs.drop at_).take (a - at_) = blk l ∧ at_ ≤ a := by
  unfold blockF at h
  split at h
  · rename_i k a1 hn
    split at h
    · obtain ⟨h1, h2⟩ := numF_form bs at_ k a1 hb hn
      obtain ⟨hl, ha, _, hk⟩ := takeF_form _ _ _ _ _ h
      refine ⟨?_, by omega⟩
      rw [cut_two bs at_ a1 a (by omega) (by omega), h1, show a - a1 = k by omega, ← hl]
      unfold blk
      rw [hk]
    · cases h
  · cases h
/-! texts -/
def rws (ts : List (List Nat)) : List Nat := ts.flatMap blk
theorem rws_cons (t : List Nat) (ts : List (List Nat)) : rws (t :: ts) = blk t ++ rws ts := rfl
theorem rowsF_put (each : Nat) : ∀ (ts : List (List Nat)) (pre r : List Nat), (∀ t ∈ ts, t.length ≤ each ∧ t.length < 2 ^ 64) → rowsF (pre ++ rws ts ++ r) each ts.length pre.length = .ok (ts, pre.length + (rws ts).length)
  | [], pre, r, _ => by simp [rowsF, rws]
  | t :: ts, pre, r, h => by
    have ht := h t (by simp)
    have h1 := blockF_put pre (rws ts ++ r) t each ht.1 ht.2
    have h2 := rowsF_put each ts (pre ++ blk t) r fun x hx => h x (by simp [hx])
    rw [rws_cons, List.length_cons]
    unfold rowsF
    rw [show pre ++ (blk t ++ rws ts) ++ r = pre ++ blk t ++ (rws ts ++ r) by simp, h1]
    simp only
    rw [show pre ++ blk t ++ (rws ts ++ r) = pre ++ blk t ++ rws ts ++ r by simp]
    rw [List.length_append] at h2
    rw [h2]
    simp only [List.length_append, Nat.add_assoc]
theorem rowsF_cut (each : Nat) : ∀ (ts : List (List Nat)) (pre : List Nat) (j : Nat), (∀ t ∈ ts, t.length ≤ each ∧ t.length < 2 ^ 64) → j < (rws ts).length → rowsF (pre ++ (rws ts).take j) each ts.length pre.length = .error 70
  | [], pre, j, _, hj => by simp [rws] at hj
  | t :: ts, pre, j, h, hj => by
    have ht := h t (by simp)
    rw [rws_cons, List.length_append] at hj
    rw [rws_cons, List.length_cons]
    unfold rowsF
    rcases Nat.lt_or_ge j (blk t).length with hlt | hge
    · rw [List.take_append_of_le_length (by omega), blockF_cut pre t each j ht.1 ht.2 hlt]
    · have h1 := blockF_put pre ((rws ts).take (j - (blk t).length)) t each ht.1 ht.2
      have h2 := rowsF_cut each ts (pre ++ blk t) (j - (blk t).length) (fun x hx => h x (by simp [hx])) (by omega)
      rw [List.take_append, List.take_of_length_le hge]
      rw [List.append_assoc] at h1
      rw [h1]
      simp only
      rw [List.length_append, List.append_assoc] at h2
      rw [h2]
theorem rowsF_form (bs : List Nat) (each : Nat) (hb : ∀ y ∈ bs, y < 256) : ∀ (k at_ a : Nat) (l : List (List Nat)), rowsF bs each k at_ = .ok (l, a) → (bs.drop at_).take (a - at_) = rws l ∧ at_ ≤ a ∧ l.length = k
  | 0, at_, a, l, h => by cases h; simp [rws]
  | k + 1, at_, a, l, h => by
    unfold rowsF at h
    split at h
    · cases h
    rename_i b a1 hb1
    split at h
    · cases h
    rename_i l2 a2 hr
    cases h
    obtain ⟨h1, h2⟩ := blockF_form bs at_ each a1 b hb hb1
    obtain ⟨h3, h4, h5⟩ := rowsF_form bs each hb k a1 a l2 hr
    refine ⟨?_, by omega, by simp [h5]⟩
    rw [cut_two bs at_ a1 a h2 h4, h1, h3, rws_cons]
def txts (ts : List (List Nat)) : List Nat := uv ts.length ++ rws ts
theorem textsF_put (pre r : List Nat) (ts : List (List Nat)) (most each : Int) (h0 : ts.length ≤ most.toNat) (hm : 0 ≤ most) (he : 0 ≤ each) (h : ∀ t ∈ ts, t.length ≤ each.toNat ∧ t.length < 2 ^ 64) (h64 : ts.length < 2 ^ 64) :
    textsF (pre ++ txts ts ++ r) pre.length most each = .ok (ts, pre.length + (txts ts).length) := by
  unfold textsF txts
  rw [if_neg (by omega)]
  have h1 := numF_put pre (rws ts ++ r) ts.length h64
  rw [show pre ++ (uv ts.length ++ rws ts) ++ r = pre ++ uv ts.length ++ (rws ts ++ r) by simp, h1]
  simp only
  rw [if_pos h0]
  have h2 := rowsF_put each.toNat ts (pre ++ uv ts.length) r h
  rw [show pre ++ uv ts.length ++ (rws ts ++ r) = pre ++ uv ts.length ++ rws ts ++ r by simp]
  rw [List.length_append] at h2
  rw [h2, List.length_append, Nat.add_assoc]
theorem textsF_cut (pre : List Nat) (ts : List (List Nat)) (most each : Int) (j : Nat) (h0 : ts.length ≤ most.toNat) (hm : 0 ≤ most) (he : 0 ≤ each) (h : ∀ t ∈ ts, t.length ≤ each.toNat ∧ t.length < 2 ^ 64) (h64 : ts.length < 2 ^ 64) (hj : j < (txts ts).length) :
    textsF (pre ++ (txts ts).take j) pre.length most each = .error 70 := by
  unfold txts at hj ⊢
  rw [List.length_append] at hj
  unfold textsF
  rw [if_neg (by omega)]
  rcases Nat.lt_or_ge j (uv ts.length).length with hlt | hge
  · rw [List.take_append_of_le_length (by omega), numF_cut pre ts.length j h64 hlt]
  · rw [List.take_append, List.take_of_length_le hge]
    have h1 := numF_put pre ((rws ts).take (j - (uv ts.length).length)) ts.length h64
    rw [List.append_assoc] at h1
    rw [h1]
    simp only
    rw [if_pos h0]
    have h2 := rowsF_cut each.toNat ts (pre ++ uv ts.length) (j - (uv ts.length).length) h (by omega)
    rw [List.length_append, List.append_assoc] at h2
    exact h2
theorem textsF_form (bs : List Nat) (at_ : Nat) (most each : Int) (a : Nat) (l : List (List Nat)) (hb : ∀ y ∈ bs, y < 256) (h : textsF bs at_ most each = .ok (l, a)) : (bs.drop at_).take (a - at_) = txts l ∧ at_ ≤ a := by
  unfold textsF at h
  split at h
  · cases h
  split at h
  · cases h
  rename_i k a1 hn
  split at h
  · obtain ⟨h1, h2⟩ := numF_form bs at_ k a1 hb hn
    obtain ⟨h3, h4, h5⟩ := rowsF_form bs each.toNat hb k a1 a l h
    refine ⟨?_, by omega⟩
    rw [cut_two bs at_ a1 a (by omega) h4, h1, h3]
    unfold txts
    rw [h5]
  · cases h
end Go.Proofs.Ytbcmjjcbjojakaa
end
section
/- Plain: what a content says; what is put is read, and what is read is what is put. -/
namespace Go.Proofs.Ytbcmjjcbjojakaa
open Go.RowKit
set_option linter.unusedVariables false
/-! The steps of a reading: where it stands, and the fault. -/
def rFix (bs : List Nat) (k : Nat) (s : Nat × Int) : Nat × Nat × Int := redo (fixF bs s.1 k) 0 s.1 s.2
def rNum (bs : List Nat) (s : Nat × Int) : Nat × Nat × Int := redo (numF bs s.1) 0 s.1 s.2
def rBlk (bs : List Nat) (most : Int) (s : Nat × Int) : List Nat × Nat × Int := redo (blkF bs s.1 most) [] s.1 s.2
def rTxt (bs : List Nat) (most each : Int) (s : Nat × Int) : List (List Nat) × Nat × Int := redo (textsF bs s.1 most each) [] s.1 s.2
/-- A step that is made or not. -/
def opt {α : Type} (b : Bool) (z : α) (f : Nat × Int → α × Nat × Int) (s : Nat × Int) : α × Nat × Int := if b = true then f s else (z, s)
/-- The request that a content says. -/
def rdRq (bs : List Nat) : Option Rq :=
  let r1 := rFix bs 1 (0, 0)
  let r2 := rFix bs 8 r1.2
  let k : Int := (r1.1 : Int)
  let r3 := opt (cKey k) [] (rBlk bs 1024) r2.2
  let r4 := opt (cBody k) [] (rBlk bs 1048576) r3.2
  let r5 := opt (cAfter k) [] (rBlk bs 1024) r4.2
  let r6 := opt (cOff k) 0 (rNum bs) r5.2
  let r7 := opt (cDelim k) 0 (rNum bs) r6.2
  let r8 := opt (cNum k) 0 (rNum bs) r7.2
  if 1 ≤ k ∧ k ≤ 8 ∧ endF bs.length r8.2.1 r8.2.2 = 0 then some ⟨k, r2.1, bstr r3.1, bstr r5.1, unz (r6.1 : Int), unz (r8.1 : Int), unz (r7.1 : Int), r4.1⟩ else none
def qBody (k c : Int) : Bool := decide (c = 0 ∧ (k = 2 ∨ k = 3))
def qGen (k c : Int) : Bool := decide (c = 0 ∧ k = 4)
def qKeys (k c : Int) : Bool := decide (c = 0 ∧ (k = 6 ∨ k = 7))
def qPage (k c : Int) : Bool := decide (c = 0 ∧ k = 7)
def qMost (k : Int) : Int := if k = 6 then 65536 else 1000
/-- The answer that a content says. -/
def rdAn (bs : List Nat) : Option An :=
  let r1 := rFix bs 1 (0, 0)
  let r2 := rFix bs 8 r1.2
  let r3 := rNum bs r2.2
  let k : Int := (r1.1 : Int)
  let c : Int := (r3.1 : Int)
  let h1 := opt (decide (k = 8)) 0 (rNum bs) r3.2
  let h2 := opt (decide (k = 8)) 0 (rNum bs) h1.2
  let h3 := opt (decide (k = 8)) 0 (rNum bs) h2.2
  let h4 := opt (decide (k = 8)) 0 (rNum bs) h3.2
  let b := opt (qBody k c) [] (rBlk bs 1048576) h4.2
  let g1 := opt (qGen k c) 0 (rNum bs) b.2
  let g2 := opt (qGen k c) 0 (rNum bs) g1.2
  let g3 := opt (qGen k c) 0 (rNum bs) g2.2
  let ks := opt (qKeys k c) [] (rTxt bs (qMost k) 255) g3.2
  let gs := opt (qPage k c) [] (rTxt bs 1000 255) ks.2
  let nx := opt (qPage k c) [] (rBlk bs 255) gs.2
  let mo := opt (qPage k c) 0 (rFix bs 1) nx.2
  if 1 ≤ k ∧ k ≤ 8 ∧ c ≤ 2147483647 ∧ mo.1 ≤ 1 ∧ endF bs.length mo.2.1 mo.2.2 = 0 then
    some ⟨k, r2.1, c, b.1, ks.1.map bstr, gs.1.map bstr, bstr nx.1, decide (mo.1 = 1), unz (g1.1 : Int), unz (g2.1 : Int), unz (g3.1 : Int), unz (h1.1 : Int), unz (h2.1 : Int), unz (h3.1 : Int), unz (h4.1 : Int)⟩
  else none
theorem sb_bstr (l : List Nat) (h : ∀ x ∈ l, x < 256) : sb (bstr l) = l := by
  unfold sb
  rw [bstr_data, List.map_map]
  conv => rhs; rw [← List.map_id l]
  exact List.map_congr_left fun x hx => by have := h x hx; simp [Function.comp]; omega
theorem bstr_sb (s : ByteArray) : bstr (sb s) = s := by
  have h : (bstr (sb s)).data.toList = s.data.toList := by
    rw [bstr_data]; unfold sb; rw [List.map_map]
    conv => rhs; rw [← List.map_id s.data.toList]
    exact List.map_congr_left fun x _ => by simp [Function.comp]
  have h2 := Array.toList_inj.1 h
  obtain ⟨t, ht⟩ : ∃ t, bstr (sb s) = t := ⟨_, rfl⟩
  rw [ht] at h2 ⊢
  cases s
  cases t
  simp only at h2
  rw [h2]
theorem bstr_nil : bstr [] = emS := rfl
theorem bstr_size (l : List Nat) : (bstr l).size = l.length := by
  rw [← sb_len]; unfold sb; rw [bstr_data, List.length_map, List.length_map]
theorem us_bstr (l : List Nat) (h : ∀ x ∈ l, x < 256) : us (bstr l) = blk l := by unfold us blk; rw [sb_bstr l h, bstr_size]
theorem us_blk (s : ByteArray) : us s = blk (sb s) := by unfold us blk; rw [sb_len]
/-! What is put is read. -/
section
variable (pre r : List Nat)
theorem rFix_put (k v : Nat) (hv : v < 256 ^ k) : rFix (pre ++ fx k v ++ r) k (pre.length, 0) = (v, (pre ++ fx k v).length, 0) := by
  unfold rFix redo; simp only; rw [fixF_put pre r k v hv, List.length_append]; rfl
theorem rNum_put (v : Nat) (hv : v < 2 ^ 64) : rNum (pre ++ uv v ++ r) (pre.length, 0) = (v, (pre ++ uv v).length, 0) := by
  unfold rNum redo; simp only; rw [numF_put pre r v hv, List.length_append]; rfl
theorem rBlk_put (p : List Nat) (most : Nat) (hp : p.length ≤ most) (h64 : p.length < 2 ^ 64) : rBlk (pre ++ blk p ++ r) (most : Int) (pre.length, 0) = (p, (pre ++ blk p).length, 0) := by
  have e : blkF (pre ++ blk p ++ r) pre.length (most : Int) = blockF (pre ++ blk p ++ r) pre.length most := by unfold blkF; rw [if_neg (by omega), Int.toNat_natCast]
  unfold rBlk redo; simp only; rw [e, blockF_put pre r p most hp h64, List.length_append]; rfl
theorem rTxt_put (ts : List (List Nat)) (most : Int) (h0 : ts.length ≤ most.toNat) (hm : 0 ≤ most) (h : ∀ t ∈ ts, t.length ≤ 255) (h64 : ts.length < 2 ^ 64) : rTxt (pre ++ txts ts ++ r) most 255 (pre.length, 0) = (ts, (pre ++ txts ts).length, 0) := by
  unfold rTxt redo; simp only
  rw [textsF_put pre r ts most 255 h0 hm (by omega) (fun t ht => ⟨h t ht, by have := h t ht; omega⟩) h64, List.length_append]; rfl
end
theorem uz_put (pre r : List Nat) (v : Int) (h1 : -9223372036854775808 ≤ v) (h2 : v ≤ 9223372036854775807) : rNum (pre ++ uz v ++ r) (pre.length, 0) = ((zig v).toNat, (pre ++ uz v).length, 0) := rNum_put pre r _ (zig_nat v h1 h2).2
theorem unz_put (v : Int) (h1 : -9223372036854775808 ≤ v) (h2 : v ≤ 9223372036854775807) : unz (((zig v).toNat : Nat) : Int) = v := by rw [← (zig_nat v h1 h2).1, unz_zig]
theorem endF_0 (n : Nat) : endF n n 0 = 0 := by unfold endF; simp
/-- A reading stands ahead of 'rest'. -/
def At (bs : List Nat) (s : Nat × Int) (rest : List Nat) : Prop := ∃ pre, bs = pre ++ rest ∧ s = (pre.length, 0)
section
variable {bs r : List Nat} {s : Nat × Int}
theorem At.fix {k v : Nat} (h : At bs s (fx k v ++ r)) (hv : v < 256 ^ k) : ∃ s', rFix bs k s = (v, s') ∧ At bs s' r := by
  obtain ⟨pre, hb, rfl⟩ := h
  rw [← List.append_assoc] at hb
  exact ⟨_, by rw [hb]; exact rFix_put pre r k v hv, pre ++ fx k v, hb, rfl⟩
theorem At.num {v : Nat} (h : At bs s (uv v ++ r)) (hv : v < 2 ^ 64) : ∃ s', rNum bs s = (v, s') ∧ At bs s' r := by
  obtain ⟨pre, hb, rfl⟩ := h
  rw [← List.append_assoc] at hb
  exact ⟨_, by rw [hb]; exact rNum_put pre r v hv, pre ++ uv v, hb, rfl⟩
theorem At.blk {p : List Nat} {most : Nat} (h : At bs s (blk p ++ r)) (hp : p.length ≤ most) (h64 : p.length < 2 ^ 64) : ∃ s', rBlk bs (most : Int) s = (p, s') ∧ At bs s' r := by
  obtain ⟨pre, hb, rfl⟩ := h
  rw [← List.append_assoc] at hb
  exact ⟨_, by rw [hb]; exact rBlk_put pre r p most hp h64, pre ++ Go.Proofs.Ytbcmjjcbjojakaa.blk p, hb, rfl⟩
theorem At.txt {ts : List (List Nat)} {most : Int} (h : At bs s (txts ts ++ r)) (h0 : ts.length ≤ most.toNat) (hm : 0 ≤ most) (h1 : ∀ t ∈ ts, t.length ≤ 255) (h64 : ts.length < 2 ^ 64) : ∃ s', rTxt bs most 255 s = (ts, s') ∧ At bs s' r := by
  obtain ⟨pre, hb, rfl⟩ := h
  rw [← List.append_assoc] at hb
  exact ⟨_, by rw [hb]; exact rTxt_put pre r ts most h0 hm h1 h64, pre ++ txts ts, hb, rfl⟩
theorem At.opt {α : Type} {b : Bool} {z v : α} {f : Nat × Int → α × Nat × Int} {enc : List Nat} (h : At bs s ((if b = true then enc else []) ++ r)) (hf : b = true → At bs s (enc ++ r) → ∃ s', f s = (v, s') ∧ At bs s' r) : ∃ s', opt b z f s = (if b = true then v else z, s') ∧ At bs s' r := by
  unfold Go.Proofs.Ytbcmjjcbjojakaa.opt
  cases b
  · exact ⟨s, by simp, by simpa using h⟩
  · simp only [if_true] at h ⊢; exact hf rfl h
end
theorem At.z {bs r : List Nat} {s : Nat × Int} {v : Int} (h : At bs s (uz v ++ r)) (h1 : -9223372036854775808 ≤ v) (h2 : v ≤ 9223372036854775807) : ∃ s', rNum bs s = ((zig v).toNat, s') ∧ At bs s' r := At.num h (zig_nat v h1 h2).2
theorem rqC_flat (R : Rq) : rqC R = fx 1 R.kind.toNat ++ (fx 8 R.tag ++ ((if cKey R.kind = true then blk (sb R.key) else []) ++ ((if cBody R.kind = true then blk R.body else []) ++ ((if cAfter R.kind = true then blk (sb R.after) else []) ++ ((if cOff R.kind = true then uz R.off else []) ++ ((if cDelim R.kind = true then uz R.delim else []) ++ (if cNum R.kind = true then uz R.num else []))))))) := by
  unfold rqC
  simp only [List.append_assoc, us_blk]
  rfl
/-- A request's content is read as it was. -/
theorem rdRq_put (R : Rq) (hok : rqOk R) (hfit : rqFit R) (hb : RqB R) : rdRq (rqC R) = some R := by
  obtain ⟨bs, hbs⟩ : ∃ bs, rqC R = bs := ⟨_, rfl⟩
  have hk : ((R.kind.toNat : Nat) : Int) = R.kind := by have := hok.1; omega
  obtain ⟨k1, k8, d1, d2, d3, d4, d5, d6⟩ := hok
  obtain ⟨f1, f2, f3⟩ := hfit
  have h0 : At bs (0, 0) (rqC R) := ⟨[], by rw [hbs]; rfl, rfl⟩
  rw [rqC_flat] at h0
  rw [hbs]
  obtain ⟨s1, e1, h1⟩ := h0.fix (k := 1) (by omega)
  obtain ⟨s2, e2, h2⟩ := h1.fix (k := 8) (by have := hb.tag; omega)
  obtain ⟨s3, e3, h3⟩ := h2.opt (z := []) (f := rBlk bs 1024) fun _ h => h.blk (most := 1024) (by rw [sb_len]; exact f1) (by rw [sb_len]; omega)
  obtain ⟨s4, e4, h4⟩ := h3.opt (z := []) (f := rBlk bs 1048576) fun _ h => h.blk (most := 1048576) f3 (by omega)
  obtain ⟨s5, e5, h5⟩ := h4.opt (z := []) (f := rBlk bs 1024) fun _ h => h.blk (most := 1024) (by rw [sb_len]; exact f2) (by rw [sb_len]; omega)
  obtain ⟨s6, e6, h6⟩ := h5.opt (z := 0) (f := rNum bs) fun _ h => h.z hb.o1 hb.o2
  obtain ⟨s7, e7, h7⟩ := h6.opt (z := 0) (f := rNum bs) fun _ h => h.z hb.d1 hb.d2
  rw [← List.append_nil (if cNum R.kind = true then uz R.num else [])] at h7
  obtain ⟨s8, e8, h8⟩ := h7.opt (z := 0) (f := rNum bs) fun _ h => h.z hb.n1 hb.n2
  obtain ⟨pre, hp, rfl⟩ := h8
  rw [List.append_nil] at hp
  subst hp
  unfold rdRq
  simp only [e1, e2, hk, e3, e4, e5, e6, e7, e8]
  rw [if_pos ⟨k1, k8, endF_0 _⟩]
  have z0 : unz ((0 : Nat) : Int) = 0 := by decide
  have m1 : bstr (if cKey R.kind = true then sb R.key else []) = R.key := by
    split
    · exact bstr_sb _
    · rename_i h; rw [bstr_nil, d1 (by simpa using h)]
  have m2 : bstr (if cAfter R.kind = true then sb R.after else []) = R.after := by
    split
    · exact bstr_sb _
    · rename_i h; rw [bstr_nil, d3 (by simpa using h)]
  have m3 : unz (((if cOff R.kind = true then (zig R.off).toNat else 0 : Nat) : Nat) : Int) = R.off := by
    split
    · exact unz_put R.off hb.o1 hb.o2
    · rename_i h; rw [d4 (by simpa using h)]; exact z0
  have m4 : unz (((if cDelim R.kind = true then (zig R.delim).toNat else 0 : Nat) : Nat) : Int) = R.delim := by
    split
    · exact unz_put R.delim hb.d1 hb.d2
    · rename_i h; rw [d6 (by simpa using h)]; exact z0
  have m5 : unz (((if cNum R.kind = true then (zig R.num).toNat else 0 : Nat) : Nat) : Int) = R.num := by
    split
    · exact unz_put R.num hb.n1 hb.n2
    · rename_i h; rw [d5 (by simpa using h)]; exact z0
  have m6 : (if cBody R.kind = true then R.body else []) = R.body := by
    split
    · rfl
    · rename_i h; rw [d2 (by simpa using h)]
  rw [m1, m2, m3, m4, m5, m6]
end Go.Proofs.Ytbcmjjcbjojakaa
end
section
/- Plain: what is read is what is put: one form. -/
namespace Go.Proofs.Ytbcmjjcbjojakaa
open Go.RowKit
set_option linter.unusedVariables false
section
variable {bs : List Nat}
/-- A step of a reading that went well: what stands there is 'enc'. -/
structure Step (bs : List Nat) (s s' : Nat × Int) (enc : List Nat) : Prop where
  f : s.2 = 0
  le : s.1 ≤ bs.length → s'.1 ≤ bs.length
  cut : bs.take s'.1 = bs.take s.1 ++ enc
theorem step_of (bs : List Nat) {a a' : Nat} {enc : List Nat} (h : (bs.drop a).take (a' - a) = enc) (hle : a ≤ a') (hl : a ≤ bs.length → a' ≤ bs.length) : Step bs (a, 0) (a', 0) enc := by
  refine ⟨rfl, hl, ?_⟩
  have : a' = a + (a' - a) := by omega
  simp only
  rw [← h, this, List.take_add]
  simp
theorem Step.of_redo {α : Type} {o : Except Int (α × Nat)} {z v : α} {a a' : Nat} {f : Int} (h : redo o z a f = (v, a', 0)) (hne : ∀ e, o = .error e → e ≠ 0) : f = 0 ∧ o = .ok (v, a') := by
  unfold redo at h
  split at h
  · rename_i hf
    cases ho : o with
    | ok x => rw [ho] at h; simp only [Prod.mk.injEq] at h; obtain ⟨h1, h2, _⟩ := h; subst h1 h2; exact ⟨hf, rfl⟩
    | error e => rw [ho] at h; simp only [Prod.mk.injEq] at h; exact absurd h.2.2 (hne e ho)
  · rename_i hf
    simp only [Prod.mk.injEq] at h
    exact absurd h.2.2 hf
theorem Bad.ne {e : Int} (h : Bad e) : e ≠ 0 := by unfold Bad at h; omega
theorem Well.ne {α : Type} {at_ : Nat} {o : Except Int (α × Nat)} (h : Well bs at_ o) : ∀ e, o = .error e → e ≠ 0 := fun e he => by rw [he] at h; exact Bad.ne h
variable (hb : ∀ y ∈ bs, y < 256)
theorem rFix_form {k v : Nat} {s s' : Nat × Int} (hs : s.1 ≤ bs.length) (h : rFix bs k s = (v, s')) (h0 : s'.2 = 0) (hb : ∀ y ∈ bs, y < 256) : Step bs s s' (fx k v) ∧ v < 256 ^ k := by
  obtain ⟨a, f⟩ := s
  obtain ⟨a', f'⟩ := s'
  simp only at h0 hs; subst h0
  have hw := well_fix (bs := bs) k hs
  obtain ⟨rfl, ho⟩ := Step.of_redo h hw.ne
  rw [ho] at hw
  obtain ⟨h1, h2⟩ := fixF_form bs a k v a' hb ho
  refine ⟨step_of bs h1 h2 fun _ => hw.2, ?_⟩
  unfold fixF at ho
  split at ho
  · rename_i l a2 ht
    cases ho
    obtain ⟨e1, e2, e3, e4⟩ := takeF_form _ _ _ _ _ ht
    have := le256_lt l fun x hx => hb x (by rw [e1] at hx; exact List.mem_of_mem_drop (List.mem_of_mem_take hx))
    rwa [e4] at this
  · cases ho
theorem rNum_form {v : Nat} {s s' : Nat × Int} (hs : s.1 ≤ bs.length) (h : rNum bs s = (v, s')) (h0 : s'.2 = 0) (hb : ∀ y ∈ bs, y < 256) : Step bs s s' (uv v) ∧ v < 2 ^ 64 := by
  obtain ⟨a, f⟩ := s
  obtain ⟨a', f'⟩ := s'
  simp only at h0 hs; subst h0
  have hw := well_num (bs := bs) hb hs
  obtain ⟨rfl, ho⟩ := Step.of_redo h hw.ne
  rw [ho] at hw
  obtain ⟨h1, h2⟩ := numF_form bs a v a' hb ho
  exact ⟨step_of bs h1 (by omega) fun _ => hw.2, (numF_hi bs a v a' hb ho).1⟩
theorem blk_hi {most : Nat} {a a' : Nat} {l : List Nat} (h : blockF bs a most = .ok (l, a')) (hb : ∀ y ∈ bs, y < 256) : l.length ≤ most ∧ ∀ x ∈ l, x < 256 := by
  unfold blockF at h
  split at h
  · rename_i k a1 hn
    split at h
    · rename_i hk
      obtain ⟨e1, e2, e3, e4⟩ := takeF_form _ _ _ _ _ h
      exact ⟨by omega, fun x hx => hb x (by rw [e1] at hx; exact List.mem_of_mem_drop (List.mem_of_mem_take hx))⟩
    · cases h
  · cases h
theorem rBlk_form {l : List Nat} {most : Nat} {s s' : Nat × Int} (hs : s.1 ≤ bs.length) (h : rBlk bs (most : Int) s = (l, s')) (h0 : s'.2 = 0) (hb : ∀ y ∈ bs, y < 256) : Step bs s s' (blk l) ∧ l.length ≤ most ∧ ∀ x ∈ l, x < 256 := by
  obtain ⟨a, f⟩ := s
  obtain ⟨a', f'⟩ := s'
  simp only at h0 hs; subst h0
  have hw := well_blk (bs := bs) (most : Int) hb hs
  obtain ⟨rfl, ho⟩ := Step.of_redo h hw.ne
  rw [ho] at hw
  unfold blkF at ho
  rw [if_neg (by omega), Int.toNat_natCast] at ho
  obtain ⟨h1, h2⟩ := blockF_form bs a most a' l hb ho
  exact ⟨step_of bs h1 h2 fun _ => hw.2, blk_hi ho hb⟩
theorem rows_hi {each : Nat} (hb : ∀ y ∈ bs, y < 256) : ∀ (k a a' : Nat) (l : List (List Nat)), rowsF bs each k a = .ok (l, a') → l.length = k ∧ ∀ t ∈ l, t.length ≤ each ∧ ∀ x ∈ t, x < 256
  | 0, a, a', l, h => by cases h; simp
  | k + 1, a, a', l, h => by
    unfold rowsF at h
    split at h
    · cases h
    rename_i b a1 h1
    split at h
    · cases h
    rename_i l2 a2 h2
    cases h
    obtain ⟨e1, e2⟩ := rows_hi hb k a1 a' l2 h2
    refine ⟨by simp [e1], fun t ht => ?_⟩
    rcases List.mem_cons.1 ht with rfl | ht
    · exact blk_hi h1 hb
    · exact e2 t ht
theorem rTxt_form {l : List (List Nat)} {most each : Nat} {s s' : Nat × Int} (hs : s.1 ≤ bs.length) (h : rTxt bs (most : Int) (each : Int) s = (l, s')) (h0 : s'.2 = 0) (hb : ∀ y ∈ bs, y < 256) : Step bs s s' (txts l) ∧ l.length ≤ most ∧ ∀ t ∈ l, t.length ≤ each ∧ ∀ x ∈ t, x < 256 := by
  obtain ⟨a, f⟩ := s
  obtain ⟨a', f'⟩ := s'
  simp only at h0 hs; subst h0
  have hw := well_texts (bs := bs) (most : Int) (each : Int) hb hs
  obtain ⟨rfl, ho⟩ := Step.of_redo h hw.ne
  rw [ho] at hw
  obtain ⟨h1, h2⟩ := textsF_form bs a _ _ a' l hb ho
  refine ⟨step_of bs h1 h2 fun _ => hw.2, ?_⟩
  unfold textsF at ho
  rw [if_neg (by omega)] at ho
  split at ho
  · cases ho
  rename_i k a1 hn
  split at ho
  · rename_i hk
    obtain ⟨e1, e2⟩ := rows_hi hb k a1 a' l ho
    rw [Int.toNat_natCast] at e2 hk
    exact ⟨by omega, e2⟩
  · cases ho
/-- A step that is made or not. -/
theorem opt_form {α : Type} {b : Bool} {z v : α} {f : Nat × Int → α × Nat × Int} {s s' : Nat × Int} (h : opt b z f s = (v, s')) {enc : List Nat} (hf : b = true → f s = (v, s') → Step bs s s' enc) (h0 : s'.2 = 0) : Step bs s s' (if b = true then enc else []) ∧ (b = false → v = z) := by
  unfold opt at h
  cases b
  · simp only [Bool.false_eq_true, if_false, Prod.mk.injEq] at h ⊢
    obtain ⟨rfl, rfl⟩ := h
    exact ⟨⟨h0, id, by simp⟩, fun _ => rfl⟩
  · simp only [if_true] at h ⊢
    exact ⟨hf rfl h, fun h => by cases h⟩
end
/-! A reading stays within the bytes. -/
theorem redo_le {α : Type} {bs : List Nat} {o : Except Int (α × Nat)} (z : α) {a : Nat} (f : Int) (h : Well bs a o) (ha : a ≤ bs.length) : (redo o z a f).2.1 ≤ bs.length := by
  rcases redo_well z f h ha with ⟨_, e⟩ | ⟨_, _, _, e⟩ | ⟨_, _, _, _, e, _, h2⟩ <;> rw [e] <;> assumption
section
variable {bs : List Nat} {s : Nat × Int}
theorem rFix_le (k : Nat) (hs : s.1 ≤ bs.length) : (rFix bs k s).2.1 ≤ bs.length := redo_le _ _ (well_fix k hs) hs
theorem rNum_le (hb : ∀ y ∈ bs, y < 256) (hs : s.1 ≤ bs.length) : (rNum bs s).2.1 ≤ bs.length := redo_le _ _ (well_num hb hs) hs
theorem rBlk_le (most : Int) (hb : ∀ y ∈ bs, y < 256) (hs : s.1 ≤ bs.length) : (rBlk bs most s).2.1 ≤ bs.length := redo_le _ _ (well_blk most hb hs) hs
theorem rTxt_le (most each : Int) (hb : ∀ y ∈ bs, y < 256) (hs : s.1 ≤ bs.length) : (rTxt bs most each s).2.1 ≤ bs.length := redo_le _ _ (well_texts most each hb hs) hs
theorem opt_le {α : Type} (b : Bool) (z : α) {f : Nat × Int → α × Nat × Int} (hf : (f s).2.1 ≤ bs.length) (hs : s.1 ≤ bs.length) : (opt b z f s).2.1 ≤ bs.length := by
  unfold opt; cases b
  · exact hs
  · exact hf
end
theorem endF_ok {n a : Nat} {f : Int} (h : endF n a f = 0) : f = 0 ∧ n ≤ a := by
  unfold endF at h
  split at h
  · omega
  · split at h <;> omega
theorem ob {b : Bool} {α : Type} {x y : α} (h : b = false → x = y) (hb : ¬ b = true) : x = y := h (by simpa using hb)
theorem u64i {v : Nat} (h : v < 2 ^ 64) : -9223372036854775808 ≤ unz (v : Int) ∧ unz (v : Int) ≤ 9223372036854775807 := unz_bd _ (by omega) (by omega)
theorem uz_unz {v : Nat} : uz (unz (v : Int)) = uv v := by unfold uz; rw [zig_unz _ (by omega)]; rfl
theorem opt_uz {b : Bool} {v : Nat} (h : b = false → v = 0) : (if b = true then uz (unz (v : Int)) else []) = (if b = true then uv v else []) := by rw [uz_unz]
theorem opt_us {b : Bool} {l : List Nat} (h : ∀ x ∈ l, x < 256) : (if b = true then us (bstr l) else []) = (if b = true then blk l else []) := by rw [us_bstr l h]
theorem opt_lt {α : Type} {b : Bool} {z v : α} {f : Nat × Int → α × Nat × Int} {s s' : Nat × Int} (h : opt b z f s = (v, s')) {P : α → Prop} (hz : P z) (hf : b = true → f s = (v, s') → P v) : P v := by
  unfold opt at h
  cases b
  · simp only [Bool.false_eq_true, if_false, Prod.mk.injEq] at h; rw [← h.1]; exact hz
  · exact hf rfl h
theorem rdRq_form (bs : List Nat) (R : Rq) (hb : ∀ y ∈ bs, y < 256) (h : rdRq bs = some R) : bs = rqC R ∧ rqOk R ∧ rqFit R ∧ RqB R := by
  unfold rdRq at h
  simp only at h
  obtain ⟨v1, s1, h1⟩ : ∃ v s, rFix bs 1 (0, 0) = (v, s) := ⟨_, _, rfl⟩
  rw [h1] at h; simp only at h
  have p1 : s1.1 ≤ bs.length := by have := rFix_le (s := (0, 0)) (bs := bs) 1 (Nat.zero_le _); rwa [h1] at this
  obtain ⟨v2, s2, h2⟩ : ∃ v s, rFix bs 8 s1 = (v, s) := ⟨_, _, rfl⟩
  rw [h2] at h; simp only at h
  have p2 : s2.1 ≤ bs.length := by have := rFix_le (s := s1) (bs := bs) 8 p1; rwa [h2] at this
  obtain ⟨b3, hb3⟩ : ∃ b, cKey (v1 : Int) = b := ⟨_, rfl⟩
  obtain ⟨v3, s3, h3⟩ : ∃ v s, opt b3 [] (rBlk bs 1024) s2 = (v, s) := ⟨_, _, rfl⟩
  rw [hb3, h3] at h; simp only at h
  have p3 : s3.1 ≤ bs.length := by have := opt_le (bs := bs) b3 [] (f := rBlk bs 1024) (rBlk_le 1024 hb p2) p2; rwa [h3] at this
  obtain ⟨b4, hb4⟩ : ∃ b, cBody (v1 : Int) = b := ⟨_, rfl⟩
  obtain ⟨v4, s4, h4⟩ : ∃ v s, opt b4 [] (rBlk bs 1048576) s3 = (v, s) := ⟨_, _, rfl⟩
  rw [hb4, h4] at h; simp only at h
  have p4 : s4.1 ≤ bs.length := by have := opt_le (bs := bs) b4 [] (f := rBlk bs 1048576) (rBlk_le 1048576 hb p3) p3; rwa [h4] at this
  obtain ⟨b5, hb5⟩ : ∃ b, cAfter (v1 : Int) = b := ⟨_, rfl⟩
  obtain ⟨v5, s5, h5⟩ : ∃ v s, opt b5 [] (rBlk bs 1024) s4 = (v, s) := ⟨_, _, rfl⟩
  rw [hb5, h5] at h; simp only at h
  have p5 : s5.1 ≤ bs.length := by have := opt_le (bs := bs) b5 [] (f := rBlk bs 1024) (rBlk_le 1024 hb p4) p4; rwa [h5] at this
  obtain ⟨b6, hb6⟩ : ∃ b, cOff (v1 : Int) = b := ⟨_, rfl⟩
  obtain ⟨v6, s6, h6⟩ : ∃ v s, opt b6 0 (rNum bs) s5 = (v, s) := ⟨_, _, rfl⟩
  rw [hb6, h6] at h; simp only at h
  have p6 : s6.1 ≤ bs.length := by have := opt_le (bs := bs) b6 0 (f := rNum bs) (rNum_le hb p5) p5; rwa [h6] at this
  obtain ⟨b7, hb7⟩ : ∃ b, cDelim (v1 : Int) = b := ⟨_, rfl⟩
  obtain ⟨v7, s7, h7⟩ : ∃ v s, opt b7 0 (rNum bs) s6 = (v, s) := ⟨_, _, rfl⟩
  rw [hb7, h7] at h; simp only at h
  have p7 : s7.1 ≤ bs.length := by have := opt_le (bs := bs) b7 0 (f := rNum bs) (rNum_le hb p6) p6; rwa [h7] at this
  obtain ⟨b8, hb8⟩ : ∃ b, cNum (v1 : Int) = b := ⟨_, rfl⟩
  obtain ⟨v8, s8, h8⟩ : ∃ v s, opt b8 0 (rNum bs) s7 = (v, s) := ⟨_, _, rfl⟩
  rw [hb8, h8] at h; simp only at h
  have p8 : s8.1 ≤ bs.length := by have := opt_le (bs := bs) b8 0 (f := rNum bs) (rNum_le hb p7) p7; rwa [h8] at this
  split at h
  case isFalse => cases h
  rename_i hc
  obtain ⟨k1, k8, he⟩ := hc
  injection h with h
  subst h
  obtain ⟨f8, e8⟩ := endF_ok he
  have q8 := opt_form h8 (fun _ g => (rNum_form p7 g f8 hb).1) f8
  have q7 := opt_form h7 (fun _ g => (rNum_form p6 g q8.1.f hb).1) q8.1.f
  have q6 := opt_form h6 (fun _ g => (rNum_form p5 g q7.1.f hb).1) q7.1.f
  have q5 := opt_form h5 (fun _ g => (rBlk_form (most := 1024) p4 g q6.1.f hb).1) q6.1.f
  have q4 := opt_form h4 (fun _ g => (rBlk_form (most := 1048576) p3 g q5.1.f hb).1) q5.1.f
  have q3 := opt_form h3 (fun _ g => (rBlk_form (most := 1024) p2 g q4.1.f hb).1) q4.1.f
  have q2 := rFix_form p1 h2 q3.1.f hb
  have q1 := rFix_form (s := (0, 0)) (Nat.zero_le _) h1 q2.1.f hb
  have t3 := opt_lt h3 (P := fun l => l.length ≤ 1024 ∧ ∀ x ∈ l, x < 256) ⟨by simp, by simp⟩ (fun _ g => (rBlk_form (most := 1024) p2 g q4.1.f hb).2)
  have t4 := opt_lt h4 (P := fun l => l.length ≤ 1048576 ∧ ∀ x ∈ l, x < 256) ⟨by simp, by simp⟩ (fun _ g => (rBlk_form (most := 1048576) p3 g q5.1.f hb).2)
  have t5 := opt_lt h5 (P := fun l => l.length ≤ 1024 ∧ ∀ x ∈ l, x < 256) ⟨by simp, by simp⟩ (fun _ g => (rBlk_form (most := 1024) p4 g q6.1.f hb).2)
  have t6 := opt_lt h6 (P := fun v => v < 2 ^ 64) (by omega) (fun _ g => (rNum_form p5 g q7.1.f hb).2)
  have t7 := opt_lt h7 (P := fun v => v < 2 ^ 64) (by omega) (fun _ g => (rNum_form p6 g q8.1.f hb).2)
  have t8 := opt_lt h8 (P := fun v => v < 2 ^ 64) (by omega) (fun _ g => (rNum_form p7 g f8 hb).2)
  have z0 : unz ((0 : Nat) : Int) = 0 := by decide
  refine ⟨?_, ⟨k1, k8, ?_, ?_, ?_, ?_, ?_, ?_⟩, ⟨by simp only [bstr_size]; exact t3.1, by simp only [bstr_size]; exact t5.1, t4.1⟩, ⟨by have := q2.2; simp only; omega, (u64i t6).1, (u64i t6).2, (u64i t8).1, (u64i t8).2, (u64i t7).1, (u64i t7).2, t4.2⟩⟩
  · unfold rqC
    simp only [hb3, hb4, hb5, hb6, hb7, hb8, Int.toNat_natCast]
    rw [opt_us t3.2, opt_us t5.2, opt_uz q6.2, opt_uz q7.2, opt_uz q8.2]
    have c := q8.1.cut
    rw [List.take_of_length_le e8, q7.1.cut, q6.1.cut, q5.1.cut, q4.1.cut, q3.1.cut, q2.1.cut, q1.1.cut] at c
    simpa [ub, blk, List.append_assoc] using c
  · intro hh; simp only [hb3] at hh ⊢; rw [q3.2 hh, bstr_nil]
  · intro hh; simp only [hb4] at hh ⊢; rw [q4.2 hh]
  · intro hh; simp only [hb5] at hh ⊢; rw [q5.2 hh, bstr_nil]
  · intro hh; simp only [hb6] at hh ⊢; rw [q6.2 hh, z0]
  · intro hh; simp only [hb8] at hh ⊢; rw [q8.2 hh, z0]
  · intro hh; simp only [hb7] at hh ⊢; rw [q7.2 hh, z0]
end Go.Proofs.Ytbcmjjcbjojakaa
end
section
/- Written messages: their cells and the rows that they own; the steps of a codec reader in the plain words of MsgP. -/
namespace Go.Proofs.Ytbcmjjcbjojakaa
open Go.RowKit
set_option linter.unusedVariables false
/-- A message as it lies in memory: its cells, and the rows that it owns. -/
structure Wm where
  cells : List Value
  rows : List (Nat × Value × List Value)
/-- Its rows stand, from block 'base' on. -/
def Wm.ok (w : World) (base : Nat) (W : Wm) : Prop := ∀ r ∈ W.rows, w.ownsRow base r.1 1 r.2.1 r.2.2.length r.2.2
/-- No row of it lies in a block of X. -/
def Wm.off (X : List Nat) (W : Wm) : Prop := ∀ r ∈ W.rows, ∀ k, r.2.1.ownBlock = some k → k ∉ X
def rqW (R : Rq) (vb : Value) : Wm := ⟨[.int .i64 R.kind, .int .u64 (R.tag : Int), .string R.key, .string R.after, .int .i64 R.off, .int .i64 R.num, .int .i64 R.delim, vb], [(5, vb, cb R.body)]⟩
def anW (a : An) (v1 v2 v3 : Value) : Wm :=
  ⟨[.int .i64 a.kind, .int .u64 (a.tag : Int), .int .i64 a.code, v1, v2, v3, .string a.next, .bool a.more, .int .i64 a.ge, .int .i64 a.gc, .int .i64 a.size, .int .i64 a.h1, .int .i64 a.h2, .int .i64 a.h3, .int .i64 a.h4],
   [(5, v1, cb a.body), (9, v2, cs a.keys), (9, v3, cs a.groups)]⟩
def rqIs (W : Wm) (R : Rq) : Prop := ∃ vb, W = rqW R vb
def anIs (W : Wm) (a : An) : Prop := ∃ v1 v2 v3, W = anW a v1 v2 v3
section
variable {w w1 : World} {base base' : Nat} {W : Wm} {X : List Nat}
theorem Wm.ok.below (h : W.ok w base) (b : Below w.heap.size w w1) : W.ok w1 base := fun r hr => own_below' (h r hr) b
theorem Wm.ok.lower (h : W.ok w base) (hb : base' ≤ base) : W.ok w base' := fun r hr => own_base (h r hr) hb
theorem Wm.ok.chg (h : W.ok w base) (c : Chg X w w1) (ho : W.off X) : W.ok w1 base := fun r hr => c.own (h r hr) (ho r hr)
theorem Wm.ok.lt (h : W.ok w base) {r : Nat × Value × List Value} (hr : r ∈ W.rows) {k : Nat} (hk : r.2.1.ownBlock = some k) : base ≤ k ∧ k < w.heap.size := (h r hr).lt k hk
/-- What has been made since is apart from what was there. -/
theorem Wm.ok.off_old (h : W.ok w base) (hX : ∀ k ∈ X, k < base) : W.off X := fun r hr k hk hm => by
  have := (h.lt hr hk).1; have := hX k hm; omega
theorem Wm.off.mono {Y : List Nat} (h : W.off X) (hY : ∀ k ∈ Y, k ∈ X) : W.off Y := fun r hr k hk hm => h r hr k hk (hY k hm)
/-- New blocks may be written too. -/
theorem Wm.off.new {Y : List Nat} (h : W.off X) (ho : W.ok w base) (hY : ∀ k ∈ Y, k ∈ X ∨ w.heap.size ≤ k) : W.off Y := fun r hr k hk hm => by
  rcases hY k hm with h1 | h1
  · exact h r hr k hk h1
  · have := (ho.lt hr hk).2; omega
end
theorem own_one {w : World} {base e n : Nat} {v : Value} {xs : List Value} (h : w.ownsRow base e 1 v n xs) : v.oneCell' = true := by
  obtain ⟨A, c, rfl, _⟩ := own_form h; rfl
theorem rqW_one {w : World} {base : Nat} {R : Rq} {vb : Value} (h : (rqW R vb).ok w base) : (rqW R vb).cells.length = 8 ∧ (rqW R vb).cells.toArray.all (·.oneCell') = true := by
  have hv : vb.oneCell' = true := own_one (h _ (List.mem_singleton.2 rfl))
  exact ⟨rfl, by simp [rqW, hv]; simp [Value.oneCell']⟩
theorem anW_one {w : World} {base : Nat} {a : An} {v1 v2 v3 : Value} (h : (anW a v1 v2 v3).ok w base) : (anW a v1 v2 v3).cells.length = 15 ∧ (anW a v1 v2 v3).cells.toArray.all (·.oneCell') = true := by
  have h1 : v1.oneCell' = true := own_one (h _ (List.mem_cons_self ..))
  have h2 : v2.oneCell' = true := own_one (h _ (List.mem_cons_of_mem _ (List.mem_cons_self ..)))
  have h3 : v3.oneCell' = true := own_one (h _ (List.mem_cons_of_mem _ (List.mem_cons_of_mem _ (List.mem_cons_self ..))))
  exact ⟨rfl, by simp [anW, h1, h2, h3]; simp [Value.oneCell']⟩
/-! The steps of a codec reader. -/
theorem redo_val {α : Type} {P : α → Prop} {o : Except Int (α × Nat)} {z : α} {a : Nat} {f : Int} (hz : P z) (h : ∀ v a', o = .ok (v, a') → P v) : P (redo o z a f).1 := by
  unfold redo
  split
  · rcases ho : o with e | ⟨v, a'⟩
    · exact hz
    · exact h v a' ho
  · exact hz
section
variable {w : World} {gr n c : Nat} {A : Option Addr} {s : Nat × Int} {bs : List Nat}
theorem cFix1 (R : Rr w gr A n c s.1 s.2 bs) : Calls Try.prog 126 #[.pointer (some ⟨gr, 0, none⟩)] w fun e w' => ∃ v s', rFix bs 1 s = (v, s') ∧ e = .returned (.int .u8 (v : Int)) ∧ v < 256 ∧ Chg [gr] w w' ∧ Rr w' gr A n c s'.1 s'.2 bs := by
  refine (take_uint8_any w gr n c s.1 s.2 A bs R).mono ?_
  rintro e w' ⟨v, rfl, hc, hk, hR⟩
  unfold KT at hk
  subst hk
  refine ⟨_, _, rfl, rfl, ?_, hc, hR⟩
  refine redo_val (P := fun v => v < 256) (by omega) fun v a' h => ?_
  unfold fixF at h
  split at h
  · rename_i l a2 ht
    cases h
    obtain ⟨e1, e2, e3, e4⟩ := takeF_form _ _ _ _ _ ht
    have := le256_lt l fun x hx => R.lb x (by rw [e1] at hx; exact List.mem_of_mem_drop (List.mem_of_mem_take hx))
    rw [e4] at this; omega
  · cases h
theorem cFix8 (R : Rr w gr A n c s.1 s.2 bs) : Calls Try.prog 127 #[.pointer (some ⟨gr, 0, none⟩)] w fun e w' => ∃ v s', rFix bs 8 s = (v, s') ∧ e = .returned (.int .u64 (v : Int)) ∧ v < 18446744073709551616 ∧ Chg [gr] w w' ∧ Rr w' gr A n c s'.1 s'.2 bs := by
  refine (take_uint64_any w gr n c s.1 s.2 A bs R).mono ?_
  rintro e w' ⟨v, rfl, hc, hk, hR⟩
  unfold KT at hk
  subst hk
  refine ⟨_, _, rfl, rfl, ?_, hc, hR⟩
  refine redo_val (P := fun v => v < 18446744073709551616) (by omega) fun v a' h => ?_
  unfold fixF at h
  split at h
  · rename_i l a2 ht
    cases h
    obtain ⟨e1, e2, e3, e4⟩ := takeF_form _ _ _ _ _ ht
    have := le256_lt l fun x hx => R.lb x (by rw [e1] at hx; exact List.mem_of_mem_drop (List.mem_of_mem_take hx))
    rw [e4] at this; omega
  · cases h
theorem rNum_bd (R : Rr w gr A n c s.1 s.2 bs) : (rNum bs s).1 < 18446744073709551616 := by
  refine redo_val (P := fun v => v < 18446744073709551616) (by omega) fun v a' h => ?_
  have := (numF_hi bs s.1 v a' R.lb h).1
  omega
theorem cNumU (R : Rr w gr A n c s.1 s.2 bs) : Calls Try.prog 128 #[.pointer (some ⟨gr, 0, none⟩)] w fun e w' => ∃ v s', rNum bs s = (v, s') ∧ e = .returned (.int .u64 (v : Int)) ∧ v < 18446744073709551616 ∧ Chg [gr] w w' ∧ Rr w' gr A n c s'.1 s'.2 bs := by
  refine (uvarint_any w gr n c s.1 s.2 A bs R).mono ?_
  rintro e w' ⟨v, rfl, hc, hk, hR⟩
  unfold KNum at hk
  subst hk
  exact ⟨_, _, rfl, rfl, rNum_bd R, hc, hR⟩
theorem cNumV (R : Rr w gr A n c s.1 s.2 bs) : Calls Try.prog 129 #[.pointer (some ⟨gr, 0, none⟩)] w fun e w' => ∃ v s', rNum bs s = (v, s') ∧ e = .returned (.int .i64 (unz (v : Int))) ∧ (-9223372036854775808 ≤ unz (v : Int) ∧ unz (v : Int) ≤ 9223372036854775807) ∧ Chg [gr] w w' ∧ Rr w' gr A n c s'.1 s'.2 bs := by
  refine (varint_any w gr n c s.1 s.2 A bs R).mono ?_
  rintro e w' ⟨v, rfl, hc, hk, hR⟩
  unfold KZag at hk
  subst hk
  have h5 : ∀ v : Nat, v < 18446744073709551616 → -9223372036854775808 ≤ unz (v : Int) ∧ unz (v : Int) ≤ 9223372036854775807 := fun v hv => unz_bd _ (by omega) (by omega)
  exact ⟨_, _, rfl, rfl, h5 _ (rNum_bd R), hc, hR⟩
theorem cBlk (most : Nat) (hm : most ≤ 1048576) (R : Rr w gr A n c s.1 s.2 bs) : Calls Try.prog 131 #[.pointer (some ⟨gr, 0, none⟩), .int .i64 (most : Int)] w fun e w' => ∃ l s' vb cp, rBlk bs (most : Int) s = (l, s') ∧ e = .returned (.slice vb l.length cp) ∧ w'.ownsRow w.heap.size 5 1 (.slice vb l.length cp) l.length (cb l) ∧ Chg [gr] w w' ∧ Rr w' gr A n c s'.1 s'.2 bs := by
  refine (blk_any w gr n c s.1 s.2 A bs (most : Int) (by omega) R).mono ?_
  rintro e w' ⟨v, rfl, hc, hk, hR⟩
  obtain ⟨A', c', rfl, _, _⟩ := own_form hk
  exact ⟨_, _, A', c', rfl, rfl, hk, hc, hR⟩
theorem cTxt (most each : Nat) (hm : most ≤ 1048576) (he : each ≤ 1048576) (R : Rr w gr A n c s.1 s.2 bs) : Calls Try.prog 132 #[.pointer (some ⟨gr, 0, none⟩), .int .i64 (most : Int), .int .i64 (each : Int)] w fun e w' => ∃ l s' vb cp, rTxt bs (most : Int) (each : Int) s = (l, s') ∧ e = .returned (.slice vb l.length cp) ∧ w'.ownsRow w.heap.size 9 1 (.slice vb l.length cp) l.length (cs (l.map bstr)) ∧ Chg [gr] w w' ∧ Rr w' gr A n c s'.1 s'.2 bs := by
  refine (texts_any w gr n c s.1 s.2 A bs (most : Int) (each : Int) (by omega) (by omega) R).mono ?_
  rintro e w' ⟨v, rfl, hc, hk, hR⟩
  unfold KTxt at hk
  obtain ⟨A', c', rfl, _, _⟩ := own_form hk
  exact ⟨_, _, A', c', rfl, rfl, hk, hc, hR⟩
end
theorem infoRq8 : (Try.prog.info? 28).map (·.size) = some 8 := by kernel_rfl
theorem infoAn15 : (Try.prog.info? 43).map (·.size) = some 15 := by kernel_rfl
/-- Where a reading of a message stands: the box of the result, the message's own, the codec's reader. -/
structure QS (w W : World) (t gx gq gr : Nat) (A : Option Addr) (n c : Nat) (s : Nat × Int) (bs : List Nat) (zs : Array Value) (M : Wm) : Prop where
  box : W.heap[gq]? = some (.cells M.cells.toArray t)
  res : W.heap[gx]? = some (.cells zs t)
  rdr : Rr W gr A n c s.1 s.2 bs
  ch : Chg [gr] w W
  ok : M.ok W (gq + 1)
  l1 : gr < w.heap.size
  l2 : w.heap.size ≤ gx
  l3 : gx < gq
section
variable {w W W' : World} {t gx gq gr n c : Nat} {A : Option Addr} {s s' : Nat × Int} {bs : List Nat} {zs : Array Value} {M M' : Wm}
theorem QS.lt (h : QS w W t gx gq gr A n c s bs zs M) : gq < W.heap.size := (Array.getElem?_eq_some_iff.1 h.box).1
/-- A call of the codec's reader. -/
theorem QS.call (h : QS w W t gx gq gr A n c s bs zs M) (hc : Chg [gr] W W') (hR : Rr W' gr A n c s'.1 s'.2 bs) : QS w W' t gx gq gr A n c s' bs zs M where
  box := by rw [hc.block gq h.lt (by have := h.l1; have := h.l2; have := h.l3; simp; omega)]; exact h.box
  res := by rw [hc.block gx (by have := h.lt; have := h.l3; omega) (by have := h.l1; have := h.l2; simp; omega)]; exact h.res
  rdr := hR
  ch := h.ch.trans hc
  ok := h.ok.chg hc fun r hr k hk => by have := (h.ok.lt hr hk).1; have := h.l1; have := h.l2; have := h.l3; simp; omega
  l1 := h.l1
  l2 := h.l2
  l3 := h.l3
theorem QS.below (h : QS w W t gx gq gr A n c s bs zs M) (hb : Chg [] W W') : QS w W' t gx gq gr A n c s bs zs M :=
  h.call (hb.mono (by simp)) (h.rdr.keep hb (by simp) (by simp))
/-- A field is written; a row more may be owned. -/
theorem QS.set (h : QS w W t gx gq gr A n c s bs zs M) (i : Nat) (u : Value) (hM : M'.cells = M.cells.set i u) (hok : M'.ok W (gq + 1)) : QS w (W.setCell ⟨gq, i, none⟩ u) t gx gq gr A n c s bs zs M' where
  box := by rw [heap_set W gq i u _ _ h.box, hM]; simp
  res := by rw [Below.heap_setCell _ _ _ _ (by show gx ≠ gq; have := h.l3; omega)]; exact h.res
  rdr := h.rdr.keep' ((Chg.refl [gq] W).setCell (by simp) u) (by simp; have := h.l1; have := h.l2; have := h.l3; omega)
  ch := h.ch.setNew (by show w.heap.size ≤ gq; have := h.l2; have := h.l3; omega) u
  ok := hok.chg ((Chg.refl [gq] W).setCell (by simp) u) fun r hr k hk => by have := (hok.lt hr hk).1; simp; omega
  l1 := h.l1
  l2 := h.l2
  l3 := h.l3
theorem QS.at_ (h : QS w W t gx gq gr A n c s bs zs M) (i : Nat) {v : Value} (hv : M.cells[i]? = some v) : W.cell? ⟨gq, i, none⟩ = some v := by rw [cell_of_row W gq i _ _ (0, 0) h.box]; simpa using hv
theorem QS.range (h : QS w W t gx gq gr A n c s bs zs M) : W.rangeAt gq 0 M.cells := fun j v hj => by rw [Nat.zero_add]; exact h.at_ j hj
theorem QS.stored (h : QS w W t gx gq gr A n c s bs zs M) {cells : Array Value} (hs : W'.heap[gx]? = some (.cells cells t)) (hg : W.grownBy W' (some gx)) : QS w W' t gx gq gr A n c s bs cells M where
  box := by rw [hg.block gq h.lt (by have := h.l3; intro e; injection e; omega)]; exact h.box
  res := hs
  rdr := h.rdr.keep' (L := [gx]) ⟨hg.os, hg.tape, hg.output, hg.size, fun k hk hm => hg.block k hk (by simpa using hm)⟩ (by simp; have := h.l1; have := h.l2; omega)
  ch := ⟨hg.os.trans h.ch.os, hg.tape.trans h.ch.tape, hg.output.trans h.ch.output, Nat.le_trans h.ch.size hg.size, fun k hk hm => (hg.block k (Nat.lt_of_lt_of_le hk h.ch.size) (by have := h.l2; intro e; injection e; omega)).trans (h.ch.block k hk hm)⟩
  ok := h.ok.chg (X := [gx]) ⟨hg.os, hg.tape, hg.output, hg.size, fun k hk hm => hg.block k hk (by simpa using hm)⟩ fun r hr k hk => by have := (h.ok.lt hr hk).1; have := h.l3; simp; omega
  l1 := h.l1
  l2 := h.l2
  l3 := h.l3
theorem QS.z (h : QS w W t gx gq gr A n c s bs zs M) (i : Nat) : W.frozen? ⟨gq, i, none⟩ = false := by simp [World.frozen?, h.box]
end
/-- A whole value laid into a box, as a step of a region that draws its order. -/
theorem step_store {P : Program} {ops : Array Oper} {o : Oper} {a : Act} {w : World} {K : Act → World → Prop} {Q : Exit → Act → World → Prop} {Z : Prop} (hgd : o.guard = none) (ty : TypeId) (x y : Operand) (ho : o.op = .store ty x y)
    (g : Nat) (cells : Array Value) (hx : a.eval x = .pointer (some ⟨g, 0, none⟩)) (hy : a.eval y = .agg cells) (t : TypeId) (old : Array Value) (hg : w.heap[g]? = some (.cells old t (0, 0))) (hi : (P.info? ty).map (·.size) = some cells.size)
    (hold : old.size = cells.size) (h1 : cells.all (·.oneCell') = true)
    (h : ∀ w2, w2.heap[g]? = some (.cells cells t (0, 0)) → w.grownBy w2 (some g) → K (a.put o.dst undef) w2) : if Region.wanted o (yielded ops a.tmps) = true then Oper.wp P o a w K Q else Z := by
  have hw : Region.wanted o (yielded ops a.tmps) = true := by simp [Region.wanted, hgd]
  rw [if_pos hw]
  exact wp_store_row ty x y ho g cells hx hy t old hg hi hold h1 (h _ (setRow_heap _ _ _ _ _ _ hg) ⟨rfl, rfl, rfl, by simp [World.setRow], fun k _ hk => setRow_other w g k cells (fun e => hk (by rw [e]))⟩)
/-- What a reading of a message answers. -/
def MsgPost (T : Type) (rd : List Nat → Option T) (is : Wm → T → Prop) (m : Nat) (w : World) (gr : Nat) (bs : List Nat) (e : Ending) (w' : World) : Prop :=
  ∃ (W : Wm) (ok : Bool), e = .returned (.tuple #[.agg W.cells.toArray, .bool ok]) ∧ Chg [gr] w w' ∧ W.cells.length = m ∧ W.cells.toArray.all (·.oneCell') = true ∧ ((∃ x, ok = true ∧ rd bs = some x ∧ is W x ∧ W.ok w' w.heap.size) ∨ (ok = false ∧ rd bs = none))
end Go.Proofs.Ytbcmjjcbjojakaa
end
