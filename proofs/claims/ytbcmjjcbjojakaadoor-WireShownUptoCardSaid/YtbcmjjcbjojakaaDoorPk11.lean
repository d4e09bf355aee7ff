/- Put together of: ShowP UnsP Shelf ShowA ShowB. -/
import Derived.Test.YtbcmjjcbjojakaaDoorPk1
import Derived.Lib.MapLaws
import Derived.Lib.RuneBytes
import Derived.Lib.RuneCount
import Derived.Laws.RangeAny
import Derived.Lib.ValidLaws
import Derived.Shelf.Small.Utf8
import Derived.Shelf.Utf8.AppendRune
import Derived.Shelf.Unicode.ValidAny
import Derived.Test.YtbcmjjcbjojakaaDoorProg
import Derived.Lib.OthersKept
import Derived.Lib.FrozenHead2
import Derived.Deep.RegionLaw
section
namespace Go.Proofs.YtbcmjjcbjojakaaDoor
set_option linter.unusedVariables false
def dgt (x : Nat) : Nat := if x < 10 then 48 + x else 87 + x
def hx (l : List Nat) : List Nat := l.flatMap fun b => [92, 120, dgt (b / 16), dgt (b % 16)]
def sbAt (s : ByteArray) (i n : Nat) : List Nat := ((sb s).drop i).take n
def bad (s : ByteArray) (i : Nat) : Prop := (Utf8.decode s i).1 = 65533 ∧ (Utf8.decode s i).2 = 1
instance (s : ByteArray) (i : Nat) : Decidable (bad s i) := by unfold bad; infer_instance
def plainP (v : Nat) : Prop := 32 ≤ v ∧ v ≤ 126 ∨ 160 ≤ v
instance (v : Nat) : Decidable (plainP v) := by unfold plainP; infer_instance
/-- What the letter at a place is shown as. -/
def tokD (s : ByteArray) (i : Nat) : List Nat :=
  if bad s i then hx (sbAt s i 1)
  else if (Utf8.decode s i).1 = 34 ∨ (Utf8.decode s i).1 = 92 then 92 :: sbAt s i 1
  else if plainP (Utf8.decode s i).1 then sbAt s i (Utf8.decode s i).2
  else hx (sbAt s i (Utf8.decode s i).2)
def showD (s : ByteArray) : Nat → Nat → List Nat
  | 0, _ => []
  | f + 1, pos => if pos < s.size then tokD s pos ++ showD s f (pos + (Utf8.decode s pos).2) else []
def showP (s : ByteArray) : List Nat := showD s s.size 0
theorem width_pos (s : ByteArray) (pos : Nat) (h : pos < s.size) : 1 ≤ (Utf8.decode s pos).2 := Lib.decode_width_pos s pos h
theorem width_le (s : ByteArray) (pos : Nat) (h : pos < s.size) : pos + (Utf8.decode s pos).2 ≤ s.size := by
  have hl : s.data.toList.length = s.size := by rw [Array.length_toList]; rfl
  have hne : s.data.toList.drop pos ≠ [] := by
    intro h0; have := congrArg List.length h0; rw [List.length_drop] at this; simp at this; have h2 : s.data.size = s.size := rfl; omega
  have := Lib.decodeL_le (s.data.toList.drop pos) hne
  rw [Lib.decodeL_drop, List.length_drop] at this
  omega
theorem hx_len (l : List Nat) : (hx l).length = 4 * l.length := by
  unfold hx; induction l with
  | nil => rfl
  | cons a t ih => rw [List.flatMap_cons, List.length_append, ih]; simp; omega
theorem sbAt_le (s : ByteArray) (i n : Nat) : (sbAt s i n).length ≤ n := by unfold sbAt; rw [List.length_take]; exact Nat.min_le_left _ _
theorem tokD_le (s : ByteArray) (i : Nat) (h : i < s.size) : (tokD s i).length ≤ 4 * (Utf8.decode s i).2 := by
  have h1 := width_pos s i h
  have := sbAt_le s i 1
  have := sbAt_le s i (Utf8.decode s i).2
  unfold tokD
  split
  · rw [hx_len]; omega
  · split
    · simp; omega
    · split
      · omega
      · rw [hx_len]; omega
theorem showD_le (s : ByteArray) : ∀ f pos, (showD s f pos).length ≤ 4 * (s.size - pos)
  | 0, pos => by simp [showD]
  | f + 1, pos => by
    unfold showD; split
    · rename_i h
      have := showD_le s f (pos + (Utf8.decode s pos).2)
      have := tokD_le s pos h
      have := width_le s pos h
      rw [List.length_append]; omega
    · simp
theorem showD_end (s : ByteArray) (f pos : Nat) (h : ¬ pos < s.size) : showD s f pos = [] := by
  cases f with
  | zero => rfl
  | succ f => unfold showD; rw [if_neg h]
/-- The model's decoding at a place: how the bytes there stand. -/
theorem dec_nums (s : ByteArray) (pos : Nat) (h : pos < s.size) : Utf8.decode s pos = Lib.decodeN (s.size - pos) ((sb s).getD pos 0) ((sb s).getD (pos + 1) 0) ((sb s).getD (pos + 2) 0) ((sb s).getD (pos + 3) 0) := by
  have hl : s.data.toList.length = s.size := by rw [Array.length_toList]; rfl
  have hg : ∀ k, (s.data.toList.getD k 0).toNat = (sb s).getD k 0 := fun k => by
    unfold sb; rw [List.getD_eq_getElem?_getD, List.getD_eq_getElem?_getD, List.getElem?_map]
    cases s.data.toList[k]? <;> rfl
  rw [Lib.decode_N, hl, hg, hg, hg, hg]
theorem encL_decode (s : ByteArray) (pos : Nat) (h : pos < s.size) (hb : ¬ bad s pos) : Lib.encodeRune ((Utf8.decode s pos).1 : Int) = (s.data.toList.drop pos).take (Utf8.decode s pos).2 := by
  have hl : s.data.toList.length = s.size := by rw [Array.length_toList]; rfl
  have hne : s.data.toList.drop pos ≠ [] := by
    intro h0; have := congrArg List.length h0; rw [List.length_drop] at this; simp at this; have h2 : s.data.size = s.size := rfl; omega
  have := Lib.encode_decode (s.data.toList.drop pos) hne (by rw [Lib.decodeL_drop]; exact hb)
  rwa [Lib.decodeL_drop] at this
theorem runeCells_at (s : ByteArray) (pos : Nat) (h : pos < s.size) (hb : ¬ bad s pos) : Lib.runeCells ((Utf8.decode s pos).1 : Int) = cb (sbAt s pos (Utf8.decode s pos).2) := by
  rw [← Lib.byteCells_encodeRune, encL_decode s pos h hb]
  unfold Lib.byteCells cb sbAt sb
  rw [← List.map_drop, ← List.map_take, List.map_map]
  rfl
theorem good_65533 (s : ByteArray) (pos : Nat) (h : pos < s.size) (hb : ¬ bad s pos) (h1 : (Utf8.decode s pos).1 = 65533) : (Utf8.decode s pos).2 = 3 := by
  unfold bad at hb
  have lt : ∀ k, (sb s).getD k 0 < 256 := fun k => by
    rw [List.getD_eq_getElem?_getD]
    cases e : (sb s)[k]? with
    | none => simp
    | some x => exact sb_lt s x (List.mem_of_getElem? e)
  have l0 := lt pos; have l1 := lt (pos + 1); have l2 := lt (pos + 2); have l3 := lt (pos + 3)
  rw [dec_nums s pos h] at hb h1 ⊢
  rcases Lib.decodeN_shape (s.size - pos) ((sb s).getD pos 0) ((sb s).getD (pos + 1) 0) ((sb s).getD (pos + 2) 0) ((sb s).getD (pos + 3) 0) with ⟨c, e⟩ | ⟨c1, c2, c3, cv, e⟩ | ⟨c1, c2, c3, c4, cv, cs, e⟩ | ⟨c1, c2, c3, c4, c5, cv, cw, e⟩ | e
  all_goals (rw [e] at hb h1 ⊢)
  all_goals (try (dsimp only at hb h1 ⊢))
  all_goals first | rfl | omega | exact absurd ⟨rfl, rfl⟩ hb
theorem runeLen_at (s : ByteArray) (pos : Nat) (h : pos < s.size) (hb : ¬ bad s pos) : Lib.runeLen ((Utf8.decode s pos).1 : Int) = ((Utf8.decode s pos).2 : Int) := by
  by_cases h1 : (Utf8.decode s pos).1 = 65533
  · rw [good_65533 s pos h hb h1, h1]; decide
  · have := Lib.runeLen_decode (s.data.toList.drop pos) (by rw [Lib.decodeL_drop]; exact h1)
    rwa [Lib.decodeL_drop] at this
theorem ascii_at (s : ByteArray) (pos : Nat) (h : pos < s.size) (h1 : (Utf8.decode s pos).1 < 128) : sbAt s pos 1 = [(Utf8.decode s pos).1] := by
  have hl : (sb s).length = s.size := sb_len s
  have : (Utf8.decode s pos).1 = (sb s).getD pos 0 := by
    rw [dec_nums s pos h] at h1 ⊢
    rcases Lib.decodeN_shape (s.size - pos) ((sb s).getD pos 0) ((sb s).getD (pos + 1) 0) ((sb s).getD (pos + 2) 0) ((sb s).getD (pos + 3) 0) with ⟨c, e⟩ | ⟨c1, c2, c3, cv, e⟩ | ⟨c1, c2, c3, c4, cv, cs, e⟩ | ⟨c1, c2, c3, c4, c5, cv, cw, e⟩ | e
    all_goals (rw [e] at h1 ⊢)
    all_goals (try (dsimp only at h1 ⊢))
    all_goals first | rfl | omega
  rw [this]
  unfold sbAt
  rw [List.drop_eq_getElem_cons (by omega), List.getD_eq_getElem?_getD, List.getElem?_eq_getElem (by omega)]
  rfl
/-- The bytes of the letter that stands for a wrong one, where nothing is wrong. -/
theorem enc_at (s : ByteArray) (pos : Nat) (h : pos < s.size) (h1 : (Utf8.decode s pos).1 = 65533) (h3 : pos + 3 ≤ s.size) : (s.extract pos (pos + 3) = Utf8.encode 65533) ↔ ¬ bad s pos := by
  have hl : (sb s).length = s.size := sb_len s
  have he : (Utf8.encode 65533) = ⟨#[239, 191, 189]⟩ := by decide
  have hE : (s.extract pos (pos + 3)).data.toList = (s.data.toList.drop pos).take 3 := by simp [List.take_drop]
  constructor
  · intro e hb
    have e1 : (sb s).getD pos 0 = 239 ∧ (sb s).getD (pos + 1) 0 = 191 ∧ (sb s).getD (pos + 2) 0 = 189 := by
      rw [e, he] at hE
      have hk : ∀ k, k < 3 → (sb s).getD (pos + k) 0 = ([239, 191, 189] : List Nat).getD k 0 := fun k hk => by
        have := congrArg (fun l => (l[k]?).map UInt8.toNat) hE
        simp only [List.getElem?_take, hk, if_true, List.getElem?_drop] at this
        unfold sb
        rw [List.getD_eq_getElem?_getD, List.getElem?_map, ← this]
        rcases k with _ | _ | _ | k
        · rfl
        · rfl
        · rfl
        · omega
      exact ⟨hk 0 (by omega), hk 1 (by omega), hk 2 (by omega)⟩
    unfold bad at hb
    rw [dec_nums s pos h, e1.1, e1.2.1, e1.2.2] at hb
    have : Lib.decodeN (s.size - pos) 239 191 189 ((sb s).getD (pos + 3) 0) = (65533, 3) := by
      unfold Lib.decodeN
      rw [if_neg (by omega), if_neg (by omega), if_pos ⟨by omega, ⟨by omega, by omega⟩, by omega, by omega⟩, if_pos ⟨by omega, by omega⟩]
    rw [this] at hb
    exact absurd hb.2 (by decide)
  · intro hb
    have := encL_decode s pos h hb
    rw [h1, good_65533 s pos h hb h1] at this
    rw [he]
    have e2 : (s.extract pos (pos + 3)).data.toList = [239, 191, 189] := by
      rw [hE, ← this]; decide
    have : (s.extract pos (pos + 3)).data = #[239, 191, 189] := Array.toList_inj.1 (e2 : _ = (#[239, 191, 189] : Array UInt8).toList)
    cases h4 : s.extract pos (pos + 3) with | mk d => rw [h4] at this; simp at this; rw [this]
theorem showD_fuel (s : ByteArray) : ∀ f g pos, s.size ≤ f + pos → s.size ≤ g + pos → showD s f pos = showD s g pos
  | 0, g, pos, h, _ => by rw [showD_end s 0 pos (by omega), showD_end s g pos (by omega)]
  | f + 1, 0, pos, _, h => by rw [showD_end s 0 pos (by omega), showD_end s (f + 1) pos (by omega)]
  | f + 1, g + 1, pos, h1, h2 => by
    unfold showD; split
    · rename_i h
      have := width_pos s pos h
      rw [showD_fuel s f g _ (by omega) (by omega)]
    · rfl
end Go.Proofs.YtbcmjjcbjojakaaDoor
end
section
namespace Go.Proofs.YtbcmjjcbjojakaaDoor
set_option linter.unusedVariables false
def dig (c : Nat) : Option Nat := if 48 ≤ c ∧ c ≤ 57 then some (c - 48) else if 97 ≤ c ∧ c ≤ 102 then some (c - 87) else none
/-- What stands behind a backslash: the byte, and how many letters say it. -/
def escF (r : List Nat) : Option (Nat × Nat) :=
  if r.getD 0 0 = 92 ∨ r.getD 0 0 = 34 then some (r.getD 0 0, 1)
  else if r.getD 0 0 = 120 then match dig (r.getD 1 0), dig (r.getD 2 0) with
    | some p, some q => some (16 * p + q, 3)
    | _, _ => none
  else none
def unsD (enc : Nat → List Nat) : Nat → List Nat → Option (List Nat)
  | 0, _ => some []
  | f + 1, [] => some []
  | f + 1, x :: r => if x ≠ 92 then (unsD enc f r).map (enc x ++ ·) else match escF r with
    | none => none
    | some (b, n) => (unsD enc f (r.drop n)).map (b :: ·)
theorem escF_n {r : List Nat} {b n : Nat} (h : escF r = some (b, n)) : (n = 1 ∨ n = 3) ∧ n ≤ r.length ∧ (b < 256) := by
  have nil0 : ∀ k, r.length ≤ k → r.getD k 0 = 0 := fun k hk => by rw [List.getD_eq_getElem?_getD, List.getElem?_eq_none hk]; rfl
  have hd : ∀ c q, dig c = some q → q < 16 ∧ c ≠ 0 := fun c q hq => by unfold dig at hq; split at hq <;> (try split at hq) <;> simp at hq <;> omega
  unfold escF at h
  split at h
  · rename_i h1
    injection h with h; injection h with h2 h3
    refine ⟨by omega, ?_, by omega⟩
    by_cases hl : r.length ≤ 0
    · have := nil0 0 hl; omega
    · omega
  · split at h
    · rename_i h1 h2
      cases hp : dig (r.getD 1 0) with
      | none => rw [hp] at h; cases h
      | some p => cases hq : dig (r.getD 2 0) with
        | none => rw [hp, hq] at h; cases h
        | some q =>
          rw [hp, hq] at h
          injection h with h; injection h with h3 h4
          have := hd _ _ hp; have := hd _ _ hq
          refine ⟨by omega, ?_, by omega⟩
          by_cases hl : r.length ≤ 2
          · have := nil0 2 hl; omega
          · omega
    · cases h
theorem unsD_fuel (enc : Nat → List Nat) : ∀ f g l, l.length ≤ f → l.length ≤ g → unsD enc f l = unsD enc g l
  | 0, g, l, h, _ => by
    have : l = [] := List.length_eq_zero_iff.1 (by omega)
    subst this
    cases g <;> rfl
  | f + 1, 0, l, _, h => by
    have : l = [] := List.length_eq_zero_iff.1 (by omega)
    subst this; rfl
  | f + 1, g + 1, [], _, _ => rfl
  | f + 1, g + 1, x :: r, h1, h2 => by
    simp only [List.length_cons] at h1 h2
    unfold unsD
    rw [unsD_fuel enc f g r (by omega) (by omega)]
    cases he : escF r with
    | none => rfl
    | some p =>
      obtain ⟨b, n⟩ := p
      simp only
      rw [unsD_fuel enc f g (r.drop n) (by rw [List.length_drop]; omega) (by rw [List.length_drop]; omega)]
def unsL (enc : Nat → List Nat) (l : List Nat) : Option (List Nat) := unsD enc l.length l
theorem unsL_nil (enc : Nat → List Nat) : unsL enc [] = some [] := rfl
theorem unsL_plain (enc : Nat → List Nat) (x : Nat) (r : List Nat) (hx : x ≠ 92) : unsL enc (x :: r) = (unsL enc r).map (enc x ++ ·) := by
  unfold unsL
  rw [List.length_cons]
  show (if x ≠ 92 then _ else _) = _
  rw [if_pos hx]
theorem unsL_esc (enc : Nat → List Nat) (r : List Nat) : unsL enc (92 :: r) = match escF r with
    | none => none
    | some (b, n) => (unsL enc (r.drop n)).map (b :: ·) := by
  unfold unsL
  rw [List.length_cons]
  show (if (92 : Nat) ≠ 92 then _ else _) = _
  rw [if_neg (by omega)]
  cases escF r with
  | none => rfl
  | some p =>
    obtain ⟨b, n⟩ := p
    simp only
    rw [unsD_fuel enc r.length (r.drop n).length _ (by rw [List.length_drop]; omega) (Nat.le_refl _)]
theorem dig_dgt {x : Nat} (h : x < 16) : dig (dgt x) = some x := by
  unfold dig dgt
  split
  · rw [if_pos (by omega)]; congr 1; omega
  · rw [if_neg (by omega), if_pos (by omega)]; congr 1; omega
theorem dgt_lt {x : Nat} (h : x < 16) : dgt x < 128 ∧ dgt x ≠ 92 ∧ dgt x ≠ 34 := by unfold dgt; split <;> omega
theorem uns_hx (enc : Nat → List Nat) : ∀ (l rest : List Nat), (∀ b ∈ l, b < 256) → unsL enc (hx l ++ rest) = (unsL enc rest).map (l ++ ·)
  | [], rest, _ => by simp [hx]
  | b :: l, rest, h => by
    have hb := h b (List.mem_cons_self ..)
    have e : hx (b :: l) ++ rest = 92 :: 120 :: dgt (b / 16) :: dgt (b % 16) :: (hx l ++ rest) := by simp [hx]
    have hE : escF (120 :: dgt (b / 16) :: dgt (b % 16) :: (hx l ++ rest)) = some (b, 3) := by
      unfold escF
      simp only [List.getD_cons_zero, List.getD_cons_succ]
      rw [if_neg (by omega), if_pos trivial, dig_dgt (by omega), dig_dgt (by omega)]
      simp only [Option.some.injEq, Prod.mk.injEq, and_true]
      omega
    rw [e, unsL_esc, hE]
    simp only [List.drop_succ_cons, List.drop_zero]
    rw [uns_hx enc l rest fun x hx => h x (List.mem_cons_of_mem _ hx), Option.map_map]
    rfl
theorem uns_quo (enc : Nat → List Nat) (c : Nat) (rest : List Nat) (hc : c = 34 ∨ c = 92) : unsL enc (92 :: c :: rest) = (unsL enc rest).map (c :: ·) := by
  have hE : escF (c :: rest) = some (c, 1) := by
    unfold escF
    rw [List.getD_cons_zero, if_pos (by omega)]
  rw [unsL_esc, hE]
  rfl
theorem uns_all (enc : Nat → List Nat) : ∀ (l rest : List Nat), (∀ b ∈ l, b ≠ 92) → unsL enc (l ++ rest) = (unsL enc rest).map ((l.flatMap enc) ++ ·)
  | [], rest, _ => by simp
  | b :: l, rest, h => by
    rw [List.cons_append, unsL_plain enc b _ (h b (List.mem_cons_self ..)), uns_all enc l rest fun x hx => h x (List.mem_cons_of_mem _ hx), Option.map_map]
    congr 1
    funext y
    simp [List.flatMap_cons]
/-! Letters, one behind the other. -/
def dcd (l : List Nat) : Nat × Nat := Lib.decodeN l.length (l.getD 0 0) (l.getD 1 0) (l.getD 2 0) (l.getD 3 0)
theorem decode_dcd (s : ByteArray) (pos : Nat) (h : pos < s.size) : Utf8.decode s pos = dcd ((sb s).drop pos) := by
  rw [dec_nums s pos h]
  unfold dcd
  have hg : ∀ k, ((sb s).drop pos).getD k 0 = (sb s).getD (pos + k) 0 := fun k => by rw [List.getD_eq_getElem?_getD, List.getD_eq_getElem?_getD, List.getElem?_drop]
  rw [List.length_drop, sb_len, hg, hg, hg, hg]; rfl
/-- These bytes are one letter, whatever stands behind them. -/
def Ltr (t : List Nat) (r : Nat) : Prop := t ≠ [] ∧ (∀ rest, dcd (t ++ rest) = (r, t.length)) ∧ ¬ (r = 65533 ∧ t.length = 1)
theorem ltr_ascii {b : Nat} (h : b < 128) : Ltr [b] b := by
  refine ⟨by simp, fun rest => ?_, by simp; omega⟩
  unfold dcd Lib.decodeN
  rw [List.cons_append, List.getD_cons_zero, if_pos h]; rfl
theorem ltr_of {l : List Nat} (hl : l ≠ []) (hlt : ∀ b ∈ l, b < 256) (hb : ¬ ((dcd l).1 = 65533 ∧ (dcd l).2 = 1)) : Ltr (l.take (dcd l).2) (dcd l).1 ∧ (128 ≤ (dcd l).1 → ∀ b ∈ l.take (dcd l).2, 128 ≤ b) := by
  have nil0 : ∀ k, l.length ≤ k → l.getD k 0 = 0 := fun k hk => by rw [List.getD_eq_getElem?_getD, List.getElem?_eq_none hk]; rfl
  have hlen : 0 < l.length := List.length_pos_iff.2 hl
  have two : ∀ (k : Nat), k ≤ l.length → ∀ i, i < k → ∀ rest, (l.take k ++ rest).getD i 0 = l.getD i 0 := fun k hk i hi rest => by
    rw [List.getD_eq_getElem?_getD, List.getD_eq_getElem?_getD, List.getElem?_append_left (by rw [List.length_take]; omega), List.getElem?_take, if_pos hi]
  have mem : ∀ k, k ≤ l.length → (∀ i, i < k → 128 ≤ l.getD i 0) → ∀ b ∈ l.take k, 128 ≤ b := fun k hk h b hb => by
    obtain ⟨i, hi⟩ := List.mem_iff_getElem?.1 hb
    rw [List.getElem?_take] at hi
    split at hi
    · rename_i hik
      have := h i hik
      rw [List.getD_eq_getElem?_getD, hi] at this; exact this
    · cases hi
  have lenT : ∀ k, k ≤ l.length → ∀ rest, (l.take k ++ rest).length = k + rest.length := fun k hk rest => by rw [List.length_append, List.length_take]; omega
  unfold dcd at hb ⊢
  obtain ⟨b0, e0⟩ : ∃ q, l.getD 0 0 = q := ⟨_, rfl⟩
  obtain ⟨b1, e1⟩ : ∃ q, l.getD 1 0 = q := ⟨_, rfl⟩
  obtain ⟨b2, e2⟩ : ∃ q, l.getD 2 0 = q := ⟨_, rfl⟩
  obtain ⟨b3, e3⟩ : ∃ q, l.getD 3 0 = q := ⟨_, rfl⟩
  rw [e0, e1, e2, e3] at hb ⊢
  rcases Lib.decodeN_shape l.length b0 b1 b2 b3 with ⟨c, e⟩ | ⟨c1, c2, c3, cv, e⟩ | ⟨c1, c2, c3, c4, cv, cs, e⟩ | ⟨c1, c2, c3, c4, c5, cv, cw, e⟩ | e
  · rw [e] at hb ⊢
    refine ⟨⟨by simp only [ne_eq, List.take_eq_nil_iff]; simp [hl], fun rest => ?_, by simp only [List.length_take]; omega⟩, fun h => by simp only at h; omega⟩
    unfold dcd Lib.decodeN
    rw [two 1 (by omega) 0 (by omega), e0, if_pos c, List.length_take]
    simp; omega
  · rw [e] at hb ⊢
    have hk : 2 ≤ l.length := by omega
    refine ⟨⟨by simp only [ne_eq, List.take_eq_nil_iff]; simp [hl], fun rest => ?_, by simp only [List.length_take]; omega⟩, fun _ => mem 2 hk fun i hi => ?_⟩
    · unfold dcd Lib.decodeN
      rw [two 2 hk 0 (by omega), two 2 hk 1 (by omega), e0, e1, lenT 2 hk, if_neg (by omega), if_pos ⟨c1, by omega, c3⟩, if_pos cv, List.length_take]
      simp; omega
    · have : i = 0 ∨ i = 1 := by omega
      rcases this with rfl | rfl <;> omega
  · rw [e] at hb ⊢
    have hk : 3 ≤ l.length := by omega
    refine ⟨⟨by simp only [ne_eq, List.take_eq_nil_iff]; simp [hl], fun rest => ?_, by simp only [List.length_take]; omega⟩, fun _ => mem 3 hk fun i hi => ?_⟩
    · unfold dcd Lib.decodeN
      rw [two 3 hk 0 (by omega), two 3 hk 1 (by omega), two 3 hk 2 (by omega), e0, e1, e2, lenT 3 hk, if_neg (by omega), if_neg (by omega), if_pos ⟨c1, ⟨by omega, c3⟩, by omega, c4⟩, if_pos (by omega), List.length_take]
      simp; omega
    · have : i = 0 ∨ i = 1 ∨ i = 2 := by omega
      rcases this with rfl | rfl | rfl <;> omega
  · rw [e] at hb ⊢
    have hk : 4 ≤ l.length := by omega
    refine ⟨⟨by simp only [ne_eq, List.take_eq_nil_iff]; simp [hl], fun rest => ?_, by simp only [List.length_take]; omega⟩, fun _ => mem 4 hk fun i hi => ?_⟩
    · unfold dcd Lib.decodeN
      rw [two 4 hk 0 (by omega), two 4 hk 1 (by omega), two 4 hk 2 (by omega), two 4 hk 3 (by omega), e0, e1, e2, e3, lenT 4 hk, if_neg (by omega), if_neg (by omega), if_neg (by omega), if_pos ⟨c1, ⟨by omega, c3⟩, ⟨by omega, c4⟩, by omega, c5⟩, if_pos (by omega), List.length_take]
      simp; omega
    · have : i = 0 ∨ i = 1 ∨ i = 2 ∨ i = 3 := by omega
      rcases this with rfl | rfl | rfl | rfl <;> omega
  · rw [e] at hb; exact absurd ⟨rfl, rfl⟩ hb
/-- These bytes are these letters. -/
inductive Ltrs : List Nat → List Nat → Prop
  | nil : Ltrs [] []
  | cons {t : List Nat} {r : Nat} {l rs : List Nat} : Ltr t r → Ltrs l rs → Ltrs (t ++ l) (r :: rs)
theorem Ltrs.append {l rs l' rs' : List Nat} (h : Ltrs l rs) (h' : Ltrs l' rs') : Ltrs (l ++ l') (rs ++ rs') := by
  induction h with
  | nil => exact h'
  | cons h1 _ ih => rw [List.append_assoc, List.cons_append]; exact .cons h1 ih
theorem ltrs_ascii : ∀ (l : List Nat), (∀ b ∈ l, b < 128) → Ltrs l l
  | [], _ => .nil
  | b :: l, h => Ltrs.cons (ltr_ascii (h b (List.mem_cons_self ..))) (ltrs_ascii l fun x hx => h x (List.mem_cons_of_mem _ hx))
theorem hx_ascii (l : List Nat) (h : ∀ b ∈ l, b < 256) : ∀ x ∈ hx l, x < 128 := by
  intro x hx'
  unfold hx at hx'
  obtain ⟨b, hb, hm⟩ := List.mem_flatMap.1 hx'
  have := h b hb
  have h1 := dgt_lt (x := b / 16) (by omega)
  have h2 := dgt_lt (x := b % 16) (by omega)
  simp only [List.mem_cons, List.not_mem_nil, or_false] at hm
  omega
/-- The runes of bytes. -/
def rns : Nat → List Nat → List Nat
  | 0, _ => []
  | f + 1, l => if l = [] then [] else (dcd l).1 :: rns f (l.drop (dcd l).2)
theorem rns_ltrs {l rs : List Nat} (h : Ltrs l rs) : ∀ f, l.length ≤ f → rns f l = rs := by
  induction h with
  | nil => intro f _; cases f <;> simp [rns]
  | @cons t r l rs h1 _ ih =>
    intro f hf
    have ht : 0 < t.length := List.length_pos_iff.2 h1.1
    rw [List.length_append] at hf
    cases f with
    | zero => omega
    | succ f =>
      unfold rns
      rw [if_neg (by simp [h1.1]), h1.2.1 l]
      simp only
      rw [List.drop_left, ih f (by omega)]
theorem vld_ltrs {l rs : List Nat} (h : Ltrs l rs) : ∀ (s : ByteArray) (pos : Nat), (sb s).drop pos = l → Lib.validD (s.data.toList.drop pos) = true := by
  induction h with
  | nil =>
    intro s pos hs
    have : s.data.toList.drop pos = [] := by
      have := congrArg List.length hs
      rw [List.length_drop, sb_len] at this
      apply List.eq_nil_of_length_eq_zero
      rw [List.length_drop, Array.length_toList]
      simpa using this
    rw [this]; rfl
  | @cons t r l rs h1 _ ih =>
    intro s pos hs
    have ht : 0 < t.length := List.length_pos_iff.2 h1.1
    have hln := congrArg List.length hs
    rw [List.length_drop, sb_len, List.length_append] at hln
    have hne : s.data.toList.drop pos ≠ [] := by
      intro h0
      have := congrArg List.length h0
      rw [List.length_drop, Array.length_toList] at this
      have h2 : s.data.size = s.size := rfl
      simp at this; omega
    rw [Lib.validD_step _ hne, Lib.decodeL_drop, decode_dcd s pos (by omega), hs, h1.2.1 l]
    simp only
    rw [if_neg h1.2.2, List.drop_drop]
    exact ih s (pos + t.length) (by rw [← List.drop_drop, hs, List.drop_left])
end Go.Proofs.YtbcmjjcbjojakaaDoor
end
section
namespace Go.Proofs
open Go.Shelf
def Tryd.lays196_ren : Go.Shelf.Ren := ⟨fun | 196 => 19 | 259 => 31 | n => n, fun | 9 => 9 | 4 => 4 | 3 => 3 | 5 => 5 | 12 => 12 | 119 => 69 | 0 => 0 | 46 => 67 | 139 => 72 | 138 => 71 | 53 => 32 | n => n, fun | 3 => 0 | 4 => 1 | n => n⟩
theorem Tryd.lays196 : Go.Proofs.Lays.n196 Tryd.prog Tryd.lays196_ren := {
  mixed := by kernel_rfl
  f196 := Tryd.func19.trans (congrArg some (by kernel_rfl))
  f259 := Tryd.func31.trans (congrArg some (by kernel_rfl))
  t0 := Tryd.underlying0
  a0 := Tryd.isAgg0
  z0 := Tryd.sizeOf0
  v0 := Tryd.zeroValue0
  t3 := Tryd.underlying3
  a3 := Tryd.isAgg3
  z3 := Tryd.sizeOf3
  v3 := Tryd.zeroValue3
  t4 := Tryd.underlying4
  a4 := Tryd.isAgg4
  z4 := Tryd.sizeOf4
  v4 := Tryd.zeroValue4
  t5 := Tryd.underlying5
  a5 := Tryd.isAgg5
  z5 := Tryd.sizeOf5
  v5 := Tryd.zeroValue5
  t9 := Tryd.underlying9
  a9 := Tryd.isAgg9
  z9 := Tryd.sizeOf9
  v9 := Tryd.zeroValue9
  t12 := Tryd.underlying12
  a12 := Tryd.isAgg12
  z12 := Tryd.sizeOf12
  v12 := Tryd.zeroValue12
  t46 := Tryd.underlying67
  a46 := Tryd.isAgg67
  z46 := Tryd.sizeOf67
  v46 := Tryd.zeroValue67
  t53 := Tryd.underlying32
  a53 := Tryd.isAgg32
  z53 := Tryd.sizeOf32
  v53 := Tryd.zeroValue32
  t119 := Tryd.underlying69
  a119 := Tryd.isAgg69
  z119 := Tryd.sizeOf69
  t138 := Tryd.underlying71
  a138 := Tryd.isAgg71
  z138 := Tryd.sizeOf71
  v138 := Tryd.zeroValue71
  t139 := Tryd.underlying72
  a139 := Tryd.isAgg72
  z139 := Tryd.sizeOf72
  v139 := Tryd.zeroValue72
  g3 := by kernel_rfl
  g4 := by kernel_rfl }
open Go.RowKit in
theorem Tryd.utf8_ValidString (s : ByteArray) (w : World) (hs : s.size ≤ 9223372036854775807) (hT : Lib.Utf8Tabs (Tryd.lays196_ren.g 3) (Tryd.lays196_ren.g 4) w) :
    Calls Tryd.prog 19 #[.string s] w fun e w' => e = .returned (.bool (Lib.validD s.data.toList)) ∧ Below w.heap.size w w' := Any.utf8_ValidString Tryd.lays196 s w hs hT
def Tryd.lays118_ren : Go.Shelf.Ren := ⟨fun | 118 => 15 | n => n, fun | 21 => 21 | 3 => 3 | 4 => 4 | n => n, fun | n => n⟩
theorem Tryd.lays118 : Go.Proofs.Lays.n118 Tryd.prog Tryd.lays118_ren := {
  mixed := by kernel_rfl
  f118 := Tryd.func15.trans (congrArg some (by kernel_rfl))
  t3 := Tryd.underlying3
  a3 := Tryd.isAgg3
  z3 := Tryd.sizeOf3
  v3 := Tryd.zeroValue3
  t4 := Tryd.underlying4
  a4 := Tryd.isAgg4
  z4 := Tryd.sizeOf4
  v4 := Tryd.zeroValue4
  t21 := Tryd.underlying21
  a21 := Tryd.isAgg21
  z21 := Tryd.sizeOf21
  v21 := Tryd.zeroValue21 }
/-- utf8.RuneLen: "RuneLen returns the number of bytes in the UTF-8 encoding of the rune. It returns -1 if the rune is not a valid value to encode in UTF-8.": IT RETURNS 'Lib.runeLen r'; the world is as it was. (LAID: no walk: one application.) -/
theorem Tryd.utf8_RuneLen (r : Int) (w : World) :
    Calls Tryd.prog 15 #[.int .i32 r] w fun e w' => e = .returned (.int .i64 (Lib.runeLen r)) ∧ w' = w := Any.utf8_RuneLen Tryd.lays118 r w
def Tryd.lays278_ren : Go.Shelf.Ren := ⟨fun | 278 => 30 | n => n, fun | 37 => 28 | 21 => 21 | 51 => 57 | 4 => 4 | 46 => 67 | 5 => 5 | n => n, fun | n => n⟩
theorem Tryd.lays278 : Go.Proofs.Lays.n278 Tryd.prog Tryd.lays278_ren := {
  mixed := by kernel_rfl
  f278 := Tryd.func30.trans (congrArg some (by kernel_rfl))
  t4 := Tryd.underlying4
  a4 := Tryd.isAgg4
  z4 := Tryd.sizeOf4
  v4 := Tryd.zeroValue4
  t5 := Tryd.underlying5
  a5 := Tryd.isAgg5
  z5 := Tryd.sizeOf5
  v5 := Tryd.zeroValue5
  t21 := Tryd.underlying21
  a21 := Tryd.isAgg21
  z21 := Tryd.sizeOf21
  v21 := Tryd.zeroValue21
  t37 := Tryd.underlying28
  a37 := Tryd.isAgg28
  z37 := Tryd.sizeOf28
  v37 := Tryd.zeroValue28
  t46 := Tryd.underlying67
  a46 := Tryd.isAgg67
  z46 := Tryd.sizeOf67
  v46 := Tryd.zeroValue67
  t51 := Tryd.underlying57
  a51 := Tryd.isAgg57
  z51 := Tryd.sizeOf57
  v51 := Tryd.zeroValue57 }
open Go.RowKit in
/-- unicode/utf8.appendRuneNonASCII (what AppendRune calls for all but ASCII), ONTO A ROW OF BYTES THAT THE CALL OWNS: every int32 that is no ASCII rune: 'Lib.runeCells r' goes in behind what the row holds. (LAID: no walk: one application.) -/
theorem Tryd.utf8_appendRuneNonASCII_row (B : Nat) (v : Value) (n : Nat) (xs : List Value) (r : Int) (hr0 : -2147483648 ≤ r) (hr1 : r ≤ 2147483647) (hna : r < 0 ∨ 128 ≤ r) (w : World) (hown : w.ownsRowF B 5 1 v n xs) (hlen : n + 4 ≤ 140737488355328) (hBw : B ≤ w.heap.size) :
    Calls Tryd.prog 30 #[v, .int .i32 r] w fun e w' => ∃ v', e = .returned v' ∧ w'.ownsRowF B 5 1 v' (n + (Lib.runeCells r).length) (xs ++ Lib.runeCells r) ∧ ∃ o, (w.alloc o).grownBy w' v.ownBlock := Any.utf8_appendRuneNonASCII_row Tryd.lays278 (by kernel_rfl) B v n xs r hr0 hr1 hna w hown hlen hBw
def Tryd.lays242_ren : Go.Shelf.Ren := ⟨fun | 242 => 18 | 278 => 30 | n => n, fun | 37 => 28 | 21 => 21 | 51 => 57 | 4 => 4 | 5 => 5 | 46 => 67 | n => n, fun | n => n⟩
theorem Tryd.lays242 : Go.Proofs.Lays.n242 Tryd.prog Tryd.lays242_ren := {
  mixed := by kernel_rfl
  f242 := Tryd.func18.trans (congrArg some (by kernel_rfl))
  f278 := Tryd.func30.trans (congrArg some (by kernel_rfl))
  t4 := Tryd.underlying4
  a4 := Tryd.isAgg4
  z4 := Tryd.sizeOf4
  v4 := Tryd.zeroValue4
  t5 := Tryd.underlying5
  a5 := Tryd.isAgg5
  z5 := Tryd.sizeOf5
  v5 := Tryd.zeroValue5
  t21 := Tryd.underlying21
  a21 := Tryd.isAgg21
  z21 := Tryd.sizeOf21
  v21 := Tryd.zeroValue21
  t37 := Tryd.underlying28
  a37 := Tryd.isAgg28
  z37 := Tryd.sizeOf28
  v37 := Tryd.zeroValue28
  t46 := Tryd.underlying67
  a46 := Tryd.isAgg67
  z46 := Tryd.sizeOf67
  v46 := Tryd.zeroValue67
  t51 := Tryd.underlying57
  a51 := Tryd.isAgg57
  z51 := Tryd.sizeOf57
  v51 := Tryd.zeroValue57 }
open Go.RowKit in
/-- unicode/utf8.AppendRune: "AppendRune appends the UTF-8 encoding of r to the end of p and returns the extended buffer. If the rune is out of range, it appends the encoding of RuneError.": ONTO A ROW OF BYTES THAT THE CALL OWNS (its head frozen or not): EVERY int32: 'Lib.runeCells r' goes in behind what the row holds; the world: one new block (the bytes as the call's variadic argument), then what 'append' does to the row. (LAID: no walk: one application.) -/
theorem Tryd.utf8_AppendRune_row (B : Nat) (v : Value) (n : Nat) (xs : List Value) (r : Int) (hr0 : -2147483648 ≤ r) (hr1 : r ≤ 2147483647) (w : World) (hown : w.ownsRowF B 5 1 v n xs) (hlen : n + 4 ≤ 140737488355328) (hBw : B ≤ w.heap.size) :
    Calls Tryd.prog 18 #[v, .int .i32 r] w fun e w' => ∃ v', e = .returned v' ∧ w'.ownsRowF B 5 1 v' (n + (Lib.runeCells r).length) (xs ++ Lib.runeCells r) ∧ ∃ o, (w.alloc o).grownBy w' v.ownBlock := Any.utf8_AppendRune_row Tryd.lays242 (by kernel_rfl) B v n xs r hr0 hr1 w hown hlen hBw
end Go.Proofs
end
section
namespace Go.Proofs.YtbcmjjcbjojakaaDoor
open Go.RowKit
set_option linter.unusedVariables false
theorem wpList_appF {P : Program} {ops : Array Oper} {rest : List Oper} {o : Oper} {a : Act} {w : World} {Q : Exit → Act → World → Prop} {t e bytes : Nat} {z : Value} (E : El P t e bytes z) (hgd : o.guard = none) (s x : Operand)
    (ho : o.op = .call { callee := .builtin .append, args := #[s, x], argTypes := #[t, t] })
    (base : Nat) (v : Value) (n : Nat) (xs : List Value) (hs : a.eval s = v) (hown : w.ownsRowF base e 1 v n xs)
    (ad : Addr) (m c : Nat) (news : List Value) (hx : a.eval x = .slice (some ad) m c) (hl : news.length = m) (hnews : ∀ j u, news[j]? = some u → w.cell? (ad.add j) = some u) (h1 : ∀ u ∈ news, u.oneCell' = true)
    (h63 : n + m ≤ maxLen) (hbytes : (n + m) * bytes ≤ 140737488355328) (hbase : base ≤ w.heap.size)
    (h : ∀ v' w', w'.ownsRowF base e 1 v' (n + m) (xs ++ news) → w.grownBy w' v.ownBlock → wpList P ops Q rest (a.put o.dst v') w') : wpList P ops Q (o :: rest) a w := by
  obtain ⟨i, hi, hz, hs1, hb⟩ := E.hi
  exact wpList_append_ownF w hgd s x t ho base e i z 1 bytes E.ht hi hz hs1 hb E.hz (by decide) v n xs hs hown ad m c news hx (by omega) hnews h1 h63 hbytes hbase fun v' w' a b _ => h v' w' a b
theorem step_appF {P : Program} {ops : Array Oper} {o : Oper} {a : Act} {w : World} {K : Act → World → Prop} {Q : Exit → Act → World → Prop} {Z : Prop} {t e bytes : Nat} {z : Value} (E : El P t e bytes z) (hgd : o.guard = none) (s x : Operand)
    (ho : o.op = .call { callee := .builtin .append, args := #[s, x], argTypes := #[t, t] })
    (base : Nat) (v : Value) (n : Nat) (xs : List Value) (hs : a.eval s = v) (hown : w.ownsRowF base e 1 v n xs)
    (ad : Addr) (m c : Nat) (news : List Value) (hx : a.eval x = .slice (some ad) m c) (hl : news.length = m) (hnews : ∀ j u, news[j]? = some u → w.cell? (ad.add j) = some u) (h1 : ∀ u ∈ news, u.oneCell' = true)
    (h63 : n + m ≤ maxLen) (hbytes : (n + m) * bytes ≤ 140737488355328) (hbase : base ≤ w.heap.size)
    (h : ∀ v' w', w'.ownsRowF base e 1 v' (n + m) (xs ++ news) → w.grownBy w' v.ownBlock → K (a.put o.dst v') w') :
    if Region.wanted o (yielded ops a.tmps) = true then Oper.wp P o a w K Q else Z := by
  obtain ⟨i, hi, hz, hs1, hb⟩ := E.hi
  have hw : Region.wanted o (yielded ops a.tmps) = true := by simp [Region.wanted, hgd]
  rw [if_pos hw]
  obtain ⟨v', w', hr, h2, h3, h4⟩ := run_append_ownF (P := P) w base t o.type e i z 1 bytes E.ht hi hz hs1 hb E.hz (by decide) v n xs hown ad m c news (by omega) hnews h1 h63 hbytes hbase
  unfold Oper.wp
  simp [execOp, ho, resolve, invoke, builtin, hs, hx, hr, Result.andThen]
  exact h v' w' h2 h3
theorem alloc_news (w : World) (cs : List Value) (e : Nat) : ∀ j u, cs[j]? = some u → (w.alloc (.cells cs.toArray e)).cell? ((⟨w.heap.size, 0, none⟩ : Addr).add j) = some u := by
  intro j u h
  have := cell_of_row (w.alloc (.cells cs.toArray e)) w.heap.size j cs.toArray e (0, 0) (heap_alloc_new _ _)
  rw [show ((⟨w.heap.size, 0, none⟩ : Addr).add j) = ⟨w.heap.size, j, none⟩ by cases j <;> simp [Addr.add], this]
  simpa using h
theorem grow_kept {w wr w2 : World} {base e n : Nat} {v : Value} {xs : List Value} (hown : wr.ownsRowF base e 1 v n xs) (bel : Below base w wr) (ok : Lib.OthersKept e none w wr) (o : Obj) (hb : base ≤ w.heap.size) (hg : (wr.alloc o).grownBy w2 v.ownBlock) : Below base w w2 ∧ Lib.OthersKept e none w w2 := by
  have hs : base ≤ wr.heap.size := Nat.le_trans hb bel.size
  refine ⟨(bel.alloc hs o).grown hg (by simp; omega) (fun g h => (hown.lt g h).1), (ok.alloc o).grown hg (fun g h => Lib.ownsRowF_kind (hown.alloc o) g h)⟩
theorem digs (k : Nat) (h : k < 16) : ∃ hk : k < (⟨#[48, 49, 50, 51, 52, 53, 54, 55, 56, 57, 97, 98, 99, 100, 101, 102]⟩ : ByteArray).size, ((⟨#[48, 49, 50, 51, 52, 53, 54, 55, 56, 57, 97, 98, 99, 100, 101, 102]⟩ : ByteArray)[k]'hk).toNat = dgt k := by
  have : ∀ k : Fin 16, ((⟨#[48, 49, 50, 51, 52, 53, 54, 55, 56, 57, 97, 98, 99, 100, 101, 102]⟩ : ByteArray)[k.1]'(k.2)).toNat = dgt k.1 := by decide
  exact ⟨h, this ⟨k, h⟩⟩
theorem dig_run (z : Int) (k : Nat) (h : z = (k : Int)) (hk : k < 16) (w : World) : (Instr.index 9 (.string ⟨#[48, 49, 50, 51, 52, 53, 54, 55, 56, 57, 97, 98, 99, 100, 101, 102]⟩) (.int .u8 z)).run Tryd.prog w = .ok (.int .u8 ((dgt k : Nat) : Int)) w := by
  subst h
  obtain ⟨h1, h2⟩ := digs k hk
  rw [run_index_string w 9 _ _ _ infoStr, dif_pos ⟨by omega, by omega⟩]
  simp only [Int.toNat_natCast, h2]
set_option maxRecDepth 100000 in
theorem and15 (x : Nat) (h : x < 256) : bits BinOp.and IntKind.u8 (x : Int) 15 = ((x % 16 : Nat) : Int) := by
  have : ∀ k : Fin 256, bits BinOp.and IntKind.u8 (k.1 : Int) 15 = ((k.1 % 16 : Nat) : Int) := by decide +kernel
  exact this ⟨x, h⟩
theorem sb_get (s : ByteArray) (k : Nat) (h : k < s.size) : (sb s)[k]? = some (s[k]'h).toNat := by
  unfold sb; rw [List.getElem?_map, List.getElem?_eq_getElem (by rw [Array.length_toList]; exact h)]; rfl
theorem hx_take (l : List Nat) (k x : Nat) (h : l[k]? = some x) : hx (l.take (k + 1)) = hx (l.take k) ++ [92, 120, dgt (x / 16), dgt (x % 16)] := by
  unfold hx; rw [List.take_add_one, h, List.flatMap_append]; rfl
theorem plain_any (w : World) (r : Nat) (h : r ≤ 1114111) : Calls Tryd.prog 17 #[.int .i32 r] w fun e w' => e = .returned (.bool (decide (plainP r))) ∧ w' = w := by
  have HJ : Hd (∀ b, (b = true ↔ plainP r) → Ending.returned (.bool b) = .returned (.bool (decide (plainP r)))) := ⟨fun b hb => by rw [show b = decide (plainP r) from Bool.eq_iff_iff.2 (by simpa using hb)]⟩
  go_enter Tryd.func17, Tryd.ntmps17
  by_cases h1 : 32 ≤ r
  · go_wp2_with fail
    all_goals (go_ret; exact ⟨HJ.out _ (by unfold plainP; simp; omega), rfl⟩)
  · go_wp2_with fail
    all_goals (go_ret; exact ⟨HJ.out _ (by unfold plainP; simp; omega), rfl⟩)
set_option maxRecDepth 100000 in
set_option maxHeartbeats 1000000 in
theorem hex_any (w : World) (base : Nat) (v : Value) (n : Nat) (xs : List Value) (s : ByteArray) (hown : w.ownsRowF base 5 1 v n xs) (hb : base ≤ w.heap.size) (hlen : n + 4 * s.size ≤ 140737488355328) :
    Calls Tryd.prog 16 #[v, .string s] w fun e w' => ∃ v', e = .returned v' ∧ w'.ownsRowF base 5 1 v' (n + 4 * s.size) (xs ++ cb (hx (sb s))) ∧ Below base w w' ∧ Lib.OthersKept 5 none w w' := by
  have hl := sb_len s
  have HO : Hd (w.ownsRowF base 5 1 v n xs) := ⟨hown⟩
  clear hown
  go_enter Tryd.func16, Tryd.ntmps16
  go_wp2_with fail
  go_loopw [0, 5] (fun a i wr => ∃ k : Nat, k ≤ s.size ∧ i = .int .i64 k ∧ wr.ownsRowF base 5 1 a (n + 4 * k) (xs ++ cb (hx ((sb s).take k))) ∧ Below base w wr ∧ Lib.OthersKept 5 none w wr) (fun _ i _ => s.size - (intOf i).toNat)
  case atStart => exact ⟨0, by omega, rfl, by simpa [hx, cb] using HO.out, Below.refl _ _, .refl _ _ _⟩
  case round =>
    obtain ⟨k, hk, rfl, ho, bel, ok⟩ := hrel
    have H1 : Hd (wr.ownsRowF base 5 1 u0 (n + 4 * k) (xs ++ cb (hx ((sb s).take k))) ∧ Below base w wr ∧ Lib.OthersKept 5 none w wr) := ⟨ho, bel, ok⟩
    clear ho bel ok
    by_cases hlt : k < s.size
    · have hkk : ((k : Int)).toNat = k := by omega
      obtain ⟨x, hx1⟩ : ∃ x, (s[k]'hlt).toNat = x := ⟨_, rfl⟩
      have hx2 : x < 256 := by rw [← hx1]; exact (s[k]'hlt).toNat_lt
      have d1 := dig_run ((x : Int) / 16) (x / 16) (by omega) (by omega)
      have d2 := dig_run (bits BinOp.and IntKind.u8 (x : Int) 15) (x % 16) (and15 x hx2) (by omega)
      go_wp2_with fail
      have h63 : Hd (n + 4 * k + 4 ≤ maxLen) := ⟨by unfold maxLen; omega⟩
      have hby : Hd ((n + 4 * k + 4) * 1 ≤ 140737488355328) := ⟨by omega⟩
      have HE : Hd (∀ v2 w2, w2.ownsRowF base 5 1 v2 (n + 4 * k + 4) (xs ++ cb (hx ((sb s).take k)) ++ [.int .u8 92, .int .u8 120, .int .u8 ((dgt (x / 16) : Nat) : Int), .int .u8 ((dgt (x % 16) : Nat) : Int)]) →
          (wr.drew.alloc (.cells #[.int .u8 92, .int .u8 120, .int .u8 ((dgt (x / 16) : Nat) : Int), .int .u8 ((dgt (x % 16) : Nat) : Int)] 5)).grownBy w2 u0.ownBlock →
          ∃ k1 : Nat, k1 ≤ s.size ∧ Value.int .i64 ((k : Int) + 1) = .int .i64 k1 ∧ w2.ownsRowF base 5 1 v2 (n + 4 * k1) (xs ++ cb (hx ((sb s).take k1))) ∧ Below base w w2 ∧ Lib.OthersKept 5 none w w2) := ⟨fun v2 w2 ho hg => by
        obtain ⟨g1, g2⟩ := grow_kept (wr := wr.drew) H1.out.1 H1.out.2.1.drew H1.out.2.2.drew _ hb hg
        refine ⟨k + 1, by omega, by go_num, ?_, g1, g2⟩
        rw [hx_take _ k x ((sb_get s k hlt).trans (by rw [hx1])), cb_append, ← List.append_assoc]
        exact ho⟩
      go_region_law (refine step_appF elB rfl (.tmp 12) (.tmp 23) rfl base u0 _ _ rfl (H1.out.1.alloc (.cells #[.int .u8 92, .int .u8 120, .int .u8 ((dgt (x / 16) : Nat) : Int), .int .u8 ((dgt (x % 16) : Nat) : Int)] 5)) ⟨wr.heap.size, 0, none⟩ 4 4 [.int .u8 92, .int .u8 120, .int .u8 ((dgt (x / 16) : Nat) : Int), .int .u8 ((dgt (x % 16) : Nat) : Int)] rfl rfl (alloc_news _ _ _) (by intro u hu; simp only [List.mem_cons, List.not_mem_nil, or_false] at hu; rcases hu with rfl | rfl | rfl | rfl <;> rfl) h63.out hby.out (by have := H1.out.2.1.size; simp; omega) ?_; intro v2 w2 hO2 hG2)
      all_goals (go_wp2_with fail; go_roundw)
      all_goals first
        | exact HE.out _ _ hO2 hG2
        | (simp [intOf]; omega)
    · have hk8 : k = s.size := by omega
      subst hk8
      have HT : Hd (wr.ownsRowF base 5 1 u0 (n + 4 * s.size) (xs ++ cb (hx (sb s)))) := ⟨by have := H1.out.1; rwa [List.take_of_length_le (by omega)] at this⟩
      go_wp2_with fail
      go_ret
      exact ⟨u0, rfl, HT.out, H1.out.2⟩
end Go.Proofs.YtbcmjjcbjojakaaDoor
end
section
namespace Go.Proofs.YtbcmjjcbjojakaaDoor
open Go.RowKit
set_option linter.unusedVariables false
theorem sb_extract (s : ByteArray) (i j : Nat) : sb (s.extract i j) = sbAt s i (j - i) := by
  unfold sbAt sb
  have h : (s.extract i j).data.toList = (s.data.toList.drop i).take (j - i) := by
    rw [ByteArray.data_extract, Array.toList_extract]
  rw [h, List.map_take, List.map_drop]
theorem str_beq (a b : ByteArray) : (a.toList == b.toList) = decide (a = b) := by
  rw [Bool.eq_iff_iff]
  simp only [beq_iff_eq, decide_eq_true_eq]
  constructor
  · intro h
    rw [ByteArray.toList_eq, ByteArray.toList_eq] at h
    exact ByteArray.ext (Array.toList_inj.1 h)
  · intro h; rw [h]
theorem iter_ownF {w : World} {base e n k : Nat} {v : Value} {xs : List Value} {s : ByteArray} {p q : Nat} (h : w.ownsRowF base e 1 v n xs) (hk : w.heap[k]? = some (.stringIter s p)) : (w.iterAt k s q).ownsRowF base e 1 v n xs := by
  refine ⟨h.1, ?_⟩
  rcases h.2 with h2 | ⟨g, cap, cur, fz, hv, hb, hg, rest⟩
  · exact .inl h2
  · refine .inr ⟨g, cap, cur, fz, hv, hb, ?_, rest⟩
    rw [Lib.iterAt_other w k g s q (fun e => by subst e; rw [hk] at hg; cases hg)]
    exact hg
theorem size_extract (s : ByteArray) (i k : Nat) (h : i + k ≤ s.size) : (s.extract i (i + k)).size = k := by
  rw [ByteArray.size_extract]; omega
theorem showD_step (s : ByteArray) (pos : Nat) (h : pos < s.size) : showD s s.size pos = tokD s pos ++ showD s s.size (pos + (Utf8.decode s pos).2) := by
  have := width_pos s pos h
  obtain ⟨f, hf⟩ : ∃ f, s.size = f + 1 := ⟨s.size - 1, by omega⟩
  conv => lhs; rw [hf]; unfold showD; rw [if_pos h]
  rw [showD_fuel s f s.size _ (by omega) (by omega)]
theorem ownF_rd {w : World} {base e n : Nat} {v : Value} {xs : List Value} (h : w.ownsRowF base e 1 v n xs) : ∃ A c, v = .slice A n c ∧ Rd w w.heap.size A n xs := by
  rcases h.2 with ⟨hv, h0⟩ | ⟨g, cap, cur, fz, hv, hb, hg, hf, hnc, hm, hcs, htake⟩
  · subst h0
    have hx : xs = [] := List.eq_nil_of_length_eq_zero (by have := h.1; omega)
    exact ⟨none, 0, hv, by rw [hx]; exact Rd.nil⟩
  · refine ⟨_, cap, hv, by have := h.1; omega, fun hn => ⟨g, 0, rfl, (Array.getElem?_eq_some_iff.1 hg).1, fun i hi => ?_⟩⟩
    rw [cell_of_row w g (0 + i) cur e fz hg, ← htake, List.getElem?_take, if_pos (by omega)]
    simp
/-- The ways of a round. -/
theorem tok_ways (s : ByteArray) (pos : Nat) (h : pos < s.size) : ∃ R N : Nat, (Utf8.decode s pos).1 = R ∧ (Utf8.decode s pos).2 = N ∧ 1 ≤ N ∧ pos + N ≤ s.size ∧ R ≤ 1114111 ∧
    ((R = 65533 ∧ N = 1 ∧ Lib.runeLen (R : Int) = 3 ∧ tokD s pos = hx (sbAt s pos 1) ∧ (pos + 3 ≤ s.size → ¬ s.extract pos (pos + 3) = Utf8.encode 65533)) ∨
     (Lib.runeLen (R : Int) = (N : Int) ∧ (R = 65533 → N = 3 ∧ s.extract pos (pos + 3) = Utf8.encode 65533) ∧
       (((R = 34 ∨ R = 92) ∧ tokD s pos = [92, R]) ∨ (R ≠ 34 ∧ R ≠ 92 ∧ plainP R ∧ tokD s pos = sbAt s pos N ∧ Lib.runeCells (R : Int) = cb (sbAt s pos N)) ∨ (R ≠ 34 ∧ R ≠ 92 ∧ ¬ plainP R ∧ tokD s pos = hx (sbAt s pos N))))) := by
  have hle := width_le s pos h
  have hmax : (Utf8.decode s pos).1 ≤ 1114111 := by
    have lt : (sb s).getD pos 0 < 256 := by
      rw [List.getD_eq_getElem?_getD]
      cases e : (sb s)[pos]? with
      | none => simp
      | some x => exact sb_lt s x (List.mem_of_getElem? e)
    rw [dec_nums s pos h]; exact Lib.decodeN_rune_le _ _ _ _ _ lt
  refine ⟨_, _, rfl, rfl, width_pos s pos h, hle, hmax, ?_⟩
  by_cases hb : bad s pos
  · left
    have hb' := hb
    unfold bad at hb'
    refine ⟨hb'.1, hb'.2, by rw [hb'.1]; decide, by unfold tokD; rw [if_pos hb], fun h3 e => (enc_at s pos h hb'.1 h3).1 e hb⟩
  · right
    refine ⟨runeLen_at s pos h hb, fun h1 => ?_, ?_⟩
    · have h3 := good_65533 s pos h hb h1
      exact ⟨h3, (enc_at s pos h h1 (by omega)).2 hb⟩
    · by_cases hq : (Utf8.decode s pos).1 = 34 ∨ (Utf8.decode s pos).1 = 92
      · left
        refine ⟨hq, ?_⟩
        unfold tokD
        rw [if_neg hb, if_pos hq, ascii_at s pos h (by omega)]
      · right
        by_cases hp : plainP (Utf8.decode s pos).1
        · left; exact ⟨fun e => hq (.inl e), fun e => hq (.inr e), hp, by unfold tokD; rw [if_neg hb, if_neg hq, if_pos hp], runeCells_at s pos h hb⟩
        · right; exact ⟨fun e => hq (.inl e), fun e => hq (.inr e), hp, by unfold tokD; rw [if_neg hb, if_neg hq, if_neg hp]⟩
set_option maxHeartbeats 4000000 in
set_option maxRecDepth 1000000 in
theorem show_any (w : World) (s : ByteArray) (hs : s.size ≤ 35184372088832) :
    Calls Tryd.prog 6 #[.string s] w fun e w' => e = .returned (.string (bstr (showP s))) ∧ Below w.heap.size w w' := by
  go_enter Tryd.func6, Tryd.ntmps6
  go_wp2_with fail
  go_loopw [3] (fun a wr => ∃ (pos : Nat) (acc : List Nat), wr.ownsRowF w.heap.size 5 1 a acc.length (cb acc) ∧ wr.heap[w.heap.size]? = some (.stringIter s pos) ∧ Below w.heap.size w wr ∧ pos ≤ s.size ∧ acc.length ≤ 4 * pos ∧ acc ++ showD s s.size pos = showP s) (fun _ wr => s.size - wr.iterPos w.heap.size)
  case atStart => exact ⟨0, [], World.ownsRowF_nil _ _ _ _, World.iter_heap w s 0, (Below.refl _ _).alloc (Nat.le_refl _) _, by omega, by simp, rfl⟩
  case round =>
    obtain ⟨pos, acc, ho, hit, bel, hp1, hac, hsh⟩ := hrel
    by_cases hp : pos < s.size
    · obtain ⟨R, N, hR, hN, n1, n2, r1, HW⟩ := tok_ways s pos hp
      have hnx : ∀ ty, (Instr.next (.pointer (some ⟨w.heap.size, 0, none⟩)) true ty).run Tryd.prog wr = _ := fun ty => Lib.run_next_any_at wr w.heap.size s pos ty hit hp
      rw [hR, hN] at hnx
      have hst := showD_step s pos hp
      rw [hN] at hst
      obtain ⟨W1, hW1⟩ : ∃ W1, wr.iterAt w.heap.size s (pos + N) = W1 := ⟨_, rfl⟩
      have HM : Hd (wr.iterPos w.heap.size = pos) := ⟨by unfold World.iterPos; rw [hit]⟩
      have HB : Hd (w.heap.size ≤ W1.heap.size) := ⟨by rw [← hW1, Lib.iterAt_size]; exact bel.size⟩
      have H1 : Hd (W1.ownsRowF w.heap.size 5 1 u3 acc.length (cb acc) ∧ W1.heap[w.heap.size]? = some (.stringIter s (pos + N)) ∧ Below w.heap.size w W1) := by
        rw [← hW1]
        exact ⟨iter_ownF ho hit, Lib.iterAt_heap wr w.heap.size s pos (pos + N) hit, Lib.below_iterAt bel (k := w.heap.size) (Nat.le_refl _) s (pos + N)⟩
      rw [hW1] at hnx
      clear hW1
      have HE : Hd (∀ v2 w2 (tok : List Nat), tokD s pos = tok → tok.length ≤ 4 * N → w2.ownsRowF w.heap.size 5 1 v2 (acc.length + tok.length) (cb acc ++ cb tok) → Below w.heap.size W1 w2 → Lib.OthersKept 5 none W1 w2 →
          (∃ (pos : Nat) (acc : List Nat), w2.ownsRowF w.heap.size 5 1 v2 acc.length (cb acc) ∧ w2.heap[w.heap.size]? = some (.stringIter s pos) ∧ Below w.heap.size w w2 ∧ pos ≤ s.size ∧ acc.length ≤ 4 * pos ∧ acc ++ showD s s.size pos = showP s) ∧ s.size - w2.iterPos w.heap.size < s.size - wr.iterPos w.heap.size) := ⟨fun v2 w2 tok ht hl ho2 hb2 hk2 => by
        have hi2 : w2.heap[w.heap.size]? = some (.stringIter s (pos + N)) := hk2 _ _ H1.out.2.1 (by simp) (fun _ _ e => by cases e)
        refine ⟨⟨pos + N, acc ++ tok, by rw [List.length_append, cb_append]; exact ho2, hi2, H1.out.2.2.trans hb2, n2, by rw [List.length_append]; omega, by rw [← hsh, hst, ht, List.append_assoc]⟩, ?_⟩
        rw [HM.out]; unfold World.iterPos; rw [hi2]; show s.size - (pos + N) < s.size - pos; omega⟩
      clear ho hit bel hst hR hN HM
      have hsh' := Hd.mk hsh
      clear hsh
      have hkk : ((pos : Int)).toNat = pos := by omega
      have hk1 : ((pos : Int) + 1).toNat = pos + 1 := by omega
      have hkN : ((pos : Int) + (N : Int)).toNat = pos + N := by omega
      have hk3 : ((pos : Int) + 3).toNat = pos + 3 := by omega
      have hz1 := size_extract s pos 1 (by omega)
      have hzN := size_extract s pos N (by omega)
      have he1 : sb (s.extract pos (pos + 1)) = sbAt s pos 1 := by rw [sb_extract]; congr 1; omega
      have heN : sb (s.extract pos (pos + N)) = sbAt s pos N := by rw [sb_extract]; congr 1; omega
      have hlN : (sbAt s pos N).length = N := by rw [← heN, sb_len, hzN]
      have HX1 : Hd (∀ W, W = W1 → Calls Tryd.prog 16 #[u3, .string (s.extract pos (pos + 1))] W fun e w' => ∃ v', e = .returned v' ∧ Hd (w'.ownsRowF w.heap.size 5 1 v' (acc.length + (hx (sbAt s pos 1)).length) (cb acc ++ cb (hx (sbAt s pos 1))) ∧ Below w.heap.size W1 w' ∧ Lib.OthersKept 5 none W1 w')) := ⟨fun W hW => by
        subst hW
        exact (hex_any W w.heap.size u3 acc.length (cb acc) _ H1.out.1 HB.out (by rw [hz1]; omega)).mono fun e w' ⟨v', h1, h2, h3, h4⟩ => ⟨v', h1, by rw [he1, hz1] at h2; rw [hx_len, ← he1, sb_len, hz1, he1]; exact h2, h3, h4⟩⟩
      have HXN : Hd (∀ W, W = W1 → Calls Tryd.prog 16 #[u3, .string (s.extract pos (pos + N))] W fun e w' => ∃ v', e = .returned v' ∧ Hd (w'.ownsRowF w.heap.size 5 1 v' (acc.length + (hx (sbAt s pos N)).length) (cb acc ++ cb (hx (sbAt s pos N))) ∧ Below w.heap.size W1 w' ∧ Lib.OthersKept 5 none W1 w')) := ⟨fun W hW => by
        subst hW
        exact (hex_any W w.heap.size u3 acc.length (cb acc) _ H1.out.1 HB.out (by rw [hzN]; omega)).mono fun e w' ⟨v', h1, h2, h3, h4⟩ => ⟨v', h1, by rw [heN, hzN] at h2; rw [hx_len, hlN]; exact h2, h3, h4⟩⟩
      obtain ⟨RI, hRI⟩ : ∃ RI : Int, (R : Int) = RI := ⟨_, rfl⟩
      rw [hRI] at hnx HW
      have HPL : Hd (∀ W, Calls Tryd.prog 17 #[.int .i32 RI] W fun e w' => e = .returned (.bool (decide (plainP R))) ∧ w' = W) := ⟨fun W => by rw [← hRI]; exact plain_any W R r1⟩
      have r2 : 0 ≤ RI := by omega
      have r3 : RI ≤ 1114111 := by omega
      rcases HW with ⟨q1, q2, q3, q4, q5⟩ | ⟨q3, q6, HW⟩
      · have hRL : ∀ W, Calls Tryd.prog 15 #[.int .i32 RI] W fun e w' => e = .returned (.int .i64 3) ∧ w' = W := fun W => (Tryd.utf8_RuneLen _ W).mono (fun e w' h => by rw [q3] at h; exact h)
        have q7 : RI = 65533 := by omega
        subst q7
        have HQ4 := Hd.mk q4
        have hl1 : (sbAt s pos 1).length = 1 := by rw [← he1, sb_len, hz1]
        clear q3 q4 he1 heN hz1 hzN hlN
        by_cases h3 : pos + 3 ≤ s.size
        · have hne : ((s.extract pos (pos + 3)).toList == (Utf8.encode 65533).toList) = false := by rw [str_beq]; exact decide_eq_false (q5 h3)
          clear q5
          go_wp2_with (go_at_call 15; refine (hRL _).mono ?_; rintro e z ⟨rfl, rfl⟩)
          refine (HX1.out _ rfl).mono ?_
          rintro e w2 ⟨v2, rfl, H2⟩
          go_wp2_with fail
          go_roundw
          case rel => exact (HE.out _ _ _ HQ4.out (by rw [hx_len]; omega) H2.out.1 H2.out.2.1 H2.out.2.2).1
          case measure => exact (HE.out _ _ _ HQ4.out (by rw [hx_len]; omega) H2.out.1 H2.out.2.1 H2.out.2.2).2
        · go_wp2_with (go_at_call 15; refine (hRL _).mono ?_; rintro e z ⟨rfl, rfl⟩)
          refine (HX1.out _ rfl).mono ?_
          rintro e w2 ⟨v2, rfl, H2⟩
          go_wp2_with fail
          go_roundw
          case rel => exact (HE.out _ _ _ HQ4.out (by rw [hx_len]; omega) H2.out.1 H2.out.2.1 H2.out.2.2).1
          case measure => exact (HE.out _ _ _ HQ4.out (by rw [hx_len]; omega) H2.out.1 H2.out.2.1 H2.out.2.2).2
      · have hRL : ∀ W, Calls Tryd.prog 15 #[.int .i32 RI] W fun e w' => e = .returned (.int .i64 (N : Int)) ∧ w' = W := fun W => (Tryd.utf8_RuneLen _ W).mono (fun e w' h => by rw [q3] at h; exact h)
        clear q3 he1 heN hz1 hzN
        have HL1 := Hd.mk hlN
        clear hlN
        rcases HW with ⟨hq, q4⟩ | ⟨a1, a2, a3, q4, q8⟩ | ⟨a1, a2, a3, q4⟩
        · have HQ4 := Hd.mk q4
          clear q4 q6
          have hR2 : RI = 34 ∨ RI = 92 := by omega
          have h63 : Hd (acc.length + 2 ≤ maxLen) := ⟨by unfold maxLen; omega⟩
          have hby : Hd ((acc.length + 2) * 1 ≤ 140737488355328) := ⟨by omega⟩
          have HG : Hd (∀ v2 w2, w2.ownsRowF w.heap.size 5 1 v2 (acc.length + 2) (cb acc ++ [.int .u8 92, .int .u8 RI]) → (W1.alloc (.cells #[.int .u8 92, .int .u8 RI] 5)).grownBy w2 u3.ownBlock → (∃ (pos : Nat) (acc : List Nat), w2.ownsRowF w.heap.size 5 1 v2 acc.length (cb acc) ∧ w2.heap[w.heap.size]? = some (.stringIter s pos) ∧ Below w.heap.size w w2 ∧ pos ≤ s.size ∧ acc.length ≤ 4 * pos ∧ acc ++ showD s s.size pos = showP s) ∧ s.size - w2.iterPos w.heap.size < s.size - wr.iterPos w.heap.size) := ⟨fun v2 w2 ho2 hg2 => by
            obtain ⟨g1, g2⟩ := grow_kept H1.out.1 (Below.refl w.heap.size W1) (.refl _ _ _) _ HB.out hg2
            exact HE.out _ _ _ HQ4.out (by simp; omega) (by rw [← hRI] at ho2; exact ho2) g1 g2⟩
          clear hq
          rcases hR2 with rfl | rfl
          · go_wp2_with (first
              | (go_at_call 15; refine (hRL _).mono ?_; rintro e z ⟨rfl, rfl⟩)
              | (refine wpList_appF elB rfl (.tmp 59) (.tmp 62) rfl w.heap.size u3 _ _ rfl (H1.out.1.alloc (.cells #[.int .u8 92, .int .u8 34] 5)) ⟨z.heap.size, 0, none⟩ 2 2 [.int .u8 92, .int .u8 34] rfl rfl (alloc_news _ _ _) (by intro u hu; simp only [List.mem_cons, List.not_mem_nil, or_false] at hu; rcases hu with rfl | rfl <;> rfl) h63.out hby.out (by have := HB.out; simp; omega) ?_; intro v2 w2 hO2 hG2))
            go_roundw
            case rel => exact (HG.out _ _ hO2 hG2).1
            case measure => exact (HG.out _ _ hO2 hG2).2
          · go_wp2_with (first
              | (go_at_call 15; refine (hRL _).mono ?_; rintro e z ⟨rfl, rfl⟩)
              | (refine wpList_appF elB rfl (.tmp 59) (.tmp 62) rfl w.heap.size u3 _ _ rfl (H1.out.1.alloc (.cells #[.int .u8 92, .int .u8 92] 5)) ⟨z.heap.size, 0, none⟩ 2 2 [.int .u8 92, .int .u8 92] rfl rfl (alloc_news _ _ _) (by intro u hu; simp only [List.mem_cons, List.not_mem_nil, or_false] at hu; rcases hu with rfl | rfl <;> rfl) h63.out hby.out (by have := HB.out; simp; omega) ?_; intro v2 w2 hO2 hG2))
            go_roundw
            case rel => exact (HG.out _ _ hO2 hG2).1
            case measure => exact (HG.out _ _ hO2 hG2).2
        · have HQ4 := Hd.mk q4
          have HAR : Hd (∀ W, W = W1 → Calls Tryd.prog 18 #[u3, .int .i32 RI] W fun e w' => ∃ v', e = .returned v' ∧ Hd (w'.ownsRowF w.heap.size 5 1 v' (acc.length + (sbAt s pos N).length) (cb acc ++ cb (sbAt s pos N)) ∧ Below w.heap.size W1 w' ∧ Lib.OthersKept 5 none W1 w')) := ⟨fun W hW => by
            subst hW
            refine (Tryd.utf8_AppendRune_row w.heap.size u3 acc.length (cb acc) RI (by omega) (by omega) W H1.out.1 (by omega) HB.out).mono fun e w' ⟨v', h1, h2, o, h3⟩ => ⟨v', h1, ⟨?_, grow_kept H1.out.1 (Below.refl w.heap.size W) (.refl _ _ _) o HB.out h3⟩⟩
            rw [q8, cb_length] at h2
            exact h2⟩
          have HPT : Hd (∀ W, Calls Tryd.prog 17 #[.int .i32 RI] W fun e w' => e = .returned (.bool true) ∧ w' = W) := ⟨fun W => by have := HPL.out W; rwa [decide_eq_true a3] at this⟩
          have b1 : (RI == 34) = false := beq_eq_false_iff_ne.2 (by omega)
          have b2 : (RI == 92) = false := beq_eq_false_iff_ne.2 (by omega)
          have n3 : (N : Int) ≤ (s.size : Int) - (pos : Int) := by omega
          clear q4 q8
          have hEND : Hd (∀ v2 w2, Hd (w2.ownsRowF w.heap.size 5 1 v2 (acc.length + (sbAt s pos N).length) (cb acc ++ cb (sbAt s pos N)) ∧ Below w.heap.size W1 w2 ∧ Lib.OthersKept 5 none W1 w2) → (∃ (pos : Nat) (acc : List Nat), w2.ownsRowF w.heap.size 5 1 v2 acc.length (cb acc) ∧ w2.heap[w.heap.size]? = some (.stringIter s pos) ∧ Below w.heap.size w w2 ∧ pos ≤ s.size ∧ acc.length ≤ 4 * pos ∧ acc ++ showD s s.size pos = showP s) ∧ s.size - w2.iterPos w.heap.size < s.size - wr.iterPos w.heap.size) := ⟨fun v2 w2 H => HE.out _ _ _ HQ4.out (by rw [HL1.out]; omega) H.out.1 H.out.2.1 H.out.2.2⟩
          by_cases h65 : RI = 65533
          · obtain ⟨q9, q10⟩ := q6 (by omega)
            have heq : ((s.extract pos (pos + N)).toList == (Utf8.encode 65533).toList) = true := by rw [q9, q10]; simp
            clear q6 q9 q10
            subst h65
            go_wp2_with (first
              | (go_at_call 15; refine (hRL _).mono ?_; rintro e z ⟨rfl, rfl⟩)
              | (go_at_call 17; refine (HPT.out _).mono ?_; rintro e z2 ⟨rfl, rfl⟩))
            refine (HAR.out _ rfl).mono ?_
            rintro e w2 ⟨v2, rfl, H2⟩
            go_wp2_with fail
            go_roundw
            case rel => exact (hEND.out _ _ H2).1
            case measure => exact (hEND.out _ _ H2).2
          · have h65 : (RI == 65533) = false := beq_eq_false_iff_ne.2 h65
            clear q6
            go_wp2_with (first
              | (go_at_call 15; refine (hRL _).mono ?_; rintro e z ⟨rfl, rfl⟩)
              | (go_at_call 17; refine (HPT.out _).mono ?_; rintro e z2 ⟨rfl, rfl⟩))
            refine (HAR.out _ rfl).mono ?_
            rintro e w2 ⟨v2, rfl, H2⟩
            go_wp2_with fail
            go_roundw
            case rel => exact (hEND.out _ _ H2).1
            case measure => exact (hEND.out _ _ H2).2
        · have HQ4 := Hd.mk q4
          have HPT : Hd (∀ W, Calls Tryd.prog 17 #[.int .i32 RI] W fun e w' => e = .returned (.bool false) ∧ w' = W) := ⟨fun W => by have := HPL.out W; rwa [decide_eq_false a3] at this⟩
          have b1 : (RI == 34) = false := beq_eq_false_iff_ne.2 (by omega)
          have b2 : (RI == 92) = false := beq_eq_false_iff_ne.2 (by omega)
          have h65 : (RI == 65533) = false := beq_eq_false_iff_ne.2 (by unfold plainP at a3; omega)
          have n3 : (N : Int) ≤ (s.size : Int) - (pos : Int) := by omega
          clear q4 q6 a3
          go_wp2_with (first
            | (go_at_call 15; refine (hRL _).mono ?_; rintro e z ⟨rfl, rfl⟩)
            | (go_at_call 17; refine (HPT.out _).mono ?_; rintro e z2 ⟨rfl, rfl⟩))
          refine (HXN.out _ rfl).mono ?_
          rintro e w2 ⟨v2, rfl, H2⟩
          go_wp2_with fail
          go_roundw
          case rel => exact (HE.out _ _ _ HQ4.out (by rw [hx_len, HL1.out]; omega) H2.out.1 H2.out.2.1 H2.out.2.2).1
          case measure => exact (HE.out _ _ _ HQ4.out (by rw [hx_len, HL1.out]; omega) H2.out.1 H2.out.2.1 H2.out.2.2).2
    · have hnx : ∀ ty, (Instr.next (.pointer (some ⟨w.heap.size, 0, none⟩)) true ty).run Tryd.prog wr = _ := fun ty => Lib.run_next_end_at wr w.heap.size s pos ty hit hp
      have hpe : acc = showP s := by rw [← hsh, showD_end s s.size pos hp, List.append_nil]
      obtain ⟨A, c, hv, hrd⟩ := ownF_rd ho
      subst hv
      have hcv := run_conv_str (P := Tryd.prog) 28 9 5 (by kernel_rfl) (by kernel_rfl) infoStr c (zs := acc.map Int.ofNat) (B := wr.heap.size) (A := A) (n := acc.length) (w := wr) (by have : cb acc = (acc.map Int.ofNat).map (.int .u8) := by { unfold cb; rw [List.map_map]; rfl }; rw [← this]; exact hrd)
      have HBL := Hd.mk bel
      have hb2 : strOfNums (acc.map Int.ofNat) = bstr (showP s) := by rw [← hpe]; rfl
      rw [hb2] at hcv
      clear ho hrd hit hsh hpe bel hb2
      go_wp2_with fail
      go_ret
      exact ⟨rfl, HBL.out⟩
end Go.Proofs.YtbcmjjcbjojakaaDoor
end
