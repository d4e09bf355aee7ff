
/- Plain: what a key is shown as, over the model's own reading of letters. -/
import Derived.Test.YtbcmjjcbjojakaaDoorPutsB
import Derived.Lib.MapLaws
import Derived.Lib.RuneBytes
import Derived.Lib.RuneCount
import Derived.Laws.RangeAny
namespace Go.Proofs.YtbcmjjcbjojakaaDoor
set_option linter.unusedVariables false
def dgt (x : Nat) : Nat := if x < 10 then 48 + x else 87 + x
def hx (l : List Nat) : List Nat := l.flatMap fun b => [92, 120, dgt (b / 16), dgt (b % 16)]
def sbAt (s : ByteArray) (i n : Nat) : List Nat := ((sb s).drop i).take n
def bad (s : ByteArray) (i : Nat) : Prop := (Utf8.decode s i).1 = 65533 ∧ (Utf8.decode s i).2 = 1
instance (s : ByteArray) (i : Nat) : Decidable (bad s i) := by unfold bad; infer_instance
def plainP (v : Nat) : Prop := 32 ≤ v ∧ v ≤ 126 ∨ 160 ≤ v
instance (v : Nat) : Decidable (plainP v) := by unfold plainP; infer_instance
/-- What the letter at a place is shown as. -/
def tokD (s : ByteArray) (i : Nat) : List Nat :=
  if bad s i then hx (sbAt s i 1)
  else if (Utf8.decode s i).1 = 34 ∨ (Utf8.decode s i).1 = 92 then 92 :: sbAt s i 1
  else if plainP (Utf8.decode s i).1 then sbAt s i (Utf8.decode s i).2
  else hx (sbAt s i (Utf8.decode s i).2)
def showD (s : ByteArray) : Nat → Nat → List Nat
  | 0, _ => []
  | f + 1, pos => if pos < s.size then tokD s pos ++ showD s f (pos + (Utf8.decode s pos).2) else []
def showP (s : ByteArray) : List Nat := showD s s.size 0
theorem width_pos (s : ByteArray) (pos : Nat) (h : pos < s.size) : 1 ≤ (Utf8.decode s pos).2 := Lib.decode_width_pos s pos h
theorem width_le (s : ByteArray) (pos : Nat) (h : pos < s.size) : pos + (Utf8.decode s pos).2 ≤ s.size := by
  have hl : s.data.toList.length = s.size := by rw [Array.length_toList]; rfl
  have hne : s.data.toList.drop pos ≠ [] := by
    intro h0; have := congrArg List.length h0; rw [List.length_drop] at this; simp at this; have h2 : s.data.size = s.size := rfl; omega
  have := Lib.decodeL_le (s.data.toList.drop pos) hne
  rw [Lib.decodeL_drop, List.length_drop] at this
  omega
theorem hx_len (l : List Nat) : (hx l).length = 4 * l.length := by
  unfold hx; induction l with
  | nil => rfl
  | cons a t ih => rw [List.flatMap_cons, List.length_append, ih]; simp; omega
theorem sbAt_le (s : ByteArray) (i n : Nat) : (sbAt s i n).length ≤ n := by unfold sbAt; rw [List.length_take]; exact Nat.min_le_left _ _
theorem tokD_le (s : ByteArray) (i : Nat) (h : i < s.size) : (tokD s i).length ≤ 4 * (Utf8.decode s i).2 := by
  have h1 := width_pos s i h
  have := sbAt_le s i 1
  have := sbAt_le s i (Utf8.decode s i).2
  unfold tokD
  split
  · rw [hx_len]; omega
  · split
    · simp; omega
    · split
      · omega
      · rw [hx_len]; omega
theorem showD_le (s : ByteArray) : ∀ f pos, (showD s f pos).length ≤ 4 * (s.size - pos)
  | 0, pos => by simp [showD]
  | f + 1, pos => by
    unfold showD; split
    · rename_i h
      have := showD_le s f (pos + (Utf8.decode s pos).2)
      have := tokD_le s pos h
      have := width_le s pos h
      rw [List.length_append]; omega
    · simp
theorem showD_end (s : ByteArray) (f pos : Nat) (h : ¬ pos < s.size) : showD s f pos = [] := by
  cases f with
  | zero => rfl
  | succ f => unfold showD; rw [if_neg h]
/-- The model's decoding at a place: how the bytes there stand. -/
theorem dec_nums (s : ByteArray) (pos : Nat) (h : pos < s.size) : Utf8.decode s pos = Lib.decodeN (s.size - pos) ((sb s).getD pos 0) ((sb s).getD (pos + 1) 0) ((sb s).getD (pos + 2) 0) ((sb s).getD (pos + 3) 0) := by
  have hl : s.data.toList.length = s.size := by rw [Array.length_toList]; rfl
  have hg : ∀ k, (s.data.toList.getD k 0).toNat = (sb s).getD k 0 := fun k => by
    unfold sb; rw [List.getD_eq_getElem?_getD, List.getD_eq_getElem?_getD, List.getElem?_map]
    cases s.data.toList[k]? <;> rfl
  rw [Lib.decode_N, hl, hg, hg, hg, hg]
theorem encL_decode (s : ByteArray) (pos : Nat) (h : pos < s.size) (hb : ¬ bad s pos) : Lib.encodeRune ((Utf8.decode s pos).1 : Int) = (s.data.toList.drop pos).take (Utf8.decode s pos).2 := by
  have hl : s.data.toList.length = s.size := by rw [Array.length_toList]; rfl
  have hne : s.data.toList.drop pos ≠ [] := by
    intro h0; have := congrArg List.length h0; rw [List.length_drop] at this; simp at this; have h2 : s.data.size = s.size := rfl; omega
  have := Lib.encode_decode (s.data.toList.drop pos) hne (by rw [Lib.decodeL_drop]; exact hb)
  rwa [Lib.decodeL_drop] at this
theorem runeCells_at (s : ByteArray) (pos : Nat) (h : pos < s.size) (hb : ¬ bad s pos) : Lib.runeCells ((Utf8.decode s pos).1 : Int) = cb (sbAt s pos (Utf8.decode s pos).2) := by
  rw [← Lib.byteCells_encodeRune, encL_decode s pos h hb]
  unfold Lib.byteCells cb sbAt sb
  rw [← List.map_drop, ← List.map_take, List.map_map]
  rfl
theorem good_65533 (s : ByteArray) (pos : Nat) (h : pos < s.size) (hb : ¬ bad s pos) (h1 : (Utf8.decode s pos).1 = 65533) : (Utf8.decode s pos).2 = 3 := by
  unfold bad at hb
  have lt : ∀ k, (sb s).getD k 0 < 256 := fun k => by
    rw [List.getD_eq_getElem?_getD]
    cases e : (sb s)[k]? with
    | none => simp
    | some x => exact sb_lt s x (List.mem_of_getElem? e)
  have l0 := lt pos; have l1 := lt (pos + 1); have l2 := lt (pos + 2); have l3 := lt (pos + 3)
  rw [dec_nums s pos h] at hb h1 ⊢
  rcases Lib.decodeN_shape (s.size - pos) ((sb s).getD pos 0) ((sb s).getD (pos + 1) 0) ((sb s).getD (pos + 2) 0) ((sb s).getD (pos + 3) 0) with ⟨c, e⟩ | ⟨c1, c2, c3, cv, e⟩ | ⟨c1, c2, c3, c4, cv, cs, e⟩ | ⟨c1, c2, c3, c4, c5, cv, cw, e⟩ | e
  all_goals (rw [e] at hb h1 ⊢)
  all_goals (try (dsimp only at hb h1 ⊢))
  all_goals first | rfl | omega | exact absurd ⟨rfl, rfl⟩ hb
theorem runeLen_at (s : ByteArray) (pos : Nat) (h : pos < s.size) (hb : ¬ bad s pos) : Lib.runeLen ((Utf8.decode s pos).1 : Int) = ((Utf8.decode s pos).2 : Int) := by
  by_cases h1 : (Utf8.decode s pos).1 = 65533
  · rw [good_65533 s pos h hb h1, h1]; decide
  · have := Lib.runeLen_decode (s.data.toList.drop pos) (by rw [Lib.decodeL_drop]; exact h1)
    rwa [Lib.decodeL_drop] at this
theorem ascii_at (s : ByteArray) (pos : Nat) (h : pos < s.size) (h1 : (Utf8.decode s pos).1 < 128) : sbAt s pos 1 = [(Utf8.decode s pos).1] := by
  have hl : (sb s).length = s.size := sb_len s
  have : (Utf8.decode s pos).1 = (sb s).getD pos 0 := by
    rw [dec_nums s pos h] at h1 ⊢
    rcases Lib.decodeN_shape (s.size - pos) ((sb s).getD pos 0) ((sb s).getD (pos + 1) 0) ((sb s).getD (pos + 2) 0) ((sb s).getD (pos + 3) 0) with ⟨c, e⟩ | ⟨c1, c2, c3, cv, e⟩ | ⟨c1, c2, c3, c4, cv, cs, e⟩ | ⟨c1, c2, c3, c4, c5, cv, cw, e⟩ | e
    all_goals (rw [e] at h1 ⊢)
    all_goals (try (dsimp only at h1 ⊢))
    all_goals first | rfl | omega
  rw [this]
  unfold sbAt
  rw [List.drop_eq_getElem_cons (by omega), List.getD_eq_getElem?_getD, List.getElem?_eq_getElem (by omega)]
  rfl
/-- The bytes of the letter that stands for a wrong one, where nothing is wrong. -/
theorem enc_at (s : ByteArray) (pos : Nat) (h : pos < s.size) (h1 : (Utf8.decode s pos).1 = 65533) (h3 : pos + 3 ≤ s.size) : (s.extract pos (pos + 3) = Utf8.encode 65533) ↔ ¬ bad s pos := by
  have hl : (sb s).length = s.size := sb_len s
  have he : (Utf8.encode 65533) = ⟨#[239, 191, 189]⟩ := by decide
  have hE : (s.extract pos (pos + 3)).data.toList = (s.data.toList.drop pos).take 3 := by simp [List.take_drop]
  constructor
  · intro e hb
    have e1 : (sb s).getD pos 0 = 239 ∧ (sb s).getD (pos + 1) 0 = 191 ∧ (sb s).getD (pos + 2) 0 = 189 := by
      rw [e, he] at hE
      have hk : ∀ k, k < 3 → (sb s).getD (pos + k) 0 = ([239, 191, 189] : List Nat).getD k 0 := fun k hk => by
        have := congrArg (fun l => (l[k]?).map UInt8.toNat) hE
        simp only [List.getElem?_take, hk, if_true, List.getElem?_drop] at this
        unfold sb
        rw [List.getD_eq_getElem?_getD, List.getElem?_map, ← this]
        rcases k with _ | _ | _ | k
        · rfl
        · rfl
        · rfl
        · omega
      exact ⟨hk 0 (by omega), hk 1 (by omega), hk 2 (by omega)⟩
    unfold bad at hb
    rw [dec_nums s pos h, e1.1, e1.2.1, e1.2.2] at hb
    have : Lib.decodeN (s.size - pos) 239 191 189 ((sb s).getD (pos + 3) 0) = (65533, 3) := by
      unfold Lib.decodeN
      rw [if_neg (by omega), if_neg (by omega), if_pos ⟨by omega, ⟨by omega, by omega⟩, by omega, by omega⟩, if_pos ⟨by omega, by omega⟩]
    rw [this] at hb
    exact absurd hb.2 (by decide)
  · intro hb
    have := encL_decode s pos h hb
    rw [h1, good_65533 s pos h hb h1] at this
    rw [he]
    have e2 : (s.extract pos (pos + 3)).data.toList = [239, 191, 189] := by
      rw [hE, ← this]; decide
    have : (s.extract pos (pos + 3)).data = #[239, 191, 189] := Array.toList_inj.1 (e2 : _ = (#[239, 191, 189] : Array UInt8).toList)
    cases h4 : s.extract pos (pos + 3) with | mk d => rw [h4] at this; simp at this; rw [this]
theorem showD_fuel (s : ByteArray) : ∀ f g pos, s.size ≤ f + pos → s.size ≤ g + pos → showD s f pos = showD s g pos
  | 0, g, pos, h, _ => by rw [showD_end s 0 pos (by omega), showD_end s g pos (by omega)]
  | f + 1, 0, pos, _, h => by rw [showD_end s 0 pos (by omega), showD_end s (f + 1) pos (by omega)]
  | f + 1, g + 1, pos, h1, h2 => by
    unfold showD; split
    · rename_i h
      have := width_pos s pos h
      rw [showD_fuel s f g _ (by omega) (by omega)]
    · rfl
end Go.Proofs.YtbcmjjcbjojakaaDoor
