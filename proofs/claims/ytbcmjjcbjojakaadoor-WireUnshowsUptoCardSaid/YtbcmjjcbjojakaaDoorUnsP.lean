
/- Plain: what a key is shown as is read back: by letters and by bytes. -/
import Derived.Test.YtbcmjjcbjojakaaDoorShowP
import Derived.Lib.ValidLaws
namespace Go.Proofs.YtbcmjjcbjojakaaDoor
set_option linter.unusedVariables false
def dig (c : Nat) : Option Nat := if 48 ≤ c ∧ c ≤ 57 then some (c - 48) else if 97 ≤ c ∧ c ≤ 102 then some (c - 87) else none
/-- What stands behind a backslash: the byte, and how many letters say it. -/
def escF (r : List Nat) : Option (Nat × Nat) :=
  if r.getD 0 0 = 92 ∨ r.getD 0 0 = 34 then some (r.getD 0 0, 1)
  else if r.getD 0 0 = 120 then match dig (r.getD 1 0), dig (r.getD 2 0) with
    | some p, some q => some (16 * p + q, 3)
    | _, _ => none
  else none
def unsD (enc : Nat → List Nat) : Nat → List Nat → Option (List Nat)
  | 0, _ => some []
  | f + 1, [] => some []
  | f + 1, x :: r => if x ≠ 92 then (unsD enc f r).map (enc x ++ ·) else match escF r with
    | none => none
    | some (b, n) => (unsD enc f (r.drop n)).map (b :: ·)
theorem escF_n {r : List Nat} {b n : Nat} (h : escF r = some (b, n)) : (n = 1 ∨ n = 3) ∧ n ≤ r.length ∧ (b < 256) := by
  have nil0 : ∀ k, r.length ≤ k → r.getD k 0 = 0 := fun k hk => by rw [List.getD_eq_getElem?_getD, List.getElem?_eq_none hk]; rfl
  have hd : ∀ c q, dig c = some q → q < 16 ∧ c ≠ 0 := fun c q hq => by unfold dig at hq; split at hq <;> (try split at hq) <;> simp at hq <;> omega
  unfold escF at h
  split at h
  · rename_i h1
    injection h with h; injection h with h2 h3
    refine ⟨by omega, ?_, by omega⟩
    by_cases hl : r.length ≤ 0
    · have := nil0 0 hl; omega
    · omega
  · split at h
    · rename_i h1 h2
      cases hp : dig (r.getD 1 0) with
      | none => rw [hp] at h; cases h
      | some p => cases hq : dig (r.getD 2 0) with
        | none => rw [hp, hq] at h; cases h
        | some q =>
          rw [hp, hq] at h
          injection h with h; injection h with h3 h4
          have := hd _ _ hp; have := hd _ _ hq
          refine ⟨by omega, ?_, by omega⟩
          by_cases hl : r.length ≤ 2
          · have := nil0 2 hl; omega
          · omega
    · cases h
theorem unsD_fuel (enc : Nat → List Nat) : ∀ f g l, l.length ≤ f → l.length ≤ g → unsD enc f l = unsD enc g l
  | 0, g, l, h, _ => by
    have : l = [] := List.length_eq_zero_iff.1 (by omega)
    subst this
    cases g <;> rfl
  | f + 1, 0, l, _, h => by
    have : l = [] := List.length_eq_zero_iff.1 (by omega)
    subst this; rfl
  | f + 1, g + 1, [], _, _ => rfl
  | f + 1, g + 1, x :: r, h1, h2 => by
    simp only [List.length_cons] at h1 h2
    unfold unsD
    rw [unsD_fuel enc f g r (by omega) (by omega)]
    cases he : escF r with
    | none => rfl
    | some p =>
      obtain ⟨b, n⟩ := p
      simp only
      rw [unsD_fuel enc f g (r.drop n) (by rw [List.length_drop]; omega) (by rw [List.length_drop]; omega)]
def unsL (enc : Nat → List Nat) (l : List Nat) : Option (List Nat) := unsD enc l.length l
theorem unsL_nil (enc : Nat → List Nat) : unsL enc [] = some [] := rfl
theorem unsL_plain (enc : Nat → List Nat) (x : Nat) (r : List Nat) (hx : x ≠ 92) : unsL enc (x :: r) = (unsL enc r).map (enc x ++ ·) := by
  unfold unsL
  rw [List.length_cons]
  show (if x ≠ 92 then _ else _) = _
  rw [if_pos hx]
theorem unsL_esc (enc : Nat → List Nat) (r : List Nat) : unsL enc (92 :: r) = match escF r with
    | none => none
    | some (b, n) => (unsL enc (r.drop n)).map (b :: ·) := by
  unfold unsL
  rw [List.length_cons]
  show (if (92 : Nat) ≠ 92 then _ else _) = _
  rw [if_neg (by omega)]
  cases escF r with
  | none => rfl
  | some p =>
    obtain ⟨b, n⟩ := p
    simp only
    rw [unsD_fuel enc r.length (r.drop n).length _ (by rw [List.length_drop]; omega) (Nat.le_refl _)]
theorem dig_dgt {x : Nat} (h : x < 16) : dig (dgt x) = some x := by
  unfold dig dgt
  split
  · rw [if_pos (by omega)]; congr 1; omega
  · rw [if_neg (by omega), if_pos (by omega)]; congr 1; omega
theorem dgt_lt {x : Nat} (h : x < 16) : dgt x < 128 ∧ dgt x ≠ 92 ∧ dgt x ≠ 34 := by unfold dgt; split <;> omega
theorem uns_hx (enc : Nat → List Nat) : ∀ (l rest : List Nat), (∀ b ∈ l, b < 256) → unsL enc (hx l ++ rest) = (unsL enc rest).map (l ++ ·)
  | [], rest, _ => by simp [hx]
  | b :: l, rest, h => by
    have hb := h b (List.mem_cons_self ..)
    have e : hx (b :: l) ++ rest = 92 :: 120 :: dgt (b / 16) :: dgt (b % 16) :: (hx l ++ rest) := by simp [hx]
    have hE : escF (120 :: dgt (b / 16) :: dgt (b % 16) :: (hx l ++ rest)) = some (b, 3) := by
      unfold escF
      simp only [List.getD_cons_zero, List.getD_cons_succ]
      rw [if_neg (by omega), if_pos trivial, dig_dgt (by omega), dig_dgt (by omega)]
      simp only [Option.some.injEq, Prod.mk.injEq, and_true]
      omega
    rw [e, unsL_esc, hE]
    simp only [List.drop_succ_cons, List.drop_zero]
    rw [uns_hx enc l rest fun x hx => h x (List.mem_cons_of_mem _ hx), Option.map_map]
    rfl
theorem uns_quo (enc : Nat → List Nat) (c : Nat) (rest : List Nat) (hc : c = 34 ∨ c = 92) : unsL enc (92 :: c :: rest) = (unsL enc rest).map (c :: ·) := by
  have hE : escF (c :: rest) = some (c, 1) := by
    unfold escF
    rw [List.getD_cons_zero, if_pos (by omega)]
  rw [unsL_esc, hE]
  rfl
theorem uns_all (enc : Nat → List Nat) : ∀ (l rest : List Nat), (∀ b ∈ l, b ≠ 92) → unsL enc (l ++ rest) = (unsL enc rest).map ((l.flatMap enc) ++ ·)
  | [], rest, _ => by simp
  | b :: l, rest, h => by
    rw [List.cons_append, unsL_plain enc b _ (h b (List.mem_cons_self ..)), uns_all enc l rest fun x hx => h x (List.mem_cons_of_mem _ hx), Option.map_map]
    congr 1
    funext y
    simp [List.flatMap_cons]
/-! Letters, one behind the other. -/
def dcd (l : List Nat) : Nat × Nat := Lib.decodeN l.length (l.getD 0 0) (l.getD 1 0) (l.getD 2 0) (l.getD 3 0)
theorem decode_dcd (s : ByteArray) (pos : Nat) (h : pos < s.size) : Utf8.decode s pos = dcd ((sb s).drop pos) := by
  rw [dec_nums s pos h]
  unfold dcd
  have hg : ∀ k, ((sb s).drop pos).getD k 0 = (sb s).getD (pos + k) 0 := fun k => by rw [List.getD_eq_getElem?_getD, List.getD_eq_getElem?_getD, List.getElem?_drop]
  rw [List.length_drop, sb_len, hg, hg, hg, hg]; rfl
/-- These bytes are one letter, whatever stands behind them. -/
def Ltr (t : List Nat) (r : Nat) : Prop := t ≠ [] ∧ (∀ rest, dcd (t ++ rest) = (r, t.length)) ∧ ¬ (r = 65533 ∧ t.length = 1)
theorem ltr_ascii {b : Nat} (h : b < 128) : Ltr [b] b := by
  refine ⟨by simp, fun rest => ?_, by simp; omega⟩
  unfold dcd Lib.decodeN
  rw [List.cons_append, List.getD_cons_zero, if_pos h]; rfl
theorem ltr_of {l : List Nat} (hl : l ≠ []) (hlt : ∀ b ∈ l, b < 256) (hb : ¬ ((dcd l).1 = 65533 ∧ (dcd l).2 = 1)) : Ltr (l.take (dcd l).2) (dcd l).1 ∧ (128 ≤ (dcd l).1 → ∀ b ∈ l.take (dcd l).2, 128 ≤ b) := by
  have nil0 : ∀ k, l.length ≤ k → l.getD k 0 = 0 := fun k hk => by rw [List.getD_eq_getElem?_getD, List.getElem?_eq_none hk]; rfl
  have hlen : 0 < l.length := List.length_pos_iff.2 hl
  have two : ∀ (k : Nat), k ≤ l.length → ∀ i, i < k → ∀ rest, (l.take k ++ rest).getD i 0 = l.getD i 0 := fun k hk i hi rest => by
    rw [List.getD_eq_getElem?_getD, List.getD_eq_getElem?_getD, List.getElem?_append_left (by rw [List.length_take]; omega), List.getElem?_take, if_pos hi]
  have mem : ∀ k, k ≤ l.length → (∀ i, i < k → 128 ≤ l.getD i 0) → ∀ b ∈ l.take k, 128 ≤ b := fun k hk h b hb => by
    obtain ⟨i, hi⟩ := List.mem_iff_getElem?.1 hb
    rw [List.getElem?_take] at hi
    split at hi
    · rename_i hik
      have := h i hik
      rw [List.getD_eq_getElem?_getD, hi] at this; exact this
    · cases hi
  have lenT : ∀ k, k ≤ l.length → ∀ rest, (l.take k ++ rest).length = k + rest.length := fun k hk rest => by rw [List.length_append, List.length_take]; omega
  unfold dcd at hb ⊢
  obtain ⟨b0, e0⟩ : ∃ q, l.getD 0 0 = q := ⟨_, rfl⟩
  obtain ⟨b1, e1⟩ : ∃ q, l.getD 1 0 = q := ⟨_, rfl⟩
  obtain ⟨b2, e2⟩ : ∃ q, l.getD 2 0 = q := ⟨_, rfl⟩
  obtain ⟨b3, e3⟩ : ∃ q, l.getD 3 0 = q := ⟨_, rfl⟩
  rw [e0, e1, e2, e3] at hb ⊢
  rcases Lib.decodeN_shape l.length b0 b1 b2 b3 with ⟨c, e⟩ | ⟨c1, c2, c3, cv, e⟩ | ⟨c1, c2, c3, c4, cv, cs, e⟩ | ⟨c1, c2, c3, c4, c5, cv, cw, e⟩ | e
  · rw [e] at hb ⊢
    refine ⟨⟨by simp only [ne_eq, List.take_eq_nil_iff]; simp [hl], fun rest => ?_, by simp only [List.length_take]; omega⟩, fun h => by simp only at h; omega⟩
    unfold dcd Lib.decodeN
    rw [two 1 (by omega) 0 (by omega), e0, if_pos c, List.length_take]
    simp; omega
  · rw [e] at hb ⊢
    have hk : 2 ≤ l.length := by omega
    refine ⟨⟨by simp only [ne_eq, List.take_eq_nil_iff]; simp [hl], fun rest => ?_, by simp only [List.length_take]; omega⟩, fun _ => mem 2 hk fun i hi => ?_⟩
    · unfold dcd Lib.decodeN
      rw [two 2 hk 0 (by omega), two 2 hk 1 (by omega), e0, e1, lenT 2 hk, if_neg (by omega), if_pos ⟨c1, by omega, c3⟩, if_pos cv, List.length_take]
      simp; omega
    · have : i = 0 ∨ i = 1 := by omega
      rcases this with rfl | rfl <;> omega
  · rw [e] at hb ⊢
    have hk : 3 ≤ l.length := by omega
    refine ⟨⟨by simp only [ne_eq, List.take_eq_nil_iff]; simp [hl], fun rest => ?_, by simp only [List.length_take]; omega⟩, fun _ => mem 3 hk fun i hi => ?_⟩
    · unfold dcd Lib.decodeN
      rw [two 3 hk 0 (by omega), two 3 hk 1 (by omega), two 3 hk 2 (by omega), e0, e1, e2, lenT 3 hk, if_neg (by omega), if_neg (by omega), if_pos ⟨c1, ⟨by omega, c3⟩, by omega, c4⟩, if_pos (by omega), List.length_take]
      simp; omega
    · have : i = 0 ∨ i = 1 ∨ i = 2 := by omega
      rcases this with rfl | rfl | rfl <;> omega
  · rw [e] at hb ⊢
    have hk : 4 ≤ l.length := by omega
    refine ⟨⟨by simp only [ne_eq, List.take_eq_nil_iff]; simp [hl], fun rest => ?_, by simp only [List.length_take]; omega⟩, fun _ => mem 4 hk fun i hi => ?_⟩
    · unfold dcd Lib.decodeN
      rw [two 4 hk 0 (by omega), two 4 hk 1 (by omega), two 4 hk 2 (by omega), two 4 hk 3 (by omega), e0, e1, e2, e3, lenT 4 hk, if_neg (by omega), if_neg (by omega), if_neg (by omega), if_pos ⟨c1, ⟨by omega, c3⟩, ⟨by omega, c4⟩, by omega, c5⟩, if_pos (by omega), List.length_take]
      simp; omega
    · have : i = 0 ∨ i = 1 ∨ i = 2 ∨ i = 3 := by omega
      rcases this with rfl | rfl | rfl | rfl <;> omega
  · rw [e] at hb; exact absurd ⟨rfl, rfl⟩ hb
/-- These bytes are these letters. -/
inductive Ltrs : List Nat → List Nat → Prop
  | nil : Ltrs [] []
  | cons {t : List Nat} {r : Nat} {l rs : List Nat} : Ltr t r → Ltrs l rs → Ltrs (t ++ l) (r :: rs)
theorem Ltrs.append {l rs l' rs' : List Nat} (h : Ltrs l rs) (h' : Ltrs l' rs') : Ltrs (l ++ l') (rs ++ rs') := by
  induction h with
  | nil => exact h'
  | cons h1 _ ih => rw [List.append_assoc, List.cons_append]; exact .cons h1 ih
theorem ltrs_ascii : ∀ (l : List Nat), (∀ b ∈ l, b < 128) → Ltrs l l
  | [], _ => .nil
  | b :: l, h => Ltrs.cons (ltr_ascii (h b (List.mem_cons_self ..))) (ltrs_ascii l fun x hx => h x (List.mem_cons_of_mem _ hx))
theorem hx_ascii (l : List Nat) (h : ∀ b ∈ l, b < 256) : ∀ x ∈ hx l, x < 128 := by
  intro x hx'
  unfold hx at hx'
  obtain ⟨b, hb, hm⟩ := List.mem_flatMap.1 hx'
  have := h b hb
  have h1 := dgt_lt (x := b / 16) (by omega)
  have h2 := dgt_lt (x := b % 16) (by omega)
  simp only [List.mem_cons, List.not_mem_nil, or_false] at hm
  omega
/-- The runes of bytes. -/
def rns : Nat → List Nat → List Nat
  | 0, _ => []
  | f + 1, l => if l = [] then [] else (dcd l).1 :: rns f (l.drop (dcd l).2)
theorem rns_ltrs {l rs : List Nat} (h : Ltrs l rs) : ∀ f, l.length ≤ f → rns f l = rs := by
  induction h with
  | nil => intro f _; cases f <;> simp [rns]
  | @cons t r l rs h1 _ ih =>
    intro f hf
    have ht : 0 < t.length := List.length_pos_iff.2 h1.1
    rw [List.length_append] at hf
    cases f with
    | zero => omega
    | succ f =>
      unfold rns
      rw [if_neg (by simp [h1.1]), h1.2.1 l]
      simp only
      rw [List.drop_left, ih f (by omega)]
theorem vld_ltrs {l rs : List Nat} (h : Ltrs l rs) : ∀ (s : ByteArray) (pos : Nat), (sb s).drop pos = l → Lib.validD (s.data.toList.drop pos) = true := by
  induction h with
  | nil =>
    intro s pos hs
    have : s.data.toList.drop pos = [] := by
      have := congrArg List.length hs
      rw [List.length_drop, sb_len] at this
      apply List.eq_nil_of_length_eq_zero
      rw [List.length_drop, Array.length_toList]
      simpa using this
    rw [this]; rfl
  | @cons t r l rs h1 _ ih =>
    intro s pos hs
    have ht : 0 < t.length := List.length_pos_iff.2 h1.1
    have hln := congrArg List.length hs
    rw [List.length_drop, sb_len, List.length_append] at hln
    have hne : s.data.toList.drop pos ≠ [] := by
      intro h0
      have := congrArg List.length h0
      rw [List.length_drop, Array.length_toList] at this
      have h2 : s.data.size = s.size := rfl
      simp at this; omega
    rw [Lib.validD_step _ hne, Lib.decodeL_drop, decode_dcd s pos (by omega), hs, h1.2.1 l]
    simp only
    rw [if_neg h1.2.2, List.drop_drop]
    exact ih s (pos + t.length) (by rw [← List.drop_drop, hs, List.drop_left])
end Go.Proofs.YtbcmjjcbjojakaaDoor
