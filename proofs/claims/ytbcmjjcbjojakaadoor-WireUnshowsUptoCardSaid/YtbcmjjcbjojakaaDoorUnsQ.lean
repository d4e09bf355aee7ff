
/- Plain: what a key is shown as is read back, key by key. -/
import Derived.Test.YtbcmjjcbjojakaaDoorUnsP
import Derived.Test.YtbcmjjcbjojakaaDoorShowE
namespace Go.Proofs.YtbcmjjcbjojakaaDoor
set_option linter.unusedVariables false
def encN (r : Nat) : List Nat := (Lib.encodeRune (r : Int)).map UInt8.toNat
def oneN (x : Nat) : List Nat := [x]
theorem sb_bstr (l : List Nat) (h : ∀ x ∈ l, x < 256) : sb (bstr l) = l := by
  unfold sb
  rw [bstr_data, List.map_map]
  refine (List.map_congr_left (g := id) fun x hx => ?_).trans (List.map_id l)
  have := h x hx
  simp [UInt8.toNat_ofNat']; omega
theorem width_ascii (s : ByteArray) (pos : Nat) (h : pos < s.size) (h1 : (Utf8.decode s pos).1 < 128) : (Utf8.decode s pos).2 = 1 := by
  rw [dec_nums s pos h] at h1 ⊢
  rcases Lib.decodeN_shape (s.size - pos) ((sb s).getD pos 0) ((sb s).getD (pos + 1) 0) ((sb s).getD (pos + 2) 0) ((sb s).getD (pos + 3) 0) with ⟨c, e⟩ | ⟨c1, c2, c3, cv, e⟩ | ⟨c1, c2, c3, c4, cv, cs, e⟩ | ⟨c1, c2, c3, c4, c5, cv, cw, e⟩ | e
  all_goals (rw [e] at h1 ⊢)
  all_goals (try (dsimp only at h1 ⊢))
  all_goals omega
theorem flat_one (l : List Nat) : l.flatMap oneN = l := by
  induction l with
  | nil => rfl
  | cons a t ih => rw [List.flatMap_cons, ih]; rfl
theorem showD_lets (s : ByteArray) : ∀ f pos, pos ≤ s.size → s.size ≤ f + pos → ∃ rs, Ltrs (showD s f pos) rs ∧ unsL oneN (showD s f pos) = some ((sb s).drop pos) ∧ unsL encN rs = some ((sb s).drop pos)
  | 0, pos, h1, h2 => by
    have e : (sb s).drop pos = [] := List.drop_eq_nil_of_le (by rw [sb_len]; omega)
    exact ⟨[], by rw [showD_end s 0 pos (by omega)]; exact .nil, by rw [showD_end s 0 pos (by omega), e]; rfl, by rw [e]; rfl⟩
  | f + 1, pos, h1, h2 => by
    by_cases h : pos < s.size
    · have hw := width_pos s pos h
      have hwl := width_le s pos h
      obtain ⟨rs, i1, i2, i3⟩ := showD_lets s f (pos + (Utf8.decode s pos).2) hwl (by omega)
      have hsp : (sb s).drop pos = sbAt s pos (Utf8.decode s pos).2 ++ (sb s).drop (pos + (Utf8.decode s pos).2) := by
        unfold sbAt; rw [← List.drop_drop, List.take_append_drop]
      have hlt : ∀ n, ∀ b ∈ sbAt s pos n, b < 256 := fun n b hb => sb_lt s b (List.mem_of_mem_drop (List.mem_of_mem_take hb))
      have hne : (sb s).drop pos ≠ [] := by
        intro h0; have := congrArg List.length h0; rw [List.length_drop, sb_len] at this; simp at this; omega
      have hd := decode_dcd s pos h
      unfold showD
      rw [if_pos h, hsp]
      unfold tokD
      by_cases hb : bad s pos
      · rw [if_pos hb, hb.2]
        refine ⟨hx (sbAt s pos 1) ++ rs, (ltrs_ascii _ (hx_ascii _ (hlt 1))).append ?_, ?_, ?_⟩
        · rw [hb.2] at i1; exact i1
        · rw [hb.2] at i2; rw [uns_hx _ _ _ (hlt 1), i2]; rfl
        · rw [hb.2] at i3; rw [uns_hx _ _ _ (hlt 1), i3]; rfl
      rw [if_neg hb]
      by_cases hq : (Utf8.decode s pos).1 = 34 ∨ (Utf8.decode s pos).1 = 92
      · have hw1 := width_ascii s pos h (by omega)
        have ha := ascii_at s pos h (by omega)
        rw [if_pos hq, hw1, ha]
        rw [hw1] at i1 i2 i3
        obtain ⟨c, hc⟩ : ∃ c, (Utf8.decode s pos).1 = c := ⟨_, rfl⟩
        rw [hc] at hq ⊢
        refine ⟨92 :: c :: rs, ?_, ?_, ?_⟩
        · exact (ltrs_ascii [92, c] (by intro b hb; simp at hb; omega)).append i1
        · have e : unsL oneN (92 :: [c] ++ showD s f (pos + 1)) = unsL oneN (92 :: c :: showD s f (pos + 1)) := rfl
          rw [e, uns_quo _ _ _ hq, i2]; rfl
        · rw [uns_quo _ _ _ hq, i3]; rfl
      rw [if_neg hq]
      by_cases hp : plainP (Utf8.decode s pos).1
      · rw [if_pos hp]
        have hb' : ¬ ((dcd ((sb s).drop pos)).1 = 65533 ∧ (dcd ((sb s).drop pos)).2 = 1) := by rw [← hd]; exact hb
        obtain ⟨l1, l2⟩ := ltr_of hne (fun b hb => sb_lt s b (List.mem_of_mem_drop hb)) hb'
        rw [← hd] at l1 l2
        refine ⟨(Utf8.decode s pos).1 :: rs, .cons l1 i1, ?_, ?_⟩
        · rw [uns_all oneN _ _ fun b hb => ?_, i2, flat_one]; · rfl
          by_cases h3 : (Utf8.decode s pos).1 < 128
          · rw [width_ascii s pos h h3, ascii_at s pos h h3] at hb
            rw [List.mem_singleton.1 hb]; omega
          · have := l2 (by omega) b hb; omega
        · rw [unsL_plain _ _ _ (by omega), i3]
          have : encN (Utf8.decode s pos).1 = sbAt s pos (Utf8.decode s pos).2 := by
            unfold encN
            rw [encL_decode s pos h hb]
            unfold sbAt sb
            rw [List.map_take, List.map_drop]
          rw [this]; rfl
      · rw [if_neg hp]
        refine ⟨hx (sbAt s pos (Utf8.decode s pos).2) ++ rs, (ltrs_ascii _ (hx_ascii _ (hlt _))).append i1, ?_, ?_⟩
        · rw [uns_hx _ _ _ (hlt _), i2]; rfl
        · rw [uns_hx _ _ _ (hlt _), i3]; rfl
    · have e : (sb s).drop pos = [] := List.drop_eq_nil_of_le (by rw [sb_len]; omega)
      exact ⟨[], by rw [showD_end s _ pos h]; exact .nil, by rw [showD_end s _ pos h, e]; rfl, by rw [e]; rfl⟩
theorem show_lets (s : ByteArray) : ∃ rs, Ltrs (showP s) rs ∧ unsL oneN (showP s) = some (sb s) ∧ unsL encN rs = some (sb s) := by
  obtain ⟨rs, h1, h2, h3⟩ := showD_lets s s.size 0 (by omega) (by omega)
  exact ⟨rs, h1, h2, h3⟩
/-- The letters of a text, as the program takes them. -/
def runesP (t : ByteArray) : List Nat := rns t.size (sb t)
/-- What the program's reading answers. -/
def unshowP (t : ByteArray) : Option ByteArray :=
  if Lib.validD t.data.toList = true then match unsL encN (runesP t) with
    | some k => if bstr (showP (bstr k)) = t then some (bstr k) else none
    | none => none
  else none
/-- What the document's reading answers. -/
def unshowR (t : ByteArray) : Option ByteArray :=
  match unsL oneN (sb t) with
    | some k => if bstr (showP (bstr k)) = t then some (bstr k) else none
    | none => none
theorem bstr_inj {a b : List Nat} (ha : ∀ x ∈ a, x < 256) (hb : ∀ x ∈ b, x < 256) (h : bstr a = bstr b) : a = b := by
  have := congrArg sb h
  rwa [sb_bstr a ha, sb_bstr b hb] at this
theorem showP_lt (s : ByteArray) : ∀ x ∈ showP s, x < 256 := by
  have : ∀ f pos, ∀ x ∈ showD s f pos, x < 256 := by
    intro f
    induction f with
    | zero => intro pos x hx; cases hx
    | succ f ih =>
      intro pos x hx
      unfold showD at hx
      split at hx
      · rcases List.mem_append.1 hx with h | h
        · have hlt : ∀ n, ∀ b ∈ sbAt s pos n, b < 256 := fun n b hb => sb_lt s b (List.mem_of_mem_drop (List.mem_of_mem_take hb))
          unfold tokD at h
          split at h
          · have := hx_ascii _ (hlt 1) x h; omega
          · split at h
            · rcases List.mem_cons.1 h with e | e
              · omega
              · exact hlt _ x e
            · split at h
              · exact hlt _ x h
              · have := hx_ascii _ (hlt _) x h; omega
        · exact ih _ x h
      · cases hx
  exact this _ _
/-- Both readings of what a key is shown as answer the key. -/
theorem unshow_show (k : ByteArray) : unshowP (bstr (showP k)) = some k ∧ unshowR (bstr (showP k)) = some k := by
  obtain ⟨rs, h1, h2, h3⟩ := show_lets k
  have hs : sb (bstr (showP k)) = showP k := sb_bstr _ (showP_lt k)
  have hz : (bstr (showP k)).size = (showP k).length := by rw [← sb_len, hs]
  have hk : bstr (sb k) = k := bstr_sb k
  constructor
  · unfold unshowP runesP
    have hv : Lib.validD (bstr (showP k)).data.toList = true := by
      have := vld_ltrs h1 (bstr (showP k)) 0 (by rw [hs]; rfl)
      simpa using this
    rw [if_pos hv, hs, hz, rns_ltrs h1 _ (Nat.le_refl _), h3]
    simp only [hk, if_true]
  · unfold unshowR
    rw [hs, h2]
    simp only [hk, if_true]
/-- Both readings answer the same. -/
theorem unshow_same (t : ByteArray) : unshowP t = unshowR t := by
  cases hp : unshowP t with
  | some k =>
    have e : bstr (showP k) = t := by
      unfold unshowP at hp
      split at hp
      · split at hp
        · split at hp
          · rename_i h; injection hp with hp; rw [← hp]; exact h
          · cases hp
        · cases hp
      · cases hp
    rw [← e, (unshow_show k).2]
  | none =>
    cases hr : unshowR t with
    | none => rfl
    | some k =>
      have e : bstr (showP k) = t := by
        unfold unshowR at hr
        split at hr
        · split at hr
          · rename_i h; injection hr with hr; rw [← hr]; exact h
          · cases hr
        · cases hr
      rw [← e, (unshow_show k).1] at hp
      cases hp
end Go.Proofs.YtbcmjjcbjojakaaDoor
