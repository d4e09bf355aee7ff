/- Put together of: UnsT UnsW. -/
import Derived.Test.YtbcmjjcbjojakaaDoorUnsU
section
namespace Go.Proofs.YtbcmjjcbjojakaaDoor
open Go.RowKit
set_option linter.unusedVariables false
/-- Letters that may stand in a shown key; sl: a backslash stands ahead. -/
def okL : Bool → List Nat → Prop
  | _, [] => True
  | sl, r :: rs => (32 ≤ r ∧ ¬ (127 ≤ r ∧ r < 160) ∧ (r = 34 → sl = true)) ∧ okL (decide (r = 92) && !sl) rs
theorem dgt_r {x : Nat} (h : x < 16) : 48 ≤ dgt x ∧ dgt x ≤ 102 ∧ dgt x ≠ 92 := by unfold dgt; split <;> omega
theorem okL_hx : ∀ (l rs : List Nat), (∀ b ∈ l, b < 256) → okL false rs → okL false (hx l ++ rs)
  | [], rs, _, h => h
  | b :: l, rs, hl, h => by
    have hb := hl b (List.mem_cons_self ..)
    have e : hx (b :: l) ++ rs = 92 :: 120 :: dgt (b / 16) :: dgt (b % 16) :: (hx l ++ rs) := by simp [hx]
    have d1 := dgt_r (x := b / 16) (by omega)
    have d2 := dgt_r (x := b % 16) (by omega)
    have ih := okL_hx l rs (fun x hx => hl x (List.mem_cons_of_mem _ hx)) h
    rw [e]
    refine ⟨⟨by omega, by omega, by omega⟩, ⟨by omega, by omega, by omega⟩, ⟨by omega, by omega, by omega⟩, ⟨by omega, by omega, by omega⟩, ?_⟩
    have e1 : decide (dgt (b % 16) = 92) = false := decide_eq_false d2.2.2
    rw [e1]; exact ih
theorem okL_quo (c : Nat) (rs : List Nat) (hc : c = 34 ∨ c = 92) (h : okL false rs) : okL false (92 :: c :: rs) := by
  rcases hc with rfl | rfl
  · exact ⟨⟨by omega, by omega, by omega⟩, ⟨by omega, by omega, fun _ => rfl⟩, h⟩
  · exact ⟨⟨by omega, by omega, by omega⟩, ⟨by omega, by omega, by omega⟩, h⟩
theorem okL_plain (r : Nat) (rs : List Nat) (hp : plainP r) (h1 : r ≠ 34) (h2 : r ≠ 92) (h : okL false rs) : okL false (r :: rs) := by
  unfold plainP at hp
  refine ⟨⟨by omega, by omega, fun e => absurd e h1⟩, ?_⟩
  rw [decide_eq_false h2]; exact h
theorem showD_plain (s : ByteArray) : ∀ f pos, pos ≤ s.size → s.size ≤ f + pos → ∃ rs, Ltrs (showD s f pos) rs ∧ okL false rs
  | 0, pos, h1, h2 => ⟨[], by rw [showD_end s 0 pos (by omega)]; exact .nil, trivial⟩
  | f + 1, pos, h1, h2 => by
    by_cases h : pos < s.size
    · have hwl := width_le s pos h
      have hw := width_pos s pos h
      obtain ⟨rs, i1, i2⟩ := showD_plain s f (pos + (Utf8.decode s pos).2) hwl (by omega)
      have hlt : ∀ n, ∀ b ∈ sbAt s pos n, b < 256 := fun n b hb => sb_lt s b (List.mem_of_mem_drop (List.mem_of_mem_take hb))
      have hne : (sb s).drop pos ≠ [] := by
        intro h0; have := congrArg List.length h0; rw [List.length_drop, sb_len] at this; simp at this; omega
      have hd := decode_dcd s pos h
      unfold showD
      rw [if_pos h]
      unfold tokD
      by_cases hb : bad s pos
      · rw [if_pos hb]
        exact ⟨hx (sbAt s pos 1) ++ rs, (ltrs_ascii _ (hx_ascii _ (hlt 1))).append i1, okL_hx _ _ (hlt 1) i2⟩
      rw [if_neg hb]
      by_cases hq : (Utf8.decode s pos).1 = 34 ∨ (Utf8.decode s pos).1 = 92
      · have ha := ascii_at s pos h (by omega)
        rw [if_pos hq, ha]
        exact ⟨92 :: (Utf8.decode s pos).1 :: rs, (ltrs_ascii [92, (Utf8.decode s pos).1] (by intro b hb; simp at hb; omega)).append i1, okL_quo _ _ hq i2⟩
      rw [if_neg hq]
      by_cases hp : plainP (Utf8.decode s pos).1
      · rw [if_pos hp]
        have hb' : ¬ ((dcd ((sb s).drop pos)).1 = 65533 ∧ (dcd ((sb s).drop pos)).2 = 1) := by rw [← hd]; exact hb
        obtain ⟨l1, _⟩ := ltr_of hne (fun b hb => sb_lt s b (List.mem_of_mem_drop hb)) hb'
        rw [← hd] at l1
        exact ⟨(Utf8.decode s pos).1 :: rs, .cons l1 i1, okL_plain _ _ hp (fun e => hq (.inl e)) (fun e => hq (.inr e)) i2⟩
      · rw [if_neg hp]
        exact ⟨hx (sbAt s pos (Utf8.decode s pos).2) ++ rs, (ltrs_ascii _ (hx_ascii _ (hlt _))).append i1, okL_hx _ _ (hlt _) i2⟩
    · exact ⟨[], by rw [showD_end s _ pos h]; exact .nil, trivial⟩
theorem show_plain (s : ByteArray) : ∃ rs, Ltrs (sb (bstr (showP s))) rs ∧ okL false rs := by
  obtain ⟨rs, h1, h2⟩ := showD_plain s s.size 0 (by omega) (by omega)
  exact ⟨rs, by rw [sb_bstr _ (showP_lt s)]; exact h1, h2⟩
/-- How long a letter is. -/
def wid (r : Nat) : Nat := if 65536 ≤ r then 4 else if 2048 ≤ r then 3 else if 128 ≤ r then 2 else 1
theorem ltr_at {t : ByteArray} {pos r : Nat} {rs : List Nat} (h : pos < t.size) (hl : Ltrs ((sb t).drop pos) (r :: rs)) : Utf8.decode t pos = (r, wid r) ∧ ¬ bad t pos ∧ pos + wid r ≤ t.size ∧ r ≤ 1114111 ∧ Ltrs ((sb t).drop (pos + wid r)) rs := by
  generalize hg : (sb t).drop pos = L at hl
  cases hl with
  | @cons u _ l' _ h1 h2 =>
    have hd : Utf8.decode t pos = (r, u.length) := by rw [decode_dcd t pos h, hg, h1.2.1]
    have hnb : ¬ bad t pos := by unfold bad; rw [hd]; exact h1.2.2
    have hrl := runeLen_at t pos h hnb
    have hw : u.length = wid r ∧ r ≤ 1114111 := by
      rw [hd] at hrl
      simp only at hrl
      have h0 : 0 < u.length := List.length_pos_iff.2 h1.1
      unfold Lib.runeLen at hrl
      unfold wid
      repeat' split at hrl
      all_goals (repeat' split)
      all_goals omega
    have hz := congrArg List.length hg
    rw [List.length_drop, sb_len, List.length_append] at hz
    refine ⟨by rw [hd, hw.1], hnb, by have := hw.1; omega, hw.2, ?_⟩
    rw [← hw.1, ← List.drop_drop, hg, List.drop_left]; exact h2
end Go.Proofs.YtbcmjjcbjojakaaDoor
end
section
namespace Go.Proofs.YtbcmjjcbjojakaaDoor
open Go.RowKit
set_option linter.unusedVariables false
set_option linter.unusedSimpArgs false
theorem unshowP_some {t k : ByteArray} (h : unshowP t = some k) : bstr (showP k) = t := by
  unfold unshowP at h
  split at h
  · split at h
    · split at h
      · rename_i h1; injection h with h; rw [← h]; exact h1
      · cases h
    · cases h
  · cases h
set_option maxRecDepth 20000 in
set_option maxHeartbeats 8000000 in
theorem plainText_any (w : World) (t : ByteArray) (rs : List Nat) (hr : Ltrs (sb t) rs) (hok : okL false rs) (ht : t.size ≤ 70368744177664) : Calls Tryd.prog 8 #[.string t] w fun e w' => e = .returned (.bool true) ∧ Below w.heap.size w w' := by
  have HR := Hd.mk (And.intro hr hok)
  clear hr hok
  go_enter Tryd.func8, Tryd.ntmps8
  go_wp2_with fail
  go_loopw [3, 4] (fun u3 u4 wr => ∃ (pos : Nat) (sl : Bool) (rs : List Nat), u3 = .int .i64 (pos : Int) ∧ u4 = .bool sl ∧ wr.heap[w.heap.size]? = some (.stringIter t pos) ∧ Hd (Below w.heap.size w wr) ∧ pos ≤ t.size ∧ Hd (Ltrs ((sb t).drop pos) rs ∧ okL sl rs)) (fun _ _ wr => t.size - wr.iterPos w.heap.size)
  case atStart => exact ⟨0, false, rs, rfl, rfl, World.iter_heap w t 0, ⟨(Below.refl _ _).alloc (Nat.le_refl _) _⟩, by omega, ⟨HR.out⟩⟩
  case round =>
    obtain ⟨pos, sl, rs1, rfl, rfl, hit, HB, hp1, HL⟩ := hrel
    by_cases hp : pos < t.size
    · obtain ⟨r, rs2, rfl⟩ : ∃ r rs2, rs1 = r :: rs2 := by
        obtain ⟨hl, _⟩ := HL.out
        cases rs1 with
        | nil =>
          generalize hg : (sb t).drop pos = L at hl
          cases hl
          have := congrArg List.length hg
          rw [List.length_drop, sb_len] at this; simp at this; omega
        | cons r rs2 => exact ⟨r, rs2, rfl⟩
      obtain ⟨hd, hnb, hwl, hr1, hl2⟩ := ltr_at hp HL.out.1
      obtain ⟨⟨o1, o2, o3⟩, o4⟩ := HL.out.2
      have hnx : ∀ ty, (Instr.next (.pointer (some ⟨w.heap.size, 0, none⟩)) true ty).run Tryd.prog wr = _ := fun ty => Lib.run_next_any_at wr w.heap.size t pos ty hit hp
      rw [hd] at hnx
      obtain ⟨N, hN⟩ : ∃ N, wid r = N := ⟨_, rfl⟩
      rw [hN] at hnx hwl hl2
      have hN1 : 1 ≤ N := by rw [← hN]; unfold wid; (repeat' split) <;> omega
      obtain ⟨W1, hW1⟩ : ∃ W1, wr.iterAt w.heap.size t (pos + N) = W1 := ⟨_, rfl⟩
      have HM : Hd (wr.iterPos w.heap.size = pos) := ⟨by unfold World.iterPos; rw [hit]⟩
      have H1 : Hd (W1.heap[w.heap.size]? = some (.stringIter t (pos + N)) ∧ Below w.heap.size w W1) := by
        rw [← hW1]
        exact ⟨Lib.iterAt_heap wr w.heap.size t pos (pos + N) hit, Lib.below_iterAt HB.out (k := w.heap.size) (Nat.le_refl _) t (pos + N)⟩
      simp only [hW1] at hnx
      have HE : Hd (∀ (i : Int) (sl2 : Bool), i = (pos : Int) + (N : Int) → sl2 = (decide (r = 92) && !sl) → (∃ (pos : Nat) (sl : Bool) (rs : List Nat), Value.int .i64 i = .int .i64 (pos : Int) ∧ Value.bool sl2 = .bool sl ∧ W1.heap[w.heap.size]? = some (.stringIter t pos) ∧ Hd (Below w.heap.size w W1) ∧ pos ≤ t.size ∧ Hd (Ltrs ((sb t).drop pos) rs ∧ okL sl rs)) ∧ t.size - W1.iterPos w.heap.size < t.size - wr.iterPos w.heap.size) := ⟨fun i sl2 hi hs => by
        refine ⟨⟨pos + N, sl2, rs2, by rw [hi]; rfl, rfl, H1.out.1, ⟨H1.out.2⟩, hwl, ⟨hl2, by rw [hs]; exact o4⟩⟩, ?_⟩
        rw [HM.out]; unfold World.iterPos; rw [H1.out.1]; show t.size - (pos + N) < t.size - pos; omega⟩
      have HF : Hd (r = 65533 → pos + 3 ≤ t.size ∧ t.extract pos (pos + 3) = ⟨#[239, 191, 189]⟩) := ⟨fun h => by
        have h3 : N = 3 := by rw [← hN, h]; rfl
        have h4 : pos + 3 ≤ t.size := by omega
        refine ⟨h4, ?_⟩
        rw [(enc_at t pos hp (by rw [hd]; exact h) h4).2 hnb]; decide⟩
      have hkk : ((pos : Int)).toNat = pos := by omega
      have hk3 : ((pos : Int) + 3).toNat = pos + 3 := by omega
      obtain ⟨RI, hRI⟩ : ∃ RI : Int, (r : Int) = RI := ⟨_, rfl⟩
      simp only [hRI] at hnx
      have hw : N = if 65536 ≤ r then 4 else if 2048 ≤ r then 3 else if 128 ≤ r then 2 else 1 := hN.symm
      have e32 : ¬ RI < 32 := by omega
      have hrg : 0 ≤ RI ∧ RI ≤ 1114111 := by omega
      clear hW1 hl2 o4 hN hd hnb HL hit
      by_cases qA : r = 34
      · skip
        have hn : N = 1 := by rw [hw]; (repeat' split) <;> omega
        subst hn
        have hsl : sl = true := o3 qA
        subst hsl
        have b34 : (RI == 34) = true := by simp; omega
        have b92 : (RI == 92) = false := beq_eq_false_iff_ne.2 (by omega)
        have bFF : (RI == 65533) = false := beq_eq_false_iff_ne.2 (by omega)
        have e127 : ¬ 127 ≤ RI := by omega
        have w4 : ¬ 65536 ≤ RI := by omega
        have w3 : ¬ 2048 ≤ RI := by omega
        have w2 : ¬ 128 ≤ RI := by omega
        have HG := Hd.mk (HE.out ((pos : Int) + 1) (false) rfl (by simp; try omega))
        clear HE HF o1 o2 o3 hw hRI qA
        go_wp2_with fail
        go_roundw
        case rel => exact HG.out.1
        case measure => exact HG.out.2
      by_cases qB : r = 92
      · skip
        have hn : N = 1 := by rw [hw]; (repeat' split) <;> omega
        subst hn
        have b34 : (RI == 34) = false := beq_eq_false_iff_ne.2 (by omega)
        have b92 : (RI == 92) = true := by simp; omega
        have bFF : (RI == 65533) = false := beq_eq_false_iff_ne.2 (by omega)
        have e127 : ¬ 127 ≤ RI := by omega
        have w4 : ¬ 65536 ≤ RI := by omega
        have w3 : ¬ 2048 ≤ RI := by omega
        have w2 : ¬ 128 ≤ RI := by omega
        have HG := Hd.mk (HE.out ((pos : Int) + 1) (!sl) rfl (by simp; try omega))
        clear HE HF o1 o2 o3 hw hRI qA qB
        rcases sl with _ | _
        · skip
          go_wp2_with fail
          go_roundw
          case rel => exact HG.out.1
          case measure => exact HG.out.2
        · skip
          go_wp2_with fail
          go_roundw
          case rel => exact HG.out.1
          case measure => exact HG.out.2
      by_cases qC : r < 127
      · skip
        have hn : N = 1 := by rw [hw]; (repeat' split) <;> omega
        subst hn
        have b34 : (RI == 34) = false := beq_eq_false_iff_ne.2 (by omega)
        have b92 : (RI == 92) = false := beq_eq_false_iff_ne.2 (by omega)
        have bFF : (RI == 65533) = false := beq_eq_false_iff_ne.2 (by omega)
        have e127 : ¬ 127 ≤ RI := by omega
        have w4 : ¬ 65536 ≤ RI := by omega
        have w3 : ¬ 2048 ≤ RI := by omega
        have w2 : ¬ 128 ≤ RI := by omega
        have HG := Hd.mk (HE.out ((pos : Int) + 1) (false) rfl (by simp; try omega))
        clear HE HF o1 o2 o3 hw hRI qA qB qC
        go_wp2_with fail
        go_roundw
        case rel => exact HG.out.1
        case measure => exact HG.out.2
      by_cases qD : r < 2048
      · skip
        have hn : N = 2 := by rw [hw]; (repeat' split) <;> omega
        subst hn
        have b34 : (RI == 34) = false := beq_eq_false_iff_ne.2 (by omega)
        have b92 : (RI == 92) = false := beq_eq_false_iff_ne.2 (by omega)
        have bFF : (RI == 65533) = false := beq_eq_false_iff_ne.2 (by omega)
        have e127 : 127 ≤ RI := by omega
        have e160 : ¬ RI < 160 := by omega
        have w4 : ¬ 65536 ≤ RI := by omega
        have w3 : ¬ 2048 ≤ RI := by omega
        have w2 : 128 ≤ RI := by omega
        have HG := Hd.mk (HE.out ((pos : Int) + 2) (false) rfl (by simp; try omega))
        clear HE HF o1 o2 o3 hw hRI qA qB qC qD
        go_wp2_with fail
        go_roundw
        case rel => exact HG.out.1
        case measure => exact HG.out.2
      by_cases qF : r = 65533
      · skip
        have hn : N = 3 := by rw [hw]; (repeat' split) <;> omega
        subst hn
        have b34 : (RI == 34) = false := beq_eq_false_iff_ne.2 (by omega)
        have b92 : (RI == 92) = false := beq_eq_false_iff_ne.2 (by omega)
        have bFF : (RI == 65533) = true := by simp; omega
        have e127 : 127 ≤ RI := by omega
        have e160 : ¬ RI < 160 := by omega
        have w4 : ¬ 65536 ≤ RI := by omega
        have w3 : 2048 ≤ RI := by omega
        obtain ⟨f3, fe⟩ := HF.out qF
        have f3i : ¬ (t.size : Int) < (pos : Int) + 3 := by omega
        have f3n : (pos : Int) + 3 ≤ (t.size : Int) := by omega
        have fq : ((t.extract pos (pos + 3)).toList == [239, 191, 189]) = true := by rw [fe]; decide +kernel
        clear fe
        have HG := Hd.mk (HE.out ((pos : Int) + 3) (false) rfl (by simp; try omega))
        clear HE HF o1 o2 o3 hw hRI qA qB qC qD qF
        go_wp2_with fail
        go_roundw
        case rel => exact HG.out.1
        case measure => exact HG.out.2
      by_cases qE : r < 65536
      · skip
        have hn : N = 3 := by rw [hw]; (repeat' split) <;> omega
        subst hn
        have b34 : (RI == 34) = false := beq_eq_false_iff_ne.2 (by omega)
        have b92 : (RI == 92) = false := beq_eq_false_iff_ne.2 (by omega)
        have bFF : (RI == 65533) = false := beq_eq_false_iff_ne.2 (by omega)
        have e127 : 127 ≤ RI := by omega
        have e160 : ¬ RI < 160 := by omega
        have w4 : ¬ 65536 ≤ RI := by omega
        have w3 : 2048 ≤ RI := by omega
        have HG := Hd.mk (HE.out ((pos : Int) + 3) (false) rfl (by simp; try omega))
        clear HE HF o1 o2 o3 hw hRI qA qB qC qD qF qE
        go_wp2_with fail
        go_roundw
        case rel => exact HG.out.1
        case measure => exact HG.out.2
      have hn : N = 4 := by rw [hw]; (repeat' split) <;> omega
      subst hn
      have b34 : (RI == 34) = false := beq_eq_false_iff_ne.2 (by omega)
      have b92 : (RI == 92) = false := beq_eq_false_iff_ne.2 (by omega)
      have bFF : (RI == 65533) = false := beq_eq_false_iff_ne.2 (by omega)
      have e127 : 127 ≤ RI := by omega
      have e160 : ¬ RI < 160 := by omega
      have w4 : 65536 ≤ RI := by omega
      have HG := Hd.mk (HE.out ((pos : Int) + 4) (false) rfl (by simp; try omega))
      clear HE HF o1 o2 o3 hw hRI qA qB qC qD qF qE
      go_wp2_with fail
      go_roundw
      case rel => exact HG.out.1
      case measure => exact HG.out.2
    · have hpe : pos = t.size := by omega
      have hnx : ∀ ty, (Instr.next (.pointer (some ⟨w.heap.size, 0, none⟩)) true ty).run Tryd.prog wr = _ := fun ty => Lib.run_next_end_at wr w.heap.size t pos ty hit hp
      have hpi : ((pos : Int) == (t.size : Int)) = true := by rw [hpe]; simp
      clear hit HL hp hpe
      go_wp2_with fail
      go_ret
      exact ⟨rfl, HB.out⟩
theorem unshowP_le {t k : ByteArray} (h : unshowP t = some k) : k.size ≤ 4 * t.size := by
  unfold unshowP at h
  split at h
  · split at h
    · rename_i l hl
      split at h
      · injection h with h
        rw [← h, bstr_size]
        have h1 : ∀ f rs l, unsD encN f rs = some l → l.length ≤ 4 * rs.length := by
          intro f
          induction f with
          | zero => intro rs l h; simp [unsD] at h; rw [h]; simp
          | succ f ih =>
            intro rs l h
            cases rs with
            | nil => simp [unsD] at h; rw [h]; simp
            | cons x r =>
              unfold unsD at h
              split at h
              · cases hu : unsD encN f r with
                | none => rw [hu] at h; cases h
                | some y =>
                  rw [hu] at h
                  simp only [Option.map_some, Option.some.injEq] at h
                  have := ih r y hu
                  have := encN_len x
                  rw [← h, List.length_append, List.length_cons]; omega
              · cases he : escF r with
                | none => rw [he] at h; cases h
                | some p =>
                  obtain ⟨b, n⟩ := p
                  rw [he] at h
                  simp only at h
                  cases hu : unsD encN f (r.drop n) with
                  | none => rw [hu] at h; cases h
                  | some y =>
                    rw [hu] at h
                    simp only [Option.map_some, Option.some.injEq] at h
                    have := ih _ y hu
                    rw [List.length_drop] at this
                    rw [← h, List.length_cons, List.length_cons]; omega
        have h2 := h1 _ _ _ hl
        have h3 : (runesP t).length ≤ t.size := rns_len _ _
        omega
      · cases h
    · cases h
  · cases h
set_option maxRecDepth 20000 in
set_option maxHeartbeats 8000000 in
theorem shown_walk (HAW : ∀ W, Calls Tryd.prog 5 #[] W fun e w' => e = .returned (.bool true) ∧ Below W.heap.size W w') (w : World) (a b : ByteArray) (ha : a.size ≤ 1048576) (hb : b.size ≤ 1048576) (hT : Lib.Utf8Tabs (Tryd.lays196_ren.g 3) (Tryd.lays196_ren.g 4) w) : Calls Tryd.prog 3 #[.string a, .string b] w fun e w' => e = .returned (.bool true) ∧ Below w.heap.size w w' := by
  have HT := Hd.mk hT
  have HAW := Hd.mk HAW
  clear hT
  go_enter Tryd.func3, Tryd.ntmps3
  go_wp2_with fail
  refine (HAW.out w).mono ?_
  rintro e w1 ⟨rfl, hb1⟩
  have HB1 := Hd.mk hb1
  clear hb1
  go_wp2_with fail
  refine (show_any w1 a (by omega)).mono ?_
  obtain ⟨S, hS⟩ : ∃ S, bstr (showP a) = S := ⟨_, rfl⟩
  rw [hS]
  have hSz : S.size ≤ 4194304 := by
    rw [← hS, bstr_size]
    have : (showP a).length ≤ 4 * (a.size - 0) := showD_le a _ _
    omega
  rintro e w2 ⟨rfl, hb2⟩
  have HB2 : Hd (Below w.heap.size w w2) := ⟨HB1.out.trans (hb2.mono HB1.out.size)⟩
  have HS := Hd.mk hS
  clear hb2 hS
  go_wp2_with fail
  have hU := unshow_any w2 S (by omega) (Utf8Tabs_below HT.out HB2.out)
  refine hU.mono ?_
  rintro e w3 ⟨hE, hb3⟩
  have HB3 : Hd (Below w.heap.size w w3) := ⟨HB2.out.trans (hb3.mono HB2.out.size)⟩
  have hE2 : e = .returned (.tuple #[.string a, .bool true]) := by
    have h1 := (unshow_show a).1
    rw [HS.out] at h1
    rcases hE with ⟨k, hk, he⟩ | ⟨hk, _⟩
    · rw [h1] at hk; injection hk with hk; rw [hk]; exact he
    · rw [h1] at hk; cases hk
  subst hE2
  have hqa : (a.toList == a.toList) = true := by simp
  obtain ⟨rs, hl, hok⟩ := show_plain a
  rw [HS.out] at hl
  have HPT := Hd.mk (plainText_any w3 S rs hl hok (by omega))
  clear hb3 hU hE hl hok
  go_wp2_with fail
  refine HPT.out.mono ?_
  rintro e w4 ⟨rfl, hb4⟩
  have HB4 : Hd (Below w.heap.size w w4) := ⟨HB3.out.trans (hb4.mono HB3.out.size)⟩
  clear hb4
  by_cases hab : a = b
  · have hqb : (a.toList == b.toList) = true := by rw [hab]; simp
    obtain ⟨w5, hw5⟩ : ∃ U, w4 = U := ⟨_, rfl⟩
    have HB5 := HB4
    rw [hw5] at HB5 ⊢
    clear hab hw5
    go_wp2_with fail
    have hU3 := unshow_any w5 b (by omega) (Utf8Tabs_below HT.out HB5.out)
    refine hU3.mono ?_
    rintro e w6 ⟨hE2, hb6⟩
    have HB6 : Hd (Below w.heap.size w w6) := ⟨HB5.out.trans (hb6.mono HB5.out.size)⟩
    clear hb6 hU3
    rcases hE2 with ⟨k2, hk2, rfl⟩ | ⟨hk2, rfl⟩
    · have hz := unshowP_some hk2
      have hq3 : ((bstr (showP k2)).toList == b.toList) = true := by rw [hz]; simp
      have hks : k2.size ≤ 35184372088832 := Nat.le_trans (unshowP_le hk2) (by omega)
      obtain ⟨S3, hS3⟩ : ∃ S, bstr (showP k2) = S := ⟨_, rfl⟩
      rw [hS3] at hq3
      have HS3 := Hd.mk hS3
      clear hz hk2 hS3
      go_wp2_with fail
      refine (show_any w6 k2 hks).mono ?_
      rw [HS3.out]
      rintro e w7 ⟨rfl, hb7⟩
      have HB7 : Hd (Below w.heap.size w w7) := ⟨HB6.out.trans (hb7.mono HB6.out.size)⟩
      clear hb7
      go_wp2_with fail
      go_ret
      exact ⟨rfl, HB7.out⟩
    · go_wp2_with fail
      go_ret
      exact ⟨rfl, HB6.out⟩
  · have hqb : (a.toList == b.toList) = false := by rw [str_beqU]; exact decide_eq_false hab
    go_wp2_with fail
    refine (show_any w4 b (by omega)).mono ?_
    obtain ⟨S2, hS2⟩ : ∃ S, bstr (showP b) = S := ⟨_, rfl⟩
    rw [hS2]
    have hne : (S2.toList == S.toList) = false := by
      rw [str_beqU]
      refine decide_eq_false fun e => hab ?_
      have h1 := (unshow_show a).1
      have h2 := (unshow_show b).1
      rw [HS.out] at h1
      rw [hS2, e, h1] at h2
      injection h2
    rintro e w5 ⟨rfl, hb5⟩
    have HB5 : Hd (Below w.heap.size w w5) := ⟨HB4.out.trans (hb5.mono HB4.out.size)⟩
    clear hb5 hab hS2
    go_wp2_with fail
    have hU3 := unshow_any w5 b (by omega) (Utf8Tabs_below HT.out HB5.out)
    refine hU3.mono ?_
    rintro e w6 ⟨hE2, hb6⟩
    have HB6 : Hd (Below w.heap.size w w6) := ⟨HB5.out.trans (hb6.mono HB5.out.size)⟩
    clear hb6 hU3
    rcases hE2 with ⟨k2, hk2, rfl⟩ | ⟨hk2, rfl⟩
    · have hz := unshowP_some hk2
      have hq3 : ((bstr (showP k2)).toList == b.toList) = true := by rw [hz]; simp
      have hks : k2.size ≤ 35184372088832 := Nat.le_trans (unshowP_le hk2) (by omega)
      obtain ⟨S3, hS3⟩ : ∃ S, bstr (showP k2) = S := ⟨_, rfl⟩
      rw [hS3] at hq3
      have HS3 := Hd.mk hS3
      clear hz hk2 hS3
      go_wp2_with fail
      refine (show_any w6 k2 hks).mono ?_
      rw [HS3.out]
      rintro e w7 ⟨rfl, hb7⟩
      have HB7 : Hd (Below w.heap.size w w7) := ⟨HB6.out.trans (hb7.mono HB6.out.size)⟩
      clear hb7
      go_wp2_with fail
      go_ret
      exact ⟨rfl, HB7.out⟩
    · go_wp2_with fail
      go_ret
      exact ⟨rfl, HB6.out⟩
end Go.Proofs.YtbcmjjcbjojakaaDoor
end
