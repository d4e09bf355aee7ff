
/- The program's Show. -/
import Derived.Test.YtbcmjjcbjojakaaDoorShowA
namespace Go.Proofs.YtbcmjjcbjojakaaDoor
open Go.RowKit
set_option linter.unusedVariables false
theorem sb_extract (s : ByteArray) (i j : Nat) : sb (s.extract i j) = sbAt s i (j - i) := by
  unfold sbAt sb
  have h : (s.extract i j).data.toList = (s.data.toList.drop i).take (j - i) := by
    rw [ByteArray.data_extract, Array.toList_extract]
  rw [h, List.map_take, List.map_drop]
theorem str_beq (a b : ByteArray) : (a.toList == b.toList) = decide (a = b) := by
  rw [Bool.eq_iff_iff]
  simp only [beq_iff_eq, decide_eq_true_eq]
  constructor
  · intro h
    rw [ByteArray.toList_eq, ByteArray.toList_eq] at h
    exact ByteArray.ext (Array.toList_inj.1 h)
  · intro h; rw [h]
theorem iter_ownF {w : World} {base e n k : Nat} {v : Value} {xs : List Value} {s : ByteArray} {p q : Nat} (h : w.ownsRowF base e 1 v n xs) (hk : w.heap[k]? = some (.stringIter s p)) : (w.iterAt k s q).ownsRowF base e 1 v n xs := by
  refine ⟨h.1, ?_⟩
  rcases h.2 with h2 | ⟨g, cap, cur, fz, hv, hb, hg, rest⟩
  · exact .inl h2
  · refine .inr ⟨g, cap, cur, fz, hv, hb, ?_, rest⟩
    rw [Lib.iterAt_other w k g s q (fun e => by subst e; rw [hk] at hg; cases hg)]
    exact hg
theorem size_extract (s : ByteArray) (i k : Nat) (h : i + k ≤ s.size) : (s.extract i (i + k)).size = k := by
  rw [ByteArray.size_extract]; omega
theorem showD_step (s : ByteArray) (pos : Nat) (h : pos < s.size) : showD s s.size pos = tokD s pos ++ showD s s.size (pos + (Utf8.decode s pos).2) := by
  have := width_pos s pos h
  obtain ⟨f, hf⟩ : ∃ f, s.size = f + 1 := ⟨s.size - 1, by omega⟩
  conv => lhs; rw [hf]; unfold showD; rw [if_pos h]
  rw [showD_fuel s f s.size _ (by omega) (by omega)]
theorem ownF_rd {w : World} {base e n : Nat} {v : Value} {xs : List Value} (h : w.ownsRowF base e 1 v n xs) : ∃ A c, v = .slice A n c ∧ Rd w w.heap.size A n xs := by
  rcases h.2 with ⟨hv, h0⟩ | ⟨g, cap, cur, fz, hv, hb, hg, hf, hnc, hm, hcs, htake⟩
  · subst h0
    have hx : xs = [] := List.eq_nil_of_length_eq_zero (by have := h.1; omega)
    exact ⟨none, 0, hv, by rw [hx]; exact Rd.nil⟩
  · refine ⟨_, cap, hv, by have := h.1; omega, fun hn => ⟨g, 0, rfl, (Array.getElem?_eq_some_iff.1 hg).1, fun i hi => ?_⟩⟩
    rw [cell_of_row w g (0 + i) cur e fz hg, ← htake, List.getElem?_take, if_pos (by omega)]
    simp
/-- The ways of a round. -/
theorem tok_ways (s : ByteArray) (pos : Nat) (h : pos < s.size) : ∃ R N : Nat, (Utf8.decode s pos).1 = R ∧ (Utf8.decode s pos).2 = N ∧ 1 ≤ N ∧ pos + N ≤ s.size ∧ R ≤ 1114111 ∧
    ((R = 65533 ∧ N = 1 ∧ Lib.runeLen (R : Int) = 3 ∧ tokD s pos = hx (sbAt s pos 1) ∧ (pos + 3 ≤ s.size → ¬ s.extract pos (pos + 3) = Utf8.encode 65533)) ∨
     (Lib.runeLen (R : Int) = (N : Int) ∧ (R = 65533 → N = 3 ∧ s.extract pos (pos + 3) = Utf8.encode 65533) ∧
       (((R = 34 ∨ R = 92) ∧ tokD s pos = [92, R]) ∨ (R ≠ 34 ∧ R ≠ 92 ∧ plainP R ∧ tokD s pos = sbAt s pos N ∧ Lib.runeCells (R : Int) = cb (sbAt s pos N)) ∨ (R ≠ 34 ∧ R ≠ 92 ∧ ¬ plainP R ∧ tokD s pos = hx (sbAt s pos N))))) := by
  have hle := width_le s pos h
  have hmax : (Utf8.decode s pos).1 ≤ 1114111 := by
    have lt : (sb s).getD pos 0 < 256 := by
      rw [List.getD_eq_getElem?_getD]
      cases e : (sb s)[pos]? with
      | none => simp
      | some x => exact sb_lt s x (List.mem_of_getElem? e)
    rw [dec_nums s pos h]; exact Lib.decodeN_rune_le _ _ _ _ _ lt
  refine ⟨_, _, rfl, rfl, width_pos s pos h, hle, hmax, ?_⟩
  by_cases hb : bad s pos
  · left
    have hb' := hb
    unfold bad at hb'
    refine ⟨hb'.1, hb'.2, by rw [hb'.1]; decide, by unfold tokD; rw [if_pos hb], fun h3 e => (enc_at s pos h hb'.1 h3).1 e hb⟩
  · right
    refine ⟨runeLen_at s pos h hb, fun h1 => ?_, ?_⟩
    · have h3 := good_65533 s pos h hb h1
      exact ⟨h3, (enc_at s pos h h1 (by omega)).2 hb⟩
    · by_cases hq : (Utf8.decode s pos).1 = 34 ∨ (Utf8.decode s pos).1 = 92
      · left
        refine ⟨hq, ?_⟩
        unfold tokD
        rw [if_neg hb, if_pos hq, ascii_at s pos h (by omega)]
      · right
        by_cases hp : plainP (Utf8.decode s pos).1
        · left; exact ⟨fun e => hq (.inl e), fun e => hq (.inr e), hp, by unfold tokD; rw [if_neg hb, if_neg hq, if_pos hp], runeCells_at s pos h hb⟩
        · right; exact ⟨fun e => hq (.inl e), fun e => hq (.inr e), hp, by unfold tokD; rw [if_neg hb, if_neg hq, if_neg hp]⟩
set_option maxHeartbeats 4000000 in
set_option maxRecDepth 1000000 in
theorem show_any (w : World) (s : ByteArray) (hs : s.size ≤ 35184372088832) :
    Calls Tryd.prog 6 #[.string s] w fun e w' => e = .returned (.string (bstr (showP s))) ∧ Below w.heap.size w w' := by
  go_enter Tryd.func6, Tryd.ntmps6
  go_wp2_with fail
  go_loopw [3] (fun a wr => ∃ (pos : Nat) (acc : List Nat), wr.ownsRowF w.heap.size 5 1 a acc.length (cb acc) ∧ wr.heap[w.heap.size]? = some (.stringIter s pos) ∧ Below w.heap.size w wr ∧ pos ≤ s.size ∧ acc.length ≤ 4 * pos ∧ acc ++ showD s s.size pos = showP s) (fun _ wr => s.size - wr.iterPos w.heap.size)
  case atStart => exact ⟨0, [], World.ownsRowF_nil _ _ _ _, World.iter_heap w s 0, (Below.refl _ _).alloc (Nat.le_refl _) _, by omega, by simp, rfl⟩
  case round =>
    obtain ⟨pos, acc, ho, hit, bel, hp1, hac, hsh⟩ := hrel
    by_cases hp : pos < s.size
    · obtain ⟨R, N, hR, hN, n1, n2, r1, HW⟩ := tok_ways s pos hp
      have hnx : ∀ ty, (Instr.next (.pointer (some ⟨w.heap.size, 0, none⟩)) true ty).run Tryd.prog wr = _ := fun ty => Lib.run_next_any_at wr w.heap.size s pos ty hit hp
      rw [hR, hN] at hnx
      have hst := showD_step s pos hp
      rw [hN] at hst
      obtain ⟨W1, hW1⟩ : ∃ W1, wr.iterAt w.heap.size s (pos + N) = W1 := ⟨_, rfl⟩
      have HM : Hd (wr.iterPos w.heap.size = pos) := ⟨by unfold World.iterPos; rw [hit]⟩
      have HB : Hd (w.heap.size ≤ W1.heap.size) := ⟨by rw [← hW1, Lib.iterAt_size]; exact bel.size⟩
      have H1 : Hd (W1.ownsRowF w.heap.size 5 1 u3 acc.length (cb acc) ∧ W1.heap[w.heap.size]? = some (.stringIter s (pos + N)) ∧ Below w.heap.size w W1) := by
        rw [← hW1]
        exact ⟨iter_ownF ho hit, Lib.iterAt_heap wr w.heap.size s pos (pos + N) hit, Lib.below_iterAt bel (k := w.heap.size) (Nat.le_refl _) s (pos + N)⟩
      rw [hW1] at hnx
      clear hW1
      have HE : Hd (∀ v2 w2 (tok : List Nat), tokD s pos = tok → tok.length ≤ 4 * N → w2.ownsRowF w.heap.size 5 1 v2 (acc.length + tok.length) (cb acc ++ cb tok) → Below w.heap.size W1 w2 → Lib.OthersKept 5 none W1 w2 →
          (∃ (pos : Nat) (acc : List Nat), w2.ownsRowF w.heap.size 5 1 v2 acc.length (cb acc) ∧ w2.heap[w.heap.size]? = some (.stringIter s pos) ∧ Below w.heap.size w w2 ∧ pos ≤ s.size ∧ acc.length ≤ 4 * pos ∧ acc ++ showD s s.size pos = showP s) ∧ s.size - w2.iterPos w.heap.size < s.size - wr.iterPos w.heap.size) := ⟨fun v2 w2 tok ht hl ho2 hb2 hk2 => by
        have hi2 : w2.heap[w.heap.size]? = some (.stringIter s (pos + N)) := hk2 _ _ H1.out.2.1 (by simp) (fun _ _ e => by cases e)
        refine ⟨⟨pos + N, acc ++ tok, by rw [List.length_append, cb_append]; exact ho2, hi2, H1.out.2.2.trans hb2, n2, by rw [List.length_append]; omega, by rw [← hsh, hst, ht, List.append_assoc]⟩, ?_⟩
        rw [HM.out]; unfold World.iterPos; rw [hi2]; show s.size - (pos + N) < s.size - pos; omega⟩
      clear ho hit bel hst hR hN HM
      have hsh' := Hd.mk hsh
      clear hsh
      have hkk : ((pos : Int)).toNat = pos := by omega
      have hk1 : ((pos : Int) + 1).toNat = pos + 1 := by omega
      have hkN : ((pos : Int) + (N : Int)).toNat = pos + N := by omega
      have hk3 : ((pos : Int) + 3).toNat = pos + 3 := by omega
      have hz1 := size_extract s pos 1 (by omega)
      have hzN := size_extract s pos N (by omega)
      have he1 : sb (s.extract pos (pos + 1)) = sbAt s pos 1 := by rw [sb_extract]; congr 1; omega
      have heN : sb (s.extract pos (pos + N)) = sbAt s pos N := by rw [sb_extract]; congr 1; omega
      have hlN : (sbAt s pos N).length = N := by rw [← heN, sb_len, hzN]
      have HX1 : Hd (∀ W, W = W1 → Calls Tryd.prog 16 #[u3, .string (s.extract pos (pos + 1))] W fun e w' => ∃ v', e = .returned v' ∧ Hd (w'.ownsRowF w.heap.size 5 1 v' (acc.length + (hx (sbAt s pos 1)).length) (cb acc ++ cb (hx (sbAt s pos 1))) ∧ Below w.heap.size W1 w' ∧ Lib.OthersKept 5 none W1 w')) := ⟨fun W hW => by
        subst hW
        exact (hex_any W w.heap.size u3 acc.length (cb acc) _ H1.out.1 HB.out (by rw [hz1]; omega)).mono fun e w' ⟨v', h1, h2, h3, h4⟩ => ⟨v', h1, by rw [he1, hz1] at h2; rw [hx_len, ← he1, sb_len, hz1, he1]; exact h2, h3, h4⟩⟩
      have HXN : Hd (∀ W, W = W1 → Calls Tryd.prog 16 #[u3, .string (s.extract pos (pos + N))] W fun e w' => ∃ v', e = .returned v' ∧ Hd (w'.ownsRowF w.heap.size 5 1 v' (acc.length + (hx (sbAt s pos N)).length) (cb acc ++ cb (hx (sbAt s pos N))) ∧ Below w.heap.size W1 w' ∧ Lib.OthersKept 5 none W1 w')) := ⟨fun W hW => by
        subst hW
        exact (hex_any W w.heap.size u3 acc.length (cb acc) _ H1.out.1 HB.out (by rw [hzN]; omega)).mono fun e w' ⟨v', h1, h2, h3, h4⟩ => ⟨v', h1, by rw [heN, hzN] at h2; rw [hx_len, hlN]; exact h2, h3, h4⟩⟩
      obtain ⟨RI, hRI⟩ : ∃ RI : Int, (R : Int) = RI := ⟨_, rfl⟩
      rw [hRI] at hnx HW
      have HPL : Hd (∀ W, Calls Tryd.prog 17 #[.int .i32 RI] W fun e w' => e = .returned (.bool (decide (plainP R))) ∧ w' = W) := ⟨fun W => by rw [← hRI]; exact plain_any W R r1⟩
      have r2 : 0 ≤ RI := by omega
      have r3 : RI ≤ 1114111 := by omega
      rcases HW with ⟨q1, q2, q3, q4, q5⟩ | ⟨q3, q6, HW⟩
      · have hRL : ∀ W, Calls Tryd.prog 15 #[.int .i32 RI] W fun e w' => e = .returned (.int .i64 3) ∧ w' = W := fun W => (Tryd.utf8_RuneLen _ W).mono (fun e w' h => by rw [q3] at h; exact h)
        have q7 : RI = 65533 := by omega
        subst q7
        have HQ4 := Hd.mk q4
        have hl1 : (sbAt s pos 1).length = 1 := by rw [← he1, sb_len, hz1]
        clear q3 q4 he1 heN hz1 hzN hlN
        by_cases h3 : pos + 3 ≤ s.size
        · have hne : ((s.extract pos (pos + 3)).toList == (Utf8.encode 65533).toList) = false := by rw [str_beq]; exact decide_eq_false (q5 h3)
          clear q5
          go_wp2_with (go_at_call 15; refine (hRL _).mono ?_; rintro e z ⟨rfl, rfl⟩)
          refine (HX1.out _ rfl).mono ?_
          rintro e w2 ⟨v2, rfl, H2⟩
          go_wp2_with fail
          go_roundw
          case rel => exact (HE.out _ _ _ HQ4.out (by rw [hx_len]; omega) H2.out.1 H2.out.2.1 H2.out.2.2).1
          case measure => exact (HE.out _ _ _ HQ4.out (by rw [hx_len]; omega) H2.out.1 H2.out.2.1 H2.out.2.2).2
        · go_wp2_with (go_at_call 15; refine (hRL _).mono ?_; rintro e z ⟨rfl, rfl⟩)
          refine (HX1.out _ rfl).mono ?_
          rintro e w2 ⟨v2, rfl, H2⟩
          go_wp2_with fail
          go_roundw
          case rel => exact (HE.out _ _ _ HQ4.out (by rw [hx_len]; omega) H2.out.1 H2.out.2.1 H2.out.2.2).1
          case measure => exact (HE.out _ _ _ HQ4.out (by rw [hx_len]; omega) H2.out.1 H2.out.2.1 H2.out.2.2).2
      · have hRL : ∀ W, Calls Tryd.prog 15 #[.int .i32 RI] W fun e w' => e = .returned (.int .i64 (N : Int)) ∧ w' = W := fun W => (Tryd.utf8_RuneLen _ W).mono (fun e w' h => by rw [q3] at h; exact h)
        clear q3 he1 heN hz1 hzN
        have HL1 := Hd.mk hlN
        clear hlN
        rcases HW with ⟨hq, q4⟩ | ⟨a1, a2, a3, q4, q8⟩ | ⟨a1, a2, a3, q4⟩
        · have HQ4 := Hd.mk q4
          clear q4 q6
          have hR2 : RI = 34 ∨ RI = 92 := by omega
          have h63 : Hd (acc.length + 2 ≤ maxLen) := ⟨by unfold maxLen; omega⟩
          have hby : Hd ((acc.length + 2) * 1 ≤ 140737488355328) := ⟨by omega⟩
          have HG : Hd (∀ v2 w2, w2.ownsRowF w.heap.size 5 1 v2 (acc.length + 2) (cb acc ++ [.int .u8 92, .int .u8 RI]) → (W1.alloc (.cells #[.int .u8 92, .int .u8 RI] 5)).grownBy w2 u3.ownBlock → (∃ (pos : Nat) (acc : List Nat), w2.ownsRowF w.heap.size 5 1 v2 acc.length (cb acc) ∧ w2.heap[w.heap.size]? = some (.stringIter s pos) ∧ Below w.heap.size w w2 ∧ pos ≤ s.size ∧ acc.length ≤ 4 * pos ∧ acc ++ showD s s.size pos = showP s) ∧ s.size - w2.iterPos w.heap.size < s.size - wr.iterPos w.heap.size) := ⟨fun v2 w2 ho2 hg2 => by
            obtain ⟨g1, g2⟩ := grow_kept H1.out.1 (Below.refl w.heap.size W1) (.refl _ _ _) _ HB.out hg2
            exact HE.out _ _ _ HQ4.out (by simp; omega) (by rw [← hRI] at ho2; exact ho2) g1 g2⟩
          clear hq
          rcases hR2 with rfl | rfl
          · go_wp2_with (first
              | (go_at_call 15; refine (hRL _).mono ?_; rintro e z ⟨rfl, rfl⟩)
              | (refine wpList_appF elB rfl (.tmp 59) (.tmp 62) rfl w.heap.size u3 _ _ rfl (H1.out.1.alloc (.cells #[.int .u8 92, .int .u8 34] 5)) ⟨z.heap.size, 0, none⟩ 2 2 [.int .u8 92, .int .u8 34] rfl rfl (alloc_news _ _ _) (by intro u hu; simp only [List.mem_cons, List.not_mem_nil, or_false] at hu; rcases hu with rfl | rfl <;> rfl) h63.out hby.out (by have := HB.out; simp; omega) ?_; intro v2 w2 hO2 hG2))
            go_roundw
            case rel => exact (HG.out _ _ hO2 hG2).1
            case measure => exact (HG.out _ _ hO2 hG2).2
          · go_wp2_with (first
              | (go_at_call 15; refine (hRL _).mono ?_; rintro e z ⟨rfl, rfl⟩)
              | (refine wpList_appF elB rfl (.tmp 59) (.tmp 62) rfl w.heap.size u3 _ _ rfl (H1.out.1.alloc (.cells #[.int .u8 92, .int .u8 92] 5)) ⟨z.heap.size, 0, none⟩ 2 2 [.int .u8 92, .int .u8 92] rfl rfl (alloc_news _ _ _) (by intro u hu; simp only [List.mem_cons, List.not_mem_nil, or_false] at hu; rcases hu with rfl | rfl <;> rfl) h63.out hby.out (by have := HB.out; simp; omega) ?_; intro v2 w2 hO2 hG2))
            go_roundw
            case rel => exact (HG.out _ _ hO2 hG2).1
            case measure => exact (HG.out _ _ hO2 hG2).2
        · have HQ4 := Hd.mk q4
          have HAR : Hd (∀ W, W = W1 → Calls Tryd.prog 18 #[u3, .int .i32 RI] W fun e w' => ∃ v', e = .returned v' ∧ Hd (w'.ownsRowF w.heap.size 5 1 v' (acc.length + (sbAt s pos N).length) (cb acc ++ cb (sbAt s pos N)) ∧ Below w.heap.size W1 w' ∧ Lib.OthersKept 5 none W1 w')) := ⟨fun W hW => by
            subst hW
            refine (Tryd.utf8_AppendRune_row w.heap.size u3 acc.length (cb acc) RI (by omega) (by omega) W H1.out.1 (by omega) HB.out).mono fun e w' ⟨v', h1, h2, o, h3⟩ => ⟨v', h1, ⟨?_, grow_kept H1.out.1 (Below.refl w.heap.size W) (.refl _ _ _) o HB.out h3⟩⟩
            rw [q8, cb_length] at h2
            exact h2⟩
          have HPT : Hd (∀ W, Calls Tryd.prog 17 #[.int .i32 RI] W fun e w' => e = .returned (.bool true) ∧ w' = W) := ⟨fun W => by have := HPL.out W; rwa [decide_eq_true a3] at this⟩
          have b1 : (RI == 34) = false := beq_eq_false_iff_ne.2 (by omega)
          have b2 : (RI == 92) = false := beq_eq_false_iff_ne.2 (by omega)
          have n3 : (N : Int) ≤ (s.size : Int) - (pos : Int) := by omega
          clear q4 q8
          have hEND : Hd (∀ v2 w2, Hd (w2.ownsRowF w.heap.size 5 1 v2 (acc.length + (sbAt s pos N).length) (cb acc ++ cb (sbAt s pos N)) ∧ Below w.heap.size W1 w2 ∧ Lib.OthersKept 5 none W1 w2) → (∃ (pos : Nat) (acc : List Nat), w2.ownsRowF w.heap.size 5 1 v2 acc.length (cb acc) ∧ w2.heap[w.heap.size]? = some (.stringIter s pos) ∧ Below w.heap.size w w2 ∧ pos ≤ s.size ∧ acc.length ≤ 4 * pos ∧ acc ++ showD s s.size pos = showP s) ∧ s.size - w2.iterPos w.heap.size < s.size - wr.iterPos w.heap.size) := ⟨fun v2 w2 H => HE.out _ _ _ HQ4.out (by rw [HL1.out]; omega) H.out.1 H.out.2.1 H.out.2.2⟩
          by_cases h65 : RI = 65533
          · obtain ⟨q9, q10⟩ := q6 (by omega)
            have heq : ((s.extract pos (pos + N)).toList == (Utf8.encode 65533).toList) = true := by rw [q9, q10]; simp
            clear q6 q9 q10
            subst h65
            go_wp2_with (first
              | (go_at_call 15; refine (hRL _).mono ?_; rintro e z ⟨rfl, rfl⟩)
              | (go_at_call 17; refine (HPT.out _).mono ?_; rintro e z2 ⟨rfl, rfl⟩))
            refine (HAR.out _ rfl).mono ?_
            rintro e w2 ⟨v2, rfl, H2⟩
            go_wp2_with fail
            go_roundw
            case rel => exact (hEND.out _ _ H2).1
            case measure => exact (hEND.out _ _ H2).2
          · have h65 : (RI == 65533) = false := beq_eq_false_iff_ne.2 h65
            clear q6
            go_wp2_with (first
              | (go_at_call 15; refine (hRL _).mono ?_; rintro e z ⟨rfl, rfl⟩)
              | (go_at_call 17; refine (HPT.out _).mono ?_; rintro e z2 ⟨rfl, rfl⟩))
            refine (HAR.out _ rfl).mono ?_
            rintro e w2 ⟨v2, rfl, H2⟩
            go_wp2_with fail
            go_roundw
            case rel => exact (hEND.out _ _ H2).1
            case measure => exact (hEND.out _ _ H2).2
        · have HQ4 := Hd.mk q4
          have HPT : Hd (∀ W, Calls Tryd.prog 17 #[.int .i32 RI] W fun e w' => e = .returned (.bool false) ∧ w' = W) := ⟨fun W => by have := HPL.out W; rwa [decide_eq_false a3] at this⟩
          have b1 : (RI == 34) = false := beq_eq_false_iff_ne.2 (by omega)
          have b2 : (RI == 92) = false := beq_eq_false_iff_ne.2 (by omega)
          have h65 : (RI == 65533) = false := beq_eq_false_iff_ne.2 (by unfold plainP at a3; omega)
          have n3 : (N : Int) ≤ (s.size : Int) - (pos : Int) := by omega
          clear q4 q6 a3
          go_wp2_with (first
            | (go_at_call 15; refine (hRL _).mono ?_; rintro e z ⟨rfl, rfl⟩)
            | (go_at_call 17; refine (HPT.out _).mono ?_; rintro e z2 ⟨rfl, rfl⟩))
          refine (HXN.out _ rfl).mono ?_
          rintro e w2 ⟨v2, rfl, H2⟩
          go_wp2_with fail
          go_roundw
          case rel => exact (HE.out _ _ _ HQ4.out (by rw [hx_len, HL1.out]; omega) H2.out.1 H2.out.2.1 H2.out.2.2).1
          case measure => exact (HE.out _ _ _ HQ4.out (by rw [hx_len, HL1.out]; omega) H2.out.1 H2.out.2.1 H2.out.2.2).2
    · have hnx : ∀ ty, (Instr.next (.pointer (some ⟨w.heap.size, 0, none⟩)) true ty).run Tryd.prog wr = _ := fun ty => Lib.run_next_end_at wr w.heap.size s pos ty hit hp
      have hpe : acc = showP s := by rw [← hsh, showD_end s s.size pos hp, List.append_nil]
      obtain ⟨A, c, hv, hrd⟩ := ownF_rd ho
      subst hv
      have hcv := run_conv_str (P := Tryd.prog) 28 9 5 (by kernel_rfl) (by kernel_rfl) infoStr c (zs := acc.map Int.ofNat) (B := wr.heap.size) (A := A) (n := acc.length) (w := wr) (by have : cb acc = (acc.map Int.ofNat).map (.int .u8) := by { unfold cb; rw [List.map_map]; rfl }; rw [← this]; exact hrd)
      have HBL := Hd.mk bel
      have hb2 : strOfNums (acc.map Int.ofNat) = bstr (showP s) := by rw [← hpe]; rfl
      rw [hb2] at hcv
      clear ho hrd hit hsh hpe bel hb2
      go_wp2_with fail
      go_ret
      exact ⟨rfl, HBL.out⟩
end Go.Proofs.YtbcmjjcbjojakaaDoor
