
/- The reference's told and Show. -/
import Derived.Test.YtbcmjjcbjojakaaDoorShowD
import Derived.Lib.RuneCountTail
namespace Go.Proofs.YtbcmjjcbjojakaaDoor
open Go.RowKit
set_option linter.unusedVariables false
theorem bstr_app (a b : List Nat) : bstr a ++ bstr b = bstr (a ++ b) := by
  apply ByteArray.ext
  apply Array.toList_inj.1
  have h : (bstr a ++ bstr b).data.toList = (bstr a).data.toList ++ (bstr b).data.toList := by rw [ByteArray.data_append, Array.toList_append]
  rw [h, bstr_data, bstr_data, bstr_data, List.map_append]
theorem bstr_size (a : List Nat) : (bstr a).size = a.length := by
  have : (bstr a).data.toList.length = a.length := by rw [bstr_data, List.length_map]
  rw [Array.length_toList] at this; exact this
theorem bstr_sb (s : ByteArray) : bstr (sb s) = s := by
  apply ByteArray.ext
  apply Array.toList_inj.1
  rw [bstr_data]; unfold sb; rw [List.map_map]
  have : (UInt8.ofNat ∘ UInt8.toNat) = id := by funext x; simp
  rw [this, List.map_id]
theorem add_run (a b : List Nat) (h : a.length + b.length ≤ 9223372036854775807) (w : World) : (Op.stringOp .add (bstr a) (bstr b)).run Tryd.prog w = .ok (.string (bstr (a ++ b))) w := by
  rw [run_string_add_sum w _ _ (by rw [bstr_size, bstr_size]; exact h), bstr_app]
theorem digs_cut (k : Nat) (h : k < 16) : (⟨#[48, 49, 50, 51, 52, 53, 54, 55, 56, 57, 97, 98, 99, 100, 101, 102]⟩ : ByteArray).extract k (k + 1) = bstr [dgt k] := by
  have : ∀ k : Fin 16, (⟨#[48, 49, 50, 51, 52, 53, 54, 55, 56, 57, 97, 98, 99, 100, 101, 102]⟩ : ByteArray).extract k.1 (k.1 + 1) = bstr [dgt k.1] := by decide +kernel
  exact this ⟨k, h⟩
theorem cut_run (z y : Int) (k : Nat) (h : z = (k : Int)) (h2 : y = (k : Int) + 1) (hk : k < 16) (w : World) : (Instr.slice 9 (.string ⟨#[48, 49, 50, 51, 52, 53, 54, 55, 56, 57, 97, 98, 99, 100, 101, 102]⟩) (some (.int .u8 z)) (some (.int .u8 y)) none).run Tryd.prog w = .ok (.string (bstr [dgt k])) w := by
  subst h h2
  rw [run_slice_string w 9 _ _ _ _ _ infoStr (by omega) (by omega) (by show (k : Int) + 1 ≤ 16; omega)]
  rw [show ((k : Int)).toNat = k by omega, show ((k : Int) + 1).toNat = k + 1 by omega, digs_cut k hk]
set_option maxHeartbeats 2000000 in
set_option maxRecDepth 100000 in
theorem told_any (w : World) (s : ByteArray) (hs : s.size ≤ 140737488355328) :
    Calls Tryd.prog 35 #[.string s] w fun e w' => e = .returned (.string (bstr (hx (sb s)))) ∧ Below w.heap.size w w' := by
  have hl := sb_len s
  have e0 : bstr [] = ⟨#[]⟩ := by decide +kernel
  have e92 : bstr [92, 120] = ⟨#[92, 120]⟩ := by decide +kernel
  go_enter Tryd.func35, Tryd.ntmps35
  go_wp2_with fail
  go_loopw [3, 4] (fun o i wr => ∃ k : Nat, k ≤ s.size ∧ i = .int .i64 k ∧ o = .string (bstr (hx ((sb s).take k))) ∧ Hd (Below w.heap.size w wr)) (fun _ i _ => s.size - (intOf i).toNat)
  case atStart => exact ⟨0, by omega, rfl, by simp [hx]; exact e0.symm, ⟨Below.refl _ _⟩⟩
  case round =>
    obtain ⟨k, hk, rfl, rfl, HB⟩ := hrel
    by_cases hlt : k < s.size
    · obtain ⟨x, hx1⟩ : ∃ x, (s[k]'hlt).toNat = x := ⟨_, rfl⟩
      have hx2 : x < 256 := by rw [← hx1]; exact (s[k]'hlt).toNat_lt
      have hI : ∀ W, (Instr.index 9 (.string s) (.int .i64 (k : Int))).run Tryd.prog W = .ok (.int .u8 (x : Int)) W := fun W => by
        rw [run_index_string W 9 _ _ _ infoStr, dif_pos ⟨by omega, by omega⟩]
        simp only [Int.toNat_natCast, hx1]
      have hT := hx_take (sb s) k x ((sb_get s k hlt).trans (by rw [hx1]))
      have hL : (hx ((sb s).take k)).length ≤ 4 * s.size := by rw [hx_len, List.length_take]; omega
      have d1 := cut_run ((x : Int) / 16) ((x : Int) / 16 + 1) (x / 16) (by omega) (by omega) (by omega)
      have d2 := cut_run ((x : Int) % 16) ((x : Int) % 16 + 1) (x % 16) (by omega) (by omega) (by omega)
      obtain ⟨L, hLL⟩ : ∃ L, hx ((sb s).take k) = L := ⟨_, rfl⟩
      rw [hLL] at hT hL ⊢
      have c1 := add_run L [92, 120] (by simp; omega)
      have c2 := add_run (L ++ [92, 120]) [dgt (x / 16)] (by simp; omega)
      have c3 := add_run (L ++ [92, 120] ++ [dgt (x / 16)]) [dgt (x % 16)] (by simp; omega)
      rw [e92] at c1
      obtain ⟨S0, h0⟩ : ∃ S0, bstr L = S0 := ⟨_, rfl⟩
      obtain ⟨S1, h1⟩ : ∃ S1, bstr (L ++ [92, 120]) = S1 := ⟨_, rfl⟩
      obtain ⟨S2, h2⟩ : ∃ S2, bstr (L ++ [92, 120] ++ [dgt (x / 16)]) = S2 := ⟨_, rfl⟩
      obtain ⟨S3, h3⟩ : ∃ S3, bstr (L ++ [92, 120] ++ [dgt (x / 16)] ++ [dgt (x % 16)]) = S3 := ⟨_, rfl⟩
      obtain ⟨D1, h4⟩ : ∃ D1, bstr [dgt (x / 16)] = D1 := ⟨_, rfl⟩
      obtain ⟨D2, h5⟩ : ∃ D2, bstr [dgt (x % 16)] = D2 := ⟨_, rfl⟩
      have HN : Hd (bstr (hx ((sb s).take (k + 1))) = S3) := ⟨by rw [hT, ← h3]; congr 1; simp⟩
      rw [h0, h1] at c1
      rw [h1, h4, h2] at c2
      rw [h2, h5, h3] at c3
      rw [h4] at d1
      rw [h5] at d2
      rw [h0]
      clear h0 h1 h2 h3 h4 h5 hT hL hLL hx1 e92 e0
      go_wp2_with fail
      go_quiet (fail)
      go_wp2_with fail
      go_roundw
      case rel => exact ⟨k + 1, by omega, by go_num, by rw [HN.out], ⟨below_drewN HB.out _⟩⟩
      case measure => simp [intOf]; omega
    · have HT : Hd (bstr (hx ((sb s).take k)) = bstr (hx (sb s))) := ⟨by rw [List.take_of_length_le (by omega)]⟩
      rw [HT.out]
      go_wp2_with fail
      go_ret
      exact ⟨rfl, HB.out⟩
theorem letR_at (s : ByteArray) (pos : Nat) (h : pos < s.size) : letR (s.extract pos s.size) = if bad s pos then (0, 0) else Utf8.decode s pos := by
  have e : Utf8.decode (s.extract pos s.size) 0 = Utf8.decode s pos := Lib.tail_decode s pos 0
  unfold letR
  by_cases hb : bad s pos
  · rw [if_pos hb, if_pos (show bad (s.extract pos s.size) 0 by unfold bad; rw [e]; exact hb)]
  · rw [if_neg hb, if_neg (show ¬ bad (s.extract pos s.size) 0 by unfold bad; rw [e]; exact hb), e]
theorem cut_bstr (s : ByteArray) (pos k : Nat) : s.extract pos (pos + k) = bstr (sbAt s pos k) := by
  rw [← bstr_sb (s.extract pos (pos + k)), sb_extract, show pos + k - pos = k by omega]
set_option maxHeartbeats 4000000 in
set_option maxRecDepth 100000 in
theorem refShow_any (w : World) (s : ByteArray) (hs : s.size ≤ 35184372088832) :
    Calls Tryd.prog 22 #[.string s] w fun e w' => e = .returned (.string (bstr (showP s))) ∧ Below w.heap.size w w' := by
  have e0 : bstr [] = ⟨#[]⟩ := by decide +kernel
  have E92 : Hd (bstr [92] = ⟨#[92]⟩) := ⟨by decide +kernel⟩
  go_enter Tryd.func22, Tryd.ntmps22
  go_wp2_with fail
  go_loopw [3, 4] (fun o i wr => ∃ (pos : Nat) (acc : List Nat), pos ≤ s.size ∧ i = .int .i64 pos ∧ o = .string (bstr acc) ∧ acc.length ≤ 4 * pos ∧ Hd (acc ++ showD s s.size pos = showP s) ∧ Hd (Below w.heap.size w wr)) (fun _ i _ => s.size - (intOf i).toNat)
  case atStart => exact ⟨0, [], by omega, rfl, by rw [e0], by simp, ⟨rfl⟩, ⟨Below.refl _ _⟩⟩
  case round =>
    obtain ⟨pos, acc, hp1, rfl, rfl, hac, HS, HB⟩ := hrel
    by_cases hp : pos < s.size
    · obtain ⟨R, N, hR, hN, n1, n2, r1, HW⟩ := tok_ways s pos hp
      have hst := showD_step s pos hp
      rw [hN] at hst
      have HE : Hd (∀ tok : List Nat, tokD s pos = tok → tok.length ≤ 4 * N → ∀ i : Int, i = (pos : Int) + (N : Int) → ∀ w2, Below w.heap.size w w2 → ∀ S, S = bstr (acc ++ tok) → (∃ (pos : Nat) (acc : List Nat), pos ≤ s.size ∧ Value.int .i64 i = .int .i64 pos ∧ Value.string S = .string (bstr acc) ∧ acc.length ≤ 4 * pos ∧ Hd (acc ++ showD s s.size pos = showP s) ∧ Hd (Below w.heap.size w w2))) := ⟨fun tok ht hl i hi w2 hb S hS => by
        refine ⟨pos + N, acc ++ tok, n2, by rw [hi]; rfl, by rw [hS], by rw [List.length_append]; omega, ⟨?_⟩, ⟨hb⟩⟩
        rw [← HS.out, hst, ht, List.append_assoc]⟩
      have hb1 : ∀ w2, Below wr.heap.size wr w2 → Below w.heap.size w w2 := fun w2 h => HB.out.trans (h.mono HB.out.size)
      have HB1 := Hd.mk hb1
      have hL := letR_at s pos hp
      have hkk : ((pos : Int)).toNat = pos := by omega
      have hk1 : ((pos : Int) + 1).toNat = pos + 1 := by omega
      have hkN : ((pos : Int) + (N : Int)).toNat = pos + N := by omega
      have hl1 := sbAt_le s pos 1
      have hlN := sbAt_le s pos N
      have hx1 := hx_len (sbAt s pos 1)
      have hxN := hx_len (sbAt s pos N)
      have hzt : (s.extract pos s.size).size = s.size - pos := by rw [ByteArray.size_extract]; omega
      have hT1 : Hd (∀ W, Calls Tryd.prog 35 #[.string (s.extract pos (pos + 1))] W fun e w' => e = .returned (.string (bstr (hx (sbAt s pos 1)))) ∧ Below W.heap.size W w') := ⟨fun W => (told_any W _ (by rw [size_extract s pos 1 (by omega)]; omega)).mono fun e w' h => by rwa [sb_extract, show pos + 1 - pos = 1 by omega] at h⟩
      have hTN : Hd (∀ W, Calls Tryd.prog 35 #[.string (s.extract pos (pos + N))] W fun e w' => e = .returned (.string (bstr (hx (sbAt s pos N)))) ∧ Below W.heap.size W w') := ⟨fun W => (told_any W _ (by rw [size_extract s pos N n2]; omega)).mono fun e w' h => by rwa [sb_extract, show pos + N - pos = N by omega] at h⟩
      have hLT := fun W => letter_any W (s.extract pos s.size) (by rw [hzt]; omega) (by rw [hzt]; omega)
      have HC1 := Hd.mk (cut_bstr s pos 1)
      have HCN := Hd.mk (cut_bstr s pos N)
      clear hst hb1 HS HB
      rcases HW with ⟨q1, q2, q3, q4, q5⟩ | ⟨q3, q6, HW⟩
      · rw [if_pos (show bad s pos from ⟨hR.trans q1, hN.trans q2⟩)] at hL
        rw [hL] at hLT
        have c1 := add_run acc (hx (sbAt s pos 1)) (by omega)
        obtain ⟨S0, h0⟩ : ∃ S0, bstr acc = S0 := ⟨_, rfl⟩
        obtain ⟨S1, h1⟩ : ∃ S1, bstr (hx (sbAt s pos 1)) = S1 := ⟨_, rfl⟩
        obtain ⟨S2, h2⟩ : ∃ S2, bstr (acc ++ hx (sbAt s pos 1)) = S2 := ⟨_, rfl⟩
        rw [h0, h1, h2] at c1
        rw [h1] at hT1
        rw [h0]
        have HG := Hd.mk (fun w2 hw => HE.out _ q4 (by omega) ((pos : Int) + 1) (by omega) w2 hw S2 h2.symm)
        clear HE q3 q4 q5 hL hTN h0 h1 h2 HC1 HCN hxN hlN hx1 hl1
        go_wp2_with (go_at_call 34; refine (hLT _).mono ?_; rintro e z ⟨rfl, rfl⟩)
        refine (hT1.out _).mono ?_
        rintro e w2 ⟨rfl, hb⟩
        have HB2 := Hd.mk hb
        clear hb
        go_wp2_with fail
        go_roundw
        case rel => exact HG.out _ (HB1.out _ HB2.out)
        case measure => simp [intOf]; omega
      · have hnb : ¬ bad s pos := fun hb => by
          have a1 : R = 65533 := hR.symm.trans hb.1
          have a2 : N = 1 := hN.symm.trans hb.2
          rw [a1, a2] at q3; exact absurd q3 (by decide)
        rw [if_neg hnb] at hL
        have hL2 : letR (s.extract pos s.size) = (R, N) := by rw [hL, ← hR, ← hN]
        rw [hL2] at hLT
        obtain ⟨RI, hRI⟩ : ∃ RI : Int, (R : Int) = RI := ⟨_, rfl⟩
        simp only [hRI] at hLT
        clear hL hL2 hnb q3 q6
        rcases HW with ⟨hq, q4⟩ | ⟨a1, a2, a3, q4, q8⟩ | ⟨a1, a2, a3, q4⟩
        · have hR2 : RI = 34 ∨ RI = 92 := by omega
          have hs1 : sbAt s pos 1 = [R] := by rw [← hR]; exact ascii_at s pos hp (by omega)
          have c1 := add_run acc [92] (by simp; omega)
          have c2 := add_run (acc ++ [92]) (sbAt s pos 1) (by rw [hs1]; simp; omega)
          rw [E92.out] at c1
          rw [← HC1.out] at c2
          obtain ⟨S0, h0⟩ : ∃ S0, bstr acc = S0 := ⟨_, rfl⟩
          obtain ⟨S1, h1⟩ : ∃ S1, bstr (acc ++ [92]) = S1 := ⟨_, rfl⟩
          obtain ⟨S2, h2⟩ : ∃ S2, bstr (acc ++ [92] ++ sbAt s pos 1) = S2 := ⟨_, rfl⟩
          rw [h0, h1] at c1
          rw [h1, h2] at c2
          rw [h0]
          have HG := Hd.mk (fun w2 hw => HE.out _ q4 (by simp; omega) ((pos : Int) + (N : Int)) rfl w2 hw S2 (by rw [← h2, hs1]; congr 1; simp))
          clear HE q4 hT1 hTN h0 h1 h2 HC1 HCN hxN hlN hx1 hl1 hq hs1
          rcases hR2 with rfl | rfl
          · go_wp2_with (go_at_call 34; refine (hLT _).mono ?_; rintro e z ⟨rfl, rfl⟩)
            go_roundw
            case rel => exact HG.out _ (HB1.out _ (Below.refl _ _))
            case measure => simp [intOf]; omega
          · go_wp2_with (go_at_call 34; refine (hLT _).mono ?_; rintro e z ⟨rfl, rfl⟩)
            go_roundw
            case rel => exact HG.out _ (HB1.out _ (Below.refl _ _))
            case measure => simp [intOf]; omega
        · have c1 := add_run acc (sbAt s pos N) (by omega)
          rw [← HCN.out] at c1
          obtain ⟨S0, h0⟩ : ∃ S0, bstr acc = S0 := ⟨_, rfl⟩
          obtain ⟨S2, h2⟩ : ∃ S2, bstr (acc ++ sbAt s pos N) = S2 := ⟨_, rfl⟩
          rw [h0, h2] at c1
          rw [h0]
          have HG := Hd.mk (fun w2 hw => HE.out _ q4 (by omega) ((pos : Int) + (N : Int)) rfl w2 hw S2 h2.symm)
          have b0 : RI ≠ 0 ∧ N ≠ 0 := ⟨by unfold plainP at a3; omega, by omega⟩
          have b1 : (RI == 34) = false := beq_eq_false_iff_ne.2 (by omega)
          have b2 : (RI == 92) = false := beq_eq_false_iff_ne.2 (by omega)
          have a4 : 32 ≤ RI ∧ RI ≤ 126 ∨ 160 ≤ RI := by unfold plainP at a3; omega
          clear HE q4 q8 hT1 hTN h0 h2 HC1 HCN hxN hlN hx1 hl1 a3
          by_cases g1 : 160 ≤ RI
          · go_wp2_with (go_at_call 34; refine (hLT _).mono ?_; rintro e z ⟨rfl, rfl⟩)
            go_roundw
            case rel => exact HG.out _ (HB1.out _ (Below.refl _ _))
            case measure => simp [intOf]; omega
          · have g2 : 32 ≤ RI := by omega
            have g3 : RI ≤ 126 := by omega
            go_wp2_with (go_at_call 34; refine (hLT _).mono ?_; rintro e z ⟨rfl, rfl⟩)
            go_roundw
            case rel => exact HG.out _ (HB1.out _ (Below.refl _ _))
            case measure => simp [intOf]; omega
        · have c1 := add_run acc (hx (sbAt s pos N)) (by omega)
          obtain ⟨S0, h0⟩ : ∃ S0, bstr acc = S0 := ⟨_, rfl⟩
          obtain ⟨S1, h1⟩ : ∃ S1, bstr (hx (sbAt s pos N)) = S1 := ⟨_, rfl⟩
          obtain ⟨S2, h2⟩ : ∃ S2, bstr (acc ++ hx (sbAt s pos N)) = S2 := ⟨_, rfl⟩
          rw [h0, h1, h2] at c1
          rw [h1] at hTN
          rw [h0]
          have HG := Hd.mk (fun w2 hw => HE.out _ q4 (by omega) ((pos : Int) + (N : Int)) rfl w2 hw S2 h2.symm)
          have b1 : (RI == 34) = false := beq_eq_false_iff_ne.2 (by omega)
          have b2 : (RI == 92) = false := beq_eq_false_iff_ne.2 (by omega)
          have a4 : ¬ (32 ≤ RI ∧ RI ≤ 126) := by unfold plainP at a3; omega
          have a5 : RI < 160 := by unfold plainP at a3; omega
          have b3 : ((N : Int) == 0) = false := beq_eq_false_iff_ne.2 (by omega)
          clear HE q4 hT1 h0 h1 h2 HC1 HCN hxN hlN hx1 hl1 a3
          by_cases g2 : 32 ≤ RI
          · have g3 : 126 < RI := by omega
            go_wp2_with (go_at_call 34; refine (hLT _).mono ?_; rintro e z ⟨rfl, rfl⟩)
            refine (hTN.out _).mono ?_
            rintro e w2 ⟨rfl, hb⟩
            have HB2 := Hd.mk hb
            clear hb
            go_wp2_with fail
            go_roundw
            case rel => exact HG.out _ (HB1.out _ HB2.out)
            case measure => simp [intOf]; omega
          · go_wp2_with (go_at_call 34; refine (hLT _).mono ?_; rintro e z ⟨rfl, rfl⟩)
            refine (hTN.out _).mono ?_
            rintro e w2 ⟨rfl, hb⟩
            have HB2 := Hd.mk hb
            clear hb
            go_wp2_with fail
            go_roundw
            case rel => exact HG.out _ (HB1.out _ HB2.out)
            case measure => simp [intOf]; omega
    · have hpe : Hd (bstr acc = bstr (showP s)) := ⟨by rw [← HS.out, showD_end s s.size pos hp, List.append_nil]⟩
      rw [hpe.out]
      go_wp2_with fail
      go_ret
      exact ⟨rfl, HB.out⟩
end Go.Proofs.YtbcmjjcbjojakaaDoor
