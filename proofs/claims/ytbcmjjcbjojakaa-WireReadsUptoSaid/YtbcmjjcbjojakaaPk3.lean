/- Put together of: GoneB GoneLaw Ref FormP FormA FormR Boxes AskP TellP. -/
import Derived.Test.YtbcmjjcbjojakaaPk2
import Derived.StillTailTactics
import Derived.Deep.QuietTactic
import Derived.BigQuiet
import Derived.Laws.BitsAllLaws
import Derived.Test.YtbcmjjcbjojakaaPk1
import Derived.Deep.MidRow
import Derived.Laws.CopyOwn
import Derived.KernelRfl
section
namespace Go.Proofs.Ytbcmjjcbjojakaa
open Go.RowKit
set_option linter.unusedVariables false
theorem ci_set (L : List Nat) (j x : Nat) : (ci L).set j (.int .i64 (x : Int)) = ci (L.set j x) := by unfold ci; rw [List.map_set]
set_option maxRecDepth 100000 in
set_option maxHeartbeats 1000000 in
theorem gone_any (w : World) (A : Option Addr) (n c B : Nat) (l : List Nat) (R : Int) (hR1 : 0 ≤ R) (hR2 : R ≤ 4294967295) (hr : Rd w B A n (cb l)) (hB : B ≤ w.heap.size) (hl : ∀ x ∈ l, x < 256) (hn : n ≤ 2097152) :
  Calls Try.prog 104 #[.int .u32 R, .slice A n c] w fun e w' =>
   e = .returned (.int .u32 ((Crc.gn R.toNat l : Nat) : Int)) ∧ Below w.heap.size w w' := by
 have hll : l.length = n := by have := hr.1; rw [cb_length] at this; exact this
 have HH : Hid (Rd w B A n (cb l) ∧ B ≤ w.heap.size ∧ (∀ x ∈ l, x < 256) ∧ l.length = n) := ⟨hr, hB, hl, hll⟩
 clear hr hB hl hll
 go_enter Try.func104, Try.ntmps104
 go_wp2_with fail
 refine (bits_any w A n c B l HH.out.1 HH.out.2.1 HH.out.2.2.1 hn).mono ?_
 rintro e w1 ⟨v1, rfl, hO1⟩
 obtain ⟨A1, c1, rfl, _, _⟩ := own_form hO1.own
 have H1 := hid hO1
 clear hO1
 go_wp2_with fail
 go_loopw [5, 7] (fun s i wr => ∃ k : Nat, k ≤ 32 ∧ i = .int .i64 k ∧ Onto w wr w.heap.size 3 (.slice none 0 0) s (8 * n + k) (ci (Crc.bts l ++ List.replicate k 0))) (fun _ i _ => 32 - (intOf i).toNat)
 case atStart => exact ⟨0, by omega, rfl, by simpa using H1.out⟩
 case round =>
  obtain ⟨k, hk, rfl, hO⟩ := hrel
  have HO := hid hO
  clear hO
  by_cases hlt : k < 32
  ·have HB : Hid (w.heap.size ≤ wr.heap.size) := HO.out.size
   have h63 : Hid (8 * n + k + 1 ≤ maxLen) := by show _ ≤ _; unfold maxLen; omega
   have hby : Hid ((8 * n + k + 1) * 8 ≤ 140737488355328) := by show _ ≤ _; omega
   go_wp2_with (refine wpList_push elI rfl rfl (.tmp 22) (.const (.int .i64 0)) 23 rfl rfl rfl w.heap.size u5 _ _ _ rfl rfl rfl rfl HO.out.own h63.out hby.out HB.out ?_; intro v1 w1 hO1)
   go_roundw
   case rel =>
    refine ⟨k + 1, by omega, by go_num, ?_⟩
    rw [List.replicate_succ', ← List.append_assoc, ci_append]
    exact HO.out.trans hO1
   case measure => simp [intOf]; omega
  ·have hk32 : k = 32 := by omega
   subst hk32
   obtain ⟨g, cap, hv, hg, hgs⟩ := own_pos HO.out.own (by omega)
   subst hv
   obtain ⟨L1, hL1⟩ : ∃ L1, Crc.bts l ++ List.replicate 32 0 = L1 := ⟨_, rfl⟩
   have hbin : Crc.Bin L1 := by rw [← hL1]; exact Crc.bts_bin l
   have hlen : L1.length = 8 * n + 32 := by
    rw [← hL1, List.length_append, Crc.bts_len, List.length_replicate, HH.out.2.2.2]
   have B0 : Below w.heap.size w wr := HO.out.below (fun k h => by cases h) (Nat.le_refl _)
   have H2 : Hid (wr.ownsRow w.heap.size 3 1 (.slice (some ⟨g, 0, none⟩) (8 * n + 32) cap) (8 * n + 32) (ci L1) ∧ Below w.heap.size w wr ∧ w.heap.size ≤ g ∧ g < wr.heap.size ∧ Crc.Bin L1 ∧ L1.length = 8 * n + 32) :=
    ⟨by rw [← hL1]; exact HO.out.own, B0, hg, hgs, hbin, hlen⟩
   have HL1 : Hd _ := ⟨hL1⟩
   clear HO hL1 hbin hlen B0 hg hgs H1
   obtain ⟨W1, hW1⟩ : ∃ W1 : World, W1 = wr := ⟨_, rfl⟩
   rw [← hW1] at H2 ⊢
   clear hW1
   obtain ⟨N, hN⟩ : ∃ N, 8 * n + 32 = N := ⟨_, rfl⟩
   rw [hN] at H2 ⊢
   have N1 : 32 ≤ N := by omega
   have N2 : N ≤ 16777248 := by omega
   have HN := hid hN
   clear hN
   go_wp2_with fail
   go_loopw [8] (fun i wr => ∃ j : Nat, j ≤ 32 ∧ i = .int .i64 j ∧ wr.ownsRow w.heap.size 3 1 (.slice (some ⟨g, 0, none⟩) N cap) N (ci (Crc.rx R.toNat L1 j)) ∧ Below w.heap.size w wr ∧ g < wr.heap.size) (fun i _ => 32 - (intOf i).toNat)
   case atStart => exact ⟨0, by omega, rfl, H2.out.1, H2.out.2.1, H2.out.2.2.2.1⟩
   case round =>
    obtain ⟨j, hj, rfl, hO, hb, hgw⟩ := hrel
    have hln : (Crc.rx R.toNat L1 j).length = N := by rw [Crc.rx_len, H2.out.2.2.2.2.2]
    have hbn := Crc.rx_bin R.toNat L1 H2.out.2.2.2.2.1 j
    have HJ : Hid (wr.ownsRow w.heap.size 3 1 (.slice (some ⟨g, 0, none⟩) N cap) N (ci (Crc.rx R.toNat L1 j)) ∧ Below w.heap.size w wr ∧ g < wr.heap.size ∧ (Crc.rx R.toNat L1 j).length = N ∧ Crc.Bin (Crc.rx R.toNat L1 j)) := ⟨hO, hb, hgw, hln, hbn⟩
    clear hO hb hln hbn hgw
    by_cases hlt : j < 32
    ·have hc : wr.cell? ⟨g, j, none⟩ = some (.int .i64 (((Crc.rx R.toNat L1 j).getD j 0 : Nat) : Int)) := by
      rw [HJ.out.1.cellAt j (by omega), ci_get _ _ (by rw [HJ.out.2.2.2.1]; omega)]
     have hz : wr.frozen? ⟨g, j, none⟩ = false := HJ.out.1.frozenAt j
     have hx2 := HJ.out.2.2.2.2 j
     have HS : Hd (Crc.rx R.toNat L1 (j + 1) = (Crc.rx R.toNat L1 j).set j ((Crc.rx R.toNat L1 j).getD j 0 ^^^ R.toNat / 2 ^ j % 2)) := ⟨rfl⟩
     generalize (Crc.rx R.toNat L1 j).getD j 0 = x at *
     have y2 : R.toNat / 2 ^ j % 2 < 2 := by omega
     have e1 : bits .and .u32 (R / 2 ^ j) 1 = ((R.toNat / 2 ^ j % 2 : Nat) : Int) := by
      have hd : R / 2 ^ j = ((R.toNat / 2 ^ j : Nat) : Int) := by
       rw [Int.natCast_ediv, Int.toNat_of_nonneg hR1]; push_cast; rfl
      have hle : R.toNat / 2 ^ j ≤ R.toNat := Nat.div_le_self _ _
      rw [hd]
      clear hd
      generalize R.toNat / 2 ^ j = d at *
      rw [and1_u32 _ (by omega) (by omega)]; omega
     generalize R.toNat / 2 ^ j % 2 = y at *
     have e2 := xor01 x hx2 y y2
     generalize x ^^^ y = z at *
     have y3 : (0 : Int) ≤ (y : Int) ∧ (y : Int) ≤ 1 := by omega
     obtain ⟨X, hX⟩ : ∃ X : Int, (x : Int) = X := ⟨_, rfl⟩
     obtain ⟨Y, hY⟩ : ∃ Y : Int, (y : Int) = Y := ⟨_, rfl⟩
     rw [hX] at hc e2
     rw [hY] at e1 e2 y3
     obtain ⟨y3, y4⟩ := y3
     clear hX hY hx2 y2
     go_wp2_with fail
     go_roundw
     case rel =>
      have hs := HJ.out.1.stored j (.int .i64 (z : Int))
      rw [ci_set] at hs
      exact ⟨j + 1, by omega, by go_num, by rw [HS.out]; exact hs.1, HJ.out.2.1.setCell (p := ⟨g, j, none⟩) H2.out.2.2.1 _, by simp [World.setCell]; exact HJ.out.2.2.1⟩
     case measure => simp [intOf]; omega
    ·have hj32 : j = 32 := by omega
     subst hj32
     obtain ⟨L2, hL2⟩ : ∃ L2, Crc.rx R.toNat L1 32 = L2 := ⟨_, rfl⟩
     rw [hL2] at HJ
     have HL2 : Hd _ := ⟨hL2⟩
     clear hL2
     obtain ⟨W2, hW2⟩ : ∃ W2 : World, W2 = wr := ⟨_, rfl⟩
     rw [← hW2] at HJ ⊢
     clear hW2
     go_wp2_with fail
     refine (terms_any W2).mono ?_
     rintro e w3 ⟨v3, rfl, hO3⟩
     obtain ⟨gt, ct, hv3, hgt, hgt2⟩ := own_pos hO3.own (by omega)
     subst hv3
     have B3 : Below W2.heap.size W2 w3 := hO3.below (fun k h => by cases h) (Nat.le_refl _)
     have hne : g ≠ gt := by have := HJ.out.2.2.1; omega
     have h3 : w3.ownsRow w.heap.size 3 1 (.slice (some ⟨g, 0, none⟩) N cap) N (ci L2) := by
      refine HJ.out.1.kept hO3.2.1 (Or.inr ?_)
      simp [Value.ownBlock]
     have t3 : w3.ownsRow w.heap.size 3 1 (.slice (some ⟨gt, 0, none⟩) 18 ct) 18 (ci Crc.trm) := hO3.base_ (fun k h => by cases h) HJ.out.2.1.size
     have H3 : Hid (w3.ownsRow w.heap.size 3 1 (.slice (some ⟨g, 0, none⟩) N cap) N (ci L2) ∧ w3.ownsRow w.heap.size 3 1 (.slice (some ⟨gt, 0, none⟩) 18 ct) 18 (ci Crc.trm) ∧ Below w.heap.size w w3 ∧ g ≠ gt ∧ w.heap.size ≤ g ∧ L2.length = N ∧ Crc.Bin L2) :=
      ⟨h3, t3, HJ.out.2.1.trans (B3.mono HJ.out.2.1.size), hne, H2.out.2.2.1, HJ.out.2.2.2.1, HJ.out.2.2.2.2⟩
     have HL : Hd (Crc.rx R.toNat (Crc.bts l ++ List.replicate 32 0) 32 = L2) := ⟨by rw [HL1.out]; exact HL2.out⟩
     clear h3 t3 B3 hO3 hgt hgt2 hne HJ H2 HL2 HL1
     go_wp2_with fail
     go_loopw [10] (fun q wr => ∃ i : Nat, i ≤ 8 * n ∧ q = .int .i64 i ∧ wr.ownsRow w.heap.size 3 1 (.slice (some ⟨g, 0, none⟩) N cap) N (ci (Crc.gl L2 i)) ∧ wr.ownsRow w.heap.size 3 1 (.slice (some ⟨gt, 0, none⟩) 18 ct) 18 (ci Crc.trm) ∧ Below w.heap.size w wr) (fun q _ => 8 * n - (intOf q).toNat)
     case atStart => exact ⟨0, by omega, rfl, H3.out.1, H3.out.2.1, H3.out.2.2.1⟩
     case round =>
      obtain ⟨i, hi, rfl, hO, hT, hb⟩ := hrel
      have hln : (Crc.gl L2 i).length = N := by rw [Crc.gl_len, H3.out.2.2.2.2.2.1]
      have hbn := Crc.gl_bin L2 H3.out.2.2.2.2.2.2 i
      have HJ : Hid (wr.ownsRow w.heap.size 3 1 (.slice (some ⟨g, 0, none⟩) N cap) N (ci (Crc.gl L2 i)) ∧ wr.ownsRow w.heap.size 3 1 (.slice (some ⟨gt, 0, none⟩) 18 ct) 18 (ci Crc.trm) ∧ Below w.heap.size w wr ∧ (Crc.gl L2 i).length = N ∧ Crc.Bin (Crc.gl L2 i)) := ⟨hO, hT, hb, hln, hbn⟩
      clear hO hT hb hln hbn
      by_cases hlt : i < 8 * n
      ·have hi2 : i < N := by have := HN.out; omega
       have hc : wr.cell? ⟨g, i, none⟩ = some (.int .i64 (((Crc.gl L2 i).getD i 0 : Nat) : Int)) := by
        rw [HJ.out.1.cellAt i (by omega), ci_get _ _ (by rw [HJ.out.2.2.2.1]; omega)]
       have hlt' : (i : Int) < 8 * (n : Int) := by omega
       by_cases hx1 : (Crc.gl L2 i).getD i 0 = 1
       ·rw [hx1] at hc
        have HG : Hd (Crc.gl L2 (i + 1) = Crc.tg (Crc.gl L2 i) i 18) := ⟨by simp only [Crc.gl]; rw [if_pos hx1]⟩
        clear hx1
        obtain ⟨wo, hwo⟩ : ∃ wo : World, wo = wr := ⟨_, rfl⟩
        rw [← hwo] at HJ hc ⊢
        clear hwo
        go_wp2_with fail
        clear hc
        go_loopw [11] (fun q wr => ∃ k : Nat, k ≤ 18 ∧ q = .int .i64 k ∧ wr.ownsRow w.heap.size 3 1 (.slice (some ⟨g, 0, none⟩) N cap) N (ci (Crc.tg (Crc.gl L2 i) i k)) ∧ wr.ownsRow w.heap.size 3 1 (.slice (some ⟨gt, 0, none⟩) 18 ct) 18 (ci Crc.trm) ∧ Below w.heap.size w wr) (fun q _ => 18 - (intOf q).toNat)
        case atStart => exact ⟨0, by omega, rfl, HJ.out.1, HJ.out.2.1, HJ.out.2.2.1⟩
        case round =>
         obtain ⟨k, hk, rfl, hO, hT, hb⟩ := hrel
         have hln : (Crc.tg (Crc.gl L2 i) i k).length = N := by rw [Crc.tg_len, HJ.out.2.2.2.1]
         have hbn := Crc.tg_bin (Crc.gl L2 i) i HJ.out.2.2.2.2 k
         by_cases hk18 : k < 18
         ·have htk := Crc.trm_le k hk18
          have hct : wr.cell? ⟨gt, k, none⟩ = some (.int .i64 ((Crc.trm.getD k 0 : Nat) : Int)) := by
           rw [hT.cellAt k (by omega), ci_get _ _ hk18]
          have HG2 : Hd (Crc.tg (Crc.gl L2 i) i (k + 1) = (Crc.tg (Crc.gl L2 i) i k).set (i + Crc.trm.getD k 0) ((Crc.tg (Crc.gl L2 i) i k).getD (i + Crc.trm.getD k 0) 0 ^^^ 1)) := ⟨rfl⟩
          generalize Crc.trm.getD k 0 = tk at *
          have hbd : i + tk < N := by have := HN.out; omega
          have hcl : wr.cell? ⟨g, i + tk, none⟩ = some (.int .i64 (((Crc.tg (Crc.gl L2 i) i k).getD (i + tk) 0 : Nat) : Int)) := by
           rw [hO.cellAt (i + tk) (by omega), ci_get _ _ (by rw [hln]; omega)]
          have hz : wr.frozen? ⟨g, i + tk, none⟩ = false := hO.frozenAt (i + tk)
          have hx2 := hbn (i + tk)
          generalize (Crc.tg (Crc.gl L2 i) i k).getD (i + tk) 0 = x at *
          have e2 := xor01 x hx2 1 (by omega)
          rw [show ((1 : Nat) : Int) = 1 from rfl] at e2
          generalize x ^^^ 1 = z at *
          obtain ⟨X, hX⟩ : ∃ X : Int, (x : Int) = X := ⟨_, rfl⟩
          rw [hX] at hcl e2
          clear hX hx2
          have HK : Hid (wr.ownsRow w.heap.size 3 1 (.slice (some ⟨g, 0, none⟩) N cap) N (ci (Crc.tg (Crc.gl L2 i) i k)) ∧ wr.ownsRow w.heap.size 3 1 (.slice (some ⟨gt, 0, none⟩) 18 ct) 18 (ci Crc.trm) ∧ Below w.heap.size w wr) := ⟨hO, hT, hb⟩
          clear hO hT hb hln hbn
          have s1 : IntKind.i64.wrap ((i : Int) + (tk : Int)) = (i : Int) + (tk : Int) := IntWalk.i64_in _ (by omega)
          have s2 : ((i : Int) + (tk : Int)).toNat = i + tk := by omega
          have s3 : (0 : Int) ≤ (i : Int) + (tk : Int) := by omega
          have s4 : (i : Int) + (tk : Int) < (N : Int) := by omega
          go_wp2_with fail
          go_still_tail 18, (by kernel_rfl)
          change wpList _ _ _ _ _ wr.drew
          go_wp2_with fail
          go_roundw
          case rel =>
           have hs := HK.out.1.stored (i + tk) (.int .i64 (z : Int))
           rw [ci_set] at hs
           refine ⟨k + 1, by omega, by go_num, ?_, ?_, ?_⟩
           ·rw [HG2.out]; exact hs.1
           ·have ht := HK.out.2.1.kept hs.2 (Or.inr (by have := H3.out.2.2.2.1; simp [Value.ownBlock]; omega))
            exact ht
           ·exact ((HK.out.2.2).setCell (p := ⟨g, i + tk, none⟩) H3.out.2.2.2.2.1 _).drew
          case measure => simp [intOf]; omega
         ·have hk8 : k = 18 := by omega
          subst hk8
          rw [← HG.out] at hO
          have HK : Hd (wr.ownsRow w.heap.size 3 1 (.slice (some ⟨g, 0, none⟩) N cap) N (ci (Crc.gl L2 (i + 1))) ∧ wr.ownsRow w.heap.size 3 1 (.slice (some ⟨gt, 0, none⟩) 18 ct) 18 (ci Crc.trm) ∧ Below w.heap.size w wr) := ⟨hO, hT, hb⟩
          clear hO hT hb hln hbn
          go_wp2_with fail
          go_roundw
          case rel => exact ⟨i + 1, by omega, by go_num, HK.out.1, HK.out.2.1, HK.out.2.2⟩
          case measure => simp [intOf]; omega
       ·have hcond : (((Crc.gl L2 i).getD i 0 : Nat) : Int) ≠ 1 := by omega
        have HG : Hd (Crc.gl L2 (i + 1) = Crc.gl L2 i) := ⟨by simp only [Crc.gl]; rw [if_neg hx1]⟩
        clear hx1
        obtain ⟨X, hX⟩ : ∃ X : Int, (((Crc.gl L2 i).getD i 0 : Nat) : Int) = X := ⟨_, rfl⟩
        rw [hX] at hc hcond
        have e0 : (X == 1) = false := by simpa using hcond
        clear hX hcond
        go_wp2_with fail
        go_roundw
        case rel => exact ⟨i + 1, by omega, by go_num, by rw [HG.out]; exact HJ.out.1, HJ.out.2.1, HJ.out.2.2.1⟩
        case measure => simp [intOf]; omega
      ·have hin : i = 8 * n := by omega
       subst hin
       obtain ⟨L3, hL3⟩ : ∃ L3, Crc.gl L2 (8 * n) = L3 := ⟨_, rfl⟩
       rw [hL3] at HJ
       have HL3 : Hd _ := ⟨hL3⟩
       clear hL3
       obtain ⟨W4, hW4⟩ : ∃ W4 : World, W4 = wr := ⟨_, rfl⟩
       rw [← hW4] at HJ ⊢
       clear hW4
       go_wp2_with fail
       go_loop [12, 13] (fun v q => ∃ j : Nat, j ≤ 32 ∧ q = .int .i64 j ∧ v = .int .u32 ((Crc.rs L3 (8 * n) j : Nat) : Int)) (fun _ q => 32 - (intOf q).toNat)
       case atStart => exact ⟨0, by omega, rfl, rfl⟩
       case round =>
        obtain ⟨j, hj, rfl, rfl⟩ := hrel
        have hr1 := Crc.rs_lt L3 (8 * n) HJ.out.2.2.2.2 j
        have hr2 : 2 ^ j ≤ 2 ^ 32 := Nat.pow_le_pow_right (by omega) hj
        by_cases hlt : j < 32
        ·have hin : 8 * n + j < N := by have := HN.out; omega
         have hc : W4.cell? ⟨g, 8 * n + j, none⟩ = some (.int .i64 ((L3.getD (8 * n + j) 0 : Nat) : Int)) := by
          rw [HJ.out.1.cellAt (8 * n + j) (by omega), ci_get _ _ (by rw [HJ.out.2.2.2.1]; omega)]
         have hx2 := HJ.out.2.2.2.2 (8 * n + j)
         have HR : Hd (Crc.rs L3 (8 * n) (j + 1) = Crc.rs L3 (8 * n) j ||| L3.getD (8 * n + j) 0 * 2 ^ j) := ⟨rfl⟩
         generalize Crc.rs L3 (8 * n) j = v at *
         generalize L3.getD (8 * n + j) 0 = x at *
         have hm : x * 2 ^ j < 4294967296 := by
          have h3 : 2 ^ j ≤ 2 ^ 31 := Nat.pow_le_pow_right (by omega) (by omega)
          have : x * 2 ^ j ≤ 1 * 2 ^ 31 := Nat.mul_le_mul (by omega) h3
          omega
         have e1 : (x : Int) * 2 ^ j = ((x * 2 ^ j : Nat) : Int) := by push_cast; rfl
         have e2 := u32_or_nat v (x * 2 ^ j) (by omega) hm
         rw [← e1] at e2
         have e3 : IntKind.u32.wrap ((x : Int) * 2 ^ j) = (x : Int) * 2 ^ j := by rw [e1]; exact IntWalk.u32_in _ (by omega)
         have y1 : (0 : Int) ≤ (x : Int) * 2 ^ j := by rw [e1]; omega
         have y2 : (x : Int) * 2 ^ j ≤ 4294967295 := by rw [e1]; omega
         clear e1 hm hr1 hr2 e3
         have x1 : (0 : Int) ≤ (x : Int) := by omega
         have x2 : (x : Int) ≤ 1 := by omega
         obtain ⟨X, hX⟩ : ∃ X : Int, (x : Int) = X := ⟨_, rfl⟩
         obtain ⟨Y, hY⟩ : ∃ Y : Int, X * 2 ^ j = Y := ⟨_, rfl⟩
         rw [hX] at hc e2 x1 x2 y1 y2
         rw [hY] at e2 y1 y2
         clear hX hx2
         go_wp2_with fail
         go_roundw
         case rel => exact ⟨j + 1, by omega, by go_num, by rw [HR.out, ← e2]⟩
         case measure => simp [intOf]; omega
        ·have hj32 : j = 32 := by omega
         subst hj32
         clear hr1 hr2
         have HF : Hd (Crc.gn R.toNat l = Crc.rs L3 (8 * n) 32) := ⟨by unfold Crc.gn; rw [HH.out.2.2.2, HL.out, HL3.out]⟩
         obtain ⟨fin, hfin⟩ : ∃ f, Crc.rs L3 (8 * n) 32 = f := ⟨_, rfl⟩
         rw [hfin]
         have HI : Hd _ := ⟨hfin⟩
         clear hfin
         go_wp2_with fail
         go_ret
         exact ⟨by rw [HF.out, HI.out]; rfl, HJ.out.2.2.1⟩
end Go.Proofs.Ytbcmjjcbjojakaa
end
section
namespace Go.Proofs.Ytbcmjjcbjojakaa
namespace Crc
/-- Bit q of x. -/
def bt (x q : Nat) : Nat := x / 2 ^ q % 2
theorem bt_tb (x q : Nat) : bt x q = (x.testBit q).toNat := (Nat.toNat_testBit x q).symm
theorem bt_xor (x y q : Nat) : bt (x ^^^ y) q = bt x q ^^^ bt y q := by
 rw [bt_tb, bt_tb, bt_tb, Nat.testBit_xor]
 cases x.testBit q <;> cases y.testBit q <;> rfl
theorem bt_big (x q : Nat) (h : x < 2 ^ q) : bt x q = 0 := by unfold bt; rw [Nat.div_eq_of_lt h]
theorem bt_half (x q : Nat) : bt (x / 2) q = bt x (q + 1) := by unfold bt; rw [Nat.div_div_eq_div_mul, Nat.pow_succ, Nat.mul_comm]
theorem bt_zero (x : Nat) : bt x 0 = x % 2 := by simp [bt]
theorem rx_hi (r : Nat) (L : List Nat) : ∀ (j p : Nat), j ≤ p → (rx r L j).getD p 0 = L.getD p 0
 | 0, p, _ => rfl
 | j + 1, p, h => by simp only [rx]; rw [getD_set, if_neg (by omega), rx_hi r L j p (by omega)]
theorem rx_lo (r : Nat) (L : List Nat) : ∀ (j p : Nat), p < j → p < L.length → (rx r L j).getD p 0 = L.getD p 0 ^^^ bt r p
 | 0, p, h, _ => by omega
 | j + 1, p, h, hp => by
  simp only [rx]
  rw [getD_set, rx_len]
  by_cases e : j = p
  ·subst e; rw [if_pos ⟨rfl, hp⟩, rx_hi r L j j (Nat.le_refl _)]; rfl
  ·rw [if_neg (by omega), rx_lo r L j p (by omega) hp]
theorem trm_new : ∀ k, k < 18 → trm.getD k 0 ∉ trm.take k := by decide
theorem trm_take : ∀ k, k < 18 → trm.take (k + 1) = trm.take k ++ [trm.getD k 0] := by decide
theorem tg_get (L : List Nat) (i p : Nat) (hp : p < L.length) : ∀ k, k ≤ 18 → (tg L i k).getD p 0 = L.getD p 0 ^^^ (if i ≤ p ∧ (p - i) ∈ trm.take k then 1 else 0)
 | 0, _ => by simp [tg]
 | k + 1, hk => by
  have ih := tg_get L i p hp k (by omega)
  have hn := trm_new k (by omega)
  simp only [tg, tog]
  rw [getD_set, tg_len, trm_take k (by omega)]
  by_cases e : i + trm.getD k 0 = p
  ·rw [if_pos ⟨e, by omega⟩, e, ih]
   have e2 : p - i = trm.getD k 0 := by omega
   rw [e2, if_neg (by intro h; exact hn h.2), if_pos ⟨by omega, by simp⟩, Nat.xor_zero]
  ·rw [if_neg (by intro h; exact e h.1), ih]
   congr 1
   by_cases hi : i ≤ p
   ·have hne : ¬ p - i = trm.getD k 0 := by omega
    by_cases hm : p - i ∈ trm.take k
    ·rw [if_pos ⟨hi, hm⟩, if_pos ⟨hi, List.mem_append.2 (.inl hm)⟩]
    ·rw [if_neg (fun h => hm h.2), if_neg]
     rintro ⟨_, h⟩
     rcases List.mem_append.1 h with h | h
     ·exact hm h
     ·exact hne (List.mem_singleton.1 h)
   ·rw [if_neg (fun h => hi h.1), if_neg (fun h => hi h.1)]
theorem M_bits : ∀ q, q < 32 → bt M q = if (q + 1) ∈ trm then 1 else 0 := by decide
theorem trm_no : ∀ t, t ∈ trm → t ≤ 32 := by decide
/-- The register gone over bits. -/
def sbq (r : Nat) (l : List Nat) : Nat := l.foldl (fun r m => T (r ^^^ m)) r
theorem sbq_lt : ∀ (l : List Nat) (r : Nat), r < 2 ^ 32 → (∀ x ∈ l, x < 2) → sbq r l < 2 ^ 32
 | [], _, h, _ => h
 | x :: l, r, h, hl => by
  have hx : x < 2 := hl x (List.mem_cons_self ..)
  exact sbq_lt l _ (T_lt _ (Nat.xor_lt_two_pow h (by omega))) (fun y hy => hl y (List.mem_cons_of_mem _ hy))
theorem T_bit (x q : Nat) (_hx : x < 2 ^ 32) (hq : q < 32) : bt (T x) q = bt x (q + 1) ^^^ (if x % 2 = 1 ∧ (q + 1) ∈ trm then 1 else 0) := by
 unfold T
 split
 ·rename_i h
  rw [bt_xor, bt_half, M_bits q hq]; simp [h]
 ·rename_i h
  rw [bt_half]; simp [h]
theorem gl_win (r : Nat) (L0 : List Nat) (n : Nat) (hr : r < 2 ^ 32) (hL : L0.length = n + 32) (hb : Bin L0) :
  ∀ i, i ≤ n → ∀ p, i ≤ p → p < n + 32 → (gl (rx r L0 32) i).getD p 0 = L0.getD p 0 ^^^ (if p < i + 32 then bt (sbq r (L0.take i)) (p - i) else 0)
 | 0, _, p, _, hp => by
  simp only [gl, List.take_zero, sbq, List.foldl_nil, Nat.zero_add, Nat.sub_zero]
  by_cases h : p < 32
  ·rw [rx_lo r L0 32 p h (by omega), if_pos h]
  ·rw [rx_hi r L0 32 p (by omega), if_neg h, Nat.xor_zero]
 | i + 1, hi, p, hip, hp => by
  have ih := gl_win r L0 n hr hL hb i (by omega)
  have hbt : L0.take (i + 1) = L0.take i ++ [L0.getD i 0] := by
   rw [List.take_succ_eq_append_getElem (by omega), List.getD_eq_getElem?_getD, List.getElem?_eq_getElem (by omega)]; rfl
  have hS : sbq r (L0.take i) < 2 ^ 32 := sbq_lt _ _ hr (fun x hx => by
   have hx' := List.mem_of_mem_take hx
   obtain ⟨j, hj, rfl⟩ := List.getElem_of_mem hx'
   have := hb j
   rw [List.getD_eq_getElem?_getD, List.getElem?_eq_getElem hj] at this
   exact this)
  have hstep : sbq r (L0.take (i + 1)) = T (sbq r (L0.take i) ^^^ L0.getD i 0) := by rw [hbt]; unfold sbq; rw [List.foldl_append]; rfl
  rw [hstep]
  generalize sbq r (L0.take i) = S at *
  have hm := hb i
  have h0 := ih i (Nat.le_refl _) (by omega)
  rw [if_pos (by omega), Nat.sub_self, bt_zero] at h0
  have hx : S ^^^ L0.getD i 0 < 2 ^ 32 := Nat.xor_lt_two_pow hS (by omega)
  have hodd : (gl (rx r L0 32) i).getD i 0 = (S ^^^ L0.getD i 0) % 2 := by
   rw [h0, ← bt_zero, ← bt_zero (S ^^^ L0.getD i 0), bt_xor, bt_zero (L0.getD i 0), Nat.mod_eq_of_lt hm, Nat.xor_comm]
  have hlen : (gl (rx r L0 32) i).length = n + 32 := by rw [gl_len, rx_len, hL]
  have hp' := ih p (by omega) hp
  have hbit : ∀ q, 1 ≤ q → bt (S ^^^ L0.getD i 0) q = bt S q := by
   intro q hq
   have : 2 ≤ 2 ^ q := by
    have : 2 ^ 1 ≤ 2 ^ q := Nat.pow_le_pow_right (by omega) hq
    omega
   rw [bt_xor, bt_big (L0.getD i 0) q (by omega), Nat.xor_zero]
  have main : (gl (rx r L0 32) (i + 1)).getD p 0 = (gl (rx r L0 32) i).getD p 0 ^^^ (if (S ^^^ L0.getD i 0) % 2 = 1 ∧ (p - i) ∈ trm then 1 else 0) := by
   simp only [gl]
   by_cases h : (gl (rx r L0 32) i).getD i 0 = 1
   ·rw [if_pos h, tg_get _ i p (by omega) 18 (by omega)]
    have e : trm.take 18 = trm := rfl
    rw [e]
    have h2 : (S ^^^ L0.getD i 0) % 2 = 1 := by omega
    by_cases hmm : p - i ∈ trm
    ·rw [if_pos ⟨by omega, hmm⟩, if_pos ⟨h2, hmm⟩]
    ·rw [if_neg (fun h => hmm h.2), if_neg (fun h => hmm h.2)]
   ·rw [if_neg h]
    rw [if_neg (fun h2 => by omega), Nat.xor_zero]
  rw [main, hp', Nat.xor_assoc]
  congr 1
  by_cases h33 : p < i + 1 + 32
  ·rw [if_pos h33, T_bit _ _ hx (by omega), show p - (i + 1) + 1 = p - i by omega, hbit _ (by omega)]
   congr 1
   by_cases h32 : p < i + 32
   ·rw [if_pos h32]
   ·rw [if_neg h32, show p - i = 32 by omega, bt_big S 32 hS]
  ·rw [if_neg h33, if_neg (by omega), if_neg, Nat.xor_zero]
   intro h
   have := trm_no _ h.2
   omega
theorem rs_eq (L : List Nat) (n S : Nat) (h : ∀ q, q < 32 → L.getD (n + q) 0 = bt S q) : ∀ j, j ≤ 32 → rs L n j = S % 2 ^ j
 | 0, _ => by simp [rs, Nat.mod_one]
 | j + 1, hj => by
  simp only [rs]
  rw [rs_eq L n S h j (by omega), h j (by omega), Nat.or_comm, nat_join j _ _ (Nat.mul_mod_left _ _) (Nat.mod_lt _ (Nat.two_pow_pos j)), Nat.mod_pow_succ, Nat.mul_comm]
  unfold bt; omega
def bk (k x : Nat) : List Nat := (List.range k).map fun j => x / 2 ^ j % 2
theorem bk_succ (k x : Nat) : bk (k + 1) x = x % 2 :: bk k (x / 2) := by
 unfold bk
 rw [List.range_succ_eq_map, List.map_cons, List.map_map]
 simp only [Nat.pow_zero, Nat.div_one, List.cons.injEq, true_and]
 refine List.map_congr_left fun j _ => ?_
 simp only [Function.comp]
 rw [Nat.div_div_eq_div_mul, Nat.pow_succ, Nat.mul_comm]
theorem sbq_bk : ∀ (k x r : Nat), x < 2 ^ k → sbq r (bk k x) = itT k (r ^^^ x)
 | 0, x, r, h => by
  have : x = 0 := by simp at h; exact h
  subst this; simp [bk, sbq, itT]
 | k + 1, x, r, h => by
  have e : sbq r (bk (k + 1) x) = sbq (T (r ^^^ x % 2)) (bk k (x / 2)) := by rw [bk_succ]; rfl
  rw [e, sbq_bk k (x / 2) _ (by rw [Nat.pow_succ] at h; omega)]
  show _ = itT k (T (r ^^^ x))
  congr 1
  have hx : x = x % 2 ^^^ 2 * (x / 2) := by
   have := xor_split 1 x
   simp only [Nat.pow_one] at this
   rw [Nat.xor_comm]; exact this
  have e2 : T (r ^^^ x) = T (r ^^^ (x % 2 ^^^ 2 * (x / 2))) := by rw [← hx]
  rw [e2, ← Nat.xor_assoc, T_xor (r ^^^ x % 2), T_double]
theorem sbq_bts : ∀ (l : List Nat) (r : Nat), (∀ x ∈ l, x < 256) → sbq r (bts l) = ov r l
 | [], _, _ => rfl
 | x :: l, r, h => by
  have hx : x < 256 := h x (List.mem_cons_self ..)
  rw [show bts (x :: l) = bk 8 x ++ bts l from rfl]
  have : sbq r (bk 8 x ++ bts l) = sbq (sbq r (bk 8 x)) (bts l) := by unfold sbq; rw [List.foldl_append]
  rw [this, sbq_bk 8 x r hx, sbq_bts l _ (fun y hy => h y (List.mem_cons_of_mem _ hy))]
  rfl
theorem gn_ov (r : Nat) (l : List Nat) (hr : r < 2 ^ 32) (hl : ∀ x ∈ l, x < 256) : gn r l = ov r l := by
 have hlen : (bts l ++ List.replicate 32 0).length = 8 * l.length + 32 := by rw [List.length_append, bts_len, List.length_replicate]
 have hw := gl_win r _ (8 * l.length) hr hlen (bts_bin l) (8 * l.length) (Nat.le_refl _)
 have ht : (bts l ++ List.replicate 32 0).take (8 * l.length) = bts l := by rw [← bts_len l, List.take_left]
 rw [ht, sbq_bts l r hl] at hw
 unfold gn
 rw [rs_eq _ _ (ov r l) (fun q hq => ?_) 32 (Nat.le_refl _), Nat.mod_eq_of_lt (ov_lt l r hr hl)]
 rw [hw (8 * l.length + q) (by omega) (by omega), if_pos (by omega), Nat.add_sub_cancel_left]
 have : (bts l ++ List.replicate 32 0).getD (8 * l.length + q) 0 = 0 := by
  rw [List.getD_eq_getElem?_getD, List.getElem?_append_right (by rw [bts_len]; omega), bts_len, Nat.add_sub_cancel_left, List.getElem?_replicate]
  simp [hq]
 rw [this, Nat.zero_xor]
end Crc
end Go.Proofs.Ytbcmjjcbjojakaa
end
section
namespace Go.Proofs.Ytbcmjjcbjojakaa
open Go.RowKit
set_option linter.unusedVariables false
theorem not_u32' (R : Int) (h1 : 0 ≤ R) (h2 : R ≤ 4294967295) : bits .xor .u32 R 4294967295 = 4294967295 - R := by
 rw [← not_u32 R h1 h2]
 obtain ⟨r, rfl⟩ := Int.eq_ofNat_of_zero_le h1
 have e1 := u32_xor_nat r 4294967295 (by omega) (by omega)
 have e2 := u32_xor_nat 4294967295 r (by omega) (by omega)
 rw [show ((4294967295 : Nat) : Int) = 4294967295 from rfl] at e1 e2
 rw [e1, e2, Nat.xor_comm]
theorem max_not (N R : Int) (h : 4294967295 - R = N) (h1 : 0 ≤ R) (h2 : R ≤ 4294967295) : N.toNat = 4294967295 - R.toNat := by omega
section
variable (w : World) (A : Option Addr) (n c B : Nat) (l : List Nat)
set_option maxHeartbeats 400000 in
theorem refMore_any (R : Int) (h1 : 0 ≤ R) (h2 : R ≤ 4294967295) (hr : Rd w B A n (cb l)) (hB : B ≤ w.heap.size) (hl : ∀ x ∈ l, x < 256) (hn : n ≤ 2097152) :
  Calls Try.prog 83 #[.int .u32 R, .slice A n c] w fun e w' => e = .returned (.int .u32 ((Crc.more R.toNat l : Nat) : Int)) ∧ Below w.heap.size w w' := by
 have HH : Hd (Rd w B A n (cb l) ∧ B ≤ w.heap.size ∧ (∀ x ∈ l, x < 256) ∧ n ≤ 2097152) := ⟨hr, hB, hl, hn⟩
 clear hr hB hl hn
 have e1 := not_u32' R h1 h2
 obtain ⟨N, hN⟩ : ∃ N : Int, 4294967295 - R = N := ⟨_, rfl⟩
 rw [hN] at e1
 have n1 : 0 ≤ N := by omega
 have n2 : N ≤ 4294967295 := by omega
 have HN : Hd _ := ⟨hN⟩
 clear hN
 have hv := Crc.ov_lt l N.toNat (by omega) HH.out.2.2.1
 have e2 := not_u32' ((Crc.gn N.toNat l : Nat) : Int) (by omega) (by rw [Crc.gn_ov _ _ (by omega) HH.out.2.2.1]; omega)
 rw [Crc.gn_ov _ _ (by omega) HH.out.2.2.1] at e2
 have HV : Hd _ := ⟨hv⟩
 clear hv
 go_enter Try.func83, Try.ntmps83
 go_wp2_with fail
 refine (gone_any w A n c B l N n1 n2 HH.out.1 HH.out.2.1 HH.out.2.2.1 HH.out.2.2.2).mono ?_
 rw [Crc.gn_ov _ _ (by omega) HH.out.2.2.1]
 rintro e w1 ⟨rfl, hb1⟩
 go_wp2_with fail
 go_ret
 have hx := Crc.more_int R.toNat N.toNat l (max_not N R HN.out h1 h2) HV.out
 refine ⟨?_, hb1⟩
 show Ending.returned (.int .u32 (4294967295 - ((Crc.ov N.toNat l : Nat) : Int))) = _
 rw [hx]
set_option maxHeartbeats 400000 in
theorem refSum_any (hr : Rd w B A n (cb l)) (hB : B ≤ w.heap.size) (hl : ∀ x ∈ l, x < 256) (hn : n ≤ 2097152) :
  Calls Try.prog 82 #[.slice A n c] w fun e w' => e = .returned (.int .u32 ((Crc.more 0 l : Nat) : Int)) ∧ Below w.heap.size w w' := by
 have HH : Hd (Rd w B A n (cb l) ∧ B ≤ w.heap.size ∧ (∀ x ∈ l, x < 256) ∧ n ≤ 2097152) := ⟨hr, hB, hl, hn⟩
 clear hr hB hl hn
 have hv := Crc.ov_lt l 4294967295 (by omega) HH.out.2.2.1
 have e2 := not_u32' ((Crc.ov 4294967295 l : Nat) : Int) (by omega) (by omega)
 have HV : Hd _ := ⟨hv⟩
 clear hv
 go_enter Try.func82, Try.ntmps82
 go_wp2_with fail
 refine (gone_any w A n c B l 4294967295 (by omega) (by omega) HH.out.1 HH.out.2.1 HH.out.2.2.1 HH.out.2.2.2).mono ?_
 rw [show (4294967295 : Int).toNat = 4294967295 from rfl, Crc.gn_ov _ _ (by omega) HH.out.2.2.1]
 rintro e w1 ⟨rfl, hb1⟩
 go_wp2_with fail
 go_ret
 have hx := Crc.more_int 0 4294967295 l rfl HV.out
 refine ⟨?_, hb1⟩
 show Ending.returned (.int .u32 (4294967295 - ((Crc.ov 4294967295 l : Nat) : Int))) = _
 rw [hx]
end
end Go.Proofs.Ytbcmjjcbjojakaa
end
section
namespace Go.Proofs.Ytbcmjjcbjojakaa
open Go.RowKit
set_option linter.unusedVariables false
/-- A chunk's head: its kind and how many bytes follow. -/
def hd3 (c : List Nat) : List Nat := fx 1 (if c.length ≤ 16384 then 2 else 1) ++ fx 2 (min c.length 16384)
/-- One chunk, where s is the sum of those ahead. -/
def chk (s : Nat) (c : List Nat) : List Nat := hd3 c ++ fx 4 (Crc.more 0 (hd3 c)) ++ c.take (min c.length 16384) ++ fx 4 (Crc.more s (c.take (min c.length 16384)))
def fmF : Nat → Nat → List Nat → List Nat
 | 0, _, _ => []
 | f + 1, s, c => if c = [] then [] else chk s c ++ fmF f (Crc.more s (c.take (min c.length 16384))) (c.drop (min c.length 16384))
def formP (c : List Nat) : List Nat := fmF c.length 0 c
/-- How many elements a slice has. -/
def sliceLen : Value → Nat
 | .slice _ n _ => n
 | _ => 0
theorem cb_take (bs : List Nat) (k : Nat) : (cb bs).take k = cb (bs.take k) := by unfold cb; rw [List.map_take]
theorem cb_drop (bs : List Nat) (k : Nat) : (cb bs).drop k = cb (bs.drop k) := by unfold cb; rw [List.map_drop]
theorem own_below' {w w' : World} {base e n : Nat} {v : Value} {xs : List Value} (h : w.ownsRow base e 1 v n xs) (b : Below w.heap.size w w') : w'.ownsRow base e 1 v n xs :=
 ⟨h.1, h.2.imp id fun ⟨g, cap, cur, hv, hg, hh, r⟩ => ⟨g, cap, cur, hv, hg, by rw [b.block g (Array.getElem?_eq_some_iff.1 hh).1]; exact hh, r⟩⟩
theorem own_base {w : World} {base base' e n : Nat} {v : Value} {xs : List Value} (h : w.ownsRow base e 1 v n xs) (hb : base' ≤ base) : w.ownsRow base' e 1 v n xs :=
 ⟨h.1, h.2.imp id fun ⟨g, cap, cur, hv, hg, r⟩ => ⟨g, cap, cur, hv, Nat.le_trans hb hg, r⟩⟩
/-- What may still be cut from its beginning. -/
theorem rd_from {w : World} {B n c p : Nat} {A : Option Addr} {bs : List Nat} (h : Rd w B A n (cb bs)) (hp : p ≤ n) (hn : n ≤ c) : Rd w B (cutA A c p) (n - p) (cb (bs.drop p)) := by
 have := h.cut (l := p) (h := n) hp (Nat.le_refl _) hn
 rw [cb_drop, cb_take, List.take_of_length_le (by have := h.1; rw [cb_length] at this; rw [List.length_drop]; omega)] at this
 exact this
end Go.Proofs.Ytbcmjjcbjojakaa
end
section
namespace Go.Proofs.Ytbcmjjcbjojakaa
open Go.RowKit
set_option linter.unusedVariables false
/-- Where the program's form stands. -/
structure FS (w w' : World) (gs : Nat) (u : Value) (ys : List Nat) (S : Nat) : Prop where
 own : w'.ownsRow (gs + 1) 5 1 u ys.length (cb ys)
 st : ∃ xs C, Strm w' gs 0 xs 54 S C
 bel : Below gs w w'
section
variable {w w1 w2 : World} {gs S : Nat} {u v : Value} {ys zs : List Nat}
end
end Go.Proofs.Ytbcmjjcbjojakaa
end
section
namespace Go.Proofs.Ytbcmjjcbjojakaa
open Go.RowKit
set_option linter.unusedVariables false
/-- Where the reference's form stands. -/
structure GS (w w' : World) (u : Value) (ys : List Nat) : Prop where
 own : w'.ownsRow w.heap.size 5 1 u ys.length (cb ys)
 bel : Below w.heap.size w w'
section
variable {w w1 w2 : World} {u v : Value} {ys zs : List Nat}
end
end Go.Proofs.Ytbcmjjcbjojakaa
end
section
namespace Go.Proofs.Ytbcmjjcbjojakaa
open Go.RowKit
set_option linter.unusedVariables false
section
variable {P : Program} {ops : Array Oper} {rest : List Oper} {a : Act} {w : World} {Q : Exit → Act → World → Prop} {d : Option Tmp} {ty t : TypeId} {pos : String} {af : Array Edge} {gd : Option (Nat × Bool)} {x y z : Operand}
/-! Guards for arms: each fits where the operation is of its kind, and changes nothing. -/
theorem at_store (h : wpList P ops Q (⟨d, .store t x y, ty, pos, af, gd⟩ :: rest) a w) : wpList P ops Q (⟨d, .store t x y, ty, pos, af, gd⟩ :: rest) a w := h
theorem at_load (h : wpList P ops Q (⟨d, .load t x, ty, pos, af, gd⟩ :: rest) a w) : wpList P ops Q (⟨d, .load t x, ty, pos, af, gd⟩ :: rest) a w := h
theorem at_buildSlice {n : Nat} {ps : Array (Nat × Operand)} (h : wpList P ops Q (⟨d, .buildSlice t n ps, ty, pos, af, gd⟩ :: rest) a w) : wpList P ops Q (⟨d, .buildSlice t n ps, ty, pos, af, gd⟩ :: rest) a w := h
end
/-- A value laid into a box that has just been made: the world behind it, by name. -/
theorem wpList_boxed {P : Program} {ops : Array Oper} {rest : List Oper} {o : Oper} {a : Act} {wr : World} {z : Array Value} {t : TypeId} {Q : Exit → Act → World → Prop} (hgd : o.guard = none) (ty : TypeId) (x y : Operand) (ho : o.op = .store ty x y)
  (N : Nat) (hN : wr.heap.size = N) (cells : Array Value) (hx : a.eval x = .pointer (some ⟨N, 0, none⟩)) (hy : a.eval y = .agg cells) (hi : (P.info? ty).map (·.size) = some cells.size) (hold : z.size = cells.size) (h1 : cells.all (·.oneCell') = true)
  (h : ∀ w2, Hd (w2.heap[N]? = some (.cells cells t (0, 0)) ∧ Below N wr w2 ∧ w2.heap.size = N + 1) → wpList P ops Q rest (a.put o.dst undef) w2) :
  wpList P ops Q (o :: rest) a (wr.alloc (.cells z t)) := by
 subst hN
 refine wpList_store_row hgd ty x y ho wr.heap.size cells hx hy t z (heap_alloc_new _ _) hi hold h1 (h _ ⟨setRow_heap _ _ _ _ _ _ (heap_alloc_new _ _), below_setRow ((Below.refl _ _).alloc (Nat.le_refl _) _) (Nat.le_refl _) _, by simp⟩)
/-- A value laid into a box: the world behind it, by name. -/
theorem wpList_stored {P : Program} {ops : Array Oper} {rest : List Oper} {o : Oper} {a : Act} {w : World} {Q : Exit → Act → World → Prop} (hgd : o.guard = none) (ty : TypeId) (x y : Operand) (ho : o.op = .store ty x y)
  (g : Nat) (cells : Array Value) (hx : a.eval x = .pointer (some ⟨g, 0, none⟩)) (hy : a.eval y = .agg cells) (t : TypeId) (old : Array Value) (hg : w.heap[g]? = some (.cells old t (0, 0))) (hi : (P.info? ty).map (·.size) = some cells.size)
  (hold : old.size = cells.size) (h1 : cells.all (·.oneCell') = true)
  (h : ∀ w2, Hd (w2.heap[g]? = some (.cells cells t (0, 0)) ∧ w.grownBy w2 (some g) ∧ w2.heap.size = w.heap.size) → wpList P ops Q rest (a.put o.dst undef) w2) :
  wpList P ops Q (o :: rest) a w :=
 wpList_store_row hgd ty x y ho g cells hx hy t old hg hi hold h1 (h _ ⟨setRow_heap _ _ _ _ _ _ hg, ⟨rfl, rfl, rfl, by simp [World.setRow], fun k _ hk => setRow_other w g k cells (fun e => hk (by rw [e]))⟩, by simp [World.setRow]⟩)
theorem results_cell1 {P : Program} {fn : Func} {p : Tmp} {ty : TypeId} (h : fn.results = #[.cell p ty]) (tmps : Array Value) (w : World) (g : Nat) (t : TypeId) (cs : Array Value) (fr : Nat × Nat) (d : TypeDesc)
  (hp : tmps.getD p undef = .pointer (some ⟨g, 0, none⟩)) (hg : w.heap[g]? = some (.cells cs t fr))
  (hu : P.underlying ty = some d) (hd : (match d with | .struct _ | .array _ _ => true | _ => false) = true) (hi : (P.info? ty).map (·.size) = some cs.size) :
  (results fn tmps).run P w = .ok (.agg cs) w := by
 have hp' : tmps[p]?.getD undef = .pointer (some ⟨g, 0, none⟩) := by simpa using hp
 simp [results, h, hp', asAddr, run_loadVar_row w g t ty cs fr d hg hu hd hi]
theorem results_cell_tmp {P : Program} {fn : Func} {p u : Tmp} {ty : TypeId} (h : fn.results = #[.cell p ty, .tmp u]) (tmps : Array Value) (w : World) (g : Nat) (t : TypeId) (cs : Array Value) (fr : Nat × Nat) (d : TypeDesc)
  (hp : tmps.getD p undef = .pointer (some ⟨g, 0, none⟩)) (hg : w.heap[g]? = some (.cells cs t fr))
  (hu : P.underlying ty = some d) (hd : (match d with | .struct _ | .array _ _ => true | _ => false) = true) (hi : (P.info? ty).map (·.size) = some cs.size) :
  (results fn tmps).run P w = .ok (.tuple #[.agg cs, tmps.getD u undef]) w := by
 have hp' : tmps[p]?.getD undef = .pointer (some ⟨g, 0, none⟩) := by simpa using hp
 simp [results, h, hp', asAddr, run_loadVar_row w g t ty cs fr d hg hu hd hi]
end Go.Proofs.Ytbcmjjcbjojakaa
end
section
namespace Go.Proofs.Ytbcmjjcbjojakaa
open Go.RowKit
set_option linter.unusedVariables false
/-- A request. -/
structure Rq where
 kind : Int
 tag : Nat
 key : ByteArray
 after : ByteArray
 off : Int
 num : Int
 delim : Int
 body : List Nat
def emS : ByteArray := ⟨#[]⟩
def rqV (R : Rq) (A : Option Addr) (n c : Nat) : Value := .agg #[.int .i64 R.kind, .int .u64 (R.tag : Int), .string R.key, .string R.after, .int .i64 R.off, .int .i64 R.num, .int .i64 R.delim, .slice A n c]
def cKey (k : Int) : Bool := decide (1 ≤ k ∧ k ≤ 7)
def cBody (k : Int) : Bool := decide (k = 1)
def cAfter (k : Int) : Bool := decide (k = 7)
def cOff (k : Int) : Bool := decide (k = 3)
def cNum (k : Int) : Bool := decide (k = 3 ∨ k = 7)
def cDelim (k : Int) : Bool := decide (k = 7)
/-- May the request be? -/
def rqOk (R : Rq) : Prop := 1 ≤ R.kind ∧ R.kind ≤ 8 ∧ (cKey R.kind = false → R.key = emS) ∧ (cBody R.kind = false → R.body = []) ∧ (cAfter R.kind = false → R.after = emS) ∧
 (cOff R.kind = false → R.off = 0) ∧ (cNum R.kind = false → R.num = 0) ∧ (cDelim R.kind = false → R.delim = 0)
def rqFit (R : Rq) : Prop := R.key.size ≤ 1024 ∧ R.after.size ≤ 1024 ∧ R.body.length ≤ 1048576
instance (R : Rq) : Decidable (rqFit R) := by unfold rqFit; infer_instance
/-- What a number with a sign is written as. -/
def uz (v : Int) : List Nat := uv (zig v).toNat
/-- What a text is written as. -/
def us (s : ByteArray) : List Nat := uv s.size ++ sb s
def ub (l : List Nat) : List Nat := uv l.length ++ l
/-- The content. -/
def rqC (R : Rq) : List Nat :=
 fx 1 R.kind.toNat ++ fx 8 R.tag ++ (if cKey R.kind = true then us R.key else []) ++ (if cBody R.kind = true then ub R.body else []) ++
 (if cAfter R.kind = true then us R.after else []) ++ (if cOff R.kind = true then uz R.off else []) ++ (if cDelim R.kind = true then uz R.delim else []) ++ (if cNum R.kind = true then uz R.num else [])
open Classical in
/-- The answer to a request: bytes and number. -/
noncomputable def askP (R : Rq) : List Nat × Int := if rqOk R then (if rqFit R then (formP (rqC R), 0) else ([], 3)) else ([], 2)
theorem infoC : (Try.prog.info? 114).map (·.size) = some 6 := by kernel_rfl
/-- What counts in a request of a kind. -/
def ctsV (k b a o n d : Bool) : Value := .agg #[.bool k, .bool b, .bool a, .bool o, .bool n, .bool d]
theorem counts_any (w : World) (k : Int) : Calls Try.prog 55 #[.int .i64 k] w fun e w' => e = .returned (.tuple #[ctsV (cKey k) (cBody k) (cAfter k) (cOff k) (cNum k) (cDelim k), .bool (decide (1 ≤ k ∧ k ≤ 8))]) ∧ Below w.heap.size w w' := by
 have HJ : Hd (∀ (a b c d f g h : Bool), a = cKey k → b = cBody k → c = cAfter k → d = cOff k → f = cNum k → g = cDelim k → h = decide (1 ≤ k ∧ k ≤ 8) → (Ending.returned (.tuple #[ctsV a b c d f g, .bool h]) = .returned (.tuple #[ctsV (cKey k) (cBody k) (cAfter k) (cOff k) (cNum k) (cDelim k), .bool (decide (1 ≤ k ∧ k ≤ 8))]))) := ⟨by intros; subst_vars; rfl⟩
 have HA : Hd (∀ o, Below w.heap.size w (w.alloc o)) := ⟨fun o => (Below.refl _ w).alloc (Nat.le_refl _) _⟩
 go_enter Try.func55, Try.ntmps55
 by_cases k1 : k = 1
 ·subst k1; go_wp2_with fail; (try simp only [Exit.inBlock, Exit.then]); refine bodyPost_ret (results_cell_tmp rfl _ _ w.heap.size 114 _ (0, 0) _ rfl (heap_alloc_new _ _) Try.underlying114 rfl infoC) rfl ?_; exact ⟨HJ.out _ _ _ _ _ _ _ (by decide) (by decide) (by decide) (by decide) (by decide) (by decide) (by decide), HA.out _⟩
 by_cases k2 : k = 2
 ·subst k2; go_wp2_with fail; (try simp only [Exit.inBlock, Exit.then]); refine bodyPost_ret (results_cell_tmp rfl _ _ w.heap.size 114 _ (0, 0) _ rfl (heap_alloc_new _ _) Try.underlying114 rfl infoC) rfl ?_; exact ⟨HJ.out _ _ _ _ _ _ _ (by decide) (by decide) (by decide) (by decide) (by decide) (by decide) (by decide), HA.out _⟩
 by_cases k4 : k = 4
 ·subst k4; go_wp2_with fail; (try simp only [Exit.inBlock, Exit.then]); refine bodyPost_ret (results_cell_tmp rfl _ _ w.heap.size 114 _ (0, 0) _ rfl (heap_alloc_new _ _) Try.underlying114 rfl infoC) rfl ?_; exact ⟨HJ.out _ _ _ _ _ _ _ (by decide) (by decide) (by decide) (by decide) (by decide) (by decide) (by decide), HA.out _⟩
 by_cases k5 : k = 5
 ·subst k5; go_wp2_with fail; (try simp only [Exit.inBlock, Exit.then]); refine bodyPost_ret (results_cell_tmp rfl _ _ w.heap.size 114 _ (0, 0) _ rfl (heap_alloc_new _ _) Try.underlying114 rfl infoC) rfl ?_; exact ⟨HJ.out _ _ _ _ _ _ _ (by decide) (by decide) (by decide) (by decide) (by decide) (by decide) (by decide), HA.out _⟩
 by_cases k6 : k = 6
 ·subst k6; go_wp2_with fail; (try simp only [Exit.inBlock, Exit.then]); refine bodyPost_ret (results_cell_tmp rfl _ _ w.heap.size 114 _ (0, 0) _ rfl (heap_alloc_new _ _) Try.underlying114 rfl infoC) rfl ?_; exact ⟨HJ.out _ _ _ _ _ _ _ (by decide) (by decide) (by decide) (by decide) (by decide) (by decide) (by decide), HA.out _⟩
 by_cases k3 : k = 3
 ·subst k3; go_wp2_with fail; (try simp only [Exit.inBlock, Exit.then]); refine bodyPost_ret (results_cell_tmp rfl _ _ w.heap.size 114 _ (0, 0) _ rfl (heap_alloc_new _ _) Try.underlying114 rfl infoC) rfl ?_; exact ⟨HJ.out _ _ _ _ _ _ _ (by decide) (by decide) (by decide) (by decide) (by decide) (by decide) (by decide), HA.out _⟩
 by_cases k7 : k = 7
 ·subst k7; go_wp2_with fail; (try simp only [Exit.inBlock, Exit.then]); refine bodyPost_ret (results_cell_tmp rfl _ _ w.heap.size 114 _ (0, 0) _ rfl (heap_alloc_new _ _) Try.underlying114 rfl infoC) rfl ?_; exact ⟨HJ.out _ _ _ _ _ _ _ (by decide) (by decide) (by decide) (by decide) (by decide) (by decide) (by decide), HA.out _⟩
 by_cases k8 : k = 8
 ·subst k8; go_wp2_with fail; (try simp only [Exit.inBlock, Exit.then]); refine bodyPost_ret (results_cell_tmp rfl _ _ w.heap.size 114 _ (0, 0) _ rfl (heap_alloc_new _ _) Try.underlying114 rfl infoC) rfl ?_; exact ⟨HJ.out _ _ _ _ _ _ _ (by decide) (by decide) (by decide) (by decide) (by decide) (by decide) (by decide), HA.out _⟩
 go_wp2_with fail
 (try simp only [Exit.inBlock, Exit.then])
 refine bodyPost_ret (results_cell_tmp rfl _ _ w.heap.size 114 _ (0, 0) _ rfl (heap_alloc_new _ _) Try.underlying114 rfl infoC) rfl ?_
 refine ⟨HJ.out _ _ _ _ _ _ _ ?_ ?_ ?_ ?_ ?_ ?_ ?_, HA.out _⟩ <;> (try simp only [cKey, cBody, cAfter, cOff, cNum, cDelim]) <;> refine (decide_eq_false ?_).symm <;> omega
/-- What both answer. -/
def AskPost (R : Rq) (w : World) (e : Ending) (w' : World) : Prop := ∃ v', e = .returned (.tuple #[v', .int .i64 (askP R).2]) ∧ Onto w w' w.heap.size 5 (.slice none 0 0) v' (askP R).1.length (cb (askP R).1)
section
variable {R : Rq} {w w1 w' : World} {v : Value}
end
/-- The numbers of a request are of 64 bits. -/
structure RqB (R : Rq) : Prop where
 tag : R.tag < 18446744073709551616
 o1 : -9223372036854775808 ≤ R.off
 o2 : R.off ≤ 9223372036854775807
 n1 : -9223372036854775808 ≤ R.num
 n2 : R.num ≤ 9223372036854775807
 d1 : -9223372036854775808 ≤ R.delim
 d2 : R.delim ≤ 9223372036854775807
 b : ∀ x ∈ R.body, x < 256
/-- Where the program's Ask stands. -/
structure AS (w w' : World) (g g1 : Nat) (xs ys : Array Value) : Prop where
 rq : w'.heap[g]? = some (.cells xs 28)
 ct : w'.heap[g1]? = some (.cells ys 114)
 bel : Below w.heap.size w w'
section
variable {w w1 w2 : World} {g g1 : Nat} {xs ys : Array Value}
end
/-- Where Ask stands while the content is put: v reads as L. -/
structure AB (w w' : World) (g g1 : Nat) (xs ys : Array Value) (v : Value) (L : List Nat) : Prop where
 sta : AS w w' g g1 xs ys
 rd : ∃ A c, v = .slice A L.length c ∧ L.length ≤ c ∧ Rd w' w'.heap.size A L.length (cb L)
section
variable {w w1 w2 : World} {g g1 : Nat} {xs ys : Array Value} {v v' : Value} {L X : List Nat}
end
end Go.Proofs.Ytbcmjjcbjojakaa
end
section
namespace Go.Proofs.Ytbcmjjcbjojakaa
open Go.RowKit
set_option linter.unusedVariables false
/-- An answer. -/
structure An where
 kind : Int
 tag : Nat
 code : Int
 body : List Nat
 keys : List ByteArray
 groups : List ByteArray
 next : ByteArray
 more : Bool
 ge : Int
 gc : Int
 size : Int
 h1 : Int
 h2 : Int
 h3 : Int
 h4 : Int
def fine (a : An) : Prop := a.code = 0
def tBody (a : An) : Prop := a.code = 0 ∧ (a.kind = 2 ∨ a.kind = 3)
def tGen (a : An) : Prop := a.code = 0 ∧ a.kind = 4
def tKeys (a : An) : Prop := a.code = 0 ∧ (a.kind = 6 ∨ a.kind = 7)
def tPage (a : An) : Prop := a.code = 0 ∧ a.kind = 7
/-- May the answer be? -/
def anOk (a : An) : Prop := 1 ≤ a.kind ∧ a.kind ≤ 8 ∧ 0 ≤ a.code ∧ a.code ≤ 2147483647 ∧ (¬ tBody a → a.body = []) ∧ (¬ tGen a → a.ge = 0 ∧ a.gc = 0 ∧ a.size = 0) ∧ (¬ tKeys a → a.keys = []) ∧
 (¬ tPage a → a.groups = [] ∧ a.next = emS ∧ a.more = false) ∧ (a.kind ≠ 8 → a.h1 = 0 ∧ a.h2 = 0 ∧ a.h3 = 0 ∧ a.h4 = 0)
def shortL (l : List ByteArray) (m : Nat) : Prop := l.length ≤ m ∧ ∀ t ∈ l, t.size ≤ 255
def anFit (a : An) : Prop := a.body.length ≤ 1048576 ∧ shortL a.keys (if a.kind = 6 then 65536 else 1000) ∧ shortL a.groups 1000 ∧ a.next.size ≤ 255
/-- What texts are written as, counted. -/
def ut (l : List ByteArray) : List Nat := uv l.length ++ tx l
open Classical in
/-- The content. -/
noncomputable def anC (a : An) : List Nat :=
 fx 1 a.kind.toNat ++ fx 8 a.tag ++ uv a.code.toNat ++ (if a.kind = 8 then uz a.h1 ++ uz a.h2 ++ uz a.h3 ++ uz a.h4 else []) ++ (if tBody a then ub a.body else []) ++
 (if tGen a then uz a.ge ++ uz a.gc ++ uz a.size else []) ++ (if tKeys a then ut a.keys else []) ++ (if tPage a then ut a.groups ++ us a.next ++ [if a.more = true then 1 else 0] else [])
open Classical in
noncomputable def tellP (a : An) : List Nat × Int := if anOk a then (if anFit a then (formP (anC a), 0) else ([], 3)) else ([], 2)
end Go.Proofs.Ytbcmjjcbjojakaa
end
