
/- The walk of cairnref06.gone. -/
import Derived.Test.YtbcmjjcbjojakaaGoneA
import Derived.StillTailTactics
import Derived.Deep.QuietTactic
import Derived.BigQuiet
namespace Go.Proofs.Ytbcmjjcbjojakaa
open Go.RowKit
set_option linter.unusedVariables false
theorem ci_set (L : List Nat) (j x : Nat) : (ci L).set j (.int .i64 (x : Int)) = ci (L.set j x) := by unfold ci; rw [List.map_set]
set_option maxRecDepth 100000 in
set_option maxHeartbeats 1000000 in
theorem gone_any (w : World) (A : Option Addr) (n c B : Nat) (l : List Nat) (R : Int) (hR1 : 0 ≤ R) (hR2 : R ≤ 4294967295) (hr : Rd w B A n (cb l)) (hB : B ≤ w.heap.size) (hl : ∀ x ∈ l, x < 256) (hn : n ≤ 2097152) :
    Calls Try.prog 104 #[.int .u32 R, .slice A n c] w fun e w' =>
      e = .returned (.int .u32 ((Crc.gn R.toNat l : Nat) : Int)) ∧ Below w.heap.size w w' := by
  have hll : l.length = n := by have := hr.1; rw [cb_length] at this; exact this
  have HH : Hid (Rd w B A n (cb l) ∧ B ≤ w.heap.size ∧ (∀ x ∈ l, x < 256) ∧ l.length = n) := ⟨hr, hB, hl, hll⟩
  clear hr hB hl hll
  go_enter Try.func104, Try.ntmps104
  go_wp2_with fail
  refine (bits_any w A n c B l HH.out.1 HH.out.2.1 HH.out.2.2.1 hn).mono ?_
  rintro e w1 ⟨v1, rfl, hO1⟩
  obtain ⟨A1, c1, rfl, _, _⟩ := own_form hO1.own
  have H1 := hid hO1
  clear hO1
  go_wp2_with fail
  go_loopw [5, 7] (fun s i wr => ∃ k : Nat, k ≤ 32 ∧ i = .int .i64 k ∧ Onto w wr w.heap.size 3 (.slice none 0 0) s (8 * n + k) (ci (Crc.bts l ++ List.replicate k 0))) (fun _ i _ => 32 - (intOf i).toNat)
  case atStart => exact ⟨0, by omega, rfl, by simpa using H1.out⟩
  case round =>
    obtain ⟨k, hk, rfl, hO⟩ := hrel
    have HO := hid hO
    clear hO
    by_cases hlt : k < 32
    · have HB : Hid (w.heap.size ≤ wr.heap.size) := HO.out.size
      have h63 : Hid (8 * n + k + 1 ≤ maxLen) := by show _ ≤ _; unfold maxLen; omega
      have hby : Hid ((8 * n + k + 1) * 8 ≤ 140737488355328) := by show _ ≤ _; omega
      go_wp2_with (refine wpList_push elI rfl rfl (.tmp 22) (.const (.int .i64 0)) 23 rfl rfl rfl w.heap.size u5 _ _ _ rfl rfl rfl rfl HO.out.own h63.out hby.out HB.out ?_; intro v1 w1 hO1)
      go_roundw
      case rel =>
        refine ⟨k + 1, by omega, by go_num, ?_⟩
        rw [List.replicate_succ', ← List.append_assoc, ci_append]
        exact HO.out.trans hO1
      case measure => simp [intOf]; omega
    · have hk32 : k = 32 := by omega
      subst hk32
      obtain ⟨g, cap, hv, hg, hgs⟩ := own_pos HO.out.own (by omega)
      subst hv
      obtain ⟨L1, hL1⟩ : ∃ L1, Crc.bts l ++ List.replicate 32 0 = L1 := ⟨_, rfl⟩
      have hbin : Crc.Bin L1 := by rw [← hL1]; exact Crc.bts_bin l
      have hlen : L1.length = 8 * n + 32 := by
        rw [← hL1, List.length_append, Crc.bts_len, List.length_replicate, HH.out.2.2.2]
      have B0 : Below w.heap.size w wr := HO.out.below (fun k h => by cases h) (Nat.le_refl _)
      have H2 : Hid (wr.ownsRow w.heap.size 3 1 (.slice (some ⟨g, 0, none⟩) (8 * n + 32) cap) (8 * n + 32) (ci L1) ∧ Below w.heap.size w wr ∧ w.heap.size ≤ g ∧ g < wr.heap.size ∧ Crc.Bin L1 ∧ L1.length = 8 * n + 32) :=
        ⟨by rw [← hL1]; exact HO.out.own, B0, hg, hgs, hbin, hlen⟩
      have HL1 : Hd _ := ⟨hL1⟩
      clear HO hL1 hbin hlen B0 hg hgs H1
      obtain ⟨W1, hW1⟩ : ∃ W1 : World, W1 = wr := ⟨_, rfl⟩
      rw [← hW1] at H2 ⊢
      clear hW1
      obtain ⟨N, hN⟩ : ∃ N, 8 * n + 32 = N := ⟨_, rfl⟩
      rw [hN] at H2 ⊢
      have N1 : 32 ≤ N := by omega
      have N2 : N ≤ 16777248 := by omega
      have HN := hid hN
      clear hN
      go_wp2_with fail
      go_loopw [8] (fun i wr => ∃ j : Nat, j ≤ 32 ∧ i = .int .i64 j ∧ wr.ownsRow w.heap.size 3 1 (.slice (some ⟨g, 0, none⟩) N cap) N (ci (Crc.rx R.toNat L1 j)) ∧ Below w.heap.size w wr ∧ g < wr.heap.size) (fun i _ => 32 - (intOf i).toNat)
      case atStart => exact ⟨0, by omega, rfl, H2.out.1, H2.out.2.1, H2.out.2.2.2.1⟩
      case round =>
        obtain ⟨j, hj, rfl, hO, hb, hgw⟩ := hrel
        have hln : (Crc.rx R.toNat L1 j).length = N := by rw [Crc.rx_len, H2.out.2.2.2.2.2]
        have hbn := Crc.rx_bin R.toNat L1 H2.out.2.2.2.2.1 j
        have HJ : Hid (wr.ownsRow w.heap.size 3 1 (.slice (some ⟨g, 0, none⟩) N cap) N (ci (Crc.rx R.toNat L1 j)) ∧ Below w.heap.size w wr ∧ g < wr.heap.size ∧ (Crc.rx R.toNat L1 j).length = N ∧ Crc.Bin (Crc.rx R.toNat L1 j)) := ⟨hO, hb, hgw, hln, hbn⟩
        clear hO hb hln hbn hgw
        by_cases hlt : j < 32
        · have hc : wr.cell? ⟨g, j, none⟩ = some (.int .i64 (((Crc.rx R.toNat L1 j).getD j 0 : Nat) : Int)) := by
            rw [HJ.out.1.cellAt j (by omega), ci_get _ _ (by rw [HJ.out.2.2.2.1]; omega)]
          have hz : wr.frozen? ⟨g, j, none⟩ = false := HJ.out.1.frozenAt j
          have hx2 := HJ.out.2.2.2.2 j
          have HS : Hd (Crc.rx R.toNat L1 (j + 1) = (Crc.rx R.toNat L1 j).set j ((Crc.rx R.toNat L1 j).getD j 0 ^^^ R.toNat / 2 ^ j % 2)) := ⟨rfl⟩
          generalize (Crc.rx R.toNat L1 j).getD j 0 = x at *
          have y2 : R.toNat / 2 ^ j % 2 < 2 := by omega
          have e1 : bits .and .u32 (R / 2 ^ j) 1 = ((R.toNat / 2 ^ j % 2 : Nat) : Int) := by
            have hd : R / 2 ^ j = ((R.toNat / 2 ^ j : Nat) : Int) := by
              rw [Int.natCast_ediv, Int.toNat_of_nonneg hR1]; push_cast; rfl
            have hle : R.toNat / 2 ^ j ≤ R.toNat := Nat.div_le_self _ _
            rw [hd]
            clear hd
            generalize R.toNat / 2 ^ j = d at *
            rw [and1_u32 _ (by omega) (by omega)]; omega
          generalize R.toNat / 2 ^ j % 2 = y at *
          have e2 := xor01 x hx2 y y2
          generalize x ^^^ y = z at *
          have y3 : (0 : Int) ≤ (y : Int) ∧ (y : Int) ≤ 1 := by omega
          obtain ⟨X, hX⟩ : ∃ X : Int, (x : Int) = X := ⟨_, rfl⟩
          obtain ⟨Y, hY⟩ : ∃ Y : Int, (y : Int) = Y := ⟨_, rfl⟩
          rw [hX] at hc e2
          rw [hY] at e1 e2 y3
          obtain ⟨y3, y4⟩ := y3
          clear hX hY hx2 y2
          go_wp2_with fail
          go_roundw
          case rel =>
            have hs := HJ.out.1.stored j (.int .i64 (z : Int))
            rw [ci_set] at hs
            exact ⟨j + 1, by omega, by go_num, by rw [HS.out]; exact hs.1, HJ.out.2.1.setCell (p := ⟨g, j, none⟩) H2.out.2.2.1 _, by simp [World.setCell]; exact HJ.out.2.2.1⟩
          case measure => simp [intOf]; omega
        · have hj32 : j = 32 := by omega
          subst hj32
          obtain ⟨L2, hL2⟩ : ∃ L2, Crc.rx R.toNat L1 32 = L2 := ⟨_, rfl⟩
          rw [hL2] at HJ
          have HL2 : Hd _ := ⟨hL2⟩
          clear hL2
          obtain ⟨W2, hW2⟩ : ∃ W2 : World, W2 = wr := ⟨_, rfl⟩
          rw [← hW2] at HJ ⊢
          clear hW2
          go_wp2_with fail
          refine (terms_any W2).mono ?_
          rintro e w3 ⟨v3, rfl, hO3⟩
          obtain ⟨gt, ct, hv3, hgt, hgt2⟩ := own_pos hO3.own (by omega)
          subst hv3
          have B3 : Below W2.heap.size W2 w3 := hO3.below (fun k h => by cases h) (Nat.le_refl _)
          have hne : g ≠ gt := by have := HJ.out.2.2.1; omega
          have h3 : w3.ownsRow w.heap.size 3 1 (.slice (some ⟨g, 0, none⟩) N cap) N (ci L2) := by
            refine HJ.out.1.kept hO3.2.1 (Or.inr ?_)
            simp [Value.ownBlock]
          have t3 : w3.ownsRow w.heap.size 3 1 (.slice (some ⟨gt, 0, none⟩) 18 ct) 18 (ci Crc.trm) := hO3.base_ (fun k h => by cases h) HJ.out.2.1.size
          have H3 : Hid (w3.ownsRow w.heap.size 3 1 (.slice (some ⟨g, 0, none⟩) N cap) N (ci L2) ∧ w3.ownsRow w.heap.size 3 1 (.slice (some ⟨gt, 0, none⟩) 18 ct) 18 (ci Crc.trm) ∧ Below w.heap.size w w3 ∧ g ≠ gt ∧ w.heap.size ≤ g ∧ L2.length = N ∧ Crc.Bin L2) :=
            ⟨h3, t3, HJ.out.2.1.trans (B3.mono HJ.out.2.1.size), hne, H2.out.2.2.1, HJ.out.2.2.2.1, HJ.out.2.2.2.2⟩
          have HL : Hd (Crc.rx R.toNat (Crc.bts l ++ List.replicate 32 0) 32 = L2) := ⟨by rw [HL1.out]; exact HL2.out⟩
          clear h3 t3 B3 hO3 hgt hgt2 hne HJ H2 HL2 HL1
          go_wp2_with fail
          go_loopw [10] (fun q wr => ∃ i : Nat, i ≤ 8 * n ∧ q = .int .i64 i ∧ wr.ownsRow w.heap.size 3 1 (.slice (some ⟨g, 0, none⟩) N cap) N (ci (Crc.gl L2 i)) ∧ wr.ownsRow w.heap.size 3 1 (.slice (some ⟨gt, 0, none⟩) 18 ct) 18 (ci Crc.trm) ∧ Below w.heap.size w wr) (fun q _ => 8 * n - (intOf q).toNat)
          case atStart => exact ⟨0, by omega, rfl, H3.out.1, H3.out.2.1, H3.out.2.2.1⟩
          case round =>
            obtain ⟨i, hi, rfl, hO, hT, hb⟩ := hrel
            have hln : (Crc.gl L2 i).length = N := by rw [Crc.gl_len, H3.out.2.2.2.2.2.1]
            have hbn := Crc.gl_bin L2 H3.out.2.2.2.2.2.2 i
            have HJ : Hid (wr.ownsRow w.heap.size 3 1 (.slice (some ⟨g, 0, none⟩) N cap) N (ci (Crc.gl L2 i)) ∧ wr.ownsRow w.heap.size 3 1 (.slice (some ⟨gt, 0, none⟩) 18 ct) 18 (ci Crc.trm) ∧ Below w.heap.size w wr ∧ (Crc.gl L2 i).length = N ∧ Crc.Bin (Crc.gl L2 i)) := ⟨hO, hT, hb, hln, hbn⟩
            clear hO hT hb hln hbn
            by_cases hlt : i < 8 * n
            · have hi2 : i < N := by have := HN.out; omega
              have hc : wr.cell? ⟨g, i, none⟩ = some (.int .i64 (((Crc.gl L2 i).getD i 0 : Nat) : Int)) := by
                rw [HJ.out.1.cellAt i (by omega), ci_get _ _ (by rw [HJ.out.2.2.2.1]; omega)]
              have hlt' : (i : Int) < 8 * (n : Int) := by omega
              by_cases hx1 : (Crc.gl L2 i).getD i 0 = 1
              · rw [hx1] at hc
                have HG : Hd (Crc.gl L2 (i + 1) = Crc.tg (Crc.gl L2 i) i 18) := ⟨by simp only [Crc.gl]; rw [if_pos hx1]⟩
                clear hx1
                obtain ⟨wo, hwo⟩ : ∃ wo : World, wo = wr := ⟨_, rfl⟩
                rw [← hwo] at HJ hc ⊢
                clear hwo
                go_wp2_with fail
                clear hc
                go_loopw [11] (fun q wr => ∃ k : Nat, k ≤ 18 ∧ q = .int .i64 k ∧ wr.ownsRow w.heap.size 3 1 (.slice (some ⟨g, 0, none⟩) N cap) N (ci (Crc.tg (Crc.gl L2 i) i k)) ∧ wr.ownsRow w.heap.size 3 1 (.slice (some ⟨gt, 0, none⟩) 18 ct) 18 (ci Crc.trm) ∧ Below w.heap.size w wr) (fun q _ => 18 - (intOf q).toNat)
                case atStart => exact ⟨0, by omega, rfl, HJ.out.1, HJ.out.2.1, HJ.out.2.2.1⟩
                case round =>
                  obtain ⟨k, hk, rfl, hO, hT, hb⟩ := hrel
                  have hln : (Crc.tg (Crc.gl L2 i) i k).length = N := by rw [Crc.tg_len, HJ.out.2.2.2.1]
                  have hbn := Crc.tg_bin (Crc.gl L2 i) i HJ.out.2.2.2.2 k
                  by_cases hk18 : k < 18
                  · have htk := Crc.trm_le k hk18
                    have hct : wr.cell? ⟨gt, k, none⟩ = some (.int .i64 ((Crc.trm.getD k 0 : Nat) : Int)) := by
                      rw [hT.cellAt k (by omega), ci_get _ _ hk18]
                    have HG2 : Hd (Crc.tg (Crc.gl L2 i) i (k + 1) = (Crc.tg (Crc.gl L2 i) i k).set (i + Crc.trm.getD k 0) ((Crc.tg (Crc.gl L2 i) i k).getD (i + Crc.trm.getD k 0) 0 ^^^ 1)) := ⟨rfl⟩
                    generalize Crc.trm.getD k 0 = tk at *
                    have hbd : i + tk < N := by have := HN.out; omega
                    have hcl : wr.cell? ⟨g, i + tk, none⟩ = some (.int .i64 (((Crc.tg (Crc.gl L2 i) i k).getD (i + tk) 0 : Nat) : Int)) := by
                      rw [hO.cellAt (i + tk) (by omega), ci_get _ _ (by rw [hln]; omega)]
                    have hz : wr.frozen? ⟨g, i + tk, none⟩ = false := hO.frozenAt (i + tk)
                    have hx2 := hbn (i + tk)
                    generalize (Crc.tg (Crc.gl L2 i) i k).getD (i + tk) 0 = x at *
                    have e2 := xor01 x hx2 1 (by omega)
                    rw [show ((1 : Nat) : Int) = 1 from rfl] at e2
                    generalize x ^^^ 1 = z at *
                    obtain ⟨X, hX⟩ : ∃ X : Int, (x : Int) = X := ⟨_, rfl⟩
                    rw [hX] at hcl e2
                    clear hX hx2
                    have HK : Hid (wr.ownsRow w.heap.size 3 1 (.slice (some ⟨g, 0, none⟩) N cap) N (ci (Crc.tg (Crc.gl L2 i) i k)) ∧ wr.ownsRow w.heap.size 3 1 (.slice (some ⟨gt, 0, none⟩) 18 ct) 18 (ci Crc.trm) ∧ Below w.heap.size w wr) := ⟨hO, hT, hb⟩
                    clear hO hT hb hln hbn
                    have s1 : IntKind.i64.wrap ((i : Int) + (tk : Int)) = (i : Int) + (tk : Int) := IntWalk.i64_in _ (by omega)
                    have s2 : ((i : Int) + (tk : Int)).toNat = i + tk := by omega
                    have s3 : (0 : Int) ≤ (i : Int) + (tk : Int) := by omega
                    have s4 : (i : Int) + (tk : Int) < (N : Int) := by omega
                    go_wp2_with fail
                    go_still_tail 18, (by kernel_rfl)
                    change wpList _ _ _ _ _ wr.drew
                    go_wp2_with fail
                    go_roundw
                    case rel =>
                      have hs := HK.out.1.stored (i + tk) (.int .i64 (z : Int))
                      rw [ci_set] at hs
                      refine ⟨k + 1, by omega, by go_num, ?_, ?_, ?_⟩
                      · rw [HG2.out]; exact hs.1
                      · have ht := HK.out.2.1.kept hs.2 (Or.inr (by have := H3.out.2.2.2.1; simp [Value.ownBlock]; omega))
                        exact ht
                      · exact ((HK.out.2.2).setCell (p := ⟨g, i + tk, none⟩) H3.out.2.2.2.2.1 _).drew
                    case measure => simp [intOf]; omega
                  · have hk8 : k = 18 := by omega
                    subst hk8
                    rw [← HG.out] at hO
                    have HK : Hd (wr.ownsRow w.heap.size 3 1 (.slice (some ⟨g, 0, none⟩) N cap) N (ci (Crc.gl L2 (i + 1))) ∧ wr.ownsRow w.heap.size 3 1 (.slice (some ⟨gt, 0, none⟩) 18 ct) 18 (ci Crc.trm) ∧ Below w.heap.size w wr) := ⟨hO, hT, hb⟩
                    clear hO hT hb hln hbn
                    go_wp2_with fail
                    go_roundw
                    case rel => exact ⟨i + 1, by omega, by go_num, HK.out.1, HK.out.2.1, HK.out.2.2⟩
                    case measure => simp [intOf]; omega
              · have hcond : (((Crc.gl L2 i).getD i 0 : Nat) : Int) ≠ 1 := by omega
                have HG : Hd (Crc.gl L2 (i + 1) = Crc.gl L2 i) := ⟨by simp only [Crc.gl]; rw [if_neg hx1]⟩
                clear hx1
                obtain ⟨X, hX⟩ : ∃ X : Int, (((Crc.gl L2 i).getD i 0 : Nat) : Int) = X := ⟨_, rfl⟩
                rw [hX] at hc hcond
                have e0 : (X == 1) = false := by simpa using hcond
                clear hX hcond
                go_wp2_with fail
                go_roundw
                case rel => exact ⟨i + 1, by omega, by go_num, by rw [HG.out]; exact HJ.out.1, HJ.out.2.1, HJ.out.2.2.1⟩
                case measure => simp [intOf]; omega
            · have hin : i = 8 * n := by omega
              subst hin
              obtain ⟨L3, hL3⟩ : ∃ L3, Crc.gl L2 (8 * n) = L3 := ⟨_, rfl⟩
              rw [hL3] at HJ
              have HL3 : Hd _ := ⟨hL3⟩
              clear hL3
              obtain ⟨W4, hW4⟩ : ∃ W4 : World, W4 = wr := ⟨_, rfl⟩
              rw [← hW4] at HJ ⊢
              clear hW4
              go_wp2_with fail
              go_loop [12, 13] (fun v q => ∃ j : Nat, j ≤ 32 ∧ q = .int .i64 j ∧ v = .int .u32 ((Crc.rs L3 (8 * n) j : Nat) : Int)) (fun _ q => 32 - (intOf q).toNat)
              case atStart => exact ⟨0, by omega, rfl, rfl⟩
              case round =>
                obtain ⟨j, hj, rfl, rfl⟩ := hrel
                have hr1 := Crc.rs_lt L3 (8 * n) HJ.out.2.2.2.2 j
                have hr2 : 2 ^ j ≤ 2 ^ 32 := Nat.pow_le_pow_right (by omega) hj
                by_cases hlt : j < 32
                · have hin : 8 * n + j < N := by have := HN.out; omega
                  have hc : W4.cell? ⟨g, 8 * n + j, none⟩ = some (.int .i64 ((L3.getD (8 * n + j) 0 : Nat) : Int)) := by
                    rw [HJ.out.1.cellAt (8 * n + j) (by omega), ci_get _ _ (by rw [HJ.out.2.2.2.1]; omega)]
                  have hx2 := HJ.out.2.2.2.2 (8 * n + j)
                  have HR : Hd (Crc.rs L3 (8 * n) (j + 1) = Crc.rs L3 (8 * n) j ||| L3.getD (8 * n + j) 0 * 2 ^ j) := ⟨rfl⟩
                  generalize Crc.rs L3 (8 * n) j = v at *
                  generalize L3.getD (8 * n + j) 0 = x at *
                  have hm : x * 2 ^ j < 4294967296 := by
                    have h3 : 2 ^ j ≤ 2 ^ 31 := Nat.pow_le_pow_right (by omega) (by omega)
                    have : x * 2 ^ j ≤ 1 * 2 ^ 31 := Nat.mul_le_mul (by omega) h3
                    omega
                  have e1 : (x : Int) * 2 ^ j = ((x * 2 ^ j : Nat) : Int) := by push_cast; rfl
                  have e2 := u32_or_nat v (x * 2 ^ j) (by omega) hm
                  rw [← e1] at e2
                  have e3 : IntKind.u32.wrap ((x : Int) * 2 ^ j) = (x : Int) * 2 ^ j := by rw [e1]; exact IntWalk.u32_in _ (by omega)
                  have y1 : (0 : Int) ≤ (x : Int) * 2 ^ j := by rw [e1]; omega
                  have y2 : (x : Int) * 2 ^ j ≤ 4294967295 := by rw [e1]; omega
                  clear e1 hm hr1 hr2 e3
                  have x1 : (0 : Int) ≤ (x : Int) := by omega
                  have x2 : (x : Int) ≤ 1 := by omega
                  obtain ⟨X, hX⟩ : ∃ X : Int, (x : Int) = X := ⟨_, rfl⟩
                  obtain ⟨Y, hY⟩ : ∃ Y : Int, X * 2 ^ j = Y := ⟨_, rfl⟩
                  rw [hX] at hc e2 x1 x2 y1 y2
                  rw [hY] at e2 y1 y2
                  clear hX hx2
                  go_wp2_with fail
                  go_roundw
                  case rel => exact ⟨j + 1, by omega, by go_num, by rw [HR.out, ← e2]⟩
                  case measure => simp [intOf]; omega
                · have hj32 : j = 32 := by omega
                  subst hj32
                  clear hr1 hr2
                  have HF : Hd (Crc.gn R.toNat l = Crc.rs L3 (8 * n) 32) := ⟨by unfold Crc.gn; rw [HH.out.2.2.2, HL.out, HL3.out]⟩
                  obtain ⟨fin, hfin⟩ : ∃ f, Crc.rs L3 (8 * n) 32 = f := ⟨_, rfl⟩
                  rw [hfin]
                  have HI : Hd _ := ⟨hfin⟩
                  clear hfin
                  go_wp2_with fail
                  go_ret
                  exact ⟨by rw [HF.out, HI.out]; rfl, HJ.out.2.2.1⟩
end Go.Proofs.Ytbcmjjcbjojakaa
