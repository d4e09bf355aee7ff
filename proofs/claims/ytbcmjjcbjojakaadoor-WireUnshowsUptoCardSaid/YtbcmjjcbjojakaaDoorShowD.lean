
/- The reference's letter. (tools/lettergen.py prints it.) -/
import Derived.Test.YtbcmjjcbjojakaaDoorShowC
namespace Go.Proofs.YtbcmjjcbjojakaaDoor
open Go.RowKit
set_option linter.unusedVariables false
theorem okV_not (n v l : Nat) (hl : l = (if n = 2 then 128 else if n = 3 then 2048 else 65536)) (h : v < l ∨ 1114111 < v ∨ (55296 ≤ v ∧ v < 57344)) : ¬ okV n v := by subst hl; unfold okV; omega
theorem okV_is (n v l : Nat) (hl : l = (if n = 2 then 128 else if n = 3 then 2048 else 65536)) (h1 : l ≤ v) (h2 : v ≤ 1114111) (h3 : ¬ (55296 ≤ v ∧ v < 57344)) : okV n v := by subst hl; unfold okV; omega
set_option maxHeartbeats 4000000 in
set_option maxRecDepth 100000 in
theorem letter_any (w : World) (s : ByteArray) (h : 0 < s.size) (hs : s.size ≤ 140737488355328) :
    Calls Tryd.prog 34 #[.string s] w fun e w' => e = .returned (.tuple #[.int .i64 ((letR s).1 : Int), .int .i64 ((letR s).2 : Int)]) ∧ w' = w := by
  have hI0 := fun W => bt_at s 0 h 0 rfl W
  have hx := bt_lt s 0
  have HR0 : Hd (letR s = (0, 0) → Ending.returned (.tuple #[.int .i64 0, .int .i64 0]) = .returned (.tuple #[.int .i64 ((letR s).1 : Int), .int .i64 ((letR s).2 : Int)])) := ⟨fun h => by rw [h]; rfl⟩
  have HR1 : Hd (∀ v n : Nat, letR s = (v, n) → ∀ a b : Int, a = (v : Int) → b = (n : Int) → Ending.returned (.tuple #[.int .i64 a, .int .i64 b]) = .returned (.tuple #[.int .i64 ((letR s).1 : Int), .int .i64 ((letR s).2 : Int)])) := ⟨fun v n h a b e1 e2 => by rw [h, e1, e2]⟩
  obtain ⟨X, hX⟩ : ∃ X, bt s 0 = X := ⟨_, rfl⟩
  have HX := Hd.mk hX
  rw [hX] at hI0 hx
  clear hX
  go_enter Tryd.func34, Tryd.ntmps34
  by_cases c1 : X < 128
  · have HL : Hd (letR s = (X, 1)) := ⟨letR_good s X 1 (.inr (by omega)) (by rw [dec0 s h, HX.out]; unfold Lib.decodeN; rw [if_pos c1])⟩
    go_wp2_with fail
    go_ret2
    exact ⟨HR1.out _ _ HL.out _ _ rfl rfl, rfl⟩
  by_cases c2 : X < 192
  · have HL : Hd (letR s = (0, 0)) := ⟨letR_bad s (by rw [dec0 s h, HX.out]; exact dn_lead (by omega) (by omega) hx)⟩
    go_wp2_with fail
    all_goals (go_ret2; exact ⟨HR0.out HL.out, rfl⟩)
  by_cases c3 : 248 ≤ X
  · have HL : Hd (letR s = (0, 0)) := ⟨letR_bad s (by rw [dec0 s h, HX.out]; exact dn_lead (by omega) (by omega) hx)⟩
    go_wp2_with fail
    all_goals (go_ret2; exact ⟨HR0.out HL.out, rfl⟩)
  by_cases d2 : X < 224
  · have HA := Hd.mk (let_all s h 2 (by omega) (by rw [HX.out]; simp [baseV]; omega) (by rw [HX.out]; simp [topV]; omega))
    rw [HX.out, show baseV 2 = 192 from rfl] at HA
    by_cases hn : s.size < 2
    · go_wp2_with fail
      all_goals (go_ret2; exact ⟨HR0.out (HA.out.1 hn), rfl⟩)
    obtain ⟨a, ha⟩ : ∃ a, X - 192 = a := ⟨_, rfl⟩
    have ha2 : (X : Int) - 192 = (a : Int) := by omega
    have ha3 : a < 64 := by omega
    rw [ha] at HA
    go_wp2_with fail
    go_loop [2, 3, 6, 8] (fun _ _ v i => ∃ k : Nat, k + 1 ≤ 2 ∧ i = .int .i64 ((k : Int) + 1) ∧ v = .int .i64 (lv s a k : Int) ∧ Hd (∀ j, 1 ≤ j → j ≤ k → 128 ≤ bt s j ∧ bt s j < 192)) (fun _ _ _ i => 2 - (intOf i).toNat)
    case atStart => exact ⟨0, by omega, rfl, by (try rw [ha2]); rfl, ⟨fun j h1 h2 => by omega⟩⟩
    case round =>
      obtain ⟨k, hk, rfl, rfl, HC⟩ := hrel
      have hlv := lv_lt s a 64 ha3 k
      have hp : 64 ^ k ≤ 262144 := Nat.le_trans (Nat.pow_le_pow_right (by decide) (show k ≤ 3 by omega)) (by decide)
      by_cases hlt : k + 1 < 2
      · have hIk := fun W => bt_at s (k + 1) (by omega) ((k : Int) + 1) rfl W
        have hcl := bt_lt s (k + 1)
        have HV : Hd (lv s a (k + 1) = lv s a k * 64 + bt s (k + 1) % 64) := ⟨rfl⟩
        have HCk : Hd (∀ j, j = k + 1 → bt s j = bt s (k + 1)) := ⟨fun j hj => by rw [hj]⟩
        obtain ⟨C, hC⟩ : ∃ C, bt s (k + 1) = C := ⟨_, rfl⟩
        have HC1 := Hd.mk hC
        rw [hC] at hIk hcl HV HCk
        clear hC
        obtain ⟨V, hV⟩ : ∃ V, lv s a k = V := ⟨_, rfl⟩
        rw [hV] at HV hlv ⊢
        clear hV
        by_cases g1 : C < 128
        · have HL := Hd.mk (HA.out.2.1 (k + 1) (by omega) hlt (by rw [HC1.out]; omega))
          clear HV HCk HC hlv hp
          go_wp2_with fail
          all_goals (go_ret2; exact ⟨HR0.out HL.out, rfl⟩)
        by_cases g2 : 192 ≤ C
        · have HL := Hd.mk (HA.out.2.1 (k + 1) (by omega) hlt (by rw [HC1.out]; omega))
          clear HV HCk HC hlv hp
          go_wp2_with fail
          all_goals (go_ret2; exact ⟨HR0.out HL.out, rfl⟩)
        have hv1 : V < 16777216 := by omega
        clear hlv hp
        go_wp2_with fail
        go_round
        case rel => refine ⟨_, _, _, _, ⟨k + 1, by omega, rfl, rfl, ⟨fun j h1 h2 => ?_⟩⟩, rfl, rfl, by rw [HV.out]; congr 1; omega, by go_num⟩; (
          by_cases e : j = k + 1
          · rw [HCk.out j e]; omega
          · exact HC.out j h1 (by omega))
        case measure => simp [intOf]; omega
      · obtain rfl : k = 1 := by omega
        have HF := Hd.mk (HA.out.2.2 (by omega) (fun j h1 h2 => HC.out j h1 (by omega)))
        have HF2 : Hd (lv s a (2 - 1) = lv s a 1) := ⟨rfl⟩
        rw [HF2.out] at HF
        obtain ⟨V, hV⟩ : ∃ V, lv s a 1 = V := ⟨_, rfl⟩
        rw [hV] at HF hlv ⊢
        clear hV HF2
        by_cases o1 : V < 128
        · have HL := Hd.mk (HF.out.2 (okV_not 2 V 128 rfl (by omega)))
          go_wp2_with fail
          all_goals (go_ret2; exact ⟨HR0.out HL.out, rfl⟩)
        by_cases o2 : 1114111 < V
        · have HL := Hd.mk (HF.out.2 (okV_not 2 V 128 rfl (by omega)))
          go_wp2_with fail
          all_goals (go_ret2; exact ⟨HR0.out HL.out, rfl⟩)
        by_cases o3 : V < 55296
        · have HL := Hd.mk (HF.out.1 (okV_is 2 V 128 rfl (by omega) (by omega) (by omega)))
          go_wp2_with fail
          all_goals (go_ret2; exact ⟨HR1.out _ _ HL.out _ _ rfl rfl, rfl⟩)
        by_cases o4 : V < 57344
        · have HL := Hd.mk (HF.out.2 (okV_not 2 V 128 rfl (by omega)))
          go_wp2_with fail
          all_goals (go_ret2; exact ⟨HR0.out HL.out, rfl⟩)
        have HL := Hd.mk (HF.out.1 (okV_is 2 V 128 rfl (by omega) (by omega) (by omega)))
        go_wp2_with fail
        all_goals (go_ret2; exact ⟨HR1.out _ _ HL.out _ _ rfl rfl, rfl⟩)
  by_cases d3 : X < 240
  · have HA := Hd.mk (let_all s h 3 (by omega) (by rw [HX.out]; simp [baseV]; omega) (by rw [HX.out]; simp [topV]; omega))
    rw [HX.out, show baseV 3 = 224 from rfl] at HA
    by_cases hn : s.size < 3
    · go_wp2_with fail
      all_goals (go_ret2; exact ⟨HR0.out (HA.out.1 hn), rfl⟩)
    obtain ⟨a, ha⟩ : ∃ a, X - 224 = a := ⟨_, rfl⟩
    have ha2 : (X : Int) - 224 = (a : Int) := by omega
    have ha3 : a < 64 := by omega
    rw [ha] at HA
    go_wp2_with fail
    go_loop [2, 3, 6, 8] (fun _ _ v i => ∃ k : Nat, k + 1 ≤ 3 ∧ i = .int .i64 ((k : Int) + 1) ∧ v = .int .i64 (lv s a k : Int) ∧ Hd (∀ j, 1 ≤ j → j ≤ k → 128 ≤ bt s j ∧ bt s j < 192)) (fun _ _ _ i => 3 - (intOf i).toNat)
    case atStart => exact ⟨0, by omega, rfl, by (try rw [ha2]); rfl, ⟨fun j h1 h2 => by omega⟩⟩
    case round =>
      obtain ⟨k, hk, rfl, rfl, HC⟩ := hrel
      have hlv := lv_lt s a 64 ha3 k
      have hp : 64 ^ k ≤ 262144 := Nat.le_trans (Nat.pow_le_pow_right (by decide) (show k ≤ 3 by omega)) (by decide)
      by_cases hlt : k + 1 < 3
      · have hIk := fun W => bt_at s (k + 1) (by omega) ((k : Int) + 1) rfl W
        have hcl := bt_lt s (k + 1)
        have HV : Hd (lv s a (k + 1) = lv s a k * 64 + bt s (k + 1) % 64) := ⟨rfl⟩
        have HCk : Hd (∀ j, j = k + 1 → bt s j = bt s (k + 1)) := ⟨fun j hj => by rw [hj]⟩
        obtain ⟨C, hC⟩ : ∃ C, bt s (k + 1) = C := ⟨_, rfl⟩
        have HC1 := Hd.mk hC
        rw [hC] at hIk hcl HV HCk
        clear hC
        obtain ⟨V, hV⟩ : ∃ V, lv s a k = V := ⟨_, rfl⟩
        rw [hV] at HV hlv ⊢
        clear hV
        by_cases g1 : C < 128
        · have HL := Hd.mk (HA.out.2.1 (k + 1) (by omega) hlt (by rw [HC1.out]; omega))
          clear HV HCk HC hlv hp
          go_wp2_with fail
          all_goals (go_ret2; exact ⟨HR0.out HL.out, rfl⟩)
        by_cases g2 : 192 ≤ C
        · have HL := Hd.mk (HA.out.2.1 (k + 1) (by omega) hlt (by rw [HC1.out]; omega))
          clear HV HCk HC hlv hp
          go_wp2_with fail
          all_goals (go_ret2; exact ⟨HR0.out HL.out, rfl⟩)
        have hv1 : V < 16777216 := by omega
        clear hlv hp
        go_wp2_with fail
        go_round
        case rel => refine ⟨_, _, _, _, ⟨k + 1, by omega, rfl, rfl, ⟨fun j h1 h2 => ?_⟩⟩, rfl, rfl, by rw [HV.out]; congr 1; omega, by go_num⟩; (
          by_cases e : j = k + 1
          · rw [HCk.out j e]; omega
          · exact HC.out j h1 (by omega))
        case measure => simp [intOf]; omega
      · obtain rfl : k = 2 := by omega
        have HF := Hd.mk (HA.out.2.2 (by omega) (fun j h1 h2 => HC.out j h1 (by omega)))
        have HF2 : Hd (lv s a (3 - 1) = lv s a 2) := ⟨rfl⟩
        rw [HF2.out] at HF
        obtain ⟨V, hV⟩ : ∃ V, lv s a 2 = V := ⟨_, rfl⟩
        rw [hV] at HF hlv ⊢
        clear hV HF2
        by_cases o1 : V < 2048
        · have HL := Hd.mk (HF.out.2 (okV_not 3 V 2048 rfl (by omega)))
          go_wp2_with fail
          all_goals (go_ret2; exact ⟨HR0.out HL.out, rfl⟩)
        by_cases o2 : 1114111 < V
        · have HL := Hd.mk (HF.out.2 (okV_not 3 V 2048 rfl (by omega)))
          go_wp2_with fail
          all_goals (go_ret2; exact ⟨HR0.out HL.out, rfl⟩)
        by_cases o3 : V < 55296
        · have HL := Hd.mk (HF.out.1 (okV_is 3 V 2048 rfl (by omega) (by omega) (by omega)))
          go_wp2_with fail
          all_goals (go_ret2; exact ⟨HR1.out _ _ HL.out _ _ rfl rfl, rfl⟩)
        by_cases o4 : V < 57344
        · have HL := Hd.mk (HF.out.2 (okV_not 3 V 2048 rfl (by omega)))
          go_wp2_with fail
          all_goals (go_ret2; exact ⟨HR0.out HL.out, rfl⟩)
        have HL := Hd.mk (HF.out.1 (okV_is 3 V 2048 rfl (by omega) (by omega) (by omega)))
        go_wp2_with fail
        all_goals (go_ret2; exact ⟨HR1.out _ _ HL.out _ _ rfl rfl, rfl⟩)
  have HA := Hd.mk (let_all s h 4 (by omega) (by rw [HX.out]; simp [baseV]; omega) (by rw [HX.out]; simp [topV]; omega))
  rw [HX.out, show baseV 4 = 240 from rfl] at HA
  by_cases hn : s.size < 4
  · go_wp2_with fail
    all_goals (go_ret2; exact ⟨HR0.out (HA.out.1 hn), rfl⟩)
  obtain ⟨a, ha⟩ : ∃ a, X - 240 = a := ⟨_, rfl⟩
  have ha2 : (X : Int) - 240 = (a : Int) := by omega
  have ha3 : a < 64 := by omega
  rw [ha] at HA
  go_wp2_with fail
  go_loop [2, 3, 6, 8] (fun _ _ v i => ∃ k : Nat, k + 1 ≤ 4 ∧ i = .int .i64 ((k : Int) + 1) ∧ v = .int .i64 (lv s a k : Int) ∧ Hd (∀ j, 1 ≤ j → j ≤ k → 128 ≤ bt s j ∧ bt s j < 192)) (fun _ _ _ i => 4 - (intOf i).toNat)
  case atStart => exact ⟨0, by omega, rfl, by (try rw [ha2]); rfl, ⟨fun j h1 h2 => by omega⟩⟩
  case round =>
    obtain ⟨k, hk, rfl, rfl, HC⟩ := hrel
    have hlv := lv_lt s a 64 ha3 k
    have hp : 64 ^ k ≤ 262144 := Nat.le_trans (Nat.pow_le_pow_right (by decide) (show k ≤ 3 by omega)) (by decide)
    by_cases hlt : k + 1 < 4
    · have hIk := fun W => bt_at s (k + 1) (by omega) ((k : Int) + 1) rfl W
      have hcl := bt_lt s (k + 1)
      have HV : Hd (lv s a (k + 1) = lv s a k * 64 + bt s (k + 1) % 64) := ⟨rfl⟩
      have HCk : Hd (∀ j, j = k + 1 → bt s j = bt s (k + 1)) := ⟨fun j hj => by rw [hj]⟩
      obtain ⟨C, hC⟩ : ∃ C, bt s (k + 1) = C := ⟨_, rfl⟩
      have HC1 := Hd.mk hC
      rw [hC] at hIk hcl HV HCk
      clear hC
      obtain ⟨V, hV⟩ : ∃ V, lv s a k = V := ⟨_, rfl⟩
      rw [hV] at HV hlv ⊢
      clear hV
      by_cases g1 : C < 128
      · have HL := Hd.mk (HA.out.2.1 (k + 1) (by omega) hlt (by rw [HC1.out]; omega))
        clear HV HCk HC hlv hp
        go_wp2_with fail
        all_goals (go_ret2; exact ⟨HR0.out HL.out, rfl⟩)
      by_cases g2 : 192 ≤ C
      · have HL := Hd.mk (HA.out.2.1 (k + 1) (by omega) hlt (by rw [HC1.out]; omega))
        clear HV HCk HC hlv hp
        go_wp2_with fail
        all_goals (go_ret2; exact ⟨HR0.out HL.out, rfl⟩)
      have hv1 : V < 16777216 := by omega
      clear hlv hp
      go_wp2_with fail
      go_round
      case rel => refine ⟨_, _, _, _, ⟨k + 1, by omega, rfl, rfl, ⟨fun j h1 h2 => ?_⟩⟩, rfl, rfl, by rw [HV.out]; congr 1; omega, by go_num⟩; (
        by_cases e : j = k + 1
        · rw [HCk.out j e]; omega
        · exact HC.out j h1 (by omega))
      case measure => simp [intOf]; omega
    · obtain rfl : k = 3 := by omega
      have HF := Hd.mk (HA.out.2.2 (by omega) (fun j h1 h2 => HC.out j h1 (by omega)))
      have HF2 : Hd (lv s a (4 - 1) = lv s a 3) := ⟨rfl⟩
      rw [HF2.out] at HF
      obtain ⟨V, hV⟩ : ∃ V, lv s a 3 = V := ⟨_, rfl⟩
      rw [hV] at HF hlv ⊢
      clear hV HF2
      by_cases o1 : V < 65536
      · have HL := Hd.mk (HF.out.2 (okV_not 4 V 65536 rfl (by omega)))
        go_wp2_with fail
        all_goals (go_ret2; exact ⟨HR0.out HL.out, rfl⟩)
      by_cases o2 : 1114111 < V
      · have HL := Hd.mk (HF.out.2 (okV_not 4 V 65536 rfl (by omega)))
        go_wp2_with fail
        all_goals (go_ret2; exact ⟨HR0.out HL.out, rfl⟩)
      by_cases o3 : V < 55296
      · have HL := Hd.mk (HF.out.1 (okV_is 4 V 65536 rfl (by omega) (by omega) (by omega)))
        go_wp2_with fail
        all_goals (go_ret2; exact ⟨HR1.out _ _ HL.out _ _ rfl rfl, rfl⟩)
      by_cases o4 : V < 57344
      · have HL := Hd.mk (HF.out.2 (okV_not 4 V 65536 rfl (by omega)))
        go_wp2_with fail
        all_goals (go_ret2; exact ⟨HR0.out HL.out, rfl⟩)
      have HL := Hd.mk (HF.out.1 (okV_is 4 V 65536 rfl (by omega) (by omega) (by omega)))
      go_wp2_with fail
      all_goals (go_ret2; exact ⟨HR1.out _ _ HL.out _ _ rfl rfl, rfl⟩)
end Go.Proofs.YtbcmjjcbjojakaaDoor
