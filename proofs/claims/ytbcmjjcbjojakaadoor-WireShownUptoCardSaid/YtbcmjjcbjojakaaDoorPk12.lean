/- Put together of: ShowC ShowD ShowE UnsQ UnsA. -/
import Derived.Test.YtbcmjjcbjojakaaDoorPk11
import Derived.BigQuiet
import Derived.Lib.RuneCountTail
section
namespace Go.Proofs.YtbcmjjcbjojakaaDoor
open Go.RowKit
set_option linter.unusedVariables false
def bt (s : ByteArray) (j : Nat) : Nat := (sb s).getD j 0
theorem bt_lt (s : ByteArray) (j : Nat) : bt s j < 256 := by
  unfold bt; rw [List.getD_eq_getElem?_getD]
  cases e : (sb s)[j]? with
  | none => simp
  | some x => exact sb_lt s x (List.mem_of_getElem? e)
theorem bt_at (s : ByteArray) (j : Nat) (h : j < s.size) (i : Int) (hi : i = (j : Int)) (w : World) : (Instr.index 9 (.string s) (.int .i64 i)).run Tryd.prog w = .ok (.int .u8 (bt s j : Int)) w := by
  subst hi
  rw [run_index_string w 9 _ _ _ infoStr, dif_pos ⟨by omega, by omega⟩]
  have := sb_get s j h
  unfold bt
  rw [List.getD_eq_getElem?_getD, this]; rfl
def lv (s : ByteArray) (a : Nat) : Nat → Nat
  | 0 => a
  | k + 1 => lv s a k * 64 + bt s (k + 1) % 64
theorem lv_lt (s : ByteArray) (a c : Nat) (h : a < c) : ∀ k, lv s a k < c * 64 ^ k
  | 0 => by simpa [lv] using h
  | k + 1 => by
    have := lv_lt s a c h k
    unfold lv; rw [Nat.pow_succ, ← Nat.mul_assoc]; omega
def letR (s : ByteArray) : Nat × Nat := if bad s 0 then (0, 0) else Utf8.decode s 0
section
variable {m b0 b1 b2 b3 : Nat}
set_option maxRecDepth 100000 in
theorem dn_lead (h : 128 ≤ b0) (h2 : b0 < 192 ∨ 248 ≤ b0) (h3 : b0 < 256) : Lib.decodeN m b0 b1 b2 b3 = (65533, 1) := by
  unfold Lib.decodeN
  repeat' split
  all_goals first | rfl | (exfalso; omega)
set_option maxRecDepth 100000 in
theorem dn2 (h : 192 ≤ b0) (h2 : b0 < 224) : Lib.decodeN m b0 b1 b2 b3 = if 1 < m ∧ b1 / 64 = 2 ∧ 128 ≤ (b0 - 192) * 64 + b1 % 64 then ((b0 - 192) * 64 + b1 % 64, 2) else (65533, 1) := by
  have e : b0 % 32 = b0 - 192 := by omega
  unfold Lib.decodeN
  rw [e]
  repeat' split
  all_goals first | rfl | (exfalso; omega)
set_option maxRecDepth 100000 in
theorem dn3 (h : 224 ≤ b0) (h2 : b0 < 240) : Lib.decodeN m b0 b1 b2 b3 = if 2 < m ∧ b1 / 64 = 2 ∧ b2 / 64 = 2 ∧ 2048 ≤ ((b0 - 224) * 64 + b1 % 64) * 64 + b2 % 64 ∧ ¬ (55296 ≤ ((b0 - 224) * 64 + b1 % 64) * 64 + b2 % 64 ∧ ((b0 - 224) * 64 + b1 % 64) * 64 + b2 % 64 < 57344) then (((b0 - 224) * 64 + b1 % 64) * 64 + b2 % 64, 3) else (65533, 1) := by
  have e : b0 % 16 * 4096 + b1 % 64 * 64 + b2 % 64 = ((b0 - 224) * 64 + b1 % 64) * 64 + b2 % 64 := by omega
  unfold Lib.decodeN
  rw [e]
  repeat' split
  all_goals first | rfl | (exfalso; omega)
set_option maxRecDepth 100000 in
theorem dn4 (h : 240 ≤ b0) (h2 : b0 < 248) : Lib.decodeN m b0 b1 b2 b3 = if 3 < m ∧ b1 / 64 = 2 ∧ b2 / 64 = 2 ∧ b3 / 64 = 2 ∧ 65536 ≤ (((b0 - 240) * 64 + b1 % 64) * 64 + b2 % 64) * 64 + b3 % 64 ∧ (((b0 - 240) * 64 + b1 % 64) * 64 + b2 % 64) * 64 + b3 % 64 ≤ 1114111 then ((((b0 - 240) * 64 + b1 % 64) * 64 + b2 % 64) * 64 + b3 % 64, 4) else (65533, 1) := by
  have e : b0 % 8 * 262144 + b1 % 64 * 4096 + b2 % 64 * 64 + b3 % 64 = (((b0 - 240) * 64 + b1 % 64) * 64 + b2 % 64) * 64 + b3 % 64 := by omega
  unfold Lib.decodeN
  rw [e]
  repeat' split
  all_goals first | rfl | (exfalso; omega)
end
theorem letR_bad (s : ByteArray) (h : Utf8.decode s 0 = (65533, 1)) : letR s = (0, 0) := by unfold letR; rw [if_pos (show bad s 0 by unfold bad; rw [h]; exact ⟨rfl, rfl⟩)]
theorem letR_good (s : ByteArray) (v n : Nat) (hn : n ≠ 1 ∨ v ≠ 65533) (h : Utf8.decode s 0 = (v, n)) : letR s = (v, n) := by unfold letR; rw [if_neg (show ¬ bad s 0 by unfold bad; rw [h]; simp; omega), h]
theorem dec0 (s : ByteArray) (h : 0 < s.size) : Utf8.decode s 0 = Lib.decodeN s.size (bt s 0) (bt s 1) (bt s 2) (bt s 3) := by
  rw [dec_nums s 0 h]; rfl
/-- What a letter of so many bytes must hold. -/
def okV (n v : Nat) : Prop := (if n = 2 then 128 else if n = 3 then 2048 else 65536) ≤ v ∧ v ≤ 1114111 ∧ ¬ (55296 ≤ v ∧ v < 57344)
def baseV (n : Nat) : Nat := if n = 2 then 192 else if n = 3 then 224 else 240
def topV (n : Nat) : Nat := if n = 2 then 224 else if n = 3 then 240 else 248
theorem let_all (s : ByteArray) (h : 0 < s.size) (n : Nat) (hn : n = 2 ∨ n = 3 ∨ n = 4) (h1 : baseV n ≤ bt s 0) (h2 : bt s 0 < topV n) :
    (s.size < n → letR s = (0, 0)) ∧ (∀ j, 1 ≤ j → j < n → (bt s j < 128 ∨ 192 ≤ bt s j) → letR s = (0, 0)) ∧
    (n ≤ s.size → (∀ j, 1 ≤ j → j < n → 128 ≤ bt s j ∧ bt s j < 192) → (okV n (lv s (bt s 0 - baseV n) (n - 1)) → letR s = (lv s (bt s 0 - baseV n) (n - 1), n)) ∧ (¬ okV n (lv s (bt s 0 - baseV n) (n - 1)) → letR s = (0, 0))) := by
  rcases hn with rfl | rfl | rfl
  · simp only [baseV, topV, if_true] at h1 h2
    have hd := dec0 s h
    rw [dn2 h1 h2] at hd
    refine ⟨fun hs => letR_bad s (by rw [hd, if_neg (by omega)]), fun j j1 j2 hj => letR_bad s (by obtain rfl : j = 1 := (by omega); rw [hd, if_neg (by omega)]), fun hs hc => ?_⟩
    have c1 := hc 1 (by omega) (by omega)
    have hv : lv s (bt s 0 - baseV 2) (2 - 1) = (bt s 0 - 192) * 64 + bt s 1 % 64 := rfl
    rw [hv]
    refine ⟨fun ho => letR_good s _ 2 (.inl (by decide)) (by rw [hd, if_pos]; simp only [okV, if_true] at ho; omega), fun ho => letR_bad s (by rw [hd, if_neg]; simp only [okV, if_true] at ho; omega)⟩
  · simp only [baseV, topV] at h1 h2
    simp at h1 h2
    have hd := dec0 s h
    rw [dn3 h1 h2] at hd
    refine ⟨fun hs => letR_bad s (by rw [hd, if_neg (by omega)]), fun j j1 j2 hj => letR_bad s (by rw [hd, if_neg]; rcases (by omega : j = 1 ∨ j = 2) with rfl | rfl <;> omega), fun hs hc => ?_⟩
    have c1 := hc 1 (by omega) (by omega)
    have c2 := hc 2 (by omega) (by omega)
    have hv : lv s (bt s 0 - baseV 3) (3 - 1) = ((bt s 0 - 224) * 64 + bt s 1 % 64) * 64 + bt s 2 % 64 := rfl
    rw [hv]
    refine ⟨fun ho => letR_good s _ 3 (.inl (by decide)) (by rw [hd, if_pos]; simp [okV] at ho; omega), fun ho => letR_bad s (by rw [hd, if_neg]; simp [okV] at ho; omega)⟩
  · simp only [baseV, topV] at h1 h2
    simp at h1 h2
    have hd := dec0 s h
    rw [dn4 h1 h2] at hd
    refine ⟨fun hs => letR_bad s (by rw [hd, if_neg (by omega)]), fun j j1 j2 hj => letR_bad s (by rw [hd, if_neg]; rcases (by omega : j = 1 ∨ j = 2 ∨ j = 3) with rfl | rfl | rfl <;> omega), fun hs hc => ?_⟩
    have c1 := hc 1 (by omega) (by omega)
    have c2 := hc 2 (by omega) (by omega)
    have c3 := hc 3 (by omega) (by omega)
    have hv : lv s (bt s 0 - baseV 4) (4 - 1) = (((bt s 0 - 240) * 64 + bt s 1 % 64) * 64 + bt s 2 % 64) * 64 + bt s 3 % 64 := rfl
    rw [hv]
    refine ⟨fun ho => letR_good s _ 4 (.inl (by decide)) (by rw [hd, if_pos]; simp [okV] at ho; omega), fun ho => letR_bad s (by rw [hd, if_neg]; simp [okV] at ho; omega)⟩
end Go.Proofs.YtbcmjjcbjojakaaDoor
end
section
namespace Go.Proofs.YtbcmjjcbjojakaaDoor
open Go.RowKit
set_option linter.unusedVariables false
theorem okV_not (n v l : Nat) (hl : l = (if n = 2 then 128 else if n = 3 then 2048 else 65536)) (h : v < l ∨ 1114111 < v ∨ (55296 ≤ v ∧ v < 57344)) : ¬ okV n v := by subst hl; unfold okV; omega
theorem okV_is (n v l : Nat) (hl : l = (if n = 2 then 128 else if n = 3 then 2048 else 65536)) (h1 : l ≤ v) (h2 : v ≤ 1114111) (h3 : ¬ (55296 ≤ v ∧ v < 57344)) : okV n v := by subst hl; unfold okV; omega
set_option maxHeartbeats 4000000 in
set_option maxRecDepth 100000 in
theorem letter_any (w : World) (s : ByteArray) (h : 0 < s.size) (hs : s.size ≤ 140737488355328) :
    Calls Tryd.prog 34 #[.string s] w fun e w' => e = .returned (.tuple #[.int .i64 ((letR s).1 : Int), .int .i64 ((letR s).2 : Int)]) ∧ w' = w := by
  have hI0 := fun W => bt_at s 0 h 0 rfl W
  have hx := bt_lt s 0
  have HR0 : Hd (letR s = (0, 0) → Ending.returned (.tuple #[.int .i64 0, .int .i64 0]) = .returned (.tuple #[.int .i64 ((letR s).1 : Int), .int .i64 ((letR s).2 : Int)])) := ⟨fun h => by rw [h]; rfl⟩
  have HR1 : Hd (∀ v n : Nat, letR s = (v, n) → ∀ a b : Int, a = (v : Int) → b = (n : Int) → Ending.returned (.tuple #[.int .i64 a, .int .i64 b]) = .returned (.tuple #[.int .i64 ((letR s).1 : Int), .int .i64 ((letR s).2 : Int)])) := ⟨fun v n h a b e1 e2 => by rw [h, e1, e2]⟩
  obtain ⟨X, hX⟩ : ∃ X, bt s 0 = X := ⟨_, rfl⟩
  have HX := Hd.mk hX
  rw [hX] at hI0 hx
  clear hX
  go_enter Tryd.func34, Tryd.ntmps34
  by_cases c1 : X < 128
  · have HL : Hd (letR s = (X, 1)) := ⟨letR_good s X 1 (.inr (by omega)) (by rw [dec0 s h, HX.out]; unfold Lib.decodeN; rw [if_pos c1])⟩
    go_wp2_with fail
    go_ret2
    exact ⟨HR1.out _ _ HL.out _ _ rfl rfl, rfl⟩
  by_cases c2 : X < 192
  · have HL : Hd (letR s = (0, 0)) := ⟨letR_bad s (by rw [dec0 s h, HX.out]; exact dn_lead (by omega) (by omega) hx)⟩
    go_wp2_with fail
    all_goals (go_ret2; exact ⟨HR0.out HL.out, rfl⟩)
  by_cases c3 : 248 ≤ X
  · have HL : Hd (letR s = (0, 0)) := ⟨letR_bad s (by rw [dec0 s h, HX.out]; exact dn_lead (by omega) (by omega) hx)⟩
    go_wp2_with fail
    all_goals (go_ret2; exact ⟨HR0.out HL.out, rfl⟩)
  by_cases d2 : X < 224
  · have HA := Hd.mk (let_all s h 2 (by omega) (by rw [HX.out]; simp [baseV]; omega) (by rw [HX.out]; simp [topV]; omega))
    rw [HX.out, show baseV 2 = 192 from rfl] at HA
    by_cases hn : s.size < 2
    · go_wp2_with fail
      all_goals (go_ret2; exact ⟨HR0.out (HA.out.1 hn), rfl⟩)
    obtain ⟨a, ha⟩ : ∃ a, X - 192 = a := ⟨_, rfl⟩
    have ha2 : (X : Int) - 192 = (a : Int) := by omega
    have ha3 : a < 64 := by omega
    rw [ha] at HA
    go_wp2_with fail
    go_loop [2, 3, 6, 8] (fun _ _ v i => ∃ k : Nat, k + 1 ≤ 2 ∧ i = .int .i64 ((k : Int) + 1) ∧ v = .int .i64 (lv s a k : Int) ∧ Hd (∀ j, 1 ≤ j → j ≤ k → 128 ≤ bt s j ∧ bt s j < 192)) (fun _ _ _ i => 2 - (intOf i).toNat)
    case atStart => exact ⟨0, by omega, rfl, by (try rw [ha2]); rfl, ⟨fun j h1 h2 => by omega⟩⟩
    case round =>
      obtain ⟨k, hk, rfl, rfl, HC⟩ := hrel
      have hlv := lv_lt s a 64 ha3 k
      have hp : 64 ^ k ≤ 262144 := Nat.le_trans (Nat.pow_le_pow_right (by decide) (show k ≤ 3 by omega)) (by decide)
      by_cases hlt : k + 1 < 2
      · have hIk := fun W => bt_at s (k + 1) (by omega) ((k : Int) + 1) rfl W
        have hcl := bt_lt s (k + 1)
        have HV : Hd (lv s a (k + 1) = lv s a k * 64 + bt s (k + 1) % 64) := ⟨rfl⟩
        have HCk : Hd (∀ j, j = k + 1 → bt s j = bt s (k + 1)) := ⟨fun j hj => by rw [hj]⟩
        obtain ⟨C, hC⟩ : ∃ C, bt s (k + 1) = C := ⟨_, rfl⟩
        have HC1 := Hd.mk hC
        rw [hC] at hIk hcl HV HCk
        clear hC
        obtain ⟨V, hV⟩ : ∃ V, lv s a k = V := ⟨_, rfl⟩
        rw [hV] at HV hlv ⊢
        clear hV
        by_cases g1 : C < 128
        · have HL := Hd.mk (HA.out.2.1 (k + 1) (by omega) hlt (by rw [HC1.out]; omega))
          clear HV HCk HC hlv hp
          go_wp2_with fail
          all_goals (go_ret2; exact ⟨HR0.out HL.out, rfl⟩)
        by_cases g2 : 192 ≤ C
        · have HL := Hd.mk (HA.out.2.1 (k + 1) (by omega) hlt (by rw [HC1.out]; omega))
          clear HV HCk HC hlv hp
          go_wp2_with fail
          all_goals (go_ret2; exact ⟨HR0.out HL.out, rfl⟩)
        have hv1 : V < 16777216 := by omega
        clear hlv hp
        go_wp2_with fail
        go_round
        case rel => refine ⟨_, _, _, _, ⟨k + 1, by omega, rfl, rfl, ⟨fun j h1 h2 => ?_⟩⟩, rfl, rfl, by rw [HV.out]; congr 1; omega, by go_num⟩; (
          by_cases e : j = k + 1
          · rw [HCk.out j e]; omega
          · exact HC.out j h1 (by omega))
        case measure => simp [intOf]; omega
      · obtain rfl : k = 1 := by omega
        have HF := Hd.mk (HA.out.2.2 (by omega) (fun j h1 h2 => HC.out j h1 (by omega)))
        have HF2 : Hd (lv s a (2 - 1) = lv s a 1) := ⟨rfl⟩
        rw [HF2.out] at HF
        obtain ⟨V, hV⟩ : ∃ V, lv s a 1 = V := ⟨_, rfl⟩
        rw [hV] at HF hlv ⊢
        clear hV HF2
        by_cases o1 : V < 128
        · have HL := Hd.mk (HF.out.2 (okV_not 2 V 128 rfl (by omega)))
          go_wp2_with fail
          all_goals (go_ret2; exact ⟨HR0.out HL.out, rfl⟩)
        by_cases o2 : 1114111 < V
        · have HL := Hd.mk (HF.out.2 (okV_not 2 V 128 rfl (by omega)))
          go_wp2_with fail
          all_goals (go_ret2; exact ⟨HR0.out HL.out, rfl⟩)
        by_cases o3 : V < 55296
        · have HL := Hd.mk (HF.out.1 (okV_is 2 V 128 rfl (by omega) (by omega) (by omega)))
          go_wp2_with fail
          all_goals (go_ret2; exact ⟨HR1.out _ _ HL.out _ _ rfl rfl, rfl⟩)
        by_cases o4 : V < 57344
        · have HL := Hd.mk (HF.out.2 (okV_not 2 V 128 rfl (by omega)))
          go_wp2_with fail
          all_goals (go_ret2; exact ⟨HR0.out HL.out, rfl⟩)
        have HL := Hd.mk (HF.out.1 (okV_is 2 V 128 rfl (by omega) (by omega) (by omega)))
        go_wp2_with fail
        all_goals (go_ret2; exact ⟨HR1.out _ _ HL.out _ _ rfl rfl, rfl⟩)
  by_cases d3 : X < 240
  · have HA := Hd.mk (let_all s h 3 (by omega) (by rw [HX.out]; simp [baseV]; omega) (by rw [HX.out]; simp [topV]; omega))
    rw [HX.out, show baseV 3 = 224 from rfl] at HA
    by_cases hn : s.size < 3
    · go_wp2_with fail
      all_goals (go_ret2; exact ⟨HR0.out (HA.out.1 hn), rfl⟩)
    obtain ⟨a, ha⟩ : ∃ a, X - 224 = a := ⟨_, rfl⟩
    have ha2 : (X : Int) - 224 = (a : Int) := by omega
    have ha3 : a < 64 := by omega
    rw [ha] at HA
    go_wp2_with fail
    go_loop [2, 3, 6, 8] (fun _ _ v i => ∃ k : Nat, k + 1 ≤ 3 ∧ i = .int .i64 ((k : Int) + 1) ∧ v = .int .i64 (lv s a k : Int) ∧ Hd (∀ j, 1 ≤ j → j ≤ k → 128 ≤ bt s j ∧ bt s j < 192)) (fun _ _ _ i => 3 - (intOf i).toNat)
    case atStart => exact ⟨0, by omega, rfl, by (try rw [ha2]); rfl, ⟨fun j h1 h2 => by omega⟩⟩
    case round =>
      obtain ⟨k, hk, rfl, rfl, HC⟩ := hrel
      have hlv := lv_lt s a 64 ha3 k
      have hp : 64 ^ k ≤ 262144 := Nat.le_trans (Nat.pow_le_pow_right (by decide) (show k ≤ 3 by omega)) (by decide)
      by_cases hlt : k + 1 < 3
      · have hIk := fun W => bt_at s (k + 1) (by omega) ((k : Int) + 1) rfl W
        have hcl := bt_lt s (k + 1)
        have HV : Hd (lv s a (k + 1) = lv s a k * 64 + bt s (k + 1) % 64) := ⟨rfl⟩
        have HCk : Hd (∀ j, j = k + 1 → bt s j = bt s (k + 1)) := ⟨fun j hj => by rw [hj]⟩
        obtain ⟨C, hC⟩ : ∃ C, bt s (k + 1) = C := ⟨_, rfl⟩
        have HC1 := Hd.mk hC
        rw [hC] at hIk hcl HV HCk
        clear hC
        obtain ⟨V, hV⟩ : ∃ V, lv s a k = V := ⟨_, rfl⟩
        rw [hV] at HV hlv ⊢
        clear hV
        by_cases g1 : C < 128
        · have HL := Hd.mk (HA.out.2.1 (k + 1) (by omega) hlt (by rw [HC1.out]; omega))
          clear HV HCk HC hlv hp
          go_wp2_with fail
          all_goals (go_ret2; exact ⟨HR0.out HL.out, rfl⟩)
        by_cases g2 : 192 ≤ C
        · have HL := Hd.mk (HA.out.2.1 (k + 1) (by omega) hlt (by rw [HC1.out]; omega))
          clear HV HCk HC hlv hp
          go_wp2_with fail
          all_goals (go_ret2; exact ⟨HR0.out HL.out, rfl⟩)
        have hv1 : V < 16777216 := by omega
        clear hlv hp
        go_wp2_with fail
        go_round
        case rel => refine ⟨_, _, _, _, ⟨k + 1, by omega, rfl, rfl, ⟨fun j h1 h2 => ?_⟩⟩, rfl, rfl, by rw [HV.out]; congr 1; omega, by go_num⟩; (
          by_cases e : j = k + 1
          · rw [HCk.out j e]; omega
          · exact HC.out j h1 (by omega))
        case measure => simp [intOf]; omega
      · obtain rfl : k = 2 := by omega
        have HF := Hd.mk (HA.out.2.2 (by omega) (fun j h1 h2 => HC.out j h1 (by omega)))
        have HF2 : Hd (lv s a (3 - 1) = lv s a 2) := ⟨rfl⟩
        rw [HF2.out] at HF
        obtain ⟨V, hV⟩ : ∃ V, lv s a 2 = V := ⟨_, rfl⟩
        rw [hV] at HF hlv ⊢
        clear hV HF2
        by_cases o1 : V < 2048
        · have HL := Hd.mk (HF.out.2 (okV_not 3 V 2048 rfl (by omega)))
          go_wp2_with fail
          all_goals (go_ret2; exact ⟨HR0.out HL.out, rfl⟩)
        by_cases o2 : 1114111 < V
        · have HL := Hd.mk (HF.out.2 (okV_not 3 V 2048 rfl (by omega)))
          go_wp2_with fail
          all_goals (go_ret2; exact ⟨HR0.out HL.out, rfl⟩)
        by_cases o3 : V < 55296
        · have HL := Hd.mk (HF.out.1 (okV_is 3 V 2048 rfl (by omega) (by omega) (by omega)))
          go_wp2_with fail
          all_goals (go_ret2; exact ⟨HR1.out _ _ HL.out _ _ rfl rfl, rfl⟩)
        by_cases o4 : V < 57344
        · have HL := Hd.mk (HF.out.2 (okV_not 3 V 2048 rfl (by omega)))
          go_wp2_with fail
          all_goals (go_ret2; exact ⟨HR0.out HL.out, rfl⟩)
        have HL := Hd.mk (HF.out.1 (okV_is 3 V 2048 rfl (by omega) (by omega) (by omega)))
        go_wp2_with fail
        all_goals (go_ret2; exact ⟨HR1.out _ _ HL.out _ _ rfl rfl, rfl⟩)
  have HA := Hd.mk (let_all s h 4 (by omega) (by rw [HX.out]; simp [baseV]; omega) (by rw [HX.out]; simp [topV]; omega))
  rw [HX.out, show baseV 4 = 240 from rfl] at HA
  by_cases hn : s.size < 4
  · go_wp2_with fail
    all_goals (go_ret2; exact ⟨HR0.out (HA.out.1 hn), rfl⟩)
  obtain ⟨a, ha⟩ : ∃ a, X - 240 = a := ⟨_, rfl⟩
  have ha2 : (X : Int) - 240 = (a : Int) := by omega
  have ha3 : a < 64 := by omega
  rw [ha] at HA
  go_wp2_with fail
  go_loop [2, 3, 6, 8] (fun _ _ v i => ∃ k : Nat, k + 1 ≤ 4 ∧ i = .int .i64 ((k : Int) + 1) ∧ v = .int .i64 (lv s a k : Int) ∧ Hd (∀ j, 1 ≤ j → j ≤ k → 128 ≤ bt s j ∧ bt s j < 192)) (fun _ _ _ i => 4 - (intOf i).toNat)
  case atStart => exact ⟨0, by omega, rfl, by (try rw [ha2]); rfl, ⟨fun j h1 h2 => by omega⟩⟩
  case round =>
    obtain ⟨k, hk, rfl, rfl, HC⟩ := hrel
    have hlv := lv_lt s a 64 ha3 k
    have hp : 64 ^ k ≤ 262144 := Nat.le_trans (Nat.pow_le_pow_right (by decide) (show k ≤ 3 by omega)) (by decide)
    by_cases hlt : k + 1 < 4
    · have hIk := fun W => bt_at s (k + 1) (by omega) ((k : Int) + 1) rfl W
      have hcl := bt_lt s (k + 1)
      have HV : Hd (lv s a (k + 1) = lv s a k * 64 + bt s (k + 1) % 64) := ⟨rfl⟩
      have HCk : Hd (∀ j, j = k + 1 → bt s j = bt s (k + 1)) := ⟨fun j hj => by rw [hj]⟩
      obtain ⟨C, hC⟩ : ∃ C, bt s (k + 1) = C := ⟨_, rfl⟩
      have HC1 := Hd.mk hC
      rw [hC] at hIk hcl HV HCk
      clear hC
      obtain ⟨V, hV⟩ : ∃ V, lv s a k = V := ⟨_, rfl⟩
      rw [hV] at HV hlv ⊢
      clear hV
      by_cases g1 : C < 128
      · have HL := Hd.mk (HA.out.2.1 (k + 1) (by omega) hlt (by rw [HC1.out]; omega))
        clear HV HCk HC hlv hp
        go_wp2_with fail
        all_goals (go_ret2; exact ⟨HR0.out HL.out, rfl⟩)
      by_cases g2 : 192 ≤ C
      · have HL := Hd.mk (HA.out.2.1 (k + 1) (by omega) hlt (by rw [HC1.out]; omega))
        clear HV HCk HC hlv hp
        go_wp2_with fail
        all_goals (go_ret2; exact ⟨HR0.out HL.out, rfl⟩)
      have hv1 : V < 16777216 := by omega
      clear hlv hp
      go_wp2_with fail
      go_round
      case rel => refine ⟨_, _, _, _, ⟨k + 1, by omega, rfl, rfl, ⟨fun j h1 h2 => ?_⟩⟩, rfl, rfl, by rw [HV.out]; congr 1; omega, by go_num⟩; (
        by_cases e : j = k + 1
        · rw [HCk.out j e]; omega
        · exact HC.out j h1 (by omega))
      case measure => simp [intOf]; omega
    · obtain rfl : k = 3 := by omega
      have HF := Hd.mk (HA.out.2.2 (by omega) (fun j h1 h2 => HC.out j h1 (by omega)))
      have HF2 : Hd (lv s a (4 - 1) = lv s a 3) := ⟨rfl⟩
      rw [HF2.out] at HF
      obtain ⟨V, hV⟩ : ∃ V, lv s a 3 = V := ⟨_, rfl⟩
      rw [hV] at HF hlv ⊢
      clear hV HF2
      by_cases o1 : V < 65536
      · have HL := Hd.mk (HF.out.2 (okV_not 4 V 65536 rfl (by omega)))
        go_wp2_with fail
        all_goals (go_ret2; exact ⟨HR0.out HL.out, rfl⟩)
      by_cases o2 : 1114111 < V
      · have HL := Hd.mk (HF.out.2 (okV_not 4 V 65536 rfl (by omega)))
        go_wp2_with fail
        all_goals (go_ret2; exact ⟨HR0.out HL.out, rfl⟩)
      by_cases o3 : V < 55296
      · have HL := Hd.mk (HF.out.1 (okV_is 4 V 65536 rfl (by omega) (by omega) (by omega)))
        go_wp2_with fail
        all_goals (go_ret2; exact ⟨HR1.out _ _ HL.out _ _ rfl rfl, rfl⟩)
      by_cases o4 : V < 57344
      · have HL := Hd.mk (HF.out.2 (okV_not 4 V 65536 rfl (by omega)))
        go_wp2_with fail
        all_goals (go_ret2; exact ⟨HR0.out HL.out, rfl⟩)
      have HL := Hd.mk (HF.out.1 (okV_is 4 V 65536 rfl (by omega) (by omega) (by omega)))
      go_wp2_with fail
      all_goals (go_ret2; exact ⟨HR1.out _ _ HL.out _ _ rfl rfl, rfl⟩)
end Go.Proofs.YtbcmjjcbjojakaaDoor
end
section
namespace Go.Proofs.YtbcmjjcbjojakaaDoor
open Go.RowKit
set_option linter.unusedVariables false
theorem bstr_app (a b : List Nat) : bstr a ++ bstr b = bstr (a ++ b) := by
  apply ByteArray.ext
  apply Array.toList_inj.1
  have h : (bstr a ++ bstr b).data.toList = (bstr a).data.toList ++ (bstr b).data.toList := by rw [ByteArray.data_append, Array.toList_append]
  rw [h, bstr_data, bstr_data, bstr_data, List.map_append]
theorem bstr_size (a : List Nat) : (bstr a).size = a.length := by
  have : (bstr a).data.toList.length = a.length := by rw [bstr_data, List.length_map]
  rw [Array.length_toList] at this; exact this
theorem bstr_sb (s : ByteArray) : bstr (sb s) = s := by
  apply ByteArray.ext
  apply Array.toList_inj.1
  rw [bstr_data]; unfold sb; rw [List.map_map]
  have : (UInt8.ofNat ∘ UInt8.toNat) = id := by funext x; simp
  rw [this, List.map_id]
theorem add_run (a b : List Nat) (h : a.length + b.length ≤ 9223372036854775807) (w : World) : (Op.stringOp .add (bstr a) (bstr b)).run Tryd.prog w = .ok (.string (bstr (a ++ b))) w := by
  rw [run_string_add_sum w _ _ (by rw [bstr_size, bstr_size]; exact h), bstr_app]
theorem digs_cut (k : Nat) (h : k < 16) : (⟨#[48, 49, 50, 51, 52, 53, 54, 55, 56, 57, 97, 98, 99, 100, 101, 102]⟩ : ByteArray).extract k (k + 1) = bstr [dgt k] := by
  have : ∀ k : Fin 16, (⟨#[48, 49, 50, 51, 52, 53, 54, 55, 56, 57, 97, 98, 99, 100, 101, 102]⟩ : ByteArray).extract k.1 (k.1 + 1) = bstr [dgt k.1] := by decide +kernel
  exact this ⟨k, h⟩
theorem cut_run (z y : Int) (k : Nat) (h : z = (k : Int)) (h2 : y = (k : Int) + 1) (hk : k < 16) (w : World) : (Instr.slice 9 (.string ⟨#[48, 49, 50, 51, 52, 53, 54, 55, 56, 57, 97, 98, 99, 100, 101, 102]⟩) (some (.int .u8 z)) (some (.int .u8 y)) none).run Tryd.prog w = .ok (.string (bstr [dgt k])) w := by
  subst h h2
  rw [run_slice_string w 9 _ _ _ _ _ infoStr (by omega) (by omega) (by show (k : Int) + 1 ≤ 16; omega)]
  rw [show ((k : Int)).toNat = k by omega, show ((k : Int) + 1).toNat = k + 1 by omega, digs_cut k hk]
set_option maxHeartbeats 2000000 in
set_option maxRecDepth 100000 in
theorem told_any (w : World) (s : ByteArray) (hs : s.size ≤ 140737488355328) :
    Calls Tryd.prog 35 #[.string s] w fun e w' => e = .returned (.string (bstr (hx (sb s)))) ∧ Below w.heap.size w w' := by
  have hl := sb_len s
  have e0 : bstr [] = ⟨#[]⟩ := by decide +kernel
  have e92 : bstr [92, 120] = ⟨#[92, 120]⟩ := by decide +kernel
  go_enter Tryd.func35, Tryd.ntmps35
  go_wp2_with fail
  go_loopw [3, 4] (fun o i wr => ∃ k : Nat, k ≤ s.size ∧ i = .int .i64 k ∧ o = .string (bstr (hx ((sb s).take k))) ∧ Hd (Below w.heap.size w wr)) (fun _ i _ => s.size - (intOf i).toNat)
  case atStart => exact ⟨0, by omega, rfl, by simp [hx]; exact e0.symm, ⟨Below.refl _ _⟩⟩
  case round =>
    obtain ⟨k, hk, rfl, rfl, HB⟩ := hrel
    by_cases hlt : k < s.size
    · obtain ⟨x, hx1⟩ : ∃ x, (s[k]'hlt).toNat = x := ⟨_, rfl⟩
      have hx2 : x < 256 := by rw [← hx1]; exact (s[k]'hlt).toNat_lt
      have hI : ∀ W, (Instr.index 9 (.string s) (.int .i64 (k : Int))).run Tryd.prog W = .ok (.int .u8 (x : Int)) W := fun W => by
        rw [run_index_string W 9 _ _ _ infoStr, dif_pos ⟨by omega, by omega⟩]
        simp only [Int.toNat_natCast, hx1]
      have hT := hx_take (sb s) k x ((sb_get s k hlt).trans (by rw [hx1]))
      have hL : (hx ((sb s).take k)).length ≤ 4 * s.size := by rw [hx_len, List.length_take]; omega
      have d1 := cut_run ((x : Int) / 16) ((x : Int) / 16 + 1) (x / 16) (by omega) (by omega) (by omega)
      have d2 := cut_run ((x : Int) % 16) ((x : Int) % 16 + 1) (x % 16) (by omega) (by omega) (by omega)
      obtain ⟨L, hLL⟩ : ∃ L, hx ((sb s).take k) = L := ⟨_, rfl⟩
      rw [hLL] at hT hL ⊢
      have c1 := add_run L [92, 120] (by simp; omega)
      have c2 := add_run (L ++ [92, 120]) [dgt (x / 16)] (by simp; omega)
      have c3 := add_run (L ++ [92, 120] ++ [dgt (x / 16)]) [dgt (x % 16)] (by simp; omega)
      rw [e92] at c1
      obtain ⟨S0, h0⟩ : ∃ S0, bstr L = S0 := ⟨_, rfl⟩
      obtain ⟨S1, h1⟩ : ∃ S1, bstr (L ++ [92, 120]) = S1 := ⟨_, rfl⟩
      obtain ⟨S2, h2⟩ : ∃ S2, bstr (L ++ [92, 120] ++ [dgt (x / 16)]) = S2 := ⟨_, rfl⟩
      obtain ⟨S3, h3⟩ : ∃ S3, bstr (L ++ [92, 120] ++ [dgt (x / 16)] ++ [dgt (x % 16)]) = S3 := ⟨_, rfl⟩
      obtain ⟨D1, h4⟩ : ∃ D1, bstr [dgt (x / 16)] = D1 := ⟨_, rfl⟩
      obtain ⟨D2, h5⟩ : ∃ D2, bstr [dgt (x % 16)] = D2 := ⟨_, rfl⟩
      have HN : Hd (bstr (hx ((sb s).take (k + 1))) = S3) := ⟨by rw [hT, ← h3]; congr 1; simp⟩
      rw [h0, h1] at c1
      rw [h1, h4, h2] at c2
      rw [h2, h5, h3] at c3
      rw [h4] at d1
      rw [h5] at d2
      rw [h0]
      clear h0 h1 h2 h3 h4 h5 hT hL hLL hx1 e92 e0
      go_wp2_with fail
      go_quiet (fail)
      go_wp2_with fail
      go_roundw
      case rel => exact ⟨k + 1, by omega, by go_num, by rw [HN.out], ⟨below_drewN HB.out _⟩⟩
      case measure => simp [intOf]; omega
    · have HT : Hd (bstr (hx ((sb s).take k)) = bstr (hx (sb s))) := ⟨by rw [List.take_of_length_le (by omega)]⟩
      rw [HT.out]
      go_wp2_with fail
      go_ret
      exact ⟨rfl, HB.out⟩
theorem letR_at (s : ByteArray) (pos : Nat) (h : pos < s.size) : letR (s.extract pos s.size) = if bad s pos then (0, 0) else Utf8.decode s pos := by
  have e : Utf8.decode (s.extract pos s.size) 0 = Utf8.decode s pos := Lib.tail_decode s pos 0
  unfold letR
  by_cases hb : bad s pos
  · rw [if_pos hb, if_pos (show bad (s.extract pos s.size) 0 by unfold bad; rw [e]; exact hb)]
  · rw [if_neg hb, if_neg (show ¬ bad (s.extract pos s.size) 0 by unfold bad; rw [e]; exact hb), e]
theorem cut_bstr (s : ByteArray) (pos k : Nat) : s.extract pos (pos + k) = bstr (sbAt s pos k) := by
  rw [← bstr_sb (s.extract pos (pos + k)), sb_extract, show pos + k - pos = k by omega]
set_option maxHeartbeats 4000000 in
set_option maxRecDepth 100000 in
theorem refShow_any (w : World) (s : ByteArray) (hs : s.size ≤ 35184372088832) :
    Calls Tryd.prog 22 #[.string s] w fun e w' => e = .returned (.string (bstr (showP s))) ∧ Below w.heap.size w w' := by
  have e0 : bstr [] = ⟨#[]⟩ := by decide +kernel
  have E92 : Hd (bstr [92] = ⟨#[92]⟩) := ⟨by decide +kernel⟩
  go_enter Tryd.func22, Tryd.ntmps22
  go_wp2_with fail
  go_loopw [3, 4] (fun o i wr => ∃ (pos : Nat) (acc : List Nat), pos ≤ s.size ∧ i = .int .i64 pos ∧ o = .string (bstr acc) ∧ acc.length ≤ 4 * pos ∧ Hd (acc ++ showD s s.size pos = showP s) ∧ Hd (Below w.heap.size w wr)) (fun _ i _ => s.size - (intOf i).toNat)
  case atStart => exact ⟨0, [], by omega, rfl, by rw [e0], by simp, ⟨rfl⟩, ⟨Below.refl _ _⟩⟩
  case round =>
    obtain ⟨pos, acc, hp1, rfl, rfl, hac, HS, HB⟩ := hrel
    by_cases hp : pos < s.size
    · obtain ⟨R, N, hR, hN, n1, n2, r1, HW⟩ := tok_ways s pos hp
      have hst := showD_step s pos hp
      rw [hN] at hst
      have HE : Hd (∀ tok : List Nat, tokD s pos = tok → tok.length ≤ 4 * N → ∀ i : Int, i = (pos : Int) + (N : Int) → ∀ w2, Below w.heap.size w w2 → ∀ S, S = bstr (acc ++ tok) → (∃ (pos : Nat) (acc : List Nat), pos ≤ s.size ∧ Value.int .i64 i = .int .i64 pos ∧ Value.string S = .string (bstr acc) ∧ acc.length ≤ 4 * pos ∧ Hd (acc ++ showD s s.size pos = showP s) ∧ Hd (Below w.heap.size w w2))) := ⟨fun tok ht hl i hi w2 hb S hS => by
        refine ⟨pos + N, acc ++ tok, n2, by rw [hi]; rfl, by rw [hS], by rw [List.length_append]; omega, ⟨?_⟩, ⟨hb⟩⟩
        rw [← HS.out, hst, ht, List.append_assoc]⟩
      have hb1 : ∀ w2, Below wr.heap.size wr w2 → Below w.heap.size w w2 := fun w2 h => HB.out.trans (h.mono HB.out.size)
      have HB1 := Hd.mk hb1
      have hL := letR_at s pos hp
      have hkk : ((pos : Int)).toNat = pos := by omega
      have hk1 : ((pos : Int) + 1).toNat = pos + 1 := by omega
      have hkN : ((pos : Int) + (N : Int)).toNat = pos + N := by omega
      have hl1 := sbAt_le s pos 1
      have hlN := sbAt_le s pos N
      have hx1 := hx_len (sbAt s pos 1)
      have hxN := hx_len (sbAt s pos N)
      have hzt : (s.extract pos s.size).size = s.size - pos := by rw [ByteArray.size_extract]; omega
      have hT1 : Hd (∀ W, Calls Tryd.prog 35 #[.string (s.extract pos (pos + 1))] W fun e w' => e = .returned (.string (bstr (hx (sbAt s pos 1)))) ∧ Below W.heap.size W w') := ⟨fun W => (told_any W _ (by rw [size_extract s pos 1 (by omega)]; omega)).mono fun e w' h => by rwa [sb_extract, show pos + 1 - pos = 1 by omega] at h⟩
      have hTN : Hd (∀ W, Calls Tryd.prog 35 #[.string (s.extract pos (pos + N))] W fun e w' => e = .returned (.string (bstr (hx (sbAt s pos N)))) ∧ Below W.heap.size W w') := ⟨fun W => (told_any W _ (by rw [size_extract s pos N n2]; omega)).mono fun e w' h => by rwa [sb_extract, show pos + N - pos = N by omega] at h⟩
      have hLT := fun W => letter_any W (s.extract pos s.size) (by rw [hzt]; omega) (by rw [hzt]; omega)
      have HC1 := Hd.mk (cut_bstr s pos 1)
      have HCN := Hd.mk (cut_bstr s pos N)
      clear hst hb1 HS HB
      rcases HW with ⟨q1, q2, q3, q4, q5⟩ | ⟨q3, q6, HW⟩
      · rw [if_pos (show bad s pos from ⟨hR.trans q1, hN.trans q2⟩)] at hL
        rw [hL] at hLT
        have c1 := add_run acc (hx (sbAt s pos 1)) (by omega)
        obtain ⟨S0, h0⟩ : ∃ S0, bstr acc = S0 := ⟨_, rfl⟩
        obtain ⟨S1, h1⟩ : ∃ S1, bstr (hx (sbAt s pos 1)) = S1 := ⟨_, rfl⟩
        obtain ⟨S2, h2⟩ : ∃ S2, bstr (acc ++ hx (sbAt s pos 1)) = S2 := ⟨_, rfl⟩
        rw [h0, h1, h2] at c1
        rw [h1] at hT1
        rw [h0]
        have HG := Hd.mk (fun w2 hw => HE.out _ q4 (by omega) ((pos : Int) + 1) (by omega) w2 hw S2 h2.symm)
        clear HE q3 q4 q5 hL hTN h0 h1 h2 HC1 HCN hxN hlN hx1 hl1
        go_wp2_with (go_at_call 34; refine (hLT _).mono ?_; rintro e z ⟨rfl, rfl⟩)
        refine (hT1.out _).mono ?_
        rintro e w2 ⟨rfl, hb⟩
        have HB2 := Hd.mk hb
        clear hb
        go_wp2_with fail
        go_roundw
        case rel => exact HG.out _ (HB1.out _ HB2.out)
        case measure => simp [intOf]; omega
      · have hnb : ¬ bad s pos := fun hb => by
          have a1 : R = 65533 := hR.symm.trans hb.1
          have a2 : N = 1 := hN.symm.trans hb.2
          rw [a1, a2] at q3; exact absurd q3 (by decide)
        rw [if_neg hnb] at hL
        have hL2 : letR (s.extract pos s.size) = (R, N) := by rw [hL, ← hR, ← hN]
        rw [hL2] at hLT
        obtain ⟨RI, hRI⟩ : ∃ RI : Int, (R : Int) = RI := ⟨_, rfl⟩
        simp only [hRI] at hLT
        clear hL hL2 hnb q3 q6
        rcases HW with ⟨hq, q4⟩ | ⟨a1, a2, a3, q4, q8⟩ | ⟨a1, a2, a3, q4⟩
        · have hR2 : RI = 34 ∨ RI = 92 := by omega
          have hs1 : sbAt s pos 1 = [R] := by rw [← hR]; exact ascii_at s pos hp (by omega)
          have c1 := add_run acc [92] (by simp; omega)
          have c2 := add_run (acc ++ [92]) (sbAt s pos 1) (by rw [hs1]; simp; omega)
          rw [E92.out] at c1
          rw [← HC1.out] at c2
          obtain ⟨S0, h0⟩ : ∃ S0, bstr acc = S0 := ⟨_, rfl⟩
          obtain ⟨S1, h1⟩ : ∃ S1, bstr (acc ++ [92]) = S1 := ⟨_, rfl⟩
          obtain ⟨S2, h2⟩ : ∃ S2, bstr (acc ++ [92] ++ sbAt s pos 1) = S2 := ⟨_, rfl⟩
          rw [h0, h1] at c1
          rw [h1, h2] at c2
          rw [h0]
          have HG := Hd.mk (fun w2 hw => HE.out _ q4 (by simp; omega) ((pos : Int) + (N : Int)) rfl w2 hw S2 (by rw [← h2, hs1]; congr 1; simp))
          clear HE q4 hT1 hTN h0 h1 h2 HC1 HCN hxN hlN hx1 hl1 hq hs1
          rcases hR2 with rfl | rfl
          · go_wp2_with (go_at_call 34; refine (hLT _).mono ?_; rintro e z ⟨rfl, rfl⟩)
            go_roundw
            case rel => exact HG.out _ (HB1.out _ (Below.refl _ _))
            case measure => simp [intOf]; omega
          · go_wp2_with (go_at_call 34; refine (hLT _).mono ?_; rintro e z ⟨rfl, rfl⟩)
            go_roundw
            case rel => exact HG.out _ (HB1.out _ (Below.refl _ _))
            case measure => simp [intOf]; omega
        · have c1 := add_run acc (sbAt s pos N) (by omega)
          rw [← HCN.out] at c1
          obtain ⟨S0, h0⟩ : ∃ S0, bstr acc = S0 := ⟨_, rfl⟩
          obtain ⟨S2, h2⟩ : ∃ S2, bstr (acc ++ sbAt s pos N) = S2 := ⟨_, rfl⟩
          rw [h0, h2] at c1
          rw [h0]
          have HG := Hd.mk (fun w2 hw => HE.out _ q4 (by omega) ((pos : Int) + (N : Int)) rfl w2 hw S2 h2.symm)
          have b0 : RI ≠ 0 ∧ N ≠ 0 := ⟨by unfold plainP at a3; omega, by omega⟩
          have b1 : (RI == 34) = false := beq_eq_false_iff_ne.2 (by omega)
          have b2 : (RI == 92) = false := beq_eq_false_iff_ne.2 (by omega)
          have a4 : 32 ≤ RI ∧ RI ≤ 126 ∨ 160 ≤ RI := by unfold plainP at a3; omega
          clear HE q4 q8 hT1 hTN h0 h2 HC1 HCN hxN hlN hx1 hl1 a3
          by_cases g1 : 160 ≤ RI
          · go_wp2_with (go_at_call 34; refine (hLT _).mono ?_; rintro e z ⟨rfl, rfl⟩)
            go_roundw
            case rel => exact HG.out _ (HB1.out _ (Below.refl _ _))
            case measure => simp [intOf]; omega
          · have g2 : 32 ≤ RI := by omega
            have g3 : RI ≤ 126 := by omega
            go_wp2_with (go_at_call 34; refine (hLT _).mono ?_; rintro e z ⟨rfl, rfl⟩)
            go_roundw
            case rel => exact HG.out _ (HB1.out _ (Below.refl _ _))
            case measure => simp [intOf]; omega
        · have c1 := add_run acc (hx (sbAt s pos N)) (by omega)
          obtain ⟨S0, h0⟩ : ∃ S0, bstr acc = S0 := ⟨_, rfl⟩
          obtain ⟨S1, h1⟩ : ∃ S1, bstr (hx (sbAt s pos N)) = S1 := ⟨_, rfl⟩
          obtain ⟨S2, h2⟩ : ∃ S2, bstr (acc ++ hx (sbAt s pos N)) = S2 := ⟨_, rfl⟩
          rw [h0, h1, h2] at c1
          rw [h1] at hTN
          rw [h0]
          have HG := Hd.mk (fun w2 hw => HE.out _ q4 (by omega) ((pos : Int) + (N : Int)) rfl w2 hw S2 h2.symm)
          have b1 : (RI == 34) = false := beq_eq_false_iff_ne.2 (by omega)
          have b2 : (RI == 92) = false := beq_eq_false_iff_ne.2 (by omega)
          have a4 : ¬ (32 ≤ RI ∧ RI ≤ 126) := by unfold plainP at a3; omega
          have a5 : RI < 160 := by unfold plainP at a3; omega
          have b3 : ((N : Int) == 0) = false := beq_eq_false_iff_ne.2 (by omega)
          clear HE q4 hT1 h0 h1 h2 HC1 HCN hxN hlN hx1 hl1 a3
          by_cases g2 : 32 ≤ RI
          · have g3 : 126 < RI := by omega
            go_wp2_with (go_at_call 34; refine (hLT _).mono ?_; rintro e z ⟨rfl, rfl⟩)
            refine (hTN.out _).mono ?_
            rintro e w2 ⟨rfl, hb⟩
            have HB2 := Hd.mk hb
            clear hb
            go_wp2_with fail
            go_roundw
            case rel => exact HG.out _ (HB1.out _ HB2.out)
            case measure => simp [intOf]; omega
          · go_wp2_with (go_at_call 34; refine (hLT _).mono ?_; rintro e z ⟨rfl, rfl⟩)
            refine (hTN.out _).mono ?_
            rintro e w2 ⟨rfl, hb⟩
            have HB2 := Hd.mk hb
            clear hb
            go_wp2_with fail
            go_roundw
            case rel => exact HG.out _ (HB1.out _ HB2.out)
            case measure => simp [intOf]; omega
    · have hpe : Hd (bstr acc = bstr (showP s)) := ⟨by rw [← HS.out, showD_end s s.size pos hp, List.append_nil]⟩
      rw [hpe.out]
      go_wp2_with fail
      go_ret
      exact ⟨rfl, HB.out⟩
end Go.Proofs.YtbcmjjcbjojakaaDoor
end
section
namespace Go.Proofs.YtbcmjjcbjojakaaDoor
set_option linter.unusedVariables false
def encN (r : Nat) : List Nat := (Lib.encodeRune (r : Int)).map UInt8.toNat
def oneN (x : Nat) : List Nat := [x]
theorem sb_bstr (l : List Nat) (h : ∀ x ∈ l, x < 256) : sb (bstr l) = l := by
  unfold sb
  rw [bstr_data, List.map_map]
  refine (List.map_congr_left (g := id) fun x hx => ?_).trans (List.map_id l)
  have := h x hx
  simp [UInt8.toNat_ofNat']; omega
theorem width_ascii (s : ByteArray) (pos : Nat) (h : pos < s.size) (h1 : (Utf8.decode s pos).1 < 128) : (Utf8.decode s pos).2 = 1 := by
  rw [dec_nums s pos h] at h1 ⊢
  rcases Lib.decodeN_shape (s.size - pos) ((sb s).getD pos 0) ((sb s).getD (pos + 1) 0) ((sb s).getD (pos + 2) 0) ((sb s).getD (pos + 3) 0) with ⟨c, e⟩ | ⟨c1, c2, c3, cv, e⟩ | ⟨c1, c2, c3, c4, cv, cs, e⟩ | ⟨c1, c2, c3, c4, c5, cv, cw, e⟩ | e
  all_goals (rw [e] at h1 ⊢)
  all_goals (try (dsimp only at h1 ⊢))
  all_goals omega
theorem flat_one (l : List Nat) : l.flatMap oneN = l := by
  induction l with
  | nil => rfl
  | cons a t ih => rw [List.flatMap_cons, ih]; rfl
theorem showD_lets (s : ByteArray) : ∀ f pos, pos ≤ s.size → s.size ≤ f + pos → ∃ rs, Ltrs (showD s f pos) rs ∧ unsL oneN (showD s f pos) = some ((sb s).drop pos) ∧ unsL encN rs = some ((sb s).drop pos)
  | 0, pos, h1, h2 => by
    have e : (sb s).drop pos = [] := List.drop_eq_nil_of_le (by rw [sb_len]; omega)
    exact ⟨[], by rw [showD_end s 0 pos (by omega)]; exact .nil, by rw [showD_end s 0 pos (by omega), e]; rfl, by rw [e]; rfl⟩
  | f + 1, pos, h1, h2 => by
    by_cases h : pos < s.size
    · have hw := width_pos s pos h
      have hwl := width_le s pos h
      obtain ⟨rs, i1, i2, i3⟩ := showD_lets s f (pos + (Utf8.decode s pos).2) hwl (by omega)
      have hsp : (sb s).drop pos = sbAt s pos (Utf8.decode s pos).2 ++ (sb s).drop (pos + (Utf8.decode s pos).2) := by
        unfold sbAt; rw [← List.drop_drop, List.take_append_drop]
      have hlt : ∀ n, ∀ b ∈ sbAt s pos n, b < 256 := fun n b hb => sb_lt s b (List.mem_of_mem_drop (List.mem_of_mem_take hb))
      have hne : (sb s).drop pos ≠ [] := by
        intro h0; have := congrArg List.length h0; rw [List.length_drop, sb_len] at this; simp at this; omega
      have hd := decode_dcd s pos h
      unfold showD
      rw [if_pos h, hsp]
      unfold tokD
      by_cases hb : bad s pos
      · rw [if_pos hb, hb.2]
        refine ⟨hx (sbAt s pos 1) ++ rs, (ltrs_ascii _ (hx_ascii _ (hlt 1))).append ?_, ?_, ?_⟩
        · rw [hb.2] at i1; exact i1
        · rw [hb.2] at i2; rw [uns_hx _ _ _ (hlt 1), i2]; rfl
        · rw [hb.2] at i3; rw [uns_hx _ _ _ (hlt 1), i3]; rfl
      rw [if_neg hb]
      by_cases hq : (Utf8.decode s pos).1 = 34 ∨ (Utf8.decode s pos).1 = 92
      · have hw1 := width_ascii s pos h (by omega)
        have ha := ascii_at s pos h (by omega)
        rw [if_pos hq, hw1, ha]
        rw [hw1] at i1 i2 i3
        obtain ⟨c, hc⟩ : ∃ c, (Utf8.decode s pos).1 = c := ⟨_, rfl⟩
        rw [hc] at hq ⊢
        refine ⟨92 :: c :: rs, ?_, ?_, ?_⟩
        · exact (ltrs_ascii [92, c] (by intro b hb; simp at hb; omega)).append i1
        · have e : unsL oneN (92 :: [c] ++ showD s f (pos + 1)) = unsL oneN (92 :: c :: showD s f (pos + 1)) := rfl
          rw [e, uns_quo _ _ _ hq, i2]; rfl
        · rw [uns_quo _ _ _ hq, i3]; rfl
      rw [if_neg hq]
      by_cases hp : plainP (Utf8.decode s pos).1
      · rw [if_pos hp]
        have hb' : ¬ ((dcd ((sb s).drop pos)).1 = 65533 ∧ (dcd ((sb s).drop pos)).2 = 1) := by rw [← hd]; exact hb
        obtain ⟨l1, l2⟩ := ltr_of hne (fun b hb => sb_lt s b (List.mem_of_mem_drop hb)) hb'
        rw [← hd] at l1 l2
        refine ⟨(Utf8.decode s pos).1 :: rs, .cons l1 i1, ?_, ?_⟩
        · rw [uns_all oneN _ _ fun b hb => ?_, i2, flat_one]; · rfl
          by_cases h3 : (Utf8.decode s pos).1 < 128
          · rw [width_ascii s pos h h3, ascii_at s pos h h3] at hb
            rw [List.mem_singleton.1 hb]; omega
          · have := l2 (by omega) b hb; omega
        · rw [unsL_plain _ _ _ (by omega), i3]
          have : encN (Utf8.decode s pos).1 = sbAt s pos (Utf8.decode s pos).2 := by
            unfold encN
            rw [encL_decode s pos h hb]
            unfold sbAt sb
            rw [List.map_take, List.map_drop]
          rw [this]; rfl
      · rw [if_neg hp]
        refine ⟨hx (sbAt s pos (Utf8.decode s pos).2) ++ rs, (ltrs_ascii _ (hx_ascii _ (hlt _))).append i1, ?_, ?_⟩
        · rw [uns_hx _ _ _ (hlt _), i2]; rfl
        · rw [uns_hx _ _ _ (hlt _), i3]; rfl
    · have e : (sb s).drop pos = [] := List.drop_eq_nil_of_le (by rw [sb_len]; omega)
      exact ⟨[], by rw [showD_end s _ pos h]; exact .nil, by rw [showD_end s _ pos h, e]; rfl, by rw [e]; rfl⟩
theorem show_lets (s : ByteArray) : ∃ rs, Ltrs (showP s) rs ∧ unsL oneN (showP s) = some (sb s) ∧ unsL encN rs = some (sb s) := by
  obtain ⟨rs, h1, h2, h3⟩ := showD_lets s s.size 0 (by omega) (by omega)
  exact ⟨rs, h1, h2, h3⟩
/-- The letters of a text, as the program takes them. -/
def runesP (t : ByteArray) : List Nat := rns t.size (sb t)
/-- What the program's reading answers. -/
def unshowP (t : ByteArray) : Option ByteArray :=
  if Lib.validD t.data.toList = true then match unsL encN (runesP t) with
    | some k => if bstr (showP (bstr k)) = t then some (bstr k) else none
    | none => none
  else none
/-- What the document's reading answers. -/
def unshowR (t : ByteArray) : Option ByteArray :=
  match unsL oneN (sb t) with
    | some k => if bstr (showP (bstr k)) = t then some (bstr k) else none
    | none => none
theorem bstr_inj {a b : List Nat} (ha : ∀ x ∈ a, x < 256) (hb : ∀ x ∈ b, x < 256) (h : bstr a = bstr b) : a = b := by
  have := congrArg sb h
  rwa [sb_bstr a ha, sb_bstr b hb] at this
theorem showP_lt (s : ByteArray) : ∀ x ∈ showP s, x < 256 := by
  have : ∀ f pos, ∀ x ∈ showD s f pos, x < 256 := by
    intro f
    induction f with
    | zero => intro pos x hx; cases hx
    | succ f ih =>
      intro pos x hx
      unfold showD at hx
      split at hx
      · rcases List.mem_append.1 hx with h | h
        · have hlt : ∀ n, ∀ b ∈ sbAt s pos n, b < 256 := fun n b hb => sb_lt s b (List.mem_of_mem_drop (List.mem_of_mem_take hb))
          unfold tokD at h
          split at h
          · have := hx_ascii _ (hlt 1) x h; omega
          · split at h
            · rcases List.mem_cons.1 h with e | e
              · omega
              · exact hlt _ x e
            · split at h
              · exact hlt _ x h
              · have := hx_ascii _ (hlt _) x h; omega
        · exact ih _ x h
      · cases hx
  exact this _ _
/-- Both readings of what a key is shown as answer the key. -/
theorem unshow_show (k : ByteArray) : unshowP (bstr (showP k)) = some k ∧ unshowR (bstr (showP k)) = some k := by
  obtain ⟨rs, h1, h2, h3⟩ := show_lets k
  have hs : sb (bstr (showP k)) = showP k := sb_bstr _ (showP_lt k)
  have hz : (bstr (showP k)).size = (showP k).length := by rw [← sb_len, hs]
  have hk : bstr (sb k) = k := bstr_sb k
  constructor
  · unfold unshowP runesP
    have hv : Lib.validD (bstr (showP k)).data.toList = true := by
      have := vld_ltrs h1 (bstr (showP k)) 0 (by rw [hs]; rfl)
      simpa using this
    rw [if_pos hv, hs, hz, rns_ltrs h1 _ (Nat.le_refl _), h3]
    simp only [hk, if_true]
  · unfold unshowR
    rw [hs, h2]
    simp only [hk, if_true]
/-- Both readings answer the same. -/
theorem unshow_same (t : ByteArray) : unshowP t = unshowR t := by
  cases hp : unshowP t with
  | some k =>
    have e : bstr (showP k) = t := by
      unfold unshowP at hp
      split at hp
      · split at hp
        · split at hp
          · rename_i h; injection hp with hp; rw [← hp]; exact h
          · cases hp
        · cases hp
      · cases hp
    rw [← e, (unshow_show k).2]
  | none =>
    cases hr : unshowR t with
    | none => rfl
    | some k =>
      have e : bstr (showP k) = t := by
        unfold unshowR at hr
        split at hr
        · split at hr
          · rename_i h; injection hr with hr; rw [← hr]; exact h
          · cases hr
        · cases hr
      rw [← e, (unshow_show k).1] at hp
      cases hp
end Go.Proofs.YtbcmjjcbjojakaaDoor
end
section
namespace Go.Proofs.YtbcmjjcbjojakaaDoor
open Go.RowKit
set_option linter.unusedVariables false
def dgz (c : Nat) : Int := if 48 ≤ c ∧ c ≤ 57 then (c : Int) - 48 else if 97 ≤ c ∧ c ≤ 102 then (c : Int) - 87 else -1
theorem dgz_some {c q : Nat} (h : dig c = some q) : dgz c = (q : Int) ∧ q < 16 := by
  unfold dig at h; unfold dgz
  split at h
  · rename_i h1; rw [if_pos h1]; injection h with h; omega
  · rename_i h1; rw [if_neg h1]
    split at h
    · rename_i h2; rw [if_pos h2]; injection h with h; omega
    · cases h
theorem dgz_none {c : Nat} (h : dig c = none) : dgz c = -1 := by
  unfold dig at h; unfold dgz
  split at h
  · cases h
  · rename_i h1; rw [if_neg h1]
    split at h
    · cases h
    · rename_i h2; rw [if_neg h2]
theorem wdigit_any (w : World) (c : Nat) (hc : c ≤ 1114111) : Calls Tryd.prog 32 #[.int .i32 (c : Int)] w fun e w' => e = .returned (.int .i64 (dgz c)) ∧ w' = w := by
  obtain ⟨D, hD⟩ : ∃ D, dgz c = D := ⟨_, rfl⟩
  rw [hD]
  have HD := Hd.mk hD
  clear hD
  go_enter Tryd.func32, Tryd.ntmps32
  by_cases h1 : 48 ≤ c ∧ c ≤ 57
  · have hD : D = (c : Int) - 48 := by rw [← HD.out]; unfold dgz; rw [if_pos h1]
    have a1 : (48 : Int) ≤ (c : Int) := by omega
    have a2 : (c : Int) ≤ 57 := by omega
    subst hD
    clear h1 HD
    go_wp2_with fail
    go_ret
    exact ⟨by go_num, rfl⟩
  by_cases h2 : 97 ≤ c ∧ c ≤ 102
  · have hD : D = (c : Int) - 87 := by rw [← HD.out]; unfold dgz; rw [if_neg h1, if_pos h2]
    have a1 : (97 : Int) ≤ (c : Int) := by omega
    have a2 : (c : Int) ≤ 102 := by omega
    have a3 : (48 : Int) ≤ (c : Int) := by omega
    have a4 : ¬ (c : Int) ≤ 57 := by omega
    subst hD
    clear h1 h2 HD
    go_wp2_with fail
    go_ret
    exact ⟨by go_num, rfl⟩
  have hD : D = -1 := by rw [← HD.out]; unfold dgz; rw [if_neg h1, if_neg h2]
  subst hD
  clear HD
  by_cases b1 : (48 : Int) ≤ (c : Int)
  · have b2 : ¬ (c : Int) ≤ 57 := by omega
    by_cases b3 : (97 : Int) ≤ (c : Int)
    · have b4 : ¬ (c : Int) ≤ 102 := by omega
      clear h1 h2
      go_wp2_with fail
      go_ret
      exact ⟨rfl, rfl⟩
    · clear h1 h2
      go_wp2_with fail
      go_ret
      exact ⟨rfl, rfl⟩
  · have b3 : ¬ (97 : Int) ≤ (c : Int) := by omega
    clear h1 h2
    go_wp2_with fail
    go_ret
    exact ⟨rfl, rfl⟩
theorem rdigit_any (w : World) (c : Nat) (hc : c < 256) : Calls Tryd.prog 33 #[.int .u8 (c : Int)] w fun e w' => e = .returned (.int .i64 (dgz c)) ∧ w' = w := by
  obtain ⟨D, hD⟩ : ∃ D, dgz c = D := ⟨_, rfl⟩
  rw [hD]
  have HD := Hd.mk hD
  clear hD
  go_enter Tryd.func33, Tryd.ntmps33
  by_cases h1 : 48 ≤ c ∧ c ≤ 57
  · have hD : D = (c : Int) - 48 := by rw [← HD.out]; unfold dgz; rw [if_pos h1]
    have a1 : (48 : Int) ≤ (c : Int) := by omega
    have a2 : (c : Int) ≤ 57 := by omega
    subst hD
    clear h1 HD
    go_wp2_with fail
    go_ret
    exact ⟨by go_num, rfl⟩
  by_cases h2 : 97 ≤ c ∧ c ≤ 102
  · have hD : D = (c : Int) - 87 := by rw [← HD.out]; unfold dgz; rw [if_neg h1, if_pos h2]
    have a1 : (97 : Int) ≤ (c : Int) := by omega
    have a2 : (c : Int) ≤ 102 := by omega
    have a3 : (48 : Int) ≤ (c : Int) := by omega
    have a4 : ¬ (c : Int) ≤ 57 := by omega
    subst hD
    clear h1 h2 HD
    go_wp2_with fail
    go_ret
    exact ⟨by go_num, rfl⟩
  have hD : D = -1 := by rw [← HD.out]; unfold dgz; rw [if_neg h1, if_neg h2]
  subst hD
  clear HD
  by_cases b1 : (48 : Int) ≤ (c : Int)
  · have b2 : ¬ (c : Int) ≤ 57 := by omega
    by_cases b3 : (97 : Int) ≤ (c : Int)
    · have b4 : ¬ (c : Int) ≤ 102 := by omega
      clear h1 h2
      go_wp2_with fail
      go_ret
      exact ⟨rfl, rfl⟩
    · clear h1 h2
      go_wp2_with fail
      go_ret
      exact ⟨rfl, rfl⟩
  · have b3 : ¬ (97 : Int) ≤ (c : Int) := by omega
    clear h1 h2
    go_wp2_with fail
    go_ret
    exact ⟨rfl, rfl⟩
end Go.Proofs.YtbcmjjcbjojakaaDoor
end
