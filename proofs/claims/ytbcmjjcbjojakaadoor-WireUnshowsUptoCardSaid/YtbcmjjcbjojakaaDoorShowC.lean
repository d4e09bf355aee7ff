
/- The reference's letter and told. -/
import Derived.Test.YtbcmjjcbjojakaaDoorShowB
import Derived.BigQuiet
namespace Go.Proofs.YtbcmjjcbjojakaaDoor
open Go.RowKit
set_option linter.unusedVariables false
def bt (s : ByteArray) (j : Nat) : Nat := (sb s).getD j 0
theorem bt_lt (s : ByteArray) (j : Nat) : bt s j < 256 := by
  unfold bt; rw [List.getD_eq_getElem?_getD]
  cases e : (sb s)[j]? with
  | none => simp
  | some x => exact sb_lt s x (List.mem_of_getElem? e)
theorem bt_at (s : ByteArray) (j : Nat) (h : j < s.size) (i : Int) (hi : i = (j : Int)) (w : World) : (Instr.index 9 (.string s) (.int .i64 i)).run Tryd.prog w = .ok (.int .u8 (bt s j : Int)) w := by
  subst hi
  rw [run_index_string w 9 _ _ _ infoStr, dif_pos ⟨by omega, by omega⟩]
  have := sb_get s j h
  unfold bt
  rw [List.getD_eq_getElem?_getD, this]; rfl
def lv (s : ByteArray) (a : Nat) : Nat → Nat
  | 0 => a
  | k + 1 => lv s a k * 64 + bt s (k + 1) % 64
theorem lv_lt (s : ByteArray) (a c : Nat) (h : a < c) : ∀ k, lv s a k < c * 64 ^ k
  | 0 => by simpa [lv] using h
  | k + 1 => by
    have := lv_lt s a c h k
    unfold lv; rw [Nat.pow_succ, ← Nat.mul_assoc]; omega
def letR (s : ByteArray) : Nat × Nat := if bad s 0 then (0, 0) else Utf8.decode s 0
section
variable {m b0 b1 b2 b3 : Nat}
set_option maxRecDepth 100000 in
theorem dn_lead (h : 128 ≤ b0) (h2 : b0 < 192 ∨ 248 ≤ b0) (h3 : b0 < 256) : Lib.decodeN m b0 b1 b2 b3 = (65533, 1) := by
  unfold Lib.decodeN
  repeat' split
  all_goals first | rfl | (exfalso; omega)
set_option maxRecDepth 100000 in
theorem dn2 (h : 192 ≤ b0) (h2 : b0 < 224) : Lib.decodeN m b0 b1 b2 b3 = if 1 < m ∧ b1 / 64 = 2 ∧ 128 ≤ (b0 - 192) * 64 + b1 % 64 then ((b0 - 192) * 64 + b1 % 64, 2) else (65533, 1) := by
  have e : b0 % 32 = b0 - 192 := by omega
  unfold Lib.decodeN
  rw [e]
  repeat' split
  all_goals first | rfl | (exfalso; omega)
set_option maxRecDepth 100000 in
theorem dn3 (h : 224 ≤ b0) (h2 : b0 < 240) : Lib.decodeN m b0 b1 b2 b3 = if 2 < m ∧ b1 / 64 = 2 ∧ b2 / 64 = 2 ∧ 2048 ≤ ((b0 - 224) * 64 + b1 % 64) * 64 + b2 % 64 ∧ ¬ (55296 ≤ ((b0 - 224) * 64 + b1 % 64) * 64 + b2 % 64 ∧ ((b0 - 224) * 64 + b1 % 64) * 64 + b2 % 64 < 57344) then (((b0 - 224) * 64 + b1 % 64) * 64 + b2 % 64, 3) else (65533, 1) := by
  have e : b0 % 16 * 4096 + b1 % 64 * 64 + b2 % 64 = ((b0 - 224) * 64 + b1 % 64) * 64 + b2 % 64 := by omega
  unfold Lib.decodeN
  rw [e]
  repeat' split
  all_goals first | rfl | (exfalso; omega)
set_option maxRecDepth 100000 in
theorem dn4 (h : 240 ≤ b0) (h2 : b0 < 248) : Lib.decodeN m b0 b1 b2 b3 = if 3 < m ∧ b1 / 64 = 2 ∧ b2 / 64 = 2 ∧ b3 / 64 = 2 ∧ 65536 ≤ (((b0 - 240) * 64 + b1 % 64) * 64 + b2 % 64) * 64 + b3 % 64 ∧ (((b0 - 240) * 64 + b1 % 64) * 64 + b2 % 64) * 64 + b3 % 64 ≤ 1114111 then ((((b0 - 240) * 64 + b1 % 64) * 64 + b2 % 64) * 64 + b3 % 64, 4) else (65533, 1) := by
  have e : b0 % 8 * 262144 + b1 % 64 * 4096 + b2 % 64 * 64 + b3 % 64 = (((b0 - 240) * 64 + b1 % 64) * 64 + b2 % 64) * 64 + b3 % 64 := by omega
  unfold Lib.decodeN
  rw [e]
  repeat' split
  all_goals first | rfl | (exfalso; omega)
end
theorem letR_bad (s : ByteArray) (h : Utf8.decode s 0 = (65533, 1)) : letR s = (0, 0) := by unfold letR; rw [if_pos (show bad s 0 by unfold bad; rw [h]; exact ⟨rfl, rfl⟩)]
theorem letR_good (s : ByteArray) (v n : Nat) (hn : n ≠ 1 ∨ v ≠ 65533) (h : Utf8.decode s 0 = (v, n)) : letR s = (v, n) := by unfold letR; rw [if_neg (show ¬ bad s 0 by unfold bad; rw [h]; simp; omega), h]
theorem dec0 (s : ByteArray) (h : 0 < s.size) : Utf8.decode s 0 = Lib.decodeN s.size (bt s 0) (bt s 1) (bt s 2) (bt s 3) := by
  rw [dec_nums s 0 h]; rfl
/-- What a letter of so many bytes must hold. -/
def okV (n v : Nat) : Prop := (if n = 2 then 128 else if n = 3 then 2048 else 65536) ≤ v ∧ v ≤ 1114111 ∧ ¬ (55296 ≤ v ∧ v < 57344)
def baseV (n : Nat) : Nat := if n = 2 then 192 else if n = 3 then 224 else 240
def topV (n : Nat) : Nat := if n = 2 then 224 else if n = 3 then 240 else 248
theorem let_all (s : ByteArray) (h : 0 < s.size) (n : Nat) (hn : n = 2 ∨ n = 3 ∨ n = 4) (h1 : baseV n ≤ bt s 0) (h2 : bt s 0 < topV n) :
    (s.size < n → letR s = (0, 0)) ∧ (∀ j, 1 ≤ j → j < n → (bt s j < 128 ∨ 192 ≤ bt s j) → letR s = (0, 0)) ∧
    (n ≤ s.size → (∀ j, 1 ≤ j → j < n → 128 ≤ bt s j ∧ bt s j < 192) → (okV n (lv s (bt s 0 - baseV n) (n - 1)) → letR s = (lv s (bt s 0 - baseV n) (n - 1), n)) ∧ (¬ okV n (lv s (bt s 0 - baseV n) (n - 1)) → letR s = (0, 0))) := by
  rcases hn with rfl | rfl | rfl
  · simp only [baseV, topV, if_true] at h1 h2
    have hd := dec0 s h
    rw [dn2 h1 h2] at hd
    refine ⟨fun hs => letR_bad s (by rw [hd, if_neg (by omega)]), fun j j1 j2 hj => letR_bad s (by obtain rfl : j = 1 := (by omega); rw [hd, if_neg (by omega)]), fun hs hc => ?_⟩
    have c1 := hc 1 (by omega) (by omega)
    have hv : lv s (bt s 0 - baseV 2) (2 - 1) = (bt s 0 - 192) * 64 + bt s 1 % 64 := rfl
    rw [hv]
    refine ⟨fun ho => letR_good s _ 2 (.inl (by decide)) (by rw [hd, if_pos]; simp only [okV, if_true] at ho; omega), fun ho => letR_bad s (by rw [hd, if_neg]; simp only [okV, if_true] at ho; omega)⟩
  · simp only [baseV, topV] at h1 h2
    simp at h1 h2
    have hd := dec0 s h
    rw [dn3 h1 h2] at hd
    refine ⟨fun hs => letR_bad s (by rw [hd, if_neg (by omega)]), fun j j1 j2 hj => letR_bad s (by rw [hd, if_neg]; rcases (by omega : j = 1 ∨ j = 2) with rfl | rfl <;> omega), fun hs hc => ?_⟩
    have c1 := hc 1 (by omega) (by omega)
    have c2 := hc 2 (by omega) (by omega)
    have hv : lv s (bt s 0 - baseV 3) (3 - 1) = ((bt s 0 - 224) * 64 + bt s 1 % 64) * 64 + bt s 2 % 64 := rfl
    rw [hv]
    refine ⟨fun ho => letR_good s _ 3 (.inl (by decide)) (by rw [hd, if_pos]; simp [okV] at ho; omega), fun ho => letR_bad s (by rw [hd, if_neg]; simp [okV] at ho; omega)⟩
  · simp only [baseV, topV] at h1 h2
    simp at h1 h2
    have hd := dec0 s h
    rw [dn4 h1 h2] at hd
    refine ⟨fun hs => letR_bad s (by rw [hd, if_neg (by omega)]), fun j j1 j2 hj => letR_bad s (by rw [hd, if_neg]; rcases (by omega : j = 1 ∨ j = 2 ∨ j = 3) with rfl | rfl | rfl <;> omega), fun hs hc => ?_⟩
    have c1 := hc 1 (by omega) (by omega)
    have c2 := hc 2 (by omega) (by omega)
    have c3 := hc 3 (by omega) (by omega)
    have hv : lv s (bt s 0 - baseV 4) (4 - 1) = (((bt s 0 - 240) * 64 + bt s 1 % 64) * 64 + bt s 2 % 64) * 64 + bt s 3 % 64 := rfl
    rw [hv]
    refine ⟨fun ho => letR_good s _ 4 (.inl (by decide)) (by rw [hd, if_pos]; simp [okV] at ho; omega), fun ho => letR_bad s (by rw [hd, if_neg]; simp [okV] at ho; omega)⟩
end Go.Proofs.YtbcmjjcbjojakaaDoor
