
/- Contract of cairnref06.bits: the bits of bytes in order. -/
import Derived.Test.YtbcmjjcbjojakaaSums
import Derived.Test.YtbcmjjcbjojakaaGone
namespace Go.Proofs.Ytbcmjjcbjojakaa
open Go.RowKit
set_option linter.unusedVariables false
/-- The cells of numbers. -/
def ci (l : List Nat) : List Value := l.map fun x : Nat => .int .i64 (x : Int)
theorem ci_append (a b : List Nat) : ci (a ++ b) = ci a ++ ci b := List.map_append
theorem ci_one (a : List Nat) : ∀ u ∈ ci a, u.oneCell' = true := by
  intro u hu; obtain ⟨x, _, rfl⟩ := List.mem_map.1 hu; rfl
theorem ci_len (a : List Nat) : (ci a).length = a.length := List.length_map _
theorem ci_get (a : List Nat) (k : Nat) (h : k < a.length) : (ci a)[k]? = some (.int .i64 ((a.getD k 0 : Nat) : Int)) := by
  unfold ci; rw [List.getElem?_map, List.getElem?_eq_getElem h, List.getD_eq_getElem?_getD, List.getElem?_eq_getElem h]; rfl
theorem infoI : (Try.prog.info? 3).map (fun i => (i.zero, i.size, i.bytes)) = some (some (.int .i64 0), 1, 8) := by kernel_rfl
theorem elI : El Try.prog 73 3 8 (.int .i64 0) := ⟨Try.underlying73, info_parts infoI, rfl⟩
theorem and1_i64 (R : Int) (h1 : 0 ≤ R) (h2 : R ≤ 9223372036854775807) : bits .and .i64 R 1 = R % 2 := by
  have := bits_mask .i64 63 (by decide) (fun n h0 h1 => by rw [IntKind.wrap_i64]; omega) 1 (by decide) R h1 (by omega)
  simpa using this
set_option maxHeartbeats 400000 in
theorem bits_any (w : World) (A : Option Addr) (n c B : Nat) (l : List Nat) (hr : Rd w B A n (cb l)) (hB : B ≤ w.heap.size) (hl : ∀ x ∈ l, x < 256) (hn : n ≤ 2097152) :
    Calls Try.prog 116 #[.slice A n c] w fun e w' => ∃ v', e = .returned v' ∧ Onto w w' w.heap.size 3 (.slice none 0 0) v' (8 * n) (ci (Crc.bts l)) := by
  have HH : Hid (Rd w B A n (cb l) ∧ B ≤ w.heap.size ∧ (∀ x ∈ l, x < 256)) := ⟨hr, hB, hl⟩
  clear hr hB hl
  go_enter Try.func116, Try.ntmps116
  go_wp2_with fail
  go_loopw [3, 4] (fun s i wr => ∃ k : Nat, k ≤ n ∧ i = .int .i64 k ∧ Onto w wr w.heap.size 3 (.slice none 0 0) s (8 * k) (ci (Crc.bts (l.take k)))) (fun _ i _ => n - (intOf i).toNat)
  case atStart => exact ⟨0, by omega, rfl, Onto.nil w w.heap.size 3⟩
  case round =>
    obtain ⟨k, hk, rfl, hO⟩ := hrel
    by_cases hlt : k < n
    · have hR : Rd wr B A n (cb l) := HH.out.1.below (hO.below (fun k h => by cases h) HH.out.2.1)
      have hll : l.length = n := by have := hR.1; rw [cb_length] at this; exact this
      obtain ⟨g, off, v, hA, hg, hx, hc⟩ := hR.at_ hlt
      rw [cb_get _ _ (by omega)] at hx
      injection hx with hx
      have hxb : l.getD k 0 < 256 := by
        rw [List.getD_eq_getElem?_getD, List.getElem?_eq_getElem (by omega)]
        exact HH.out.2.2 _ (List.getElem_mem _)
      have ht : Crc.bts (l.take (k + 1)) = Crc.bts (l.take k) ++ Crc.b8 (l.getD k 0) := by
        rw [List.take_succ_eq_append_getElem (by omega), Crc.bts_append, List.getD_eq_getElem?_getD, List.getElem?_eq_getElem (by omega)]; simp [Crc.bts]
      generalize l.getD k 0 = x at *
      have HO : Hid (Onto w wr w.heap.size 3 (.slice none 0 0) u3 (8 * k) (ci (Crc.bts (l.take k))) ∧ Crc.bts (l.take (k + 1)) = Crc.bts (l.take k) ++ Crc.b8 x ∧ wr.cell? ⟨g, off + k, none⟩ = some v ∧ g < B ∧ x < 256 ∧ (.int .u8 (x : Int) : Value) = v ∧ A = some ⟨g, off, none⟩) := ⟨hO, ht, hc, hg, hxb, hx, hA⟩
      clear hO ht hc hg hxb hx hR hll
      subst hA
      obtain ⟨wo, hwo⟩ : ∃ wo : World, wo = wr := ⟨_, rfl⟩
      rw [← hwo] at HO ⊢
      clear hwo
      go_wp2_with fail
      go_loopw [3, 5] (fun s q wi => ∃ j : Nat, j ≤ 8 ∧ q = .int .i64 j ∧ Onto w wi w.heap.size 3 (.slice none 0 0) s (8 * k + j) (ci (Crc.bts (l.take k) ++ (Crc.b8 x).take j))) (fun _ q _ => 8 - (intOf q).toNat)
      case atStart => exact ⟨0, by omega, rfl, by simpa using HO.out.1⟩
      case round =>
        obtain ⟨j, hj, rfl, hP⟩ := hrel
        by_cases hj8 : j < 8
        · have hcell : wr.cell? ⟨g, off + k, none⟩ = some (.int .u8 (x : Int)) := by
            have b1 : Below B w wr := hP.below (fun k h => by cases h) HH.out.2.1
            have b0 : Below B w wo := HO.out.1.below (fun k h => by cases h) HH.out.2.1
            rw [b1.cell (p := ⟨g, off + k, none⟩) HO.out.2.2.2.1, ← b0.cell (p := ⟨g, off + k, none⟩) HO.out.2.2.2.1, HO.out.2.2.1, ← HO.out.2.2.2.2.2.1]
          have x1 : (0 : Int) ≤ (x : Int) := by omega
          have x2 : (x : Int) ≤ 255 := by have := HO.out.2.2.2.2.1; omega
          obtain ⟨X, hX⟩ : ∃ X : Int, (x : Int) = X := ⟨_, rfl⟩
          rw [hX] at hcell x1 x2
          have HX := hid hX
          have HP := hid hP
          clear hX hP
          have HB : Hid (w.heap.size ≤ wr.heap.size) := HP.out.size
          have h63 : Hid (8 * k + j + 1 ≤ maxLen) := by show _ ≤ _; unfold maxLen; omega
          have hby : Hid ((8 * k + j + 1) * 8 ≤ 140737488355328) := by show _ ≤ _; omega
          go_wp2_with (refine wpList_push elI rfl rfl (.tmp 16) (.tmp 25) 26 rfl rfl rfl w.heap.size u3 _ _ _ rfl rfl rfl rfl HP.out.own h63.out hby.out HB.out ?_; intro v1 w1 hO1)
          have h2 : Onto wr w1 w.heap.size 3 u3 v1 (8 * k + j + 1) (ci (Crc.bts (l.take k) ++ (Crc.b8 x).take j) ++ [.int .i64 (bits .and .i64 (X / 2 ^ j) 1)]) := hO1
          have e : bits .and .i64 (X / 2 ^ j) 1 = ((x / 2 ^ j % 2 : Nat) : Int) := by
            rw [← HX.out]
            have hd : (x : Int) / 2 ^ j = ((x / 2 ^ j : Nat) : Int) := by push_cast; rfl
            have hle : x / 2 ^ j ≤ x := Nat.div_le_self _ _
            have := HO.out.2.2.2.2.1
            rw [hd]
            clear hd
            generalize x / 2 ^ j = d at *
            rw [and1_i64 _ (by omega) (by omega)]; omega
          rw [e] at h2
          go_roundw
          case rel =>
            refine ⟨j + 1, by omega, by go_num, ?_⟩
            rw [Crc.b8_take x j hj8, ← List.append_assoc, ci_append]
            exact HP.out.trans h2
          case measure => simp [intOf]; omega
        · have h8 : j = 8 := by omega
          subst h8
          have HP := hid hP
          clear hP
          go_wp2_with fail
          go_roundw
          case rel =>
            refine ⟨k + 1, by omega, by go_num, ?_⟩
            rw [HO.out.2.1]
            have := HP.out
            rw [List.take_of_length_le (l := Crc.b8 x) (by rw [Crc.b8_len]; omega)] at this
            exact this
          case measure => simp [intOf]; omega
    · have hkn : k = n := by omega
      subst hkn
      have hll : l.length = k := by have := HH.out.1.1; rw [cb_length] at this; exact this
      rw [List.take_of_length_le (by omega)] at hO
      have HO := hid hO
      clear hO hll
      go_wp2_with fail
      go_ret
      exact ⟨_, rfl, HO.out⟩
end Go.Proofs.Ytbcmjjcbjojakaa
