/- Contracts of the reference's joined, Fixed, PutUvarint, PutBytes, PutTexts. -/
import Derived.Test.YtjkenhkoakaaoaaPutsB
import Derived.Laws.IdiomStrings
namespace Go.Proofs.Ytjkenhkoakaaoaa
open Go.RowKit
set_option linter.unusedVariables false
section
variable (w : World) (A A2 : Option Addr) (n c m c2 B : Nat)
set_option maxHeartbeats 400000 in
theorem joined_any (a b : List Nat) (ha : Rd w B A n (cb a)) (hb : Rd w B A2 m (cb b)) (hn : n + m ≤ 140737488355328) (hB : B ≤ w.heap.size) :
    Calls Try.prog 75 #[.slice A n c, .slice A2 m c2] w fun e w' => ∃ v', e = .returned v' ∧ Onto w w' w.heap.size 5 (.slice none 0 0) v' (n + m) (cb (a ++ b)) := by
  have HH : Hd (Rd w B A n (cb a) ∧ Rd w B A2 m (cb b) ∧ B ≤ w.heap.size) := ⟨ha, hb, hB⟩
  have h63 : Hd (0 + n ≤ maxLen ∧ n + m ≤ maxLen) := ⟨by unfold maxLen; omega, by unfold maxLen; omega⟩
  have hby : Hd ((0 + n) * 1 ≤ 140737488355328 ∧ (n + m) * 1 ≤ 140737488355328) := ⟨by omega, by omega⟩
  clear ha hb hB
  go_enter Try.func75, Try.ntmps75
  go_wp2_with (first
    | (refine wpList_app elB rfl (.tmp 6) (.tmp 7) rfl w.heap.size (.slice none 0 0) 0 [] rfl (World.ownsRow_nil ..) B A n c (cb a) rfl HH.out.1 (cb_one a) h63.out.1 hby.out.1 (Nat.le_refl _) ?_
       intro v1 w1 hO1
       have H1 : Hd (Onto w w1 w.heap.size 5 (.slice none 0 0) v1 n (cb a) ∧ Below B w w1) := ⟨by simpa using hO1, hO1.below (fun k h => by cases h) HH.out.2.2⟩
       clear hO1)
    | (refine wpList_app elB rfl (.tmp 9) (.tmp 10) rfl w.heap.size v1 n (cb a) rfl H1.out.1.own B A2 m c2 (cb b) rfl (HH.out.2.1.below H1.out.2) (cb_one b) h63.out.2 hby.out.2 H1.out.1.size ?_
       intro v2 w2 hO2))
  go_ret
  exact ⟨v2, rfl, by rw [cb_append]; exact H1.out.1.trans hO2⟩
set_option maxHeartbeats 1000000 in
theorem refFixed_any (v k : Nat) (bs : List Nat) (hr : Rd w B A n (cb bs)) (hv : v < 18446744073709551616) (hn : n + 10 ≤ 140737488355328) (hk : k ≤ 8) (hB : B ≤ w.heap.size) :
    Calls Try.prog 65 #[.slice A n c, .int .u64 (v : Int), .int .i64 (k : Int)] w fun e w' => ∃ v', e = .returned v' ∧ Onto w w' w.heap.size 5 (.slice none 0 0) v' (n + k) (cb (bs ++ fx k v)) := by
  have HH : Hd (Rd w B A n (cb bs) ∧ B ≤ w.heap.size) := ⟨hr, hB⟩
  obtain ⟨V, hV⟩ : ∃ V : Int, (v : Int) = V := ⟨_, rfl⟩
  have hV1 : 0 ≤ V := by omega
  have HV : Hd (∀ k, V / 2 ^ (8 * k) % 256 = ((v / 2 ^ (8 * k) % 256 : Nat) : Int)) := ⟨fun k => by rw [← hV]; exact shr_cell v k⟩
  rw [hV]
  clear hr hB hv hV
  go_enter Try.func65, Try.ntmps65
  go_wp2_with fail
  go_loopw [7, 8] (fun s i wr => ∃ j : Nat, j ≤ k ∧ i = .int .i64 j ∧ Onto w wr w.heap.size 5 (.slice none 0 0) s j (cb (fx j v))) (fun _ i _ => k - (intOf i).toNat)
  case atStart => exact ⟨0, by omega, rfl, Onto.nil w _ _⟩
  case round =>
    obtain ⟨j, hj, rfl, hO⟩ := hrel
    have H1 := Hd.mk hO
    clear hO
    by_cases hlt : j < k
    · have h63 : Hd (j + 1 ≤ maxLen) := ⟨by unfold maxLen; omega⟩
      have hby : Hd ((j + 1) * 1 ≤ 140737488355328) := ⟨by omega⟩
      go_wp2_with (refine wpList_push elB rfl rfl (.tmp 14) (.tmp 20) 21 rfl rfl rfl w.heap.size u7 _ _ _ rfl rfl rfl rfl H1.out.own h63.out hby.out H1.out.size ?_; intro v2 w2 hO2)
      go_roundw
      case rel =>
        refine ⟨j + 1, by omega, by go_num, ?_⟩
        rw [fx_succ, cb_append]
        have := H1.out.trans (show Onto wr w2 w.heap.size 5 u7 v2 (j + 1) (cb (fx j v) ++ [.int .u8 (V / 2 ^ (8 * j) % 256)]) from hO2)
        rw [HV.out] at this
        exact this
      case measure => simp [intOf]; omega
    · have hjk : k = j := by omega
      subst hjk
      obtain ⟨A3, c3, hv3, _, _⟩ := own_form H1.out.own
      subst hv3
      have H2 : Hd (Rd wr wr.heap.size A n (cb bs) ∧ Rd wr wr.heap.size A3 k (cb (fx k v)) ∧ Below w.heap.size w wr) :=
        have b := H1.out.below (B := w.heap.size) (fun k h => by cases h) (Nat.le_refl _)
        ⟨(HH.out.1.below (b.mono HH.out.2)).more (Nat.le_trans HH.out.2 b.size), Rd.of_own H1.out.own, b⟩
      go_wp2_with fail
      refine (joined_any wr A A3 n c k c3 wr.heap.size bs (fx k v) H2.out.1 H2.out.2.1 (by omega) (Nat.le_refl _)).mono ?_
      rintro e w2 ⟨v2, rfl, hO⟩
      have H3 : Hd (Onto w w2 w.heap.size 5 (.slice none 0 0) v2 (n + k) (cb (bs ++ fx k v))) :=
        have b := H2.out.2.2.trans (hO.below (B := w.heap.size) (fun k h => by cases h) H2.out.2.2.size)
        ⟨hO.base_ (fun k h => by cases h) H2.out.2.2.size, ⟨b.os, b.tape, b.output, b.size, fun k hk _ => b.block k hk⟩, fun k hk => .inr (Nat.le_trans H2.out.2.2.size ((hO.own.lt k hk).1))⟩
      clear hO
      go_wp2_with fail
      go_ret
      exact ⟨v2, rfl, H3.out⟩
set_option maxHeartbeats 1000000 in
theorem refPutUvarint_any (v : Nat) (bs : List Nat) (hr : Rd w B A n (cb bs)) (hv : v < 2 ^ 64) (hn : n + 10 ≤ 140737488355328) (hB : B ≤ w.heap.size) :
    Calls Try.prog 66 #[.slice A n c, .int .u64 (v : Int)] w fun e w' => ∃ v', e = .returned v' ∧ Onto w w' w.heap.size 5 (.slice none 0 0) v' (n + (uv v).length) (cb (bs ++ uv v)) := by
  have HH : Hd (Rd w B A n (cb bs) ∧ B ≤ w.heap.size ∧ v < 2 ^ 64) := ⟨hr, hB, hv⟩
  clear hr hB hv
  go_enter Try.func66, Try.ntmps66
  go_wp2_with fail
  go_loopw [1, 5] (fun x s wr => ∃ (k m : Nat) (ys : List Nat), x = .int .u64 m ∧ m < 2 ^ (7 * k + 1) ∧ uv v = ys ++ uvf k m ∧ k ≤ 9 ∧ ys.length + k = 9 ∧ Onto w wr w.heap.size 5 (.slice none 0 0) s ys.length (cb ys))
    (fun x _ _ => (intOf x).toNat)
  case atStart => exact ⟨9, v, [], rfl, HH.out.2.2, rfl, by omega, rfl, Onto.nil w _ _⟩
  case round =>
    obtain ⟨k, m, ys, rfl, hm, hu, hk, hl, hO⟩ := hrel
    have hm64 := pow_64 k m hk hm
    have H0 : (0 : Int) ≤ (m : Int) := by omega
    have h63 : Hd (ys.length + 1 ≤ maxLen) := ⟨by unfold maxLen; omega⟩
    have hby : Hd ((ys.length + 1) * 1 ≤ 140737488355328) := ⟨by omega⟩
    have hb1 : ((m : Int) % 128 + 128) % 256 = ((m % 128 + 128 : Nat) : Int) := by omega
    have hb2 : (128 + (m : Int) % 128) % 256 = ((m % 128 + 128 : Nat) : Int) := by omega
    have hd : (m : Int) / 128 = ((m / 128 : Nat) : Int) := by omega
    have Hlt : Hd (m < 128 → ((m : Int) % 256) = ((m : Nat) : Int)) := ⟨fun h => by omega⟩
    obtain ⟨X, hX⟩ : ∃ X : Int, (m : Int) = X := ⟨_, rfl⟩
    have HX : Hd ((m : Int) = X ∧ m < 2 ^ (7 * k + 1) ∧ uv v = ys ++ uvf k m ∧ k ≤ 9 ∧ ys.length + k = 9 ∧ Onto w wr w.heap.size 5 (.slice none 0 0) u5 ys.length (cb ys) ∧ (128 + X % 128) % 256 = ((m % 128 + 128 : Nat) : Int) ∧ X / 128 = ((m / 128 : Nat) : Int)) := ⟨hX, hm, hu, hk, hl, hO, by rw [← hX]; exact hb2, by rw [← hX]; exact hd⟩
    rw [hX] at hm64 H0 ⊢
    clear hm hu hl hO hb1 hb2 hd
    by_cases h : 128 ≤ X
    · have hX2 : 128 + X % 128 ≤ 255 := by omega
      have hX3 : 0 ≤ X % 128 := by omega
      go_wp2_with (refine wpList_push elB rfl rfl (.tmp 8) (.tmp 12) 13 rfl rfl rfl w.heap.size u5 _ _ _ rfl rfl rfl rfl HX.out.2.2.2.2.2.1.own h63.out hby.out HX.out.2.2.2.2.2.1.size ?_; intro v1 w1 hO1)
      go_roundw
      case rel =>
        obtain ⟨hX, hm, hu, hk, hl, hO, hb, hd⟩ := HX
        have h2 : Onto wr w1 w.heap.size 5 u5 v1 (ys.length + 1) (cb ys ++ [.int .u8 (128 + X % 128)]) := hO1
        obtain ⟨k, rfl⟩ : ∃ q, k = q + 1 := by
          cases k with
          | zero => omega
          | succ q => exact ⟨q, rfl⟩
        refine ⟨k, m / 128, ys ++ [m % 128 + 128], by rw [hd], pow_step k m hm, ?_, by omega, by simp; omega, ?_⟩
        · rw [hu]; simp only [uvf]; rw [if_neg (by omega)]; simp
        · rw [show (128 + X % 128) = ((m % 128 + 128 : Nat) : Int) by omega] at h2
          rw [cb_append, List.length_append]
          exact hO.trans h2
      case measure => simp [intOf]; omega
    · have Huv : Hd (uv v = ys ++ [m]) := ⟨by rw [HX.out.2.2.1, uvf_small k m (by have := HX.out.1; omega)]⟩
      go_wp2_with (
        refine wpList_push elB rfl rfl (.tmp 17) (.tmp 19) 20 rfl rfl rfl w.heap.size u5 _ _ _ rfl rfl rfl rfl HX.out.2.2.2.2.2.1.own h63.out hby.out HX.out.2.2.2.2.2.1.size ?_
        intro v1 w1 hO1
        have h2 : Onto wr w1 w.heap.size 5 u5 v1 (ys.length + 1) (cb ys ++ [.int .u8 X]) := hO1
        have h3 := HX.out.2.2.2.2.2.1.trans h2
        rw [← HX.out.1, show cb ys ++ [Value.int .u8 ((m : Nat) : Int)] = cb (uv v) by rw [Huv.out, cb_append]; rfl] at h3
        obtain ⟨A3, c3, hv3, _, _⟩ := own_form h3.own
        subst hv3
        have hbw := h3.below (B := w.heap.size) (fun k h => by cases h) (Nat.le_refl _)
        have H2 : Hd (Rd w1 w1.heap.size A n (cb bs) ∧ Rd w1 w1.heap.size A3 (ys.length + 1) (cb (uv v)) ∧ Below w.heap.size w w1 ∧ (uv v).length = ys.length + 1) :=
          ⟨(HH.out.1.below (hbw.mono HH.out.2.1)).more (Nat.le_trans HH.out.2.1 hbw.size), Rd.of_own h3.own, hbw, by rw [Huv.out]; simp⟩
        clear hO1 h2 h3 hbw)
      have hyl := HX.out.2.2.2.2.1
      refine (joined_any w1 A A3 n c (ys.length + 1) c3 w1.heap.size bs (uv v) H2.out.1 H2.out.2.1 (by omega) (Nat.le_refl _)).mono ?_
      rintro e w2 ⟨v2, rfl, hO⟩
      have H3 : Hd (Onto w w2 w.heap.size 5 (.slice none 0 0) v2 (n + (uv v).length) (cb (bs ++ uv v))) :=
        have b := H2.out.2.2.1.trans (hO.below (B := w.heap.size) (fun k h => by cases h) H2.out.2.2.1.size)
        ⟨by rw [H2.out.2.2.2]; exact hO.base_ (fun k h => by cases h) H2.out.2.2.1.size, ⟨b.os, b.tape, b.output, b.size, fun k hk _ => b.block k hk⟩, fun k hk => .inr (Nat.le_trans H2.out.2.2.1.size ((hO.own.lt k hk).1))⟩
      clear hO
      go_wp2_with fail
      go_ret
      exact ⟨v2, rfl, H3.out⟩
theorem onto_fresh {w1 w2 : World} {n : Nat} {v : Value} {xs : List Value} (b : Below w.heap.size w w1) (hO : Onto w1 w2 w1.heap.size 5 (.slice none 0 0) v n xs) : Onto w w2 w.heap.size 5 (.slice none 0 0) v n xs :=
  have b2 := b.trans (hO.below (B := w.heap.size) (fun k h => by cases h) b.size)
  ⟨hO.base_ (fun k h => by cases h) b.size, ⟨b2.os, b2.tape, b2.output, b2.size, fun k hk _ => b2.block k hk⟩, fun k hk => .inr (Nat.le_trans b.size ((hO.own.lt k hk).1))⟩
set_option maxHeartbeats 400000 in
theorem refPutBytes_any (bs ps : List Nat) (hr : Rd w B A n (cb bs)) (hp : Rd w B A2 m (cb ps)) (hn : n + 10 + m ≤ 140737488355328) (hB : B ≤ w.heap.size) :
    Calls Try.prog 67 #[.slice A n c, .slice A2 m c2] w fun e w' => ∃ v', e = .returned v' ∧ Onto w w' w.heap.size 5 (.slice none 0 0) v' (n + (uv m).length + m) (cb (bs ++ uv m ++ ps)) := by
  have hu := uv_len m
  have HH : Hd (Rd w B A n (cb bs) ∧ Rd w B A2 m (cb ps) ∧ B ≤ w.heap.size ∧ m < 2 ^ 64 ∧ n + (uv m).length + m ≤ 140737488355328) := ⟨hr, hp, hB, by omega, by omega⟩
  have hn1 : n + 10 ≤ 140737488355328 := by omega
  clear hr hp hB hu
  go_enter Try.func67, Try.ntmps67
  go_wp2_with fail
  refine (refPutUvarint_any w A n c B m bs HH.out.1 HH.out.2.2.2.1 hn1 HH.out.2.2.1).mono ?_
  rintro e w1 ⟨v1, rfl, hO⟩
  obtain ⟨A3, c3, hv3, _, _⟩ := own_form hO.own
  subst hv3
  have H1 : Hd (Rd w1 w1.heap.size A3 (n + (uv m).length) (cb (bs ++ uv m)) ∧ Rd w1 w1.heap.size A2 m (cb ps) ∧ Below w.heap.size w w1) :=
    have b := hO.below (B := w.heap.size) (fun k h => by cases h) (Nat.le_refl _)
    ⟨Rd.of_own hO.own, (HH.out.2.1.below (b.mono HH.out.2.2.1)).more (Nat.le_trans HH.out.2.2.1 b.size), b⟩
  clear hO
  go_wp2_with fail
  refine (joined_any w1 A3 A2 (n + (uv m).length) c3 m c2 w1.heap.size (bs ++ uv m) ps H1.out.1 H1.out.2.1 HH.out.2.2.2.2 (Nat.le_refl _)).mono ?_
  rintro e w2 ⟨v2, rfl, hO⟩
  have H3 := Hd.mk (onto_fresh w H1.out.2.2 hO)
  clear hO
  go_wp2_with fail
  go_ret
  exact ⟨v2, rfl, H3.out⟩
end
end Go.Proofs.Ytjkenhkoakaaoaa
