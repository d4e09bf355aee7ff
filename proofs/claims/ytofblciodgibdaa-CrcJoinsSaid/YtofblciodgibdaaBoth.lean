/- Contract of the laws' both: two texts put together by exclusive or. -/
import Derived.Test.YtofblciodgibdaaSums
import Derived.Test.YtofblciodgibdaaMem2
import Derived.Test.YtofblciodgibdaaCrcLin
import Derived.Deep.RegionHeld3
namespace Go.Proofs.Ytofblciodgibdaa
open Go.RowKit
set_option linter.unusedVariables false
theorem getD_lt {l : List Nat} {m : Nat} (h : ∀ x ∈ l, x < m) {k : Nat} (hk : k < l.length) : l.getD k 0 < m := by
  rw [List.getD_eq_getElem?_getD, List.getElem?_eq_getElem hk]; exact h _ (List.getElem_mem _)
set_option maxRecDepth 100000 in
set_option maxHeartbeats 1000000 in
theorem both_any (w : World) (A1 A2 : Option Addr) (n c1 m c2 B : Nat) (a b : List Nat) (ha : Rd w B A1 n (cb a)) (hb : Rd w B A2 m (cb b)) (hB : B ≤ w.heap.size) (la : ∀ x ∈ a, x < 256) (lb : ∀ x ∈ b, x < 256) (hn : n ≤ 140737488355328) (hm : m ≤ 140737488355328) :
    Calls Try.prog 24 #[.slice A1 n c1, .slice A2 m c2] w fun e w' => ∃ v', e = .returned v' ∧ Onto w w' w.heap.size 5 (.slice none 0 0) v' (min n m) (cb (Crc.xl a b)) := by
  have ha' : a.length = n := by have := ha.1; rw [cb_length] at this; exact this
  have hb' : b.length = m := by have := hb.1; rw [cb_length] at this; exact this
  have HH : Hd (Rd w B A1 n (cb a) ∧ Rd w B A2 m (cb b) ∧ B ≤ w.heap.size ∧ (∀ x ∈ a, x < 256) ∧ (∀ x ∈ b, x < 256) ∧ a.length = n ∧ b.length = m) := ⟨ha, hb, hB, la, lb, ha', hb'⟩
  clear ha hb hB la lb ha' hb'
  go_enter Try.func24, Try.ntmps24
  go_wp2_with fail
  go_loopw [5, 6] (fun s i wr => ∃ k : Nat, k ≤ n ∧ k ≤ m ∧ i = .int .i64 k ∧ Onto w wr w.heap.size 5 (.slice none 0 0) s k (cb ((Crc.xl a b).take k))) (fun _ i _ => n - (intOf i).toNat)
  case atStart => exact ⟨0, by omega, by omega, rfl, Onto.nil w w.heap.size 5⟩
  case round =>
    obtain ⟨k, hk, hkm, rfl, hO⟩ := hrel
    have HO : Hd (Onto w wr w.heap.size 5 (.slice none 0 0) u5 k (cb ((Crc.xl a b).take k))) := ⟨hO⟩
    clear hO
    by_cases h1 : k < n
    · by_cases h2 : k < m
      · have hbw : Below B w wr := HO.out.below (fun k h => by cases h) HH.out.2.2.1
        obtain ⟨g1, o1, v1, hA1, _, hx1, hc1⟩ := (HH.out.1.below hbw).at_ h1
        obtain ⟨g2, o2, v2, hA2, _, hx2, hc2⟩ := (HH.out.2.1.below hbw).at_ h2
        rw [cb_get _ _ (by rw [HH.out.2.2.2.2.2.1]; exact h1)] at hx1
        rw [cb_get _ _ (by rw [HH.out.2.2.2.2.2.2]; exact h2)] at hx2
        injection hx1 with hx1
        injection hx2 with hx2
        have hT : Hd ((Crc.xl a b).take (k + 1) = (Crc.xl a b).take k ++ [a.getD k 0 ^^^ b.getD k 0]) := ⟨Crc.xl_take a b k (by rw [HH.out.2.2.2.2.2.1]; exact h1) (by rw [HH.out.2.2.2.2.2.2]; exact h2)⟩
        have b1 := getD_lt HH.out.2.2.2.1 (k := k) (by rw [HH.out.2.2.2.2.2.1]; exact h1)
        have b2 := getD_lt HH.out.2.2.2.2.1 (k := k) (by rw [HH.out.2.2.2.2.2.2]; exact h2)
        generalize a.getD k 0 = x at *
        generalize b.getD k 0 = y at *
        have e := u8_xor_nat x y b1 b2
        generalize x ^^^ y = z at *
        obtain ⟨X, hX⟩ : ∃ X : Int, (x : Int) = X := ⟨_, rfl⟩
        obtain ⟨Y, hY⟩ : ∃ X : Int, (y : Int) = X := ⟨_, rfl⟩
        rw [hX] at hx1 e
        rw [hY] at hx2 e
        subst hx1 hx2 hA1 hA2
        clear hX hY b1 b2 hbw
        have hki : (k : Int) < (n : Int) := by omega
        have hkj : (k : Int) < (m : Int) := by omega
        have HB1 : Hd (w.heap.size ≤ (wr.alloc (.cells #[.int .u8 (z : Int)] 5)).drew.heap.size) := ⟨by have := HO.out.size; simp; omega⟩
        have HS : ∀ (v1 : Value) (w1 : World), Onto ((wr.alloc (.cells #[.int .u8 (z : Int)] 5)).drew) w1 w.heap.size 5 u5 v1 (k + 1) (cb ((Crc.xl a b).take k) ++ [.int .u8 (z : Int)]) → w1.cell? ⟨g1, o1 + k, none⟩ = some (.int .u8 X) ∧ w1.cell? ⟨g2, o2 + k, none⟩ = some (.int .u8 Y) := by
          intro v1 w1 h
          have q1 : g1 < w.heap.size := by have := HH.out.2.2.1; omega
          have q2 : g2 < w.heap.size := by have := HH.out.2.2.1; omega
          have q3 := HO.out.size
          refine ⟨?_, ?_⟩
          · rw [h.cell (p := ⟨g1, o1 + k, none⟩) (by simp; omega) (fun j hj => by have := (HO.out.own.lt j hj).1; simp; omega)]
            show (wr.alloc _).cell? _ = _
            rw [World.cell?_alloc_lt _ _ _ (by simp; omega)]; exact hc1
          · rw [h.cell (p := ⟨g2, o2 + k, none⟩) (by simp; omega) (fun j hj => by have := (HO.out.own.lt j hj).1; simp; omega)]
            show (wr.alloc _).cell? _ = _
            rw [World.cell?_alloc_lt _ _ _ (by simp; omega)]; exact hc2
        have h63 : Hd (k + 1 ≤ maxLen) := ⟨by unfold maxLen; omega⟩
        have hby : Hd ((k + 1) * 1 ≤ 140737488355328) := ⟨by omega⟩
        go_wp2_with fail
        go_region_held3 (fun w' => w'.cell? ⟨g1, o1 + k, none⟩ = some (.int .u8 X) ∧ w'.cell? ⟨g2, o2 + k, none⟩ = some (.int .u8 Y))
          (first | go_keep | (exact HS _ _ hO1))
          ((refine step_app elB (by rfl) (.tmp 19) (.tmp 29) (by rfl) w.heap.size u5 k _ (by rfl) ((HO.out.own.alloc _).drew) (wr.heap.size + 1) (some ⟨wr.heap.size, 0, none⟩) 1 1 [.int .u8 (z : Int)] (by rfl) (rd_lit [.int .u8 (z : Int)]) (by simp [Value.oneCell']) h63.out hby.out HB1.out ?_; intro v1 w1 hO1))
        have h3 : Onto wr w1 w.heap.size 5 u5 v1 (k + 1) (cb ((Crc.xl a b).take k) ++ [.int .u8 (z : Int)]) := by
          refine ⟨hO1.1, (World.grownBy_alloc wr _ _).trans ⟨hO1.2.1.os, hO1.2.1.tape, hO1.2.1.output, hO1.2.1.size, hO1.2.1.block⟩, fun j hj => ?_⟩
          rcases hO1.2.2 j hj with h | h
          · exact .inl h
          · simp at h; exact .inr (by omega)
        clear hO1 HS
        go_wp2_with fail
        go_roundw
        case rel =>
          refine ⟨k + 1, by omega, by omega, by go_num, ?_⟩
          rw [hT.out, cb_append]
          exact HO.out.trans h3
        case measure => simp [intOf]; omega
      · have hkm' : k = m := by omega
        have hfull : (Crc.xl a b).take k = Crc.xl a b := List.take_of_length_le (by rw [Crc.xl_len, HH.out.2.2.2.2.2.1, HH.out.2.2.2.2.2.2]; omega)
        have HF : Hd (Onto w wr w.heap.size 5 (.slice none 0 0) u5 (min n m) (cb (Crc.xl a b))) := ⟨by rw [← hfull, show min n m = k by omega]; exact HO.out⟩
        clear hfull
        subst hkm'
        go_wp2_with fail
        go_ret
        exact ⟨_, rfl, HF.out⟩
    · have hkn : k = n := by omega
      have hfull : (Crc.xl a b).take k = Crc.xl a b := List.take_of_length_le (by rw [Crc.xl_len, HH.out.2.2.2.2.2.1, HH.out.2.2.2.2.2.2]; omega)
      have HF : Hd (Onto w wr w.heap.size 5 (.slice none 0 0) u5 (min n m) (cb (Crc.xl a b))) := ⟨by rw [← hfull, show min n m = k by omega]; exact HO.out⟩
      clear hfull
      subst hkn
      go_wp2_with fail
      go_ret
      exact ⟨_, rfl, HF.out⟩
theorem both_rd (w : World) (A1 A2 : Option Addr) (n c1 m c2 B : Nat) (a b : List Nat) (ha : Rd w B A1 n (cb a)) (hb : Rd w B A2 m (cb b)) (hB : B ≤ w.heap.size) (la : ∀ x ∈ a, x < 256) (lb : ∀ x ∈ b, x < 256) (hn : n ≤ 140737488355328) (hm : m ≤ 140737488355328) :
    Calls Try.prog 24 #[.slice A1 n c1, .slice A2 m c2] w fun e w' => ∃ A' c', e = .returned (.slice A' (min n m) c') ∧ Rd w' w'.heap.size A' (min n m) (cb (Crc.xl a b)) ∧ Below w.heap.size w w' := by
  refine (both_any w A1 A2 n c1 m c2 B a b ha hb hB la lb hn hm).mono ?_
  rintro e w' ⟨v', rfl, hO⟩
  obtain ⟨A', c', rfl, _, _⟩ := own_form hO.own
  exact ⟨A', c', rfl, Rd.of_own hO.own, hO.below (fun k h => by cases h) (Nat.le_refl _)⟩
end Go.Proofs.Ytofblciodgibdaa
