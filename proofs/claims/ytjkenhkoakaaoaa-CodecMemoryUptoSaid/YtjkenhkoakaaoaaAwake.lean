/- What every outright statement of codec asks first. -/
import Derived.Test.YtjkenhkoakaaoaaRdrY
namespace Go.Proofs.Ytjkenhkoakaaoaa
open Go.RowKit
set_option linter.unusedVariables false
def awb : List Nat := [172, 2, 2, 1, 97, 0]
def awt : List ByteArray := [⟨#[97]⟩, ⟨#[]⟩]
theorem aw_uv : uv 300 = [172, 2] := by decide
theorem aw_all : uv 300 ++ uv 2 ++ tx awt = awb := by decide
theorem aw_num : redo (numF awb 0) 0 0 0 = (300, 2, 0) := by decide
theorem aw_txt : redo (textsF awb 2 2 1) [] 2 0 = ([[97], []], 6, 0) := by decide
theorem aw_byt : redo (bytesF awb 6 1) [] 6 0 = ([], 6, 70) := by decide
theorem Chg.onward {L L' : List Nat} {w w1 w2 : World} (h : Chg L w w1) (k : Chg L' w1 w2) (hl : ∀ x, x ∈ L' → w.heap.size ≤ x ∨ x ∈ L) : Chg L w w2 :=
  ⟨k.os.trans h.os, k.tape.trans h.tape, k.output.trans h.output, Nat.le_trans h.size k.size, fun i hi hn => (k.block i (Nat.lt_of_lt_of_le hi h.size) fun hm => by
    rcases hl i hm with h1 | h1
    · omega
    · exact hn h1).trans (h.block i hi hn)⟩
set_option maxRecDepth 20000 in
set_option maxHeartbeats 2000000 in
theorem awake_any (w : World) : Calls Try.prog 34 #[] w fun e w' => e = .returned (.bool true) ∧ Chg [] w w' := by
  go_enter Try.func34, Try.ntmps34
  go_wp2_with fail
  refine (putUvarint_any w none 0 0 w.heap.size 300 [] Rd.nil (by omega) (by omega) (Nat.le_refl _)).mono ?_
  rintro e w1 ⟨v1, rfl, hO⟩
  rw [List.nil_append, aw_uv, show (0 : Nat) + [172, 2].length = 2 from rfl] at hO
  obtain ⟨A1, c1, rfl, hc1, hm1⟩ := own_form hO.own
  have H1 : Hd (Chg [] w w1 ∧ Rd w1 w1.heap.size A1 2 (cb [172, 2])) := ⟨Chg.of_below (hO.below (fun k h => by cases h) (Nat.le_refl _)), Rd.of_own hO.own⟩
  clear hO hc1 hm1
  go_wp2_with fail
  have r1 : Rd (w1.alloc (.cells #[.string ⟨#[97]⟩, .string ⟨#[]⟩] 9)) (w1.heap.size + 1) A1 2 (cb [172, 2]) := (H1.out.2.alloc (Nat.le_refl _) _).more (by omega)
  have r2 : Rd (w1.alloc (.cells #[.string ⟨#[97]⟩, .string ⟨#[]⟩] 9)) (w1.heap.size + 1) (some ⟨w1.heap.size, 0, none⟩) 2 (cs awt) := rd_lit [.string ⟨#[97]⟩, .string ⟨#[]⟩]
  have h2 : Chg [] w (w1.alloc (.cells #[.string ⟨#[97]⟩, .string ⟨#[]⟩] 9)) := H1.out.1.alloc _
  obtain ⟨W2, hW⟩ : ∃ W2, w1.alloc (.cells #[.string ⟨#[97]⟩, .string ⟨#[]⟩] 9) = W2 := ⟨_, rfl⟩
  have hs : w1.heap.size + 1 = W2.heap.size := by rw [← hW]; simp
  rw [hW] at r1 r2 h2 ⊢
  rw [hs] at r1 r2
  clear hW
  refine (putTexts_any W2 A1 (some ⟨w1.heap.size, 0, none⟩) 2 c1 2 2 W2.heap.size [172, 2] awt r1 r2 (by decide) (by omega) (Nat.le_refl _)).mono ?_
  rintro e w3 ⟨v3, rfl, hO⟩
  rw [show ([172, 2] ++ uv 2 ++ tx awt) = awb from by decide, show 2 + (uv 2).length + (tx awt).length = 6 from by decide] at hO
  obtain ⟨A3, c3, rfl, hc3, hm3⟩ := own_form hO.own
  have H3 : Hd (Chg [] w w3 ∧ Rd w3 w3.heap.size A3 6 (cb awb)) := ⟨h2.trans (Chg.of_below (hO.below (fun k h => by cases h) (Nat.le_refl _))), Rd.of_own hO.own⟩
  clear hO hc3 hm3 r1 r2 h2 hs H1
  go_wp2_with fail
  refine (open_any w3 A3 6 c3 w3.heap.size awb H3.out.2 (Nat.le_refl _) (by omega) (by decide)).mono ?_
  rintro e w4 ⟨gr, A4, c4, rfl, hch, hr, hgr, _⟩
  have hrd : Rd w4 w3.heap.size A3 6 (cb awb) := hch.rd H3.out.2 (Nat.le_refl _) (by simp)
  have hcv : (convert 45 9 (.slice A3 6 c3)).run Try.prog w4 = .ok (.string ⟨#[172, 2, 2, 1, 97, 0]⟩) w4 := by
    rw [cb_ints] at hrd
    exact run_conv_str 45 9 5 Try.underlying45 Try.underlying5 infoStr c3 hrd
  have H4 : Hd (Chg [] w w4 ∧ Rr w4 gr A4 6 c4 0 0 awb ∧ w.heap.size ≤ gr) := ⟨H3.out.1.trans hch, hr, Nat.le_trans H3.out.1.size hgr⟩
  clear hch hr hgr hrd H3
  go_wp2_with fail
  refine (uvarint_any w4 gr 6 c4 0 0 A4 awb H4.out.2.1).mono ?_
  rw [aw_num]
  rintro e w5 ⟨v, rfl, hch, hk, hr⟩
  unfold KNum at hk
  subst hk
  have H5 : Hd (Chg [] w w5 ∧ Rr w5 gr A4 6 c4 2 0 awb ∧ w.heap.size ≤ gr) := ⟨H4.out.1.onward hch (by have := H4.out.2.2; simp; omega), hr, H4.out.2.2⟩
  clear hch hr H4 hcv
  go_wp2_with fail
  refine (texts_any w5 gr 6 c4 2 0 A4 awb 2 1 (by omega) (by omega) H5.out.2.1).mono ?_
  rw [aw_txt]
  rintro e w6 ⟨v6, rfl, hch, hk, hr⟩
  have hk : w6.ownsRow w5.heap.size 9 1 v6 2 (cs awt) := hk
  obtain ⟨A6, c6, rfl, _, _⟩ := own_form hk
  have H6 : Hd (Chg [] w w6 ∧ Rr w6 gr A4 6 c4 6 0 awb ∧ w.heap.size ≤ gr ∧ gr < w5.heap.size ∧ w6.ownsRow w5.heap.size 9 1 (.slice A6 2 c6) 2 (cs awt)) := ⟨H5.out.1.onward hch (by have := H5.out.2.2; simp; omega), hr, H5.out.2.2, H5.out.2.1.lt, hk⟩
  clear hch hr hk H5
  go_wp2_with fail
  refine (end_any w6 gr 6 c4 6 0 A4 awb H6.out.2.1).mono ?_
  rintro e w7 ⟨rfl, hch⟩
  rw [show endF 6 6 0 = 0 from rfl]
  have H7 : Hd (Chg [] w w7 ∧ Rr w7 gr A4 6 c4 6 0 awb ∧ w.heap.size ≤ gr ∧ gr < w5.heap.size ∧ w7.ownsRow w5.heap.size 9 1 (.slice A6 2 c6) 2 (cs awt)) := ⟨H6.out.1.trans hch, H6.out.2.1.keep' hch (by simp), H6.out.2.2.1, H6.out.2.2.2.1, hch.own H6.out.2.2.2.2 (by simp)⟩
  clear hch H6
  go_wp2_with fail
  refine (bytes_any w7 gr 6 c4 6 0 A4 awb 1 (by omega) H7.out.2.1).mono ?_
  rw [aw_byt]
  rintro e w8 ⟨v8, rfl, hch, _, hr⟩
  have H8 : Hd (Chg [] w w8 ∧ Rr w8 gr A4 6 c4 6 70 awb ∧ Rd w8 w8.heap.size A6 2 (cs awt)) := ⟨H7.out.1.onward hch (by have := H7.out.2.2.1; simp; omega), hr, Rd.of_own (hch.own H7.out.2.2.2.2 (fun k hk => by have := (H7.out.2.2.2.2.lt k hk).1; have := H7.out.2.2.2.1; simp; omega))⟩
  clear hch hr H7
  go_wp2_with fail
  have r1 : Rd (w8.alloc (.cells #[.string ⟨#[97]⟩, .string ⟨#[]⟩] 9)) (w8.heap.size + 1) A6 2 (cs awt) := (H8.out.2.2.alloc (Nat.le_refl _) _).more (by omega)
  have r2 : Rd (w8.alloc (.cells #[.string ⟨#[97]⟩, .string ⟨#[]⟩] 9)) (w8.heap.size + 1) (some ⟨w8.heap.size, 0, none⟩) 2 (cs awt) := rd_lit [.string ⟨#[97]⟩, .string ⟨#[]⟩]
  have H9 : Hd (Chg [] w (w8.alloc (.cells #[.string ⟨#[97]⟩, .string ⟨#[]⟩] 9)) ∧ Rr (w8.alloc (.cells #[.string ⟨#[97]⟩, .string ⟨#[]⟩] 9)) gr A4 6 c4 6 70 awb) := ⟨H8.out.1.alloc _, H8.out.2.1.keep' ((Chg.refl [] w8).alloc _) (by simp)⟩
  refine (sameTexts_any _ A6 (some ⟨w8.heap.size, 0, none⟩) 2 c6 2 (w8.heap.size + 1) awt r1 r2 (by omega)).mono ?_
  rintro e w9 ⟨rfl, hb⟩
  have H10 : Hd (Chg [] w w9 ∧ Rr w9 gr A4 6 c4 6 70 awb) := ⟨H9.out.1.trans (Chg.of_below hb), H9.out.2.keep' (L := []) (Chg.of_below hb) (by simp)⟩
  clear hb r1 r2 H9 H8
  go_wp2_with fail
  refine (fault_any w9 gr 6 c4 6 70 A4 awb H10.out.2).mono ?_
  rintro e z ⟨rfl, rfl⟩
  go_wp2_with fail
  go_ret
  exact ⟨rfl, H10.out.1⟩
end Go.Proofs.Ytjkenhkoakaaoaa
