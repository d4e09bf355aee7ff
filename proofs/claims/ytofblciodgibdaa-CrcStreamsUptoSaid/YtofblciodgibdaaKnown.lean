/- Contract of the laws' known: it returns true. -/
import Derived.Test.YtofblciodgibdaaSums
import Derived.Test.YtofblciodgibdaaMem2
import Derived.Lib.SlBytesConst
namespace Go.Proofs.Ytofblciodgibdaa
open Go.RowKit
set_option linter.unusedVariables false
theorem k1 : Crc.more 0 [49, 50, 51, 52, 53, 54, 55, 56, 57] = 3808858755 := by decide +kernel
theorem k2 : Crc.more 0 (List.replicate 32 0) = 2324772522 := by decide +kernel
theorem k3 : Crc.more 0 (List.replicate 32 255) = 1655221059 := by decide +kernel
theorem k4 : Crc.more 0 (List.range 32) = 1188919630 := by decide +kernel
set_option maxRecDepth 100000 in
set_option maxHeartbeats 1000000 in
theorem known_any (w : World) : Calls Try.prog 23 #[] w fun e w' => e = .returned (.bool true) ∧ Below w.heap.size w w' := by
  have kc := fun (w : World) (C : Array Value) (n c : Nat) => Lib.run_convert_bytes_const (P := Try.prog) w 23 5 C n c Try.underlying23 Try.underlying5
  go_enter Try.func23, Try.ntmps23
  go_wp2_with fail
  go_loopw [1, 2, 3, 4] (fun a b c i wr => ∃ k : Nat, k ≤ 32 ∧ i = .int .i64 k ∧ wr.ownsRow w.heap.size 5 1 a k (cb (List.replicate k 0)) ∧ wr.ownsRow w.heap.size 5 1 b k (cb (List.replicate k 255)) ∧ wr.ownsRow w.heap.size 5 1 c k (cb (List.range k)) ∧
      Apart a b ∧ Apart a c ∧ Apart b c ∧ Below w.heap.size w wr) (fun _ _ _ i _ => 32 - (intOf i).toNat)
  case atStart => exact ⟨0, by omega, rfl, World.ownsRow_nil .., World.ownsRow_nil .., World.ownsRow_nil .., Apart.nil _, Apart.nil _, Apart.nil _, Below.refl _ _⟩
  case round =>
    obtain ⟨k, hk, rfl, ha, hb, hc, dab, dac, dbc, hbel⟩ := hrel
    have HH : Hd (wr.ownsRow w.heap.size 5 1 u1 k (cb (List.replicate k 0)) ∧ wr.ownsRow w.heap.size 5 1 u2 k (cb (List.replicate k 255)) ∧ wr.ownsRow w.heap.size 5 1 u3 k (cb (List.range k)) ∧ Apart u1 u2 ∧ Apart u1 u3 ∧ Apart u2 u3 ∧ Below w.heap.size w wr) := ⟨ha, hb, hc, dab, dac, dbc, hbel⟩
    clear ha hb hc dab dac dbc hbel
    by_cases hlt : k < 32
    · have h63 : Hd (k + 1 ≤ maxLen) := ⟨by unfold maxLen; omega⟩
      have hby : Hd ((k + 1) * 1 ≤ 140737488355328) := ⟨by omega⟩
      go_wp2_with (first
        | (refine wpList_push elB rfl rfl (.tmp 9) (.const (.int .u8 0)) 10 rfl rfl rfl w.heap.size u1 _ _ _ rfl rfl rfl rfl HH.out.1 h63.out hby.out HH.out.2.2.2.2.2.2.size ?_; intro v1 w1 hO1
           have H1 : Hd (w1.ownsRow w.heap.size 5 1 v1 (k + 1) (cb (List.replicate k 0) ++ [.int .u8 0]) ∧ w1.ownsRow w.heap.size 5 1 u2 k (cb (List.replicate k 255)) ∧ w1.ownsRow w.heap.size 5 1 u3 k (cb (List.range k)) ∧ Apart v1 u2 ∧ Apart v1 u3 ∧ Apart u2 u3 ∧ Below w.heap.size w w1) :=
             ⟨hO1.own, hO1.keep HH.out.2.1 HH.out.2.2.2.1, hO1.keep HH.out.2.2.1 HH.out.2.2.2.2.1, hO1.apart HH.out.2.1 HH.out.2.2.2.1, hO1.apart HH.out.2.2.1 HH.out.2.2.2.2.1, HH.out.2.2.2.2.2.1, HH.out.2.2.2.2.2.2.trans (hO1.below (fun k hk => (HH.out.1.lt k hk).1) HH.out.2.2.2.2.2.2.size)⟩
           clear hO1)
        | (refine wpList_push elB rfl rfl (.tmp 12) (.const (.int .u8 255)) 13 rfl rfl rfl w.heap.size u2 _ _ _ rfl rfl rfl rfl H1.out.2.1 h63.out hby.out H1.out.2.2.2.2.2.2.size ?_; intro v2 w2 hO2
           have H2 : Hd (w2.ownsRow w.heap.size 5 1 v1 (k + 1) (cb (List.replicate k 0) ++ [.int .u8 0]) ∧ w2.ownsRow w.heap.size 5 1 v2 (k + 1) (cb (List.replicate k 255) ++ [.int .u8 255]) ∧ w2.ownsRow w.heap.size 5 1 u3 k (cb (List.range k)) ∧ Apart v1 v2 ∧ Apart v1 u3 ∧ Apart v2 u3 ∧ Below w.heap.size w w2) :=
             ⟨hO2.keep H1.out.1 H1.out.2.2.2.1.symm, hO2.own, hO2.keep H1.out.2.2.1 H1.out.2.2.2.2.2.1, (hO2.apart H1.out.1 H1.out.2.2.2.1.symm).symm, H1.out.2.2.2.2.1, hO2.apart H1.out.2.2.1 H1.out.2.2.2.2.2.1, H1.out.2.2.2.2.2.2.trans (hO2.below (fun k hk => (H1.out.2.1.lt k hk).1) H1.out.2.2.2.2.2.2.size)⟩
           clear hO2)
        | (refine wpList_push elB rfl rfl (.tmp 15) (.tmp 17) 18 rfl rfl rfl w.heap.size u3 _ _ _ rfl rfl rfl rfl H2.out.2.2.1 h63.out hby.out H2.out.2.2.2.2.2.2.size ?_; intro v3 w3 hO3))
      have h3 : Onto w2 w3 w.heap.size 5 u3 v3 (k + 1) (cb (List.range k) ++ [.int .u8 (k : Int)]) := hO3
      clear hO3
      have e1 : cb (List.replicate (k + 1) 0) = cb (List.replicate k 0) ++ [.int .u8 0] := by rw [List.replicate_succ', cb_append]; rfl
      have e2 : cb (List.replicate (k + 1) 255) = cb (List.replicate k 255) ++ [.int .u8 255] := by rw [List.replicate_succ', cb_append]; rfl
      have e3 : cb (List.range (k + 1)) = cb (List.range k) ++ [.int .u8 (k : Int)] := by rw [List.range_succ, cb_append]; rfl
      go_roundw
      case rel =>
        refine ⟨k + 1, by omega, by go_num, ?_, ?_, ?_, H2.out.2.2.2.1, (h3.apart H2.out.1 H2.out.2.2.2.2.1.symm).symm, (h3.apart H2.out.2.1 H2.out.2.2.2.2.2.1.symm).symm, H2.out.2.2.2.2.2.2.trans (h3.below (fun k hk => (H2.out.2.2.1.lt k hk).1) H2.out.2.2.2.2.2.2.size)⟩
        · rw [e1]; exact h3.keep H2.out.1 H2.out.2.2.2.2.1.symm
        · rw [e2]; exact h3.keep H2.out.2.1 H2.out.2.2.2.2.2.1.symm
        · rw [e3]; exact h3.own
      case measure => simp [intOf]; omega
    · have hk32 : k = 32 := by omega
      subst hk32
      obtain ⟨A1, c1, hA1, _, _⟩ := own_form HH.out.1
      obtain ⟨A2, c2, hA2, _, _⟩ := own_form HH.out.2.1
      obtain ⟨A3, c3, hA3, _, _⟩ := own_form HH.out.2.2.1
      subst hA1 hA2 hA3
      have HR : Hd (Rd wr wr.heap.size A1 32 (cb (List.replicate 32 0)) ∧ Rd wr wr.heap.size A2 32 (cb (List.replicate 32 255)) ∧ Rd wr wr.heap.size A3 32 (cb (List.range 32)) ∧ Below w.heap.size w wr) := ⟨Rd.of_own HH.out.1, Rd.of_own HH.out.2.1, Rd.of_own HH.out.2.2.1, HH.out.2.2.2.2.2.2⟩
      clear HH
      go_wp2_with fail
      refine (sum_any _ (some ⟨wr.heap.size, 0, none⟩) 9 9 (wr.heap.size + 1) [49, 50, 51, 52, 53, 54, 55, 56, 57] (rd_litF (cb [49, 50, 51, 52, 53, 54, 55, 56, 57]) (9, 10)) (by simp) (by decide) (by omega)).mono ?_
      rw [k1]
      rintro e w1 ⟨rfl, hb1⟩
      have b1 : Below wr.heap.size wr w1 := ((Below.refl wr.heap.size wr).alloc (Nat.le_refl _) _).trans (hb1.mono (by simp))
      have H1 : Hd (Rd w1 wr.heap.size A1 32 (cb (List.replicate 32 0)) ∧ Rd w1 wr.heap.size A2 32 (cb (List.replicate 32 255)) ∧ Rd w1 wr.heap.size A3 32 (cb (List.range 32)) ∧ Below wr.heap.size wr w1) := ⟨HR.out.1.below b1, HR.out.2.1.below b1, HR.out.2.2.1.below b1, b1⟩
      clear hb1 b1
      go_wp2_with fail
      refine (sum_any w1 A1 32 c1 wr.heap.size (List.replicate 32 0) H1.out.1 H1.out.2.2.2.size (by decide) (by omega)).mono ?_
      rw [k2]
      rintro e w2 ⟨rfl, hb2⟩
      have H2 : Hd (Rd w2 wr.heap.size A2 32 (cb (List.replicate 32 255)) ∧ Rd w2 wr.heap.size A3 32 (cb (List.range 32)) ∧ Below wr.heap.size wr w2) :=
        have b := hb2.mono H1.out.2.2.2.size; ⟨H1.out.2.1.below b, H1.out.2.2.1.below b, H1.out.2.2.2.trans b⟩
      clear hb2
      go_wp2_with fail
      refine (sum_any w2 A2 32 c2 wr.heap.size (List.replicate 32 255) H2.out.1 H2.out.2.2.size (by decide) (by omega)).mono ?_
      rw [k3]
      rintro e w3 ⟨rfl, hb3⟩
      have H3 : Hd (Rd w3 wr.heap.size A3 32 (cb (List.range 32)) ∧ Below wr.heap.size wr w3) :=
        have b := hb3.mono H2.out.2.2.size; ⟨H2.out.2.1.below b, H2.out.2.2.trans b⟩
      clear hb3
      go_wp2_with fail
      refine (sum_any w3 A3 32 c3 wr.heap.size (List.range 32) H3.out.1 H3.out.2.size (by decide) (by omega)).mono ?_
      rw [k4]
      rintro e w4 ⟨rfl, hb4⟩
      have H4 : Hd (Below wr.heap.size wr w4) := ⟨H3.out.2.trans (hb4.mono H3.out.2.size)⟩
      clear hb4
      go_wp2_with fail
      go_ret
      exact ⟨rfl, HR.out.2.2.2.trans (H4.out.mono HR.out.2.2.2.size)⟩
end Go.Proofs.Ytofblciodgibdaa
