/- The walk of CrcKnown. -/
import Derived.Test.YtofblciodgibdaaKnown
import Derived.Test.YtofblciodgibdaaKeptWalk
import Derived.Test.YtofblciodgibdaaZerosWalk
import Derived.Lib.SlBytesConst
namespace Go.Proofs.Ytofblciodgibdaa
open Go.RowKit
set_option linter.unusedVariables false
set_option maxRecDepth 100000 in
set_option maxHeartbeats 2000000 in
theorem known_walk (w : World) : Calls Try.prog 15 #[] w fun e w' => e = .returned (.bool true) ∧ Below w.heap.size w w' := by
  have kc := fun (w : World) (C : Array Value) (n c : Nat) => Lib.run_convert_bytes_const (P := Try.prog) w 23 5 C n c Try.underlying23 Try.underlying5
  have kc0 := fun (C : Array Value) (n c : Nat) => kc (w.alloc (.cells #[.int .u32 0, .int .u64 0] 43)) C n c
  simp only [World.size_alloc] at kc0
  go_enter Try.func15, Try.ntmps15
  go_wp2_with fail
  have hrd := rd_litF (w := w.alloc (.cells #[.int .u32 0, .int .u64 0] 43)) (e := 5) (cb [49, 50]) (2, 3)
  rw [show (w.alloc (.cells #[.int .u32 0, .int .u64 0] 43)).heap.size = w.heap.size + 1 by simp] at hrd
  refine (write_any _ w.heap.size 0 43 0 0 #[.int .u32 0, .int .u64 0] (some ⟨w.heap.size + 1, 0, none⟩) 2 2 (w.heap.size + 1 + 1) [49, 50] ⟨(Below.heap_alloc _ _ _ (by simp)).trans (heap_alloc_new w _), rfl, rfl, by omega, by omega⟩ hrd (by simp) (by decide) (by omega)).mono ?_
  rw [show Crc.more 0 [49, 50] = 1935000672 by decide +kernel, show (0 + 2) % 18446744073709551616 = 2 from rfl]
  rintro e w1 ⟨rfl, hs, hg⟩
  obtain ⟨gs, hgs⟩ : ∃ gs, w.heap.size = gs := ⟨_, rfl⟩
  have HG : Hd (w.heap.size ≤ gs) := ⟨by omega⟩
  have hbel : Below w.heap.size w w1 := (((Below.refl _ w).alloc (Nat.le_refl _) _).alloc (by simp) _).grown hg (by simp; omega) (fun g e => by injection e with e; omega)
  rw [hgs] at hs hg ⊢
  have S1 : Hd (SS w w1 gs [] 1935000672 2) := ⟨⟨fun x hx => (by cases hx), ⟨_, hs⟩, hbel⟩⟩
  clear hs hg hgs hbel hrd
  go_wp2_with fail
  obtain ⟨ys, hys⟩ := S1.out.st
  refine (write_any _ gs 0 43 1935000672 2 ys (some ⟨w1.heap.size, 0, none⟩) 7 7 (w1.heap.size + 1) [51, 52, 53, 54, 55, 56, 57] (hys.below ((Below.refl _ w1).alloc (Nat.le_refl _) _) S1.out.lt) (rd_litF (cb [51, 52, 53, 54, 55, 56, 57]) (7, 8)) (by simp) (by decide) (by omega)).mono ?_
  rw [show Crc.more 1935000672 [51, 52, 53, 54, 55, 56, 57] = 3808858755 by decide +kernel, show (2 + 7) % 18446744073709551616 = 9 from rfl]
  rintro e w2 ⟨rfl, hs, hg⟩
  have S2 := Hd.mk ((S1.out.step ((Below.refl _ w1).alloc (Nat.le_refl _) _)).turn (t := 0) hg hs HG.out)
  clear hs hg hys S1
  go_wp2_with fail
  obtain ⟨ys, hys⟩ := S2.out.st
  refine (ssum_any w2 gs 0 43 3808858755 9 ys hys).mono ?_
  rintro e z10 ⟨rfl, rfl⟩
  clear hys
  go_wp2_with fail
  obtain ⟨ys, hys⟩ := S2.out.st
  refine (slen_any w2 gs 0 43 3808858755 9 ys hys).mono ?_
  rintro e z15 ⟨rfl, rfl⟩
  clear hys
  go_wp2_with fail
  obtain ⟨ys, hys⟩ := S2.out.st
  refine (sreset_any w2 gs 0 43 3808858755 9 ys hys).mono ?_
  rintro e w3 ⟨rfl, hs, hg⟩
  have S3 := Hd.mk (S2.out.turn (t := 0) hg hs HG.out)
  clear hs hg hys S2
  go_wp2_with fail
  obtain ⟨ys, hys⟩ := S3.out.st
  refine (ssum_any w3 gs 0 43 0 0 ys hys).mono ?_
  rintro e z26 ⟨rfl, rfl⟩
  clear hys
  go_wp2_with fail
  obtain ⟨ys, hys⟩ := S3.out.st
  refine (slen_any w3 gs 0 43 0 0 ys hys).mono ?_
  rintro e z31 ⟨rfl, rfl⟩
  clear hys
  go_wp2_with fail
  refine (sum_any _ (some ⟨w3.heap.size, 0, none⟩) 4 4 (w3.heap.size + 1) [49, 50, 51, 52] (rd_litF (cb [49, 50, 51, 52]) (4, 5)) (by simp) (by decide) (by omega)).mono ?_
  rw [show Crc.more 0 [49, 50, 51, 52] = 4131058926 by decide +kernel]
  rintro e w4 ⟨rfl, hb⟩
  have S4 := Hd.mk ((S3.out.step ((Below.refl _ w3).alloc (Nat.le_refl _) _)).step hb)
  clear hb S3
  go_wp2_with fail
  refine (sum_any _ (some ⟨w4.heap.size, 0, none⟩) 5 5 (w4.heap.size + 1) [53, 54, 55, 56, 57] (rd_litF (cb [53, 54, 55, 56, 57]) (5, 6)) (by simp) (by decide) (by omega)).mono ?_
  rw [show Crc.more 0 [53, 54, 55, 56, 57] = 2209703384 by decide +kernel]
  rintro e w5 ⟨rfl, hb⟩
  have S5 := Hd.mk ((S4.out.step ((Below.refl _ w4).alloc (Nat.le_refl _) _)).step hb)
  clear hb S4
  go_wp2_with fail
  refine (join_int w5 4131058926 2209703384 (5) 3808858755 (by omega) (by omega) (by omega) (by omega) (by omega) (by omega) (by decide +kernel)).mono ?_
  rintro e w6 ⟨rfl, hb⟩
  have S6 := Hd.mk (S5.out.step hb)
  clear hb S5
  go_wp2_with fail
  refine (more_any _ (some ⟨w6.heap.size, 0, none⟩) 5 5 (w6.heap.size + 1) [53, 54, 55, 56, 57] 4131058926 (by omega) (by omega) (rd_litF (cb [53, 54, 55, 56, 57]) (5, 6)) (by simp) (by decide) (by omega)).mono ?_
  rw [show Crc.more (4131058926 : Int).toNat [53, 54, 55, 56, 57] = 3808858755 by decide +kernel]
  rintro e w7 ⟨rfl, hb⟩
  have S7 := Hd.mk ((S6.out.step ((Below.refl _ w6).alloc (Nat.le_refl _) _)).step hb)
  clear hb S6
  go_wp2_with fail
  refine (join_int w7 7 9 (0) 14 (by omega) (by omega) (by omega) (by omega) (by omega) (by omega) (by decide +kernel)).mono ?_
  rintro e w8 ⟨rfl, hb⟩
  have S8 := Hd.mk (S7.out.step hb)
  clear hb S7
  go_wp2_with fail
  refine (join_int w8 7 9 (-3) 14 (by omega) (by omega) (by omega) (by omega) (by omega) (by omega) (by decide +kernel)).mono ?_
  rintro e w9 ⟨rfl, hb⟩
  have S9 := Hd.mk (S8.out.step hb)
  clear hb S8
  go_wp2_with fail
  refine (join_int w9 0 5 (4611686018427387904) 5 (by omega) (by omega) (by omega) (by omega) (by omega) (by omega) (by rw [show (0 : Int).toNat = 0 from rfl, Crc.itT_zero]; rfl)).mono ?_
  rintro e w10 ⟨rfl, hb⟩
  have S10 := Hd.mk (S9.out.step hb)
  clear hb S9
  go_wp2_with fail
  refine (sum_any w10 none 0 0 0 [] (Rd.nil) (Nat.zero_le _) (by decide) (by omega)).mono ?_
  rw [show Crc.more 0 [] = 0 by decide +kernel]
  rintro e w11 ⟨rfl, hb⟩
  have S11 := Hd.mk (S10.out.step hb)
  clear hb S10
  go_wp2_with fail
  refine (more_any w11 none 0 0 0 [] 0 (by omega) (by omega) (Rd.nil) (Nat.zero_le _) (by decide) (by omega)).mono ?_
  rw [show Crc.more (0 : Int).toNat [] = 0 by decide +kernel]
  rintro e w12 ⟨rfl, hb⟩
  have S12 := Hd.mk (S11.out.step hb)
  clear hb S11
  go_wp2_with fail
  refine (more_any w12 none 0 0 0 [] 5 (by omega) (by omega) (Rd.nil) (Nat.zero_le _) (by decide) (by omega)).mono ?_
  rw [show Crc.more (5 : Int).toNat [] = 5 by decide +kernel]
  rintro e w13 ⟨rfl, hb⟩
  have S13 := Hd.mk (S12.out.step hb)
  clear hb S12
  go_wp2_with fail
  refine (blind_any w13 none 0 0 0 [] (Rd.nil) (Nat.zero_le _) (by decide) (by omega)).mono ?_
  rw [show decide (Crc.ov 0 [] = 0) = true by decide +kernel]
  rintro e w14 ⟨rfl, hb⟩
  have S14 := Hd.mk (S13.out.step hb)
  clear hb S13
  go_wp2_with fail
  refine (blind_any _ (some ⟨w14.heap.size, 0, none⟩) 3 3 (w14.heap.size + 1) [0, 0, 0] (rd_lit (cb [0, 0, 0])) (by simp) (by decide) (by omega)).mono ?_
  rw [show decide (Crc.ov 0 [0, 0, 0] = 0) = true by decide +kernel]
  rintro e w15 ⟨rfl, hb⟩
  have S15 := Hd.mk ((S14.out.step ((Below.refl _ w14).alloc (Nat.le_refl _) _)).step hb)
  clear hb S14
  go_wp2_with fail
  refine (blind_any _ (some ⟨w15.heap.size, 0, none⟩) 1 1 (w15.heap.size + 1) [1] (rd_lit (cb [1])) (by simp) (by decide) (by omega)).mono ?_
  rw [show decide (Crc.ov 0 [1] = 0) = false by decide +kernel]
  rintro e w16 ⟨rfl, hb⟩
  have S16 := Hd.mk ((S15.out.step ((Below.refl _ w15).alloc (Nat.le_refl _) _)).step hb)
  clear hb S15
  go_wp2_with fail
  refine (blind_any _ (some ⟨w16.heap.size, 0, none⟩) 2 2 (w16.heap.size + 1) [0, 128] (rd_lit (cb [0, 128])) (by simp) (by decide) (by omega)).mono ?_
  rw [show decide (Crc.ov 0 [0, 128] = 0) = false by decide +kernel]
  rintro e w17 ⟨rfl, hb⟩
  have S17 := Hd.mk ((S16.out.step ((Below.refl _ w16).alloc (Nat.le_refl _) _)).step hb)
  clear hb S16
  go_wp2_with fail
  refine (blind_any _ (some ⟨w17.heap.size, 0, none⟩) 5 5 (w17.heap.size + 1) [241, 118, 236, 5, 1] (rd_lit (cb [241, 118, 236, 5, 1])) (by simp) (by decide) (by omega)).mono ?_
  rw [show decide (Crc.ov 0 [241, 118, 236, 5, 1] = 0) = true by decide +kernel]
  rintro e w18 ⟨rfl, hb⟩
  have S18 := Hd.mk ((S17.out.step ((Below.refl _ w17).alloc (Nat.le_refl _) _)).step hb)
  clear hb S17
  go_wp2_with fail
  refine (known_any w18).mono ?_
  rintro e w19 ⟨rfl, hb⟩
  have S19 := Hd.mk (S18.out.step hb)
  clear hb S18
  go_wp2_with fail
  go_ret
  exact ⟨rfl, S19.out.bel⟩
end Go.Proofs.Ytofblciodgibdaa
