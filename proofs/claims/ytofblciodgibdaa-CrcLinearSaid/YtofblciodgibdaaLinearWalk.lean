/- The walk of CrcLinear. -/
import Derived.Test.YtofblciodgibdaaKnown
import Derived.Test.YtofblciodgibdaaBoth
import Derived.Test.YtofblciodgibdaaArgs
import Derived.WalkLawsBesides
namespace Go.Proofs.Ytofblciodgibdaa
open Go.RowKit
set_option linter.unusedVariables false
set_option maxHeartbeats 1000000 in
theorem linear_walk (a0 : Option Addr) (len0 cap0 : Nat) (z0 : List Int) (a1 : Option Addr) (len1 cap1 : Nat) (z1 : List Int) (a2 : Option Addr) (len2 cap2 : Nat) (z2 : List Int) (w : World)
    (i0 : IsRow .u8 w a0 len0 cap0 z0) (b0 : cap0 * 1 ≤ 140737488351232) (i1 : IsRow .u8 w a1 len1 cap1 z1) (b1 : cap1 * 1 ≤ 140737488351232) (i2 : IsRow .u8 w a2 len2 cap2 z2) (b2 : cap2 * 1 ≤ 140737488351232) :
    Calls Try.prog 6 #[.slice a0 len0 cap0, .slice a1 len1 cap1, .slice a2 len2 cap2] w fun e w' => e = .returned (.bool true) ∧ Below w.heap.size w w' := by
  obtain ⟨n, hn⟩ : ∃ n, n = min len0 (min len1 len2) := ⟨_, rfl⟩
  have hmin : ∀ (ts : Array TypeId) (t : TypeId) (w : World), (Builtin.min_ ts t #[.int .i64 (len0 : Int), .int .i64 (len1 : Int), .int .i64 (len2 : Int)]).run Try.prog w = .ok (.int .i64 (n : Int)) w := by
    intro ts t w
    rw [run_min_int3]
    congr 2
    split <;> split at * <;> omega
  have n0 : n ≤ len0 := by omega
  have n1 : n ≤ len1 := by omega
  have n2 : n ≤ len2 := by omega
  clear hn
  have c0 := i0.len_le
  have c1 := i1.len_le
  have c2 := i2.len_le
  have s0 := fun w => run_cut_to (P := Try.prog) (w := w) elB a0 len0 cap0 n (by omega)
  have s1 := fun w => run_cut_to (P := Try.prog) (w := w) elB a1 len1 cap1 n (by omega)
  have s2 := fun w => run_cut_to (P := Try.prog) (w := w) elB a2 len2 cap2 n (by omega)
  obtain ⟨l0, r0, h0, e0, _⟩ := i0.bytes
  obtain ⟨l1, r1, h1, e1, _⟩ := i1.bytes
  obtain ⟨l2, r2, h2, e2, _⟩ := i2.bytes
  have t0 := r0.take (h := n) (by omega)
  have t1 := r1.take (h := n) (by omega)
  have t2 := r2.take (h := n) (by omega)
  rw [cb, ← List.map_take] at t0 t1 t2
  have k0 : (l0.take n).length = n := by rw [List.length_take]; omega
  have k1 : (l1.take n).length = n := by rw [List.length_take]; omega
  have k2 : (l2.take n).length = n := by rw [List.length_take]; omega
  replace h0 : ∀ x ∈ l0.take n, x < 256 := fun x hx => h0 x (List.mem_of_mem_take hx)
  replace h1 : ∀ x ∈ l1.take n, x < 256 := fun x hx => h1 x (List.mem_of_mem_take hx)
  replace h2 : ∀ x ∈ l2.take n, x < 256 := fun x hx => h2 x (List.mem_of_mem_take hx)
  generalize l0.take n = a at *
  generalize l1.take n = b at *
  generalize l2.take n = c at *
  have hnn : n ≤ 140737488355328 := by omega
  have m0 := Crc.more_lt 0 a
  have m1 := Crc.more_lt 0 b
  have m2 := Crc.more_lt 0 c
  have x1 := u32_xor_nat (Crc.more 0 a) (Crc.more 0 b) (by omega) (by omega)
  have x2 := u32_xor_nat (Crc.more 0 a ^^^ Crc.more 0 b) (Crc.more 0 c) (Nat.xor_lt_two_pow (n := 32) m0 m1) (by omega)
  rw [← Crc.more_xl3 a b c (by omega) (by omega) h0 h1 h2] at x2
  have q1 := Crc.blind_iff a b (by omega) h0 h1
  have q2 := Crc.blind_iff b c (by omega) h1 h2
  have q3 := Crc.blind_iff a a rfl h0 h0
  obtain ⟨SA, hSA⟩ : ∃ S : Int, ((Crc.more 0 a : Nat) : Int) = S := ⟨_, rfl⟩
  obtain ⟨SB, hSB⟩ : ∃ S : Int, ((Crc.more 0 b : Nat) : Int) = S := ⟨_, rfl⟩
  obtain ⟨SC, hSC⟩ : ∃ S : Int, ((Crc.more 0 c : Nat) : Int) = S := ⟨_, rfl⟩
  obtain ⟨ST, hST⟩ : ∃ S : Int, ((Crc.more 0 (Crc.xl (Crc.xl a b) c) : Nat) : Int) = S := ⟨_, rfl⟩
  have d1 : decide (Crc.ov 0 (Crc.xl a b) = 0) = (SA == SB) := by
    rw [Bool.eq_iff_iff, decide_eq_true_iff, q1, beq_iff_eq, ← hSA, ← hSB]; omega
  have d2 : decide (Crc.ov 0 (Crc.xl b c) = 0) = (SB == SC) := by
    rw [Bool.eq_iff_iff, decide_eq_true_iff, q2, beq_iff_eq, ← hSB, ← hSC]; omega
  have d3 : decide (Crc.ov 0 (Crc.xl a a) = 0) = true := by rw [decide_eq_true_iff, q3]
  rw [hSA, hSB] at x1
  rw [hSC, hST] at x2
  have X : Hd (((Crc.more 0 a : Nat) : Int) = SA ∧ ((Crc.more 0 b : Nat) : Int) = SB ∧ ((Crc.more 0 c : Nat) : Int) = SC ∧ ((Crc.more 0 (Crc.xl (Crc.xl a b) c) : Nat) : Int) = ST ∧ decide (Crc.ov 0 (Crc.xl a b) = 0) = (SA == SB) ∧ decide (Crc.ov 0 (Crc.xl b c) = 0) = (SB == SC) ∧ decide (Crc.ov 0 (Crc.xl a a) = 0) = true) := ⟨hSA, hSB, hSC, hST, d1, d2, d3⟩
  have XL : Hd ((∀ x ∈ a, x < 256) ∧ (∀ x ∈ b, x < 256) ∧ (∀ x ∈ c, x < 256)) := ⟨h0, h1, h2⟩
  obtain ⟨SAB, hSAB⟩ : ∃ S : Int, ((Crc.more 0 a ^^^ Crc.more 0 b : Nat) : Int) = S := ⟨_, rfl⟩
  rw [hSAB] at x1 x2
  have S0 : Hd (RS w w [(a0, n, a), (a1, n, b), (a2, n, c)]) := ⟨RS.start (by rintro x hx; simp only [List.mem_cons, List.not_mem_nil, or_false] at hx; rcases hx with rfl | rfl | rfl <;> assumption)⟩
  clear hSAB hSA hSB hSC hST d1 d2 d3 q1 q2 q3 m0 m1 m2 h0 h1 h2 t0 t1 t2 k0 k1 k2 e0 e1 e2 r0 r1 r2 i0 i1 i2 b0 b1 b2
  go_enter Try.func6, Try.ntmps6
  go_wp2_with fail
  refine (twin_rd w a0 n cap0 w.heap.size a (S0.out.get (A := a0) (n := n) (bs := a) (by simp)) (Nat.le_refl _) (by omega)).mono ?_
  rintro e w1 ⟨A, ca, rfl, hr, hb⟩
  have S1 := Hd.mk (S0.out.push hb hr)
  clear hr hb S0
  go_wp2_with fail
  refine (twin_rd w1 a1 n cap1 w1.heap.size b (S1.out.get (A := a1) (n := n) (bs := b) (by simp)) (Nat.le_refl _) (by omega)).mono ?_
  rintro e w2 ⟨B, cb1, rfl, hr, hb⟩
  have S2 := Hd.mk (S1.out.push hb hr)
  clear hr hb S1
  go_wp2_with fail
  refine (twin_rd w2 a2 n cap2 w2.heap.size c (S2.out.get (A := a2) (n := n) (bs := c) (by simp)) (Nat.le_refl _) (by omega)).mono ?_
  rintro e w3 ⟨C, cc, rfl, hr, hb⟩
  have S3 := Hd.mk (S2.out.push hb hr)
  clear hr hb S2
  go_wp2_with fail
  refine (sum_any w3 A n ca w3.heap.size a (S3.out.get (A := A) (n := n) (bs := a) (by simp)) (Nat.le_refl _) XL.out.1 (by omega)).mono ?_
  rw [X.out.1]
  rintro e w4 ⟨rfl, hb⟩
  have S4 := Hd.mk (S3.out.step hb)
  clear hb S3
  go_wp2_with fail
  refine (sum_any w4 B n cb1 w4.heap.size b (S4.out.get (A := B) (n := n) (bs := b) (by simp)) (Nat.le_refl _) XL.out.2.1 (by omega)).mono ?_
  rw [X.out.2.1]
  rintro e w5 ⟨rfl, hb⟩
  have S5 := Hd.mk (S4.out.step hb)
  clear hb S4
  go_wp2_with fail
  refine (sum_any w5 C n cc w5.heap.size c (S5.out.get (A := C) (n := n) (bs := c) (by simp)) (Nat.le_refl _) XL.out.2.2 (by omega)).mono ?_
  rw [X.out.2.2.1]
  rintro e w6 ⟨rfl, hb⟩
  have S6 := Hd.mk (S5.out.step hb)
  clear hb S5
  go_wp2_with fail
  refine (known_any w6).mono ?_
  rintro e w7 ⟨rfl, hb⟩
  have S7 := Hd.mk (S6.out.step hb)
  clear hb S6
  go_wp2_with fail
  refine (both_rd w7 A B n ca n cb1 w7.heap.size a b (S7.out.get (A := A) (n := n) (bs := a) (by simp)) (S7.out.get (A := B) (n := n) (bs := b) (by simp)) (Nat.le_refl _) XL.out.1 XL.out.2.1 (by omega) (by omega)).mono ?_
  rw [Nat.min_self]
  rintro e w8 ⟨D, cd, rfl, hr, hb⟩
  have S8 := Hd.mk (S7.out.push hb hr)
  clear hr hb S7
  go_wp2_with fail
  refine (both_rd w8 D C n cd n cc w8.heap.size (Crc.xl a b) c (S8.out.get (A := D) (n := n) (bs := (Crc.xl a b)) (by simp)) (S8.out.get (A := C) (n := n) (bs := c) (by simp)) (Nat.le_refl _) (Crc.xl_lt a b XL.out.1 XL.out.2.1) XL.out.2.2 (by omega) (by omega)).mono ?_
  rw [Nat.min_self]
  rintro e w9 ⟨E, ce, rfl, hr, hb⟩
  have S9 := Hd.mk (S8.out.push hb hr)
  clear hr hb S8
  go_wp2_with fail
  refine (sum_any w9 E n ce w9.heap.size (Crc.xl (Crc.xl a b) c) (S9.out.get (A := E) (n := n) (bs := (Crc.xl (Crc.xl a b) c)) (by simp)) (Nat.le_refl _) (Crc.xl_lt _ _ (Crc.xl_lt a b XL.out.1 XL.out.2.1) XL.out.2.2) (by omega)).mono ?_
  rw [X.out.2.2.2.1]
  rintro e w10 ⟨rfl, hb⟩
  have S10 := Hd.mk (S9.out.step hb)
  clear hb S9
  go_wp2_with fail
  refine (sum_any w10 A n ca w10.heap.size a (S10.out.get (A := A) (n := n) (bs := a) (by simp)) (Nat.le_refl _) XL.out.1 (by omega)).mono ?_
  rw [X.out.1]
  rintro e w11 ⟨rfl, hb⟩
  have S11 := Hd.mk (S10.out.step hb)
  clear hb S10
  go_wp2_with fail
  refine (sum_any w11 B n cb1 w11.heap.size b (S11.out.get (A := B) (n := n) (bs := b) (by simp)) (Nat.le_refl _) XL.out.2.1 (by omega)).mono ?_
  rw [X.out.2.1]
  rintro e w12 ⟨rfl, hb⟩
  have S12 := Hd.mk (S11.out.step hb)
  clear hb S11
  go_wp2_with fail
  refine (both_rd w12 A B n ca n cb1 w12.heap.size a b (S12.out.get (A := A) (n := n) (bs := a) (by simp)) (S12.out.get (A := B) (n := n) (bs := b) (by simp)) (Nat.le_refl _) XL.out.1 XL.out.2.1 (by omega) (by omega)).mono ?_
  rw [Nat.min_self]
  rintro e w13 ⟨F, cf, rfl, hr, hb⟩
  have S13 := Hd.mk (S12.out.push hb hr)
  clear hr hb S12
  go_wp2_with fail
  refine (blind_any w13 F n cf w13.heap.size (Crc.xl a b) (S13.out.get (A := F) (n := n) (bs := (Crc.xl a b)) (by simp)) (Nat.le_refl _) (Crc.xl_lt a b XL.out.1 XL.out.2.1) (by omega)).mono ?_
  rw [X.out.2.2.2.2.1]
  rintro e w14 ⟨rfl, hb⟩
  have S14 := Hd.mk (S13.out.step hb)
  clear hb S13
  have q1 : ((SA == SB) == (SA == SB)) = true := by simp
  go_wp2_with fail
  refine (sum_any w14 B n cb1 w14.heap.size b (S14.out.get (A := B) (n := n) (bs := b) (by simp)) (Nat.le_refl _) XL.out.2.1 (by omega)).mono ?_
  rw [X.out.2.1]
  rintro e w15 ⟨rfl, hb⟩
  have S15 := Hd.mk (S14.out.step hb)
  clear hb S14
  go_wp2_with fail
  refine (sum_any w15 C n cc w15.heap.size c (S15.out.get (A := C) (n := n) (bs := c) (by simp)) (Nat.le_refl _) XL.out.2.2 (by omega)).mono ?_
  rw [X.out.2.2.1]
  rintro e w16 ⟨rfl, hb⟩
  have S16 := Hd.mk (S15.out.step hb)
  clear hb S15
  go_wp2_with fail
  refine (both_rd w16 B C n cb1 n cc w16.heap.size b c (S16.out.get (A := B) (n := n) (bs := b) (by simp)) (S16.out.get (A := C) (n := n) (bs := c) (by simp)) (Nat.le_refl _) XL.out.2.1 XL.out.2.2 (by omega) (by omega)).mono ?_
  rw [Nat.min_self]
  rintro e w17 ⟨G, cg, rfl, hr, hb⟩
  have S17 := Hd.mk (S16.out.push hb hr)
  clear hr hb S16
  go_wp2_with fail
  refine (blind_any w17 G n cg w17.heap.size (Crc.xl b c) (S17.out.get (A := G) (n := n) (bs := (Crc.xl b c)) (by simp)) (Nat.le_refl _) (Crc.xl_lt b c XL.out.2.1 XL.out.2.2) (by omega)).mono ?_
  rw [X.out.2.2.2.2.2.1]
  rintro e w18 ⟨rfl, hb⟩
  have S18 := Hd.mk (S17.out.step hb)
  clear hb S17
  have q2 : ((SB == SC) == (SB == SC)) = true := by simp
  go_wp2_with fail
  refine (both_rd w18 A A n ca n ca w18.heap.size a a (S18.out.get (A := A) (n := n) (bs := a) (by simp)) (S18.out.get (A := A) (n := n) (bs := a) (by simp)) (Nat.le_refl _) XL.out.1 XL.out.1 (by omega) (by omega)).mono ?_
  rw [Nat.min_self]
  rintro e w19 ⟨I, cI, rfl, hr, hb⟩
  have S19 := Hd.mk (S18.out.push hb hr)
  clear hr hb S18
  go_wp2_with fail
  refine (blind_any w19 I n cI w19.heap.size (Crc.xl a a) (S19.out.get (A := I) (n := n) (bs := (Crc.xl a a)) (by simp)) (Nat.le_refl _) (Crc.xl_lt a a XL.out.1 XL.out.1) (by omega)).mono ?_
  rw [X.out.2.2.2.2.2.2]
  rintro e w20 ⟨rfl, hb⟩
  have S20 := Hd.mk (S19.out.step hb)
  clear hb S19
  go_wp2_with fail
  go_ret
  exact ⟨rfl, S20.out.bel⟩
end Go.Proofs.Ytofblciodgibdaa
