
/- Contracts of cairnref06.More, cairnref06.Sum, cairnref06.Blind: they are what the program's are. -/
import Derived.Test.YtbcmjjcbjojakaaGoneB
import Derived.Test.YtbcmjjcbjojakaaGoneLaw
namespace Go.Proofs.Ytbcmjjcbjojakaa
open Go.RowKit
set_option linter.unusedVariables false
theorem not_u32' (R : Int) (h1 : 0 ≤ R) (h2 : R ≤ 4294967295) : bits .xor .u32 R 4294967295 = 4294967295 - R := by
  rw [← not_u32 R h1 h2]
  obtain ⟨r, rfl⟩ := Int.eq_ofNat_of_zero_le h1
  have e1 := u32_xor_nat r 4294967295 (by omega) (by omega)
  have e2 := u32_xor_nat 4294967295 r (by omega) (by omega)
  rw [show ((4294967295 : Nat) : Int) = 4294967295 from rfl] at e1 e2
  rw [e1, e2, Nat.xor_comm]
theorem max_not (N R : Int) (h : 4294967295 - R = N) (h1 : 0 ≤ R) (h2 : R ≤ 4294967295) : N.toNat = 4294967295 - R.toNat := by omega
section
variable (w : World) (A : Option Addr) (n c B : Nat) (l : List Nat)
set_option maxHeartbeats 400000 in
theorem refMore_any (R : Int) (h1 : 0 ≤ R) (h2 : R ≤ 4294967295) (hr : Rd w B A n (cb l)) (hB : B ≤ w.heap.size) (hl : ∀ x ∈ l, x < 256) (hn : n ≤ 2097152) :
    Calls Try.prog 83 #[.int .u32 R, .slice A n c] w fun e w' => e = .returned (.int .u32 ((Crc.more R.toNat l : Nat) : Int)) ∧ Below w.heap.size w w' := by
  have HH : Hd (Rd w B A n (cb l) ∧ B ≤ w.heap.size ∧ (∀ x ∈ l, x < 256) ∧ n ≤ 2097152) := ⟨hr, hB, hl, hn⟩
  clear hr hB hl hn
  have e1 := not_u32' R h1 h2
  obtain ⟨N, hN⟩ : ∃ N : Int, 4294967295 - R = N := ⟨_, rfl⟩
  rw [hN] at e1
  have n1 : 0 ≤ N := by omega
  have n2 : N ≤ 4294967295 := by omega
  have HN : Hd _ := ⟨hN⟩
  clear hN
  have hv := Crc.ov_lt l N.toNat (by omega) HH.out.2.2.1
  have e2 := not_u32' ((Crc.gn N.toNat l : Nat) : Int) (by omega) (by rw [Crc.gn_ov _ _ (by omega) HH.out.2.2.1]; omega)
  rw [Crc.gn_ov _ _ (by omega) HH.out.2.2.1] at e2
  have HV : Hd _ := ⟨hv⟩
  clear hv
  go_enter Try.func83, Try.ntmps83
  go_wp2_with fail
  refine (gone_any w A n c B l N n1 n2 HH.out.1 HH.out.2.1 HH.out.2.2.1 HH.out.2.2.2).mono ?_
  rw [Crc.gn_ov _ _ (by omega) HH.out.2.2.1]
  rintro e w1 ⟨rfl, hb1⟩
  go_wp2_with fail
  go_ret
  have hx := Crc.more_int R.toNat N.toNat l (max_not N R HN.out h1 h2) HV.out
  refine ⟨?_, hb1⟩
  show Ending.returned (.int .u32 (4294967295 - ((Crc.ov N.toNat l : Nat) : Int))) = _
  rw [hx]
set_option maxHeartbeats 400000 in
theorem refSum_any (hr : Rd w B A n (cb l)) (hB : B ≤ w.heap.size) (hl : ∀ x ∈ l, x < 256) (hn : n ≤ 2097152) :
    Calls Try.prog 82 #[.slice A n c] w fun e w' => e = .returned (.int .u32 ((Crc.more 0 l : Nat) : Int)) ∧ Below w.heap.size w w' := by
  have HH : Hd (Rd w B A n (cb l) ∧ B ≤ w.heap.size ∧ (∀ x ∈ l, x < 256) ∧ n ≤ 2097152) := ⟨hr, hB, hl, hn⟩
  clear hr hB hl hn
  have hv := Crc.ov_lt l 4294967295 (by omega) HH.out.2.2.1
  have e2 := not_u32' ((Crc.ov 4294967295 l : Nat) : Int) (by omega) (by omega)
  have HV : Hd _ := ⟨hv⟩
  clear hv
  go_enter Try.func82, Try.ntmps82
  go_wp2_with fail
  refine (gone_any w A n c B l 4294967295 (by omega) (by omega) HH.out.1 HH.out.2.1 HH.out.2.2.1 HH.out.2.2.2).mono ?_
  rw [show (4294967295 : Int).toNat = 4294967295 from rfl, Crc.gn_ov _ _ (by omega) HH.out.2.2.1]
  rintro e w1 ⟨rfl, hb1⟩
  go_wp2_with fail
  go_ret
  have hx := Crc.more_int 0 4294967295 l rfl HV.out
  refine ⟨?_, hb1⟩
  show Ending.returned (.int .u32 (4294967295 - ((Crc.ov 4294967295 l : Nat) : Int))) = _
  rw [hx]
end
end Go.Proofs.Ytbcmjjcbjojakaa
