
/- Contracts of crc.More, crc.Sum, crc.Blind and of the laws' twin. -/
import Derived.Test.YtbcmjjcbjojakaaOver
namespace Go.Proofs.Ytbcmjjcbjojakaa
open Go.RowKit
set_option linter.unusedVariables false
theorem infoB : (Try.prog.info? 5).map (fun i => (i.zero, i.size, i.bytes)) = some (some (.int .u8 0), 1, 1) := by kernel_rfl
theorem elB : El Try.prog 26 5 1 (.int .u8 0) := ⟨Try.underlying26, info_parts infoB, rfl⟩
theorem not_u32 (R : Int) (h1 : 0 ≤ R) (h2 : R ≤ 4294967295) : bits .xor .u32 4294967295 R = 4294967295 - R := by
  obtain ⟨r, rfl⟩ := Int.eq_ofNat_of_zero_le h1
  have h := u32_xor_nat 4294967295 r (by omega) (by omega)
  rw [show ((4294967295 : Nat) : Int) = 4294967295 from rfl] at h
  rw [h]
  have e : 4294967295 ^^^ r = 4294967295 - r := by
    apply Nat.eq_of_testBit_eq; intro i
    have := Nat.testBit_two_pow_sub_succ (n := 32) (x := r) (by omega) i
    rw [Nat.testBit_xor, show 4294967295 - r = 2 ^ 32 - (r + 1) by omega, this, show 4294967295 = 2 ^ 32 - 1 from rfl, Nat.testBit_two_pow_sub_one]
    by_cases hi : i < 32
    · simp [hi]
    · have : r.testBit i = false := Nat.testBit_lt_two_pow (Nat.lt_of_lt_of_le (by omega : r < 2 ^ 32) (Nat.pow_le_pow_right (by omega) (by omega)))
      simp [hi, this]
  rw [e]; omega
theorem max_u32 : IntKind.u32.max = 4294967295 := rfl
section
variable (w : World) (A : Option Addr) (n c B : Nat) (l : List Nat)
set_option maxHeartbeats 400000 in
theorem more_any (R : Int) (h1 : 0 ≤ R) (h2 : R ≤ 4294967295) (hr : Rd w B A n (cb l)) (hB : B ≤ w.heap.size) (hl : ∀ x ∈ l, x < 256) (hn : n ≤ 140737488355328) :
    Calls Try.prog 108 #[.int .u32 R, .slice A n c] w fun e w' => e = .returned (.int .u32 ((Crc.more R.toNat l : Nat) : Int)) ∧ Below w.heap.size w w' := by
  have HH : Hid (Rd w B A n (cb l) ∧ B ≤ w.heap.size ∧ (∀ x ∈ l, x < 256) ∧ n ≤ 140737488355328) := ⟨hr, hB, hl, hn⟩
  clear hr hB hl hn
  have e1 : bits .xor .u32 IntKind.u32.max R = 4294967295 - R := by rw [max_u32]; exact not_u32 R h1 h2
  obtain ⟨N, hN⟩ : ∃ N : Int, 4294967295 - R = N := ⟨_, rfl⟩
  rw [hN] at e1
  have n1 : 0 ≤ N := by omega
  have n2 : N ≤ 4294967295 := by omega
  have HN := hid hN
  clear hN
  have hv := Crc.ov_lt l N.toNat (by omega) HH.out.2.2.1
  have e2 : bits .xor .u32 IntKind.u32.max ((Crc.ov N.toNat l : Nat) : Int) = 4294967295 - ((Crc.ov N.toNat l : Nat) : Int) := by rw [max_u32]; exact not_u32 _ (by omega) (by omega)
  have HV := hid hv
  clear hv
  go_enter Try.func108, Try.ntmps108
  go_wp2_with fail
  refine (over_any w N n1 n2 A n c B l HH.out.1 HH.out.2.1 HH.out.2.2.1 HH.out.2.2.2).mono ?_
  rintro e w1 ⟨rfl, hb1⟩
  go_wp2_with fail
  go_ret
  have hx := Crc.more_int R.toNat N.toNat l (by have := HN.out; omega) HV.out
  refine ⟨?_, hb1⟩
  show Ending.returned (.int .u32 (4294967295 - ((Crc.ov N.toNat l : Nat) : Int))) = _
  rw [hx]
set_option maxHeartbeats 400000 in
theorem sum_any (hr : Rd w B A n (cb l)) (hB : B ≤ w.heap.size) (hl : ∀ x ∈ l, x < 256) (hn : n ≤ 140737488355328) :
    Calls Try.prog 93 #[.slice A n c] w fun e w' => e = .returned (.int .u32 ((Crc.more 0 l : Nat) : Int)) ∧ Below w.heap.size w w' := by
  have HH : Hid (Rd w B A n (cb l) ∧ B ≤ w.heap.size ∧ (∀ x ∈ l, x < 256) ∧ n ≤ 140737488355328) := ⟨hr, hB, hl, hn⟩
  clear hr hB hl hn
  go_enter Try.func93, Try.ntmps93
  go_wp2_with fail
  refine (more_any w A n c B l 0 (by omega) (by omega) HH.out.1 HH.out.2.1 HH.out.2.2.1 HH.out.2.2.2).mono ?_
  rintro e w1 ⟨rfl, hb1⟩
  go_wp2_with fail
  go_ret
  exact ⟨rfl, hb1⟩
end
end Go.Proofs.Ytbcmjjcbjojakaa
