/- Put together of: Crc Halves Over Sums Stream Gone Bits GoneA Chg Rdr. -/
import Derived.Below
import Derived.Test.YtbcmjjcbjojakaaRows
import Derived.Test.YtbcmjjcbjojakaaPk1
import Derived.Outline
import Derived.WalkSpells
import Derived.WalkLawsBesides
import Derived.Handy
import Derived.BigQuiet
import Derived.Recover
import Derived.Defers
import Derived.Deep.QuietTactic
import Derived.WalkSmall
section
namespace Go.Proofs.Ytbcmjjcbjojakaa
namespace Crc
def M : Nat := 2197175160
/-- One step of the register. -/
def T (r : Nat) : Nat := if r % 2 = 1 then r / 2 ^^^ M else r / 2
def itT : Nat → Nat → Nat
 | 0, r => r
 | n + 1, r => itT n (T r)
/-- The register gone over bytes. -/
def ov (r : Nat) (l : List Nat) : Nat := l.foldl (fun r x => itT 8 (r ^^^ x)) r
theorem xor_half (a b : Nat) : (a ^^^ b) / 2 = a / 2 ^^^ b / 2 := by
 apply Nat.eq_of_testBit_eq; intro i
 simp [Nat.testBit_div_two, Nat.testBit_xor]
theorem xor_odd (a b : Nat) : (a ^^^ b) % 2 = (a % 2 + b % 2) % 2 := by
 have h := Nat.testBit_xor (x := a) (y := b) (i := 0)
 rw [Nat.testBit_zero, Nat.testBit_zero, Nat.testBit_zero] at h
 rcases Nat.mod_two_eq_zero_or_one a with ha | ha <;> rcases Nat.mod_two_eq_zero_or_one b with hb | hb <;> rcases Nat.mod_two_eq_zero_or_one (a ^^^ b) with hc | hc <;> rw [ha, hb, hc] at h <;> rw [ha, hb, hc] <;> simp at h
theorem T_xor (a b : Nat) : T (a ^^^ b) = T a ^^^ T b := by
 unfold T
 rw [xor_half, xor_odd]
 by_cases ha : a % 2 = 1 <;> by_cases hb : b % 2 = 1
 ·rw [if_neg (by omega), if_pos ha, if_pos hb]
  rw [Nat.xor_comm (b / 2) M, Nat.xor_assoc, ← Nat.xor_assoc M M, Nat.xor_self, Nat.zero_xor]
 ·rw [if_pos (by omega), if_pos ha, if_neg hb]
  rw [Nat.xor_assoc, Nat.xor_comm (b / 2) M, ← Nat.xor_assoc]
 ·rw [if_pos (by omega), if_neg ha, if_pos hb, Nat.xor_assoc]
 ·rw [if_neg (by omega), if_neg ha, if_neg hb]
theorem T_double (a : Nat) : T (2 * a) = a := by unfold T; rw [if_neg (by omega)]; omega
theorem itT_xor : ∀ (n a b : Nat), itT n (a ^^^ b) = itT n a ^^^ itT n b
 | 0, _, _ => rfl
 | n + 1, a, b => by simp only [itT]; rw [T_xor, itT_xor n]
theorem itT_shift : ∀ (n a : Nat), itT n (2 ^ n * a) = a
 | 0, a => by simp [itT]
 | n + 1, a => by
  simp only [itT]
  rw [show 2 ^ (n + 1) * a = 2 * (2 ^ n * a) by rw [Nat.pow_succ]; ac_rfl, T_double, itT_shift n]
theorem itT_add : ∀ (m n a : Nat), itT (m + n) a = itT n (itT m a)
 | 0, n, a => by simp [itT]
 | m + 1, n, a => by rw [show m + 1 + n = (m + n) + 1 by omega]; simp only [itT]; exact itT_add m n (T a)
theorem xor_split (n r : Nat) : r = 2 ^ n * (r / 2 ^ n) ^^^ r % 2 ^ n := by
 apply Nat.eq_of_testBit_eq; intro i
 rw [Nat.testBit_xor, Nat.testBit_two_pow_mul, Nat.testBit_mod_two_pow, Nat.testBit_div_two_pow]
 by_cases h : n ≤ i
 ·have h2 : ¬ i < n := by omega
  simp [h, h2, Nat.sub_add_cancel h]
 ·have h2 : i < n := by omega
  simp [h, h2]
theorem nib (r : Nat) : r / 16 ^^^ itT 4 (r % 16) = itT 4 r := by
 have h := xor_split 4 r
 have e : itT 4 r = itT 4 (2 ^ 4 * (r / 2 ^ 4) ^^^ r % 2 ^ 4) := by rw [← h]
 rw [e, itT_xor, itT_shift]
theorem two_nibs (r : Nat) : itT 4 (itT 4 r) = itT 8 r := (itT_add 4 4 r).symm
theorem M_lt : M < 2 ^ 32 := by decide
theorem T_lt (r : Nat) (h : r < 2 ^ 32) : T r < 2 ^ 32 := by
 unfold T; split
 ·exact Nat.xor_lt_two_pow (by omega) M_lt
 ·omega
theorem itT_lt : ∀ (n r : Nat), r < 2 ^ 32 → itT n r < 2 ^ 32
 | 0, _, h => h
 | n + 1, r, h => itT_lt n _ (T_lt r h)
theorem ov_lt : ∀ (l : List Nat) (r : Nat), r < 2 ^ 32 → (∀ x ∈ l, x < 256) → ov r l < 2 ^ 32
 | [], _, h, _ => h
 | x :: l, r, h, hl => by
  have hx : x < 256 := hl x (List.mem_cons_self ..)
  exact ov_lt l _ (itT_lt 8 _ (Nat.xor_lt_two_pow h (by omega))) (fun y hy => hl y (List.mem_cons_of_mem _ hy))
theorem ov_append (r : Nat) (a b : List Nat) : ov r (a ++ b) = ov (ov r a) b := List.foldl_append
theorem ov_cons (r x : Nat) (l : List Nat) : ov r (x :: l) = ov (itT 8 (r ^^^ x)) l := rfl
theorem ov_nil (r : Nat) : ov r [] = r := rfl
/-- The sum that goes on from another. -/
def more (s : Nat) (l : List Nat) : Nat := 4294967295 - ov (4294967295 - s) l
theorem more_int (r n : Nat) (l : List Nat) (h : n = 4294967295 - r) (hv : ov n l < 2 ^ 32) : (4294967295 : Int) - (ov n l : Nat) = ((more r l : Nat) : Int) := by
 subst h; unfold more; omega
theorem more_lt (r : Nat) (l : List Nat) : more r l < 2 ^ 32 := by unfold more; omega
end Crc
end Go.Proofs.Ytbcmjjcbjojakaa
end
section
namespace Go.Proofs.Ytbcmjjcbjojakaa
open Go.RowKit
set_option linter.unusedVariables false
theorem and1_u32 (R : Int) (h1 : 0 ≤ R) (h2 : R ≤ 4294967295) : bits .and .u32 R 1 = R % 2 := by
 rw [u32_and R 1 h1 (by omega) (by omega) (by omega), show (1 : Int).toNat = 1 from rfl, Nat.and_one_is_mod]; omega
theorem and15_u32 (R : Int) (h1 : 0 ≤ R) (h2 : R ≤ 4294967295) : bits .and .u32 R 15 = R % 16 := by
 rw [u32_and R 15 h1 (by omega) (by omega) (by omega), show (15 : Int).toNat = 15 from rfl, nat_mask4]; omega
theorem xor_u32 (a b : Nat) (ha : a < 4294967296) (hb : b < 4294967296) (A B : Int) (hA : A = a) (hB : B = b) : bits .xor .u32 A B = ((a ^^^ b : Nat) : Int) := by
 subst hA hB; exact u32_xor_nat a b ha hb
set_option maxHeartbeats 400000 in
theorem step_any (w : World) (R : Int) (h1 : 0 ≤ R) (h2 : R ≤ 4294967295) :
  Calls Try.prog 151 #[.int .u32 R] w fun e w' => e = .returned (.int .u32 ((Crc.T R.toNat : Nat) : Int)) ∧ w = w' := by
 have ha := and1_u32 R h1 h2
 by_cases h : R % 2 = 1
 ·have e : (bits .and .u32 R 1 == 1) = true := by rw [ha, h]; rfl
  have HR : Hid (R % 2 = 1) := h
  clear ha h
  go_enter Try.func151, Try.ntmps151
  go_wp2
  go_ret
  refine ⟨ret_int ?_, rfl⟩
  have := HR.out
  unfold Crc.T
  rw [if_pos (by omega)]
  exact xor_u32 (R.toNat / 2) Crc.M (by omega) (by decide) _ _ (by omega) rfl
 ·have e : (bits .and .u32 R 1 == 1) = false := by rw [ha, beq_eq_false_iff_ne]; exact h
  have HR : Hid (¬ R % 2 = 1) := h
  clear ha h
  go_enter Try.func151, Try.ntmps151
  go_wp2
  go_ret
  refine ⟨ret_int ?_, rfl⟩
  have := HR.out
  unfold Crc.T
  rw [if_neg (by omega)]
  omega
theorem step_nat (w : World) (r : Nat) (h : r < 4294967296) :
  Calls Try.prog 151 #[.int .u32 (r : Int)] w fun e w' => e = .returned (.int .u32 ((Crc.T r : Nat) : Int)) ∧ w = w' := by
 have := step_any w (r : Int) (by omega) (by omega)
 rw [Int.toNat_natCast] at this
 exact this
/-- The table of crc.halves. -/
def tbl : Array Value := ((List.range 16).map fun i => Value.int .u32 ((Crc.itT 4 i : Nat) : Int)).toArray
set_option maxRecDepth 100000 in
set_option maxHeartbeats 2000000 in
theorem halves_any (w : World) :
  Calls Try.prog 133 #[] w fun e w' => e = .returned (.agg tbl) ∧ Below w.heap.size w w' := by
 go_enter Try.func133, Try.ntmps133
 go_wp2_with fail
 refine wp_loop_rounds 17 ?_
 iterate 17 (rw [rounds_succ]; go_wp2_with (go_at_call 151; first | ((with_reducible refine (step_nat _ _ (by decide)).mono ?_); rintro e w' ⟨rfl, rfl⟩) | (refine (step_any _ _ (by omega) (by omega)).mono ?_; rintro e w' ⟨rfl, rfl⟩)))
 refine bodyPost_ret (v := .agg tbl) ?_ rfl ⟨rfl, ?_⟩
 ·simp [results, Try.results133, go_sem]
  rfl
 ·go_grown
end Go.Proofs.Ytbcmjjcbjojakaa
end
section
namespace Go.Proofs.Ytbcmjjcbjojakaa
open Go.RowKit
set_option linter.unusedVariables false
theorem tbl_lit : tbl = #[.int .u32 ((Crc.itT 4 0 : Nat) : Int), .int .u32 ((Crc.itT 4 1 : Nat) : Int), .int .u32 ((Crc.itT 4 2 : Nat) : Int), .int .u32 ((Crc.itT 4 3 : Nat) : Int), .int .u32 ((Crc.itT 4 4 : Nat) : Int), .int .u32 ((Crc.itT 4 5 : Nat) : Int), .int .u32 ((Crc.itT 4 6 : Nat) : Int), .int .u32 ((Crc.itT 4 7 : Nat) : Int), .int .u32 ((Crc.itT 4 8 : Nat) : Int), .int .u32 ((Crc.itT 4 9 : Nat) : Int), .int .u32 ((Crc.itT 4 10 : Nat) : Int), .int .u32 ((Crc.itT 4 11 : Nat) : Int), .int .u32 ((Crc.itT 4 12 : Nat) : Int), .int .u32 ((Crc.itT 4 13 : Nat) : Int), .int .u32 ((Crc.itT 4 14 : Nat) : Int), .int .u32 ((Crc.itT 4 15 : Nat) : Int)] := rfl
set_option maxRecDepth 100000 in
set_option maxHeartbeats 400000 in
theorem over_any (w : World) (R : Int) (h1 : 0 ≤ R) (h2 : R ≤ 4294967295) (A : Option Addr) (n c B : Nat) (l : List Nat) (hr : Rd w B A n (cb l)) (hB : B ≤ w.heap.size) (hl : ∀ x ∈ l, x < 256) (hn : n ≤ 140737488355328) :
  Calls Try.prog 118 #[.int .u32 R, .slice A n c] w fun e w' => e = .returned (.int .u32 ((Crc.ov R.toNat l : Nat) : Int)) ∧ Below w.heap.size w w' := by
 have HH : Hid (Rd w B A n (cb l) ∧ B ≤ w.heap.size ∧ (∀ x ∈ l, x < 256) ∧ n ≤ 140737488355328) := ⟨hr, hB, hl, hn⟩
 clear hr hB hl hn
 go_enter Try.func118, Try.ntmps118
 go_wp2_with (go_at_call 133; refine (halves_any _).mono ?_; rw [tbl_lit]; rintro e w1 ⟨rfl, hb1⟩)
 rw [← tbl_lit]
 have HW : Hid (Below w.heap.size w (w1.alloc (.cells tbl 173)) ∧ ∀ k, k < 16 → (w1.alloc (.cells tbl 173)).cell? ⟨w1.heap.size, k, none⟩ = some (.int .u32 ((Crc.itT 4 k : Nat) : Int))) := by
  refine ⟨hb1.alloc hb1.size _, fun k hk => ?_⟩
  rw [cell_of_row _ w1.heap.size k tbl 173 (0, 0) (heap_alloc_new w1 _)]
  unfold tbl
  simp [hk]
 obtain ⟨W2, hW2⟩ : ∃ W2, w1.alloc (.cells tbl 173) = W2 := ⟨_, rfl⟩
 rw [hW2] at HW ⊢
 clear hW2 hb1
 have hR : Hid (Rd W2 B A n (cb l)) := HH.out.1.below (HW.out.1.mono HH.out.2.1)
 have hnn : n ≤ 140737488355328 := HH.out.2.2.2
 go_loop [0, 11] (fun r i => ∃ k : Nat, k ≤ n ∧ i = .int .i64 k ∧ r = .int .u32 ((Crc.ov R.toNat (l.take k) : Nat) : Int)) (fun _ i => n - (intOf i).toNat)
 case atStart => exact ⟨0, by omega, rfl, by simp [Crc.ov]; omega⟩
 case round =>
  obtain ⟨k, hk, rfl, rfl⟩ := hrel
  have hll : l.length = n := by have := hR.out.1; rw [cb_length] at this; exact this
  have hp : Crc.ov R.toNat (l.take k) < 2 ^ 32 := Crc.ov_lt _ _ (by omega) (fun x hx => HH.out.2.2.1 x (List.mem_of_mem_take hx))
  by_cases hlt : k < n
  ·obtain ⟨g, off, v, hA, _, hx, hc⟩ := hR.out.at_ hlt
   rw [cb_get _ _ (by omega)] at hx
   injection hx with hx
   have hxb : l.getD k 0 < 256 := by
    rw [List.getD_eq_getElem?_getD, List.getElem?_eq_getElem (by omega)]
    exact HH.out.2.2.1 _ (List.getElem_mem _)
   have hstep : Crc.ov R.toNat (l.take (k + 1)) = Crc.itT 8 (Crc.ov R.toNat (l.take k) ^^^ l.getD k 0) := by
    rw [List.take_succ_eq_append_getElem (by omega), Crc.ov_append, Crc.ov_cons, Crc.ov_nil, List.getD_eq_getElem?_getD, List.getElem?_eq_getElem (by omega)]; rfl
   have HS := hid hstep
   clear hstep
   generalize Crc.ov R.toNat (l.take k) = p at *
   generalize l.getD k 0 = x at *
   have q1 : p ^^^ x < 2 ^ 32 := Nat.xor_lt_two_pow hp (by omega)
   have hn1 := Crc.nib (p ^^^ x)
   have q2 : Crc.itT 4 (p ^^^ x) < 2 ^ 32 := Crc.itT_lt 4 _ q1
   have hn2 := Crc.nib (Crc.itT 4 (p ^^^ x))
   rw [Crc.two_nibs] at hn2
   have E1 := u32_xor_nat p x (by omega) (by omega)
   have E2 := and15_u32 ((p ^^^ x : Nat) : Int) (by omega) (by omega)
   have C1 := HW.out.2 ((p ^^^ x) % 16) (by omega)
   have i1 : Crc.itT 4 ((p ^^^ x) % 16) < 2 ^ 32 := Crc.itT_lt 4 _ (by omega)
   have E3 := xor_u32 ((p ^^^ x) / 16) (Crc.itT 4 ((p ^^^ x) % 16)) (by omega) (by omega) (((p ^^^ x : Nat) : Int) / 16) _ (by omega) rfl
   rw [hn1] at E3
   have E4 := and15_u32 ((Crc.itT 4 (p ^^^ x) : Nat) : Int) (by omega) (by omega)
   have C2 := HW.out.2 (Crc.itT 4 (p ^^^ x) % 16) (by omega)
   have i2 : Crc.itT 4 (Crc.itT 4 (p ^^^ x) % 16) < 2 ^ 32 := Crc.itT_lt 4 _ (by omega)
   have E5 := xor_u32 (Crc.itT 4 (p ^^^ x) / 16) (Crc.itT 4 (Crc.itT 4 (p ^^^ x) % 16)) (by omega) (by omega) (((Crc.itT 4 (p ^^^ x) : Nat) : Int) / 16) _ (by omega) rfl
   rw [hn2, ← HS.out] at E5
   generalize Crc.itT 4 ((p ^^^ x) % 16) = v1 at *
   generalize Crc.itT 4 (Crc.itT 4 (p ^^^ x) % 16) = v2 at *
   obtain ⟨z, hz⟩ : ∃ z, Crc.ov R.toNat (l.take (k + 1)) = z := ⟨_, rfl⟩
   rw [hz] at E5
   have HZ := hid hz
   clear hz
   clear hn1 hn2 HS
   generalize Crc.itT 4 (p ^^^ x) = y at *
   generalize p ^^^ x = q at *
   have b1 : (0 : Int) ≤ (q : Int) ∧ (q : Int) ≤ 4294967295 := by omega
   have b2 : (0 : Int) ≤ (y : Int) ∧ (y : Int) ≤ 4294967295 := by omega
   have b0 : (0 : Int) ≤ (x : Int) ∧ (x : Int) ≤ 255 := by omega
   have e2 : (q : Int) % 16 = ((q % 16 : Nat) : Int) := by omega
   have e4 : (y : Int) % 16 = ((y % 16 : Nat) : Int) := by omega
   rw [e2] at E2
   rw [e4] at E4
   have m1 : q % 16 < 16 := by omega
   have m2 : y % 16 < 16 := by omega
   generalize q % 16 = j1 at *
   generalize y % 16 = j2 at *
   clear e2 e4 hp hxb q1 q2 i1 i2
   obtain ⟨Q, hQ⟩ : ∃ Q : Int, (q : Int) = Q := ⟨_, rfl⟩
   obtain ⟨Y, hY⟩ : ∃ Y : Int, (y : Int) = Y := ⟨_, rfl⟩
   obtain ⟨X, hX⟩ : ∃ X : Int, (x : Int) = X := ⟨_, rfl⟩
   obtain ⟨PP, hP⟩ : ∃ X : Int, (p : Int) = X := ⟨_, rfl⟩
   rw [hX] at E1 hx b0
   rw [hP] at E1 ⊢
   obtain ⟨b5, b6⟩ := b0
   rw [hQ] at E1 E2 E3 b1
   rw [hY] at E3 E4 E5 b2
   obtain ⟨b1, b3⟩ := b1
   obtain ⟨b2, b4⟩ := b2
   clear hQ hY hX hP
   subst hx
   subst hA
   go_wp2
   go_round
   case rel => exact ⟨k + 1, by omega, by go_num, by rw [HZ.out]⟩
   case measure => simp [intOf]; omega
  ·have hkn : k = n := by omega
   subst hkn
   have hfin : Crc.ov R.toNat (l.take k) = Crc.ov R.toNat l := by rw [← hll, List.take_length]
   rw [hfin]
   have HF := hid hfin
   clear hfin hp hll
   go_wp2
   go_ret
   exact ⟨rfl, HW.out.1⟩
end Go.Proofs.Ytbcmjjcbjojakaa
end
section
namespace Go.Proofs.Ytbcmjjcbjojakaa
open Go.RowKit
set_option linter.unusedVariables false
theorem not_u32 (R : Int) (h1 : 0 ≤ R) (h2 : R ≤ 4294967295) : bits .xor .u32 4294967295 R = 4294967295 - R := by
 obtain ⟨r, rfl⟩ := Int.eq_ofNat_of_zero_le h1
 have h := u32_xor_nat 4294967295 r (by omega) (by omega)
 rw [show ((4294967295 : Nat) : Int) = 4294967295 from rfl] at h
 rw [h]
 have e : 4294967295 ^^^ r = 4294967295 - r := by
  apply Nat.eq_of_testBit_eq; intro i
  have := Nat.testBit_two_pow_sub_succ (n := 32) (x := r) (by omega) i
  rw [Nat.testBit_xor, show 4294967295 - r = 2 ^ 32 - (r + 1) by omega, this, show 4294967295 = 2 ^ 32 - 1 from rfl, Nat.testBit_two_pow_sub_one]
  by_cases hi : i < 32
  ·simp [hi]
  ·have : r.testBit i = false := Nat.testBit_lt_two_pow (Nat.lt_of_lt_of_le (by omega : r < 2 ^ 32) (Nat.pow_le_pow_right (by omega) (by omega)))
   simp [hi, this]
 rw [e]; omega
theorem max_u32 : IntKind.u32.max = 4294967295 := rfl
section
variable (w : World) (A : Option Addr) (n c B : Nat) (l : List Nat)
set_option maxHeartbeats 400000 in
theorem more_any (R : Int) (h1 : 0 ≤ R) (h2 : R ≤ 4294967295) (hr : Rd w B A n (cb l)) (hB : B ≤ w.heap.size) (hl : ∀ x ∈ l, x < 256) (hn : n ≤ 140737488355328) :
  Calls Try.prog 108 #[.int .u32 R, .slice A n c] w fun e w' => e = .returned (.int .u32 ((Crc.more R.toNat l : Nat) : Int)) ∧ Below w.heap.size w w' := by
 have HH : Hid (Rd w B A n (cb l) ∧ B ≤ w.heap.size ∧ (∀ x ∈ l, x < 256) ∧ n ≤ 140737488355328) := ⟨hr, hB, hl, hn⟩
 clear hr hB hl hn
 have e1 : bits .xor .u32 IntKind.u32.max R = 4294967295 - R := by rw [max_u32]; exact not_u32 R h1 h2
 obtain ⟨N, hN⟩ : ∃ N : Int, 4294967295 - R = N := ⟨_, rfl⟩
 rw [hN] at e1
 have n1 : 0 ≤ N := by omega
 have n2 : N ≤ 4294967295 := by omega
 have HN := hid hN
 clear hN
 have hv := Crc.ov_lt l N.toNat (by omega) HH.out.2.2.1
 have e2 : bits .xor .u32 IntKind.u32.max ((Crc.ov N.toNat l : Nat) : Int) = 4294967295 - ((Crc.ov N.toNat l : Nat) : Int) := by rw [max_u32]; exact not_u32 _ (by omega) (by omega)
 have HV := hid hv
 clear hv
 go_enter Try.func108, Try.ntmps108
 go_wp2_with fail
 refine (over_any w N n1 n2 A n c B l HH.out.1 HH.out.2.1 HH.out.2.2.1 HH.out.2.2.2).mono ?_
 rintro e w1 ⟨rfl, hb1⟩
 go_wp2_with fail
 go_ret
 have hx := Crc.more_int R.toNat N.toNat l (by have := HN.out; omega) HV.out
 refine ⟨?_, hb1⟩
 show Ending.returned (.int .u32 (4294967295 - ((Crc.ov N.toNat l : Nat) : Int))) = _
 rw [hx]
set_option maxHeartbeats 400000 in
theorem sum_any (hr : Rd w B A n (cb l)) (hB : B ≤ w.heap.size) (hl : ∀ x ∈ l, x < 256) (hn : n ≤ 140737488355328) :
  Calls Try.prog 93 #[.slice A n c] w fun e w' => e = .returned (.int .u32 ((Crc.more 0 l : Nat) : Int)) ∧ Below w.heap.size w w' := by
 have HH : Hid (Rd w B A n (cb l) ∧ B ≤ w.heap.size ∧ (∀ x ∈ l, x < 256) ∧ n ≤ 140737488355328) := ⟨hr, hB, hl, hn⟩
 clear hr hB hl hn
 go_enter Try.func93, Try.ntmps93
 go_wp2_with fail
 refine (more_any w A n c B l 0 (by omega) (by omega) HH.out.1 HH.out.2.1 HH.out.2.2.1 HH.out.2.2.2).mono ?_
 rintro e w1 ⟨rfl, hb1⟩
 go_wp2_with fail
 go_ret
 exact ⟨rfl, hb1⟩
end
end Go.Proofs.Ytbcmjjcbjojakaa
end
section
namespace Go.Proofs.Ytbcmjjcbjojakaa
open Go.RowKit
set_option linter.unusedVariables false
/-- A stream in block g, at place o of the cells xs: its sum, its count. -/
structure Strm (w : World) (g o : Nat) (xs : Array Value) (t S C : Nat) : Prop where
 heap : w.heap[g]? = some (.cells xs t)
 x0 : xs[o]? = some (.int .u32 (S : Int))
 x1 : xs[o + 1]? = some (.int .u64 (C : Int))
 s : S < 4294967296
 c : C < 18446744073709551616
/-- The cells with another stream at place o. -/
def put2 (xs : Array Value) (o S C : Nat) : Array Value := (xs.setIfInBounds o (.int .u32 (S : Int))).setIfInBounds (o + 1) (.int .u64 (C : Int))
section
variable {w w' : World} {g o t S C : Nat} {xs : Array Value}
theorem Strm.lt (h : Strm w g o xs t S C) : g < w.heap.size := (Array.getElem?_eq_some_iff.1 h.heap).1
theorem Strm.below {B : Nat} (h : Strm w g o xs t S C) (b : Below B w w') (hg : g < B) : Strm w' g o xs t S C := ⟨by rw [b.block g hg]; exact h.heap, h.x0, h.x1, h.s, h.c⟩
theorem Strm.cell0 (h : Strm w g o xs t S C) : w.cell? ⟨g, o, none⟩ = some (.int .u32 (S : Int)) := by rw [cell_of_row w g o _ _ (0, 0) h.heap]; exact h.x0
theorem Strm.cell1 (h : Strm w g o xs t S C) : w.cell? ⟨g, o + 1, none⟩ = some (.int .u64 (C : Int)) := by rw [cell_of_row w g (o + 1) _ _ (0, 0) h.heap]; exact h.x1
theorem Strm.free (h : Strm w g o xs t S C) (i : Nat) : w.frozen? ⟨g, i, none⟩ = false := by simp [World.frozen?, h.heap]
theorem Strm.in0 (h : Strm w g o xs t S C) : o < xs.size := (Array.getElem?_eq_some_iff.1 h.x0).1
theorem Strm.in1 (h : Strm w g o xs t S C) : o + 1 < xs.size := (Array.getElem?_eq_some_iff.1 h.x1).1
theorem heap_set (w : World) (g i : Nat) (u : Value) (xs : Array Value) (t : Nat) (h : w.heap[g]? = some (.cells xs t)) : (w.setCell ⟨g, i, none⟩ u).heap[g]? = some (.cells (xs.setIfInBounds i u) t) := by
 simp only [World.setCell]
 rw [Array.getElem?_modify, if_pos rfl, h]
 rfl
theorem grown_set (w : World) (g i : Nat) (u : Value) : w.grownBy (w.setCell ⟨g, i, none⟩ u) (some g) :=
 ⟨rfl, rfl, rfl, by simp [World.setCell], fun k hk hne => Below.heap_setCell _ _ _ _ (fun e => hne (by rw [e]))⟩
theorem Strm.set0 (h : Strm w g o xs t S C) {S' : Nat} (hs : S' < 4294967296) : Strm (w.setCell ⟨g, o, none⟩ (.int .u32 (S' : Int))) g o (xs.setIfInBounds o (.int .u32 (S' : Int))) t S' C := by
 refine ⟨heap_set w g o _ xs t h.heap, ?_, ?_, hs, h.c⟩
 ·rw [Array.getElem?_setIfInBounds, if_pos rfl, if_pos h.in0]
 ·rw [Array.getElem?_setIfInBounds, if_neg (by omega)]; exact h.x1
theorem Strm.set1 (h : Strm w g o xs t S C) {C' : Nat} (hs : C' < 18446744073709551616) : Strm (w.setCell ⟨g, o + 1, none⟩ (.int .u64 (C' : Int))) g o (xs.setIfInBounds (o + 1) (.int .u64 (C' : Int))) t S C' := by
 refine ⟨heap_set w g (o + 1) _ xs t h.heap, ?_, ?_, h.s, hs⟩
 ·rw [Array.getElem?_setIfInBounds, if_neg (by omega)]; exact h.x0
 ·rw [Array.getElem?_setIfInBounds, if_pos rfl, if_pos h.in1]
theorem below_own {B : Nat} (h : Below B w w') (hB : B = w.heap.size) (row : Option Nat) : w.grownBy w' row := ⟨h.os, h.tape, h.output, h.size, fun k hk _ => h.block k (by omega)⟩
theorem wrap_u64 (x : Nat) : IntKind.u64.wrap (x : Int) = ((x % 18446744073709551616 : Nat) : Int) := by
 simp [IntKind.wrap, IntKind.bits, IntKind.signed]
end
theorem ssum_any (w : World) (g o t S C : Nat) (xs : Array Value) (h : Strm w g o xs t S C) :
  Calls Try.prog 94 #[.pointer (some ⟨g, o, none⟩)] w fun e w' => e = .returned (.int .u32 (S : Int)) ∧ w = w' := by
 have h0 := h.cell0
 have HH := Hd.mk h
 clear h
 go_enter Try.func94, Try.ntmps94
 go_wp2_with fail
 go_ret
 exact ⟨rfl, rfl⟩
set_option maxHeartbeats 400000 in
theorem write_any (w : World) (g o t S C : Nat) (xs : Array Value) (A : Option Addr) (n c B : Nat) (l : List Nat) (h : Strm w g o xs t S C) (hr : Rd w B A n (cb l)) (hB : B ≤ w.heap.size) (hl : ∀ x ∈ l, x < 256) (hn : n ≤ 140737488355328) :
  Calls Try.prog 91 #[.pointer (some ⟨g, o, none⟩), .slice A n c] w fun e w' => e = .returned (.tuple #[]) ∧ Strm w' g o (put2 xs o (Crc.more S l) ((C + n) % 18446744073709551616)) t (Crc.more S l) ((C + n) % 18446744073709551616) ∧ w.grownBy w' (some g) := by
 have c0 := h.cell0
 have HH := Hd.mk h
 have HR : Hd (Rd w B A n (cb l) ∧ (∀ x ∈ l, x < 256)) := ⟨hr, hl⟩
 have hs := h.s
 clear h hr hl
 go_enter Try.func91, Try.ntmps91
 go_wp2_with fail
 refine (more_any w A n c B l (S : Int) (by omega) (by omega) HR.out.1 hB HR.out.2 hn).mono ?_
 rw [Int.toNat_natCast]
 rintro e w1 ⟨rfl, hb⟩
 have H1 : Hd (Strm w1 g o xs t S C ∧ Below w.heap.size w w1) := ⟨HH.out.below hb HH.out.lt, hb⟩
 have hml := Crc.more_lt S l
 obtain ⟨M, hM⟩ : ∃ M, Crc.more S l = M := ⟨_, rfl⟩
 have HM := Hd.mk hM
 rw [hM] at hml ⊢
 clear hM
 have H2 : Hd (Strm (w1.setCell ⟨g, o, none⟩ (.int .u32 (M : Int))) g o (xs.setIfInBounds o (.int .u32 (M : Int))) t M C) := ⟨H1.out.1.set0 (by omega)⟩
 have d0 := H1.out.1.cell0
 have f0 := H1.out.1.free o
 have d1 := H2.out.cell1
 have f1 := H2.out.free (o + 1)
 have hc := H2.out.c
 clear hb c0
 go_wp2_with fail
 go_end0
 rw [HM.out, show (C : Int) + (n : Int) = ((C + n : Nat) : Int) by omega, wrap_u64]
 exact ⟨rfl, H2.out.set1 (Nat.mod_lt _ (by omega)), ((below_own H1.out.2 rfl _).trans (grown_set ..)).trans (grown_set ..)⟩
theorem sreset_any (w : World) (g o t S C : Nat) (xs : Array Value) (h : Strm w g o xs t S C) :
  Calls Try.prog 113 #[.pointer (some ⟨g, o, none⟩)] w fun e w' => e = .returned (.tuple #[]) ∧ Strm w' g o (put2 xs o 0 0) t 0 0 ∧ w.grownBy w' (some g) := by
 have h0 := h.cell0
 have h1 := h.cell1
 have f0 := h.free o
 have f1 := h.free (o + 1)
 have HH := Hd.mk h
 clear h
 go_enter Try.func113, Try.ntmps113
 go_wp2_with fail
 go_end0
 exact ⟨rfl, (HH.out.set0 (S' := 0) (by omega)).set1 (C' := 0) (by omega), (grown_set ..).trans (grown_set ..)⟩
end Go.Proofs.Ytbcmjjcbjojakaa
end
section
namespace Go.Proofs.Ytbcmjjcbjojakaa
namespace Crc
def trm : List Nat := [0, 4, 5, 6, 7, 9, 10, 12, 13, 14, 18, 19, 21, 22, 23, 24, 26, 32]
def rx (r : Nat) (L : List Nat) : Nat → List Nat
 | 0 => L
 | j + 1 => (rx r L j).set j ((rx r L j).getD j 0 ^^^ r / 2 ^ j % 2)
def tog (L : List Nat) (p : Nat) : List Nat := L.set p (L.getD p 0 ^^^ 1)
def tg (L : List Nat) (i : Nat) : Nat → List Nat
 | 0 => L
 | k + 1 => tog (tg L i k) (i + trm.getD k 0)
def gl (L : List Nat) : Nat → List Nat
 | 0 => L
 | i + 1 => if (gl L i).getD i 0 = 1 then tg (gl L i) i 18 else gl L i
def rs (L : List Nat) (n : Nat) : Nat → Nat
 | 0 => 0
 | j + 1 => rs L n j ||| L.getD (n + j) 0 * 2 ^ j
def Bin (L : List Nat) : Prop := ∀ j, L.getD j 0 < 2
theorem xor_lt2 {a b : Nat} (ha : a < 2) (hb : b < 2) : a ^^^ b < 2 := Nat.xor_lt_two_pow (n := 1) ha hb
theorem getD_set (L : List Nat) (p x j : Nat) : (L.set p x).getD j 0 = if p = j ∧ p < L.length then x else L.getD j 0 := by
 rw [List.getD_eq_getElem?_getD, List.getD_eq_getElem?_getD, List.getElem?_set]
 by_cases h : p = j
 ·subst h
  by_cases h2 : p < L.length
  ·simp [h2]
  ·simp [h2]
 ·simp [h]
theorem bin_set {L : List Nat} (h : Bin L) {p x : Nat} (hx : x < 2) : Bin (L.set p x) := by
 intro j; rw [getD_set]; split
 ·exact hx
 ·exact h j
theorem rx_len (r : Nat) (L : List Nat) : ∀ j, (rx r L j).length = L.length
 | 0 => rfl
 | j + 1 => by simp only [rx, List.length_set, rx_len r L j]
theorem rx_bin (r : Nat) (L : List Nat) (h : Bin L) : ∀ j, Bin (rx r L j)
 | 0 => h
 | j + 1 => bin_set (rx_bin r L h j) (xor_lt2 (rx_bin r L h j j) (by omega))
theorem tg_len (L : List Nat) (i : Nat) : ∀ k, (tg L i k).length = L.length
 | 0 => rfl
 | k + 1 => by simp only [tg, tog, List.length_set, tg_len L i k]
theorem tg_bin (L : List Nat) (i : Nat) (h : Bin L) : ∀ k, Bin (tg L i k)
 | 0 => h
 | k + 1 => bin_set (tg_bin L i h k) (xor_lt2 (tg_bin L i h k _) (by omega))
theorem gl_len (L : List Nat) : ∀ i, (gl L i).length = L.length
 | 0 => rfl
 | i + 1 => by simp only [gl]; split <;> simp only [tg_len, gl_len L i]
theorem gl_bin (L : List Nat) (h : Bin L) : ∀ i, Bin (gl L i)
 | 0 => h
 | i + 1 => by
  simp only [gl]; split
  ·exact tg_bin _ _ (gl_bin L h i) _
  ·exact gl_bin L h i
theorem rs_lt (L : List Nat) (n : Nat) (h : Bin L) : ∀ j, rs L n j < 2 ^ j
 | 0 => by simp [rs]
 | j + 1 => by
  have h1 := rs_lt L n h j
  have h2 := h (n + j)
  simp only [rs]
  refine Nat.or_lt_two_pow (Nat.lt_of_lt_of_le h1 (Nat.pow_le_pow_right (by omega) (by omega))) ?_
  rw [Nat.pow_succ, Nat.mul_comm]
  exact Nat.mul_lt_mul_of_pos_left h2 (Nat.two_pow_pos j)
theorem trm_le : ∀ k, k < 18 → trm.getD k 0 ≤ 32 := by decide
/-- The bits of a byte in order; of bytes. -/
def b8 (x : Nat) : List Nat := (List.range 8).map fun k => x / 2 ^ k % 2
def bts (l : List Nat) : List Nat := l.flatMap b8
theorem bts_append (a b : List Nat) : bts (a ++ b) = bts a ++ bts b := List.flatMap_append
theorem b8_len (x : Nat) : (b8 x).length = 8 := by simp [b8]
theorem bts_len : ∀ (l : List Nat), (bts l).length = 8 * l.length
 | [] => rfl
 | x :: l => by rw [show x :: l = [x] ++ l from rfl, bts_append]; simp only [List.length_append, bts_len l]; simp [bts, b8_len]; omega
theorem b8_take (x j : Nat) (h : j < 8) : (b8 x).take (j + 1) = (b8 x).take j ++ [x / 2 ^ j % 2] := by
 rw [List.take_succ_eq_append_getElem (by rw [b8_len]; exact h)]; simp [b8]
theorem bts_mem : ∀ (l : List Nat), ∀ x ∈ bts l, x < 2
 | [], x, h => by simp [bts] at h
 | y :: l, x, h => by
  rw [show y :: l = [y] ++ l from rfl, bts_append] at h
  rcases List.mem_append.1 h with h | h
  ·simp only [bts, List.flatMap_cons, List.flatMap_nil, List.append_nil, b8, List.mem_map] at h
   obtain ⟨k, _, rfl⟩ := h
   omega
  ·exact bts_mem l x h
theorem bin_of_mem {L : List Nat} (h : ∀ x ∈ L, x < 2) : Bin L := by
 intro j
 rw [List.getD_eq_getElem?_getD]
 rcases Nat.lt_or_ge j L.length with hj | hj
 ·rw [List.getElem?_eq_getElem hj]; exact h _ (List.getElem_mem hj)
 ·rw [List.getElem?_eq_none hj]; simp
theorem bts_bin (l : List Nat) : Bin (bts l ++ List.replicate 32 0) := bin_of_mem fun x hx => by
 rcases List.mem_append.1 hx with h | h
 ·exact bts_mem l x h
 ·rw [(List.mem_replicate.1 h).2]; omega
/-- What the reference's gone computes. -/
def gn (r : Nat) (l : List Nat) : Nat := rs (gl (rx r (bts l ++ List.replicate 32 0) 32) (8 * l.length)) (8 * l.length) 32
end Crc
end Go.Proofs.Ytbcmjjcbjojakaa
end
section
namespace Go.Proofs.Ytbcmjjcbjojakaa
open Go.RowKit
set_option linter.unusedVariables false
/-- The cells of numbers. -/
def ci (l : List Nat) : List Value := l.map fun x : Nat => .int .i64 (x : Int)
theorem ci_append (a b : List Nat) : ci (a ++ b) = ci a ++ ci b := List.map_append
theorem ci_get (a : List Nat) (k : Nat) (h : k < a.length) : (ci a)[k]? = some (.int .i64 ((a.getD k 0 : Nat) : Int)) := by
 unfold ci; rw [List.getElem?_map, List.getElem?_eq_getElem h, List.getD_eq_getElem?_getD, List.getElem?_eq_getElem h]; rfl
theorem infoI : (Try.prog.info? 3).map (fun i => (i.zero, i.size, i.bytes)) = some (some (.int .i64 0), 1, 8) := by kernel_rfl
theorem elI : El Try.prog 73 3 8 (.int .i64 0) := ⟨Try.underlying73, info_parts infoI, rfl⟩
theorem and1_i64 (R : Int) (h1 : 0 ≤ R) (h2 : R ≤ 9223372036854775807) : bits .and .i64 R 1 = R % 2 := by
 have := bits_mask .i64 63 (by decide) (fun n h0 h1 => by rw [IntKind.wrap_i64]; omega) 1 (by decide) R h1 (by omega)
 simpa using this
set_option maxHeartbeats 400000 in
theorem bits_any (w : World) (A : Option Addr) (n c B : Nat) (l : List Nat) (hr : Rd w B A n (cb l)) (hB : B ≤ w.heap.size) (hl : ∀ x ∈ l, x < 256) (hn : n ≤ 2097152) :
  Calls Try.prog 116 #[.slice A n c] w fun e w' => ∃ v', e = .returned v' ∧ Onto w w' w.heap.size 3 (.slice none 0 0) v' (8 * n) (ci (Crc.bts l)) := by
 have HH : Hid (Rd w B A n (cb l) ∧ B ≤ w.heap.size ∧ (∀ x ∈ l, x < 256)) := ⟨hr, hB, hl⟩
 clear hr hB hl
 go_enter Try.func116, Try.ntmps116
 go_wp2_with fail
 go_loopw [3, 4] (fun s i wr => ∃ k : Nat, k ≤ n ∧ i = .int .i64 k ∧ Onto w wr w.heap.size 3 (.slice none 0 0) s (8 * k) (ci (Crc.bts (l.take k)))) (fun _ i _ => n - (intOf i).toNat)
 case atStart => exact ⟨0, by omega, rfl, Onto.nil w w.heap.size 3⟩
 case round =>
  obtain ⟨k, hk, rfl, hO⟩ := hrel
  by_cases hlt : k < n
  ·have hR : Rd wr B A n (cb l) := HH.out.1.below (hO.below (fun k h => by cases h) HH.out.2.1)
   have hll : l.length = n := by have := hR.1; rw [cb_length] at this; exact this
   obtain ⟨g, off, v, hA, hg, hx, hc⟩ := hR.at_ hlt
   rw [cb_get _ _ (by omega)] at hx
   injection hx with hx
   have hxb : l.getD k 0 < 256 := by
    rw [List.getD_eq_getElem?_getD, List.getElem?_eq_getElem (by omega)]
    exact HH.out.2.2 _ (List.getElem_mem _)
   have ht : Crc.bts (l.take (k + 1)) = Crc.bts (l.take k) ++ Crc.b8 (l.getD k 0) := by
    rw [List.take_succ_eq_append_getElem (by omega), Crc.bts_append, List.getD_eq_getElem?_getD, List.getElem?_eq_getElem (by omega)]; simp [Crc.bts]
   generalize l.getD k 0 = x at *
   have HO : Hid (Onto w wr w.heap.size 3 (.slice none 0 0) u3 (8 * k) (ci (Crc.bts (l.take k))) ∧ Crc.bts (l.take (k + 1)) = Crc.bts (l.take k) ++ Crc.b8 x ∧ wr.cell? ⟨g, off + k, none⟩ = some v ∧ g < B ∧ x < 256 ∧ (.int .u8 (x : Int) : Value) = v ∧ A = some ⟨g, off, none⟩) := ⟨hO, ht, hc, hg, hxb, hx, hA⟩
   clear hO ht hc hg hxb hx hR hll
   subst hA
   obtain ⟨wo, hwo⟩ : ∃ wo : World, wo = wr := ⟨_, rfl⟩
   rw [← hwo] at HO ⊢
   clear hwo
   go_wp2_with fail
   go_loopw [3, 5] (fun s q wi => ∃ j : Nat, j ≤ 8 ∧ q = .int .i64 j ∧ Onto w wi w.heap.size 3 (.slice none 0 0) s (8 * k + j) (ci (Crc.bts (l.take k) ++ (Crc.b8 x).take j))) (fun _ q _ => 8 - (intOf q).toNat)
   case atStart => exact ⟨0, by omega, rfl, by simpa using HO.out.1⟩
   case round =>
    obtain ⟨j, hj, rfl, hP⟩ := hrel
    by_cases hj8 : j < 8
    ·have hcell : wr.cell? ⟨g, off + k, none⟩ = some (.int .u8 (x : Int)) := by
      have b1 : Below B w wr := hP.below (fun k h => by cases h) HH.out.2.1
      have b0 : Below B w wo := HO.out.1.below (fun k h => by cases h) HH.out.2.1
      rw [b1.cell (p := ⟨g, off + k, none⟩) HO.out.2.2.2.1, ← b0.cell (p := ⟨g, off + k, none⟩) HO.out.2.2.2.1, HO.out.2.2.1, ← HO.out.2.2.2.2.2.1]
     have x1 : (0 : Int) ≤ (x : Int) := by omega
     have x2 : (x : Int) ≤ 255 := by have := HO.out.2.2.2.2.1; omega
     obtain ⟨X, hX⟩ : ∃ X : Int, (x : Int) = X := ⟨_, rfl⟩
     rw [hX] at hcell x1 x2
     have HX := hid hX
     have HP := hid hP
     clear hX hP
     have HB : Hid (w.heap.size ≤ wr.heap.size) := HP.out.size
     have h63 : Hid (8 * k + j + 1 ≤ maxLen) := by show _ ≤ _; unfold maxLen; omega
     have hby : Hid ((8 * k + j + 1) * 8 ≤ 140737488355328) := by show _ ≤ _; omega
     go_wp2_with (refine wpList_push elI rfl rfl (.tmp 16) (.tmp 25) 26 rfl rfl rfl w.heap.size u3 _ _ _ rfl rfl rfl rfl HP.out.own h63.out hby.out HB.out ?_; intro v1 w1 hO1)
     have h2 : Onto wr w1 w.heap.size 3 u3 v1 (8 * k + j + 1) (ci (Crc.bts (l.take k) ++ (Crc.b8 x).take j) ++ [.int .i64 (bits .and .i64 (X / 2 ^ j) 1)]) := hO1
     have e : bits .and .i64 (X / 2 ^ j) 1 = ((x / 2 ^ j % 2 : Nat) : Int) := by
      rw [← HX.out]
      have hd : (x : Int) / 2 ^ j = ((x / 2 ^ j : Nat) : Int) := by push_cast; rfl
      have hle : x / 2 ^ j ≤ x := Nat.div_le_self _ _
      have := HO.out.2.2.2.2.1
      rw [hd]
      clear hd
      generalize x / 2 ^ j = d at *
      rw [and1_i64 _ (by omega) (by omega)]; omega
     rw [e] at h2
     go_roundw
     case rel =>
      refine ⟨j + 1, by omega, by go_num, ?_⟩
      rw [Crc.b8_take x j hj8, ← List.append_assoc, ci_append]
      exact HP.out.trans h2
     case measure => simp [intOf]; omega
    ·have h8 : j = 8 := by omega
     subst h8
     have HP := hid hP
     clear hP
     go_wp2_with fail
     go_roundw
     case rel =>
      refine ⟨k + 1, by omega, by go_num, ?_⟩
      rw [HO.out.2.1]
      have := HP.out
      rw [List.take_of_length_le (l := Crc.b8 x) (by rw [Crc.b8_len]; omega)] at this
      exact this
     case measure => simp [intOf]; omega
  ·have hkn : k = n := by omega
   subst hkn
   have hll : l.length = k := by have := HH.out.1.1; rw [cb_length] at this; exact this
   rw [List.take_of_length_le (by omega)] at hO
   have HO := hid hO
   clear hO hll
   go_wp2_with fail
   go_ret
   exact ⟨_, rfl, HO.out⟩
end Go.Proofs.Ytbcmjjcbjojakaa
end
section
namespace Go.Proofs.Ytbcmjjcbjojakaa
open Go.RowKit
set_option linter.unusedVariables false
theorem terms_any (w : World) :
  Calls Try.prog 117 #[] w fun e w' => ∃ v', e = .returned v' ∧ Onto w w' w.heap.size 3 (.slice none 0 0) v' 18 (ci Crc.trm) := by
 go_enter Try.func117, Try.ntmps117
 go_wp2
 go_ret
 exact ⟨_, rfl, onto_lit (ci Crc.trm) (by unfold maxLen; decide)⟩
theorem xor01 : ∀ a, a < 2 → ∀ b, b < 2 → bits .xor .i64 ((a : Nat) : Int) ((b : Nat) : Int) = ((a ^^^ b : Nat) : Int) := by decide
end Go.Proofs.Ytbcmjjcbjojakaa
end
section
namespace Go.Proofs.Ytbcmjjcbjojakaa
open Go.RowKit
structure Chg (L : List Nat) (w w' : World) : Prop where
 os : w'.os = w.os
 tape : w'.tape = w.tape
 output : w'.output = w.output
 size : w.heap.size ≤ w'.heap.size
 block : ∀ k, k < w.heap.size → k ∉ L → w'.heap[k]? = w.heap[k]?
namespace Chg
variable {L L' : List Nat} {w w1 w2 : World}
theorem refl (L : List Nat) (w : World) : Chg L w w := ⟨rfl, rfl, rfl, Nat.le_refl _, fun _ _ _ => rfl⟩
theorem trans (h : Chg L w w1) (k : Chg L w1 w2) : Chg L w w2 :=
 ⟨k.os.trans h.os, k.tape.trans h.tape, k.output.trans h.output, Nat.le_trans h.size k.size, fun i hi hn => (k.block i (Nat.lt_of_lt_of_le hi h.size) hn).trans (h.block i hi hn)⟩
theorem mono (h : Chg L w w1) (s : ∀ k, k ∈ L → k < w.heap.size → k ∈ L') : Chg L' w w1 :=
 ⟨h.os, h.tape, h.output, h.size, fun i hi hn => h.block i hi fun hm => hn (s i hm hi)⟩
theorem drew (h : Chg L w w1) : Chg L w w1.drew := ⟨h.os, h.tape, h.output, h.size, h.block⟩
theorem of_drew (h : Chg L w.drew w1) : Chg L w w1 := ⟨h.os, h.tape, h.output, h.size, h.block⟩
theorem alloc (h : Chg L w w1) (o : Obj) : Chg L w (w1.alloc o) :=
 h.trans ⟨rfl, rfl, rfl, by simp, fun k hk _ => Below.heap_alloc _ _ _ hk⟩
theorem setCell (h : Chg L w w1) {p : Addr} (hp : p.block ∈ L) (u : Value) : Chg L w (w1.setCell p u) :=
 h.trans ⟨rfl, rfl, rfl, by simp [World.setCell], fun k _ hn => Below.heap_setCell _ _ _ _ (fun e => hn (e ▸ hp))⟩
theorem setNew (h : Chg L w w1) {p : Addr} (hp : w.heap.size ≤ p.block) (u : Value) : Chg L w (w1.setCell p u) :=
 ⟨h.os, h.tape, h.output, by simpa [World.setCell] using h.size, fun k hk hn => (Below.heap_setCell _ _ _ _ (by omega)).trans (h.block k hk hn)⟩
theorem of_below (h : Below w.heap.size w w1) : Chg L w w1 := ⟨h.os, h.tape, h.output, h.size, fun k hk _ => h.block k hk⟩
theorem cell (h : Chg L w w1) {p : Addr} (hp : p.block < w.heap.size) (hn : p.block ∉ L) : w1.cell? p = w.cell? p := World.cell?_of_block (w := w) (h.block _ hp hn)
theorem frozen (h : Chg L w w1) {p : Addr} (hp : p.block < w.heap.size) (hn : p.block ∉ L) : w1.frozen? p = w.frozen? p := World.frozen?_of_block (w := w) (h.block _ hp hn)
theorem below (h : Chg L w w1) {B : Nat} (hB : B ≤ w.heap.size) (hl : ∀ k ∈ L, B ≤ k) : Below B w w1 :=
 ⟨h.os, h.tape, h.output, h.size, fun k hk => h.block k (by omega) fun hm => by have := hl k hm; omega⟩
theorem rd (h : Chg L w w1) {B n : Nat} {A : Option Addr} {xs : List Value} (r : Rd w B A n xs) (hB : B ≤ w.heap.size) (hl : ∀ k ∈ L, B ≤ k) : Rd w1 B A n xs := r.below (h.below hB hl)
/-- A slice whose block is not of the list reads as it did. -/
theorem rd' (h : Chg L w w1) {B n : Nat} {A : Option Addr} {xs : List Value} (r : Rd w B A n xs) (hB : B ≤ w.heap.size) (hl : ∀ g off, A = some ⟨g, off, none⟩ → 0 < n → g ∉ L) : Rd w1 B A n xs := by
 refine ⟨r.1, fun hn => ?_⟩
 obtain ⟨g, off, e, hb, hc⟩ := r.2 hn
 exact ⟨g, off, e, hb, fun i hi => (h.cell (p := ⟨g, off + i, none⟩) (by show g < _; omega) (hl g off e hn)).trans (hc i hi)⟩
theorem own (h : Chg L w w1) {base e size n : Nat} {v : Value} {xs : List Value} (o : w.ownsRow base e size v n xs) (hl : ∀ k, v.ownBlock = some k → k ∉ L) : w1.ownsRow base e size v n xs := by
 refine ⟨o.1, ?_⟩
 rcases o.2 with h2 | ⟨g, cap, cur, rfl, hb, hg, r⟩
 ·exact .inl h2
 ·exact .inr ⟨g, cap, cur, rfl, hb, (h.block g (Array.getElem?_eq_some_iff.1 hg).1 (hl g rfl)).trans hg, r⟩
end Chg
end Go.Proofs.Ytbcmjjcbjojakaa
end
section
namespace Go.Proofs.Ytbcmjjcbjojakaa
open Go.RowKit
set_option linter.unusedVariables false
/-- What a reading gives up with. -/
def giveUp (e : Int) : Ending := .panicked [{ v := .iface 32 (.int .i64 e), recovered := false }]
/-- A reader: its bytes, the place, the fault. -/
structure Rr (w : World) (gr : Nat) (A : Option Addr) (n c at_ : Nat) (fl : Int) (bs : List Nat) : Prop where
 c0 : w.cell? ⟨gr, 0, none⟩ = some (.slice A n c)
 c1 : w.cell? ⟨gr, 1, none⟩ = some (.int .i64 (at_ : Int))
 c2 : w.cell? ⟨gr, 2, none⟩ = some (.int .i64 fl)
 z1 : w.frozen? ⟨gr, 1, none⟩ = false
 z2 : w.frozen? ⟨gr, 2, none⟩ = false
 rd : Rd w gr A n (cb bs)
 le : at_ ≤ n ∧ n ≤ c ∧ n ≤ 4398046511104
 lt : gr < w.heap.size
 lb : ∀ x ∈ bs, x < 256
namespace Rr
variable {w w1 : World} {gr n c at_ : Nat} {A : Option Addr} {fl : Int} {bs : List Nat}
theorem len (R : Rr w gr A n c at_ fl bs) : bs.length = n := by have := R.rd.1; rwa [cb_length] at this
theorem keep {L : List Nat} (R : Rr w gr A n c at_ fl bs) (h : Chg L w w1) (hg : gr ∉ L) (ha : ∀ g off, A = some ⟨g, off, none⟩ → 0 < n → g ∉ L) : Rr w1 gr A n c at_ fl bs where
 c0 := (h.cell (p := ⟨gr, 0, none⟩) R.lt hg).trans R.c0
 c1 := (h.cell (p := ⟨gr, 1, none⟩) R.lt hg).trans R.c1
 c2 := (h.cell (p := ⟨gr, 2, none⟩) R.lt hg).trans R.c2
 z1 := (h.frozen (p := ⟨gr, 1, none⟩) R.lt hg).trans R.z1
 z2 := (h.frozen (p := ⟨gr, 2, none⟩) R.lt hg).trans R.z2
 rd := h.rd' R.rd (Nat.le_of_lt R.lt) ha
 le := R.le
 lt := Nat.lt_of_lt_of_le R.lt h.size
 lb := R.lb
/-- Only what is greater than the reader turned. -/
theorem keep' {L : List Nat} (R : Rr w gr A n c at_ fl bs) (h : Chg L w w1) (hg : ∀ k ∈ L, gr < k) : Rr w1 gr A n c at_ fl bs :=
 R.keep h (fun hm => absurd (hg _ hm) (Nat.lt_irrefl _)) fun g off he hn hm => by
  obtain ⟨g', off', he', hb, _⟩ := R.rd.2 hn
  rw [he] at he'; injection he' with he'; injection he' with h1
  have := hg _ hm; omega
theorem move (R : Rr w gr A n c at_ fl bs) (at' : Nat) (h : at' ≤ n) : Rr (w.setCell ⟨gr, 1, none⟩ (.int .i64 (at' : Int))) gr A n c at' fl bs where
 c0 := (World.cell?_setCell_other w _ _ _ (by simp)).trans R.c0
 c1 := World.cell?_setCell_same _ _ _ R.c1
 c2 := (World.cell?_setCell_other w _ _ _ (by simp)).trans R.c2
 z1 := by rw [World.frozen?_setCell]; exact R.z1
 z2 := by rw [World.frozen?_setCell]; exact R.z2
 rd := R.rd.setCell (Nat.le_refl _) _
 le := ⟨h, R.le.2⟩
 lt := by simpa [World.setCell] using R.lt
 lb := R.lb
theorem fail (R : Rr w gr A n c at_ fl bs) (e : Int) : Rr (w.setCell ⟨gr, 2, none⟩ (.int .i64 e)) gr A n c at_ e bs where
 c0 := (World.cell?_setCell_other w _ _ _ (by simp)).trans R.c0
 c1 := (World.cell?_setCell_other w _ _ _ (by simp)).trans R.c1
 c2 := World.cell?_setCell_same _ _ _ R.c2
 z1 := by rw [World.frozen?_setCell]; exact R.z1
 z2 := by rw [World.frozen?_setCell]; exact R.z2
 rd := R.rd.setCell (Nat.le_refl _) _
 le := R.le
 lt := by simpa [World.setCell] using R.lt
 lb := R.lb
theorem drew (R : Rr w gr A n c at_ fl bs) : Rr w.drew gr A n c at_ fl bs := ⟨R.c0, R.c1, R.c2, R.z1, R.z2, R.rd, R.le, R.lt, R.lb⟩
end Rr
theorem must_yes (w : World) (e : Int) : Calls Try.prog 148 #[.bool true, .int .i64 e] w fun r w' => r = .returned (.tuple #[]) ∧ w = w' := by
 go_enter Try.func148, Try.ntmps148
 go_wp2_with fail
 go_end0
 exact ⟨rfl, rfl⟩
theorem must_no (w : World) (e : Int) : Calls Try.prog 148 #[.bool false, .int .i64 e] w fun r w' => r = giveUp e ∧ w = w' := by
 go_enter Try.func148, Try.ntmps148
 go_wp2_with fail
 exact ⟨rfl, rfl, rfl⟩
set_option maxHeartbeats 1000000 in
theorem catch_panicking (pf pr : Addr) (gr : Nat) (at_ ec : Int) (w : World) (hf : w.cell? pf = some (.int .i64 at_)) (hr : w.cell? pr = some (.pointer (some ⟨gr, 0, none⟩)))
  (h1 : ∃ u, w.cell? ⟨gr, 1, none⟩ = some u) (h2 : ∃ u, w.cell? ⟨gr, 2, none⟩ = some u) (z1 : w.frozen? ⟨gr, 1, none⟩ = false) (z2 : w.frozen? ⟨gr, 2, none⟩ = false) :
  CallsD Try.prog 152 #[.pointer (some pf), .pointer (some pr)] (.panicking [{ v := .iface 32 (.int .i64 ec), recovered := false }]) w fun e u' w' =>
   e = .returned (.tuple #[]) ∧ u' = .panicking [{ v := .iface 32 (.int .i64 ec), recovered := true }] ∧ w' = (w.setCell ⟨gr, 1, none⟩ (.int .i64 at_)).setCell ⟨gr, 2, none⟩ (.int .i64 ec) := by
 obtain ⟨q1, h1⟩ := h1
 obtain ⟨q2, h2⟩ := h2
 have hta : ∀ w, (Instr.typeAssert (.iface 32 (.int .i64 ec)) 20 32 true).run Try.prog w = .ok (.tuple #[.int .i64 ec, .bool true]) w := fun w => by
  simp [Instr.typeAssert, go_sem]
 refine callsD_of_wpS Try.func152 rfl fun c₀ cs hu => ?_
 simp only [Try.ntmps152, List.size_toArray, List.length_cons, List.length_nil, Nat.reduceAdd, Nat.reduceSub, Array.replicate_succ, Array.replicate_zero, List.push_toArray, List.nil_append, List.cons_append, List.append_toArray]
 apply wpS_seq
 apply wpS_region
 simp [wpOpsS, go_sem, recoverD, hu, hta, Exit.thenS]
 apply wpS_seq
 apply wpS_region
 simp [wpOpsS, go_sem, Exit.thenS]
 refine wpS_cond (t := true) (by simp [Act.eval]) ?_
 simp only [if_true]
 refine wpS_of_wp ?_
 go_wp2_with fail
 simp [bodyPostS, results, Try.results152]
theorem catch_idle (pf pr : Addr) (w : World) :
  CallsD Try.prog 152 #[.pointer (some pf), .pointer (some pr)] .returning w fun e u' w' => e = .returned (.tuple #[]) ∧ u' = .returning ∧ w' = w := by
 have hta : ∀ w, (Instr.typeAssert .nilIface 20 32 true).run Try.prog w = .ok (.tuple #[.int .i64 0, .bool false]) w := fun w => by
  simp [Instr.typeAssert, go_sem]
 refine callsD_of_wpS Try.func152 rfl fun c₀ cs hu => ?_
 simp only [Try.ntmps152, List.size_toArray, List.length_cons, List.length_nil, Nat.reduceAdd, Nat.reduceSub, Array.replicate_succ, Array.replicate_zero, List.push_toArray, List.nil_append, List.cons_append, List.append_toArray]
 apply wpS_seq
 apply wpS_region
 simp [wpOpsS, go_sem, recoverD, hu, hta, Exit.thenS]
 apply wpS_seq
 apply wpS_region
 simp [wpOpsS, go_sem, Exit.thenS]
 refine wpS_cond (t := false) (by simp [Act.eval]) ?_
 simp only [Bool.false_eq_true, if_false]
 refine wpS_of_wp (wp_skip ?_)
 cases c₀
 simp_all [bodyPostS, results, Try.results152]
end Go.Proofs.Ytbcmjjcbjojakaa
end
