/- Contracts of crc.way's of and twice, of zeroByte and of Join. -/
import Derived.Test.YtofblciodgibdaaStream
import Derived.Test.YtofblciodgibdaaMem2
import Derived.Test.YtofblciodgibdaaCrcOrd
import Derived.Laws.Rows
import Derived.Laws.Tables
import Derived.Laws.CopyOwn
import Derived.BigQuiet
import Derived.WalkSmall
namespace Go.Proofs.Ytofblciodgibdaa
open Go.RowKit
set_option linter.unusedVariables false
/-- The cells of what m steps make of each bit. -/
def wy (m : Nat) : Array Value := ((List.range 32).map fun i => Value.int .u32 ((Crc.itT m (2 ^ i) : Nat) : Int)).toArray
theorem wy_size (m : Nat) : (wy m).size = 32 := by simp [wy]
theorem wy_get (m i : Nat) (h : i < 32) : (wy m)[i]? = some (.int .u32 ((Crc.itT m (2 ^ i) : Nat) : Int)) := by
  simp [wy, h]
theorem pow_lt32 (i : Nat) (h : i < 32) : 2 ^ i < 2 ^ 32 := Nat.pow_lt_pow_right (by omega) h
theorem wy_lt (m i : Nat) (h : i < 32) : Crc.itT m (2 ^ i) < 4294967296 := Crc.itT_lt m _ (pow_lt32 i h)
namespace Crc
theorem itT_bit (m r k : Nat) : itT m (r % 2 ^ (k + 1)) = if r / 2 ^ k % 2 = 1 then itT m (r % 2 ^ k) ^^^ itT m (2 ^ k) else itT m (r % 2 ^ k) := by
  have h := xor_split k (r % 2 ^ (k + 1))
  rw [Nat.mod_mod_of_dvd _ (Nat.pow_dvd_pow 2 (Nat.le_succ k)), Nat.pow_succ, Nat.mod_mul_right_div_self] at h
  rw [Nat.pow_succ, h]
  split
  · rename_i h1; rw [h1, Nat.mul_one, Nat.xor_comm, itT_xor]
  · rename_i h1; rw [show r / 2 ^ k % 2 = 0 by omega, Nat.mul_zero, Nat.zero_xor]
end Crc
theorem and_two_pow (r k : Nat) : r &&& 2 ^ k ≠ 0 ↔ r / 2 ^ k % 2 = 1 := by
  rw [show (r / 2 ^ k % 2 = 1) ↔ r.testBit k = true by rw [Nat.testBit_eq_decide_div_mod_eq, decide_eq_true_iff]]
  constructor
  · intro h
    refine Classical.byContradiction fun hb => h ?_
    apply Nat.eq_of_testBit_eq; intro i
    rw [Nat.testBit_and, Nat.testBit_two_pow, Nat.zero_testBit]
    by_cases hi : k = i
    · subst hi; simp at hb; simp [hb]
    · simp [hi]
  · intro h h0
    have : (r &&& 2 ^ k).testBit k = true := by rw [Nat.testBit_and, Nat.testBit_two_pow, h]; simp
    rw [h0, Nat.zero_testBit] at this
    cases this
theorem and_pow (R : Int) (h1 : 0 ≤ R) (h2 : R ≤ 4294967295) (k : Nat) (hk : k < 32) : (bits .and .u32 R (2 ^ k % 4294967296) != 0) = decide (R.toNat / 2 ^ k % 2 = 1) := by
  obtain ⟨r, rfl⟩ := Int.eq_ofNat_of_zero_le h1
  have hp := pow_lt32 k hk
  have e : (2 : Int) ^ k % 4294967296 = ((2 ^ k : Nat) : Int) := by
    have : ((2 ^ k : Nat) : Int) = (2 : Int) ^ k := by push_cast; rfl
    rw [← this]
    generalize 2 ^ k = d at *
    omega
  rw [e, u32_and_nat _ _ (by omega) (by omega), Int.toNat_natCast, Bool.eq_iff_iff, decide_eq_true_iff, ← and_two_pow, bne_iff_ne]
  omega
/-- The first k cells of one make, the others of another. -/
def mix (f z : Nat → Value) (k : Nat) : Array Value := ((List.range 32).map fun i => if i < k then f i else z i).toArray
theorem mix_get (f z : Nat → Value) (k i : Nat) (h : i < 32) : (mix f z k)[i]? = some (if i < k then f i else z i) := by
  simp [mix, h]
theorem mix_size (f z : Nat → Value) (k : Nat) : (mix f z k).size = 32 := by simp [mix]
theorem mix_set (f z : Nat → Value) (k : Nat) (h : k < 32) : (mix f z k).setIfInBounds k (f k) = mix f z (k + 1) := by
  apply Array.ext_getElem?
  intro i
  rw [Array.getElem?_setIfInBounds]
  by_cases hi : i < 32
  · rw [mix_get _ _ _ _ hi, mix_get _ _ _ _ hi, mix_size]
    by_cases hk : k = i
    · subst hk; simp [h]
    · rw [if_neg hk]
      have : i < k ↔ i < k + 1 := by omega
      simp [this]
  · rw [if_neg (by omega), Array.getElem?_eq_none (by rw [mix_size]; omega), Array.getElem?_eq_none (by rw [mix_size]; omega)]
theorem mix_all (m : Nat) (z : Nat → Value) : mix (fun i => .int .u32 ((Crc.itT m (2 ^ i) : Nat) : Int)) z 32 = wy m := by
  unfold mix wy
  refine congrArg List.toArray ?_
  refine List.map_congr_left fun i hi => ?_
  rw [List.mem_range] at hi
  rw [if_pos hi]
theorem mix_none (m : Nat) (f : Nat → Value) : mix f (fun i => .int .u32 ((Crc.itT m (2 ^ i) : Nat) : Int)) 0 = wy m := by
  unfold mix wy
  rfl
theorem wy_one (m : Nat) : (wy m).all (·.oneCell') = true := by
  simp [wy, Value.oneCell']
set_option maxHeartbeats 400000 in
theorem of_any (w : World) (g m : Nat) (R : Int) (r1 : 0 ≤ R) (r2 : R ≤ 4294967295) (h : w.heap[g]? = some (.cells (wy m) 68)) :
    Calls Try.prog 41 #[.pointer (some ⟨g, 0, none⟩), .int .u32 R] w fun e w' => e = .returned (.int .u32 ((Crc.itT m R.toNat : Nat) : Int)) ∧ Below w.heap.size w w' := by
  have HH := Hd.mk h
  have hg : g < w.heap.size := (Array.getElem?_eq_some_iff.1 h).1
  have HM : Hd (R.toNat % 2 ^ 32 = R.toNat) := ⟨Nat.mod_eq_of_lt (by omega)⟩
  clear h
  go_enter Try.func41, Try.ntmps41
  go_wp2_with fail
  go_loopw [5, 9] (fun o i wr => ∃ k : Nat, k ≤ 32 ∧ i = .int .i64 k ∧ o = .int .u32 ((Crc.itT m (R.toNat % 2 ^ k) : Nat) : Int) ∧ Below w.heap.size w wr) (fun _ i _ => 32 - (intOf i).toNat)
  case atStart => exact ⟨0, by omega, rfl, by rw [Nat.pow_zero, Nat.mod_one, Crc.itT_zero]; rfl, Below.refl _ _⟩
  case round =>
    obtain ⟨k, hk, rfl, rfl, hb⟩ := hrel
    have HB := Hd.mk hb
    clear hb
    by_cases hlt : k < 32
    · have hcc : wr.cell? ⟨g, k, none⟩ = some (.int .u32 ((Crc.itT m (2 ^ k) : Nat) : Int)) := by
        rw [HB.out.cell (p := ⟨g, k, none⟩) hg, cell_of_row w g k _ _ (0, 0) HH.out, wy_get m k hlt]
      have e1 := and_pow R r1 r2 k hlt
      have hz := u32_xor_nat (Crc.itT m (R.toNat % 2 ^ k)) (Crc.itT m (2 ^ k)) (Crc.itT_lt m _ (Nat.lt_of_le_of_lt (Nat.mod_le _ _) (by omega))) (wy_lt m k hlt)
      by_cases hbit : R.toNat / 2 ^ k % 2 = 1
      · have HS : Hd (Crc.itT m (R.toNat % 2 ^ (k + 1)) = Crc.itT m (R.toNat % 2 ^ k) ^^^ Crc.itT m (2 ^ k)) := ⟨by rw [Crc.itT_bit, if_pos hbit]⟩
        rw [decide_eq_true hbit] at e1
        rw [← HS.out] at hz
        generalize Crc.itT m (R.toNat % 2 ^ k) = x at *
        generalize Crc.itT m (2 ^ k) = y at *
        clear hbit
        go_wp2_with fail
        go_quiet (fail)
        go_wp2_with fail
        go_roundw
        case rel => exact ⟨k + 1, by omega, by go_num, rfl, below_drewN HB.out _⟩
        case measure => simp [intOf]; omega
      · have HS : Hd (Crc.itT m (R.toNat % 2 ^ (k + 1)) = Crc.itT m (R.toNat % 2 ^ k)) := ⟨by rw [Crc.itT_bit, if_neg hbit]⟩
        rw [decide_eq_false hbit] at e1
        clear hbit hz
        go_wp2_with fail
        go_quiet (fail)
        go_wp2_with fail
        go_roundw
        case rel => exact ⟨k + 1, by omega, by go_num, by rw [HS.out], below_drewN HB.out _⟩
        case measure => simp [intOf]; omega
    · have hk32 : k = 32 := by omega
      subst hk32
      rw [HM.out]
      go_wp2_with fail
      go_ret
      exact ⟨rfl, HB.out⟩
theorem heap_new2 (w : World) (A B : Obj) : ((w.alloc A).alloc B).heap[w.heap.size]? = some A := (Below.heap_alloc _ _ _ (by simp)).trans (heap_alloc_new w A)
theorem heap_new3 (w : World) (A B C : Obj) : (((w.alloc A).alloc B).alloc C).heap[w.heap.size + 1 + 1]? = some C := by
  have := heap_alloc_new ((w.alloc A).alloc B) C
  rwa [show ((w.alloc A).alloc B).heap.size = w.heap.size + 1 + 1 by simp] at this
theorem infoW : (Try.prog.info? 68).map (·.size) = some 32 := by kernel_rfl
set_option maxHeartbeats 1000000 in
theorem twice_any (w : World) (m : Nat) :
    Calls Try.prog 42 #[.agg (wy m)] w fun e w' => e = .returned (.agg (wy (m + m))) ∧ Below w.heap.size w w' := by
  have ho := wy_one m
  go_enter Try.func42, Try.ntmps42
  go_wp2_with (first
    | (refine wpList_load_row rfl 68 (.tmp 1) rfl w.heap.size rfl 68 (wy m) (0, 0) _ (heap_new2 ..) Try.underlying68 rfl (by rw [wy_size]; exact infoW) ?_)
    | (refine wpList_store_row rfl 68 (.tmp 3) (.tmp 5) rfl (w.heap.size + 1 + 1) (wy m) rfl rfl 68 _ (heap_new3 ..) (by rw [wy_size]; exact infoW) (by rw [wy_size]; rfl) ho ?_))
  go_loopw [6] (fun i wr => ∃ k : Nat, k ≤ 32 ∧ i = .int .i64 k ∧ wr.heap[w.heap.size]? = some (.cells (wy m) 68) ∧ (∃ Z : Array Value, wr.heap[w.heap.size + 1]? = some (.cells Z 68) ∧ Z.size = 32) ∧
      wr.heap[w.heap.size + 1 + 1]? = some (.cells (mix (fun i => .int .u32 ((Crc.itT (m + m) (2 ^ i) : Nat) : Int)) (fun i => .int .u32 ((Crc.itT m (2 ^ i) : Nat) : Int)) k) 68) ∧ Below w.heap.size w wr) (fun i _ => 32 - (intOf i).toNat)
  case atStart =>
    refine ⟨0, by omega, rfl, ?_, ⟨Array.replicate 32 (.int .u32 0), ?_, by simp⟩, ?_, ?_⟩
    · rw [setRow_other _ _ _ _ (by omega), Below.heap_alloc _ _ _ (by simp; omega)]; exact heap_new2 ..
    · rw [setRow_other _ _ _ _ (by omega), Below.heap_alloc _ _ _ (by simp)]; exact heap_alloc2_new ..
    · rw [setRow_heap _ _ _ _ _ _ (heap_new3 ..), mix_none]
    · exact below_setRow ((((Below.refl _ w).alloc (Nat.le_refl _) _).alloc (by simp) _).alloc (by simp; omega) _) (by omega) _
  case round =>
    obtain ⟨k, hk, rfl, h1, ⟨Z, h2, hZ⟩, h3, hb⟩ := hrel
    have HH : Hd (wr.heap[w.heap.size]? = some (.cells (wy m) 68) ∧ wr.heap[w.heap.size + 1]? = some (.cells Z 68) ∧ wr.heap[w.heap.size + 1 + 1]? = some (.cells (mix (fun i => .int .u32 ((Crc.itT (m + m) (2 ^ i) : Nat) : Int)) (fun i => .int .u32 ((Crc.itT m (2 ^ i) : Nat) : Int)) k) 68) ∧ Below w.heap.size w wr ∧ Z.size = 32) := ⟨h1, h2, h3, hb, hZ⟩
    clear h1 h2 h3 hb hZ
    by_cases hlt : k < 32
    · have hcc : wr.cell? ⟨w.heap.size, k, none⟩ = some (.int .u32 ((Crc.itT m (2 ^ k) : Nat) : Int)) := by
        rw [cell_of_row wr _ k _ _ (0, 0) HH.out.1, wy_get m k hlt]
      have hlk := wy_lt m k hlt
      clear ho
      go_wp2_with fail
      refine (of_any wr w.heap.size m ((Crc.itT m (2 ^ k) : Nat) : Int) (by omega) (by omega) HH.out.1).mono ?_
      rw [Int.toNat_natCast, ← Crc.itT_add]
      rintro e w1 ⟨rfl, hb⟩
      have hsz := (Array.getElem?_eq_some_iff.1 HH.out.2.2.1).1
      have H1 : Hd (w1.heap[w.heap.size]? = some (.cells (wy m) 68) ∧ w1.heap[w.heap.size + 1]? = some (.cells Z 68) ∧ w1.heap[w.heap.size + 1 + 1]? = some (.cells (mix (fun i => .int .u32 ((Crc.itT (m + m) (2 ^ i) : Nat) : Int)) (fun i => .int .u32 ((Crc.itT m (2 ^ i) : Nat) : Int)) k) 68) ∧ Below w.heap.size w w1) :=
        ⟨by rw [hb.block _ (by omega)]; exact HH.out.1, by rw [hb.block _ (by omega)]; exact HH.out.2.1, by rw [hb.block _ hsz]; exact HH.out.2.2.1, HH.out.2.2.2.1.trans (hb.mono HH.out.2.2.2.1.size)⟩
      have hcz : w1.cell? ⟨w.heap.size + 1 + 1, k, none⟩ = some (.int .u32 ((Crc.itT m (2 ^ k) : Nat) : Int)) := by
        rw [cell_of_row w1 _ k _ _ (0, 0) H1.out.2.2.1, mix_get _ _ _ _ hlt, if_neg (by omega)]
      have hfz : w1.frozen? ⟨w.heap.size + 1 + 1, k, none⟩ = false := by simp [World.frozen?, H1.out.2.2.1]
      clear hb hsz hcc
      go_wp2_with fail
      go_roundw
      case rel =>
        refine ⟨k + 1, by omega, by go_num, ?_, ⟨Z, ?_, HH.out.2.2.2.2⟩, ?_, ?_⟩
        · rw [Below.heap_setCell _ _ _ _ (by simp; omega)]; exact H1.out.1
        · rw [Below.heap_setCell _ _ _ _ (by simp)]; exact H1.out.2.1
        · rw [heap_set _ _ _ _ _ _ H1.out.2.2.1, mix_set _ _ k hlt]
        · exact H1.out.2.2.2.setCell (by simp; omega) _
      case measure => simp [intOf]; omega
    · have hk32 : k = 32 := by omega
      subst hk32
      have hm := mix_all (m + m) (fun i => .int .u32 ((Crc.itT m (2 ^ i) : Nat) : Int))
      have H1 : Hd (wr.heap[w.heap.size + 1]? = some (.cells Z 68) ∧ wr.heap[w.heap.size + 1 + 1]? = some (.cells (wy (m + m)) 68) ∧ Below w.heap.size w wr ∧ Z.size = 32 ∧ (wy (m + m)).all (·.oneCell') = true) := ⟨HH.out.2.1, by rw [← hm]; exact HH.out.2.2.1, HH.out.2.2.2.1, HH.out.2.2.2.2, wy_one _⟩
      clear HH hm ho
      go_wp2_with (first
        | (refine wpList_load_row rfl 68 (.tmp 3) rfl (w.heap.size + 1 + 1) rfl 68 (wy (m + m)) (0, 0) _ H1.out.2.1 Try.underlying68 rfl (by rw [wy_size]; exact infoW) ?_)
        | (refine wpList_store_row rfl 68 (.tmp 2) (.tmp 16) rfl (w.heap.size + 1) (wy (m + m)) rfl rfl 68 Z H1.out.1 (by rw [wy_size]; exact infoW) (by rw [wy_size]; exact H1.out.2.2.2.1) H1.out.2.2.2.2 ?_))
      exact bodyPost_ret (v := .agg (wy (m + m))) (results_cell_row rfl _ _ (w.heap.size + 1) 68 (wy (m + m)) (0, 0) _ rfl (setRow_heap _ _ _ _ _ _ H1.out.1) Try.underlying68 rfl (by rw [wy_size]; exact infoW)) rfl ⟨rfl, below_setRow H1.out.2.2.1 (by omega) _⟩
set_option maxHeartbeats 1000000 in
theorem zeroByte_any (w : World) :
    Calls Try.prog 40 #[] w fun e w' => e = .returned (.agg (wy 8)) ∧ Below w.heap.size w w' := by
  go_enter Try.func40, Try.ntmps40
  go_wp2_with fail
  go_loopw [3] (fun i wr => ∃ k : Nat, k ≤ 32 ∧ i = .int .i64 k ∧ (∃ Z : Array Value, wr.heap[w.heap.size]? = some (.cells Z 68) ∧ Z.size = 32) ∧
      wr.heap[w.heap.size + 1]? = some (.cells (mix (fun i => .int .u32 ((Crc.itT 8 (2 ^ i) : Nat) : Int)) (fun i => .int .u32 0) k) 68) ∧ Below w.heap.size w wr) (fun i _ => 32 - (intOf i).toNat)
  case atStart =>
    refine ⟨0, by omega, rfl, ⟨Array.replicate 32 (.int .u32 0), ?_, by simp⟩, ?_, ?_⟩
    · exact heap_new2 ..
    · exact heap_alloc2_new ..
    · exact ((Below.refl _ w).alloc (Nat.le_refl _) _).alloc (by simp) _
  case round =>
    obtain ⟨k, hk, rfl, ⟨Z, h2, hZ⟩, h3, hb⟩ := hrel
    have HH : Hd (wr.heap[w.heap.size]? = some (.cells Z 68) ∧ wr.heap[w.heap.size + 1]? = some (.cells (mix (fun i => .int .u32 ((Crc.itT 8 (2 ^ i) : Nat) : Int)) (fun i => .int .u32 0) k) 68) ∧ Below w.heap.size w wr ∧ Z.size = 32) := ⟨h2, h3, hb, hZ⟩
    clear h2 h3 hb hZ
    by_cases hlt : k < 32
    · have hp := pow_lt32 k hlt
      have HE : Hd ((2 : Int) ^ k % 4294967296 = ((2 ^ k : Nat) : Int)) := ⟨by
        have : ((2 ^ k : Nat) : Int) = (2 : Int) ^ k := by push_cast; rfl
        rw [← this]
        generalize 2 ^ k = d at *
        omega⟩
      have HP : Hd (2 ^ k < 4294967296) := ⟨hp⟩
      clear hp
      go_wp2_with fail
      refine (over_any (wr.alloc (.cells #[.int .u8 0] 5)) ((2 : Int) ^ k % 4294967296) (by omega) (by omega) (some ⟨wr.heap.size, 0, none⟩) 1 1 (wr.heap.size + 1) [0] (rd_lit (cb [0])) (by simp) (by simp) (by omega)).mono ?_
      rw [HE.out, Int.toNat_natCast, Crc.ov_cons, Crc.ov_nil, Nat.xor_zero]
      rintro e w1 ⟨rfl, hb⟩
      have hsz := (Array.getElem?_eq_some_iff.1 HH.out.2.1).1
      have hb' : Below wr.heap.size wr w1 := ((Below.refl _ wr).alloc (Nat.le_refl _) _).trans (hb.mono (by simp))
      have H1 : Hd (w1.heap[w.heap.size]? = some (.cells Z 68) ∧ w1.heap[w.heap.size + 1]? = some (.cells (mix (fun i => .int .u32 ((Crc.itT 8 (2 ^ i) : Nat) : Int)) (fun i => .int .u32 0) k) 68) ∧ Below w.heap.size w w1) :=
        ⟨by rw [hb'.block _ (by omega)]; exact HH.out.1, by rw [hb'.block _ hsz]; exact HH.out.2.1, HH.out.2.2.1.trans (hb'.mono HH.out.2.2.1.size)⟩
      have hcz : w1.cell? ⟨w.heap.size + 1, k, none⟩ = some (.int .u32 0) := by
        rw [cell_of_row w1 _ k _ _ (0, 0) H1.out.2.1, mix_get _ _ _ _ hlt, if_neg (by omega)]
      have hfz : w1.frozen? ⟨w.heap.size + 1, k, none⟩ = false := by simp [World.frozen?, H1.out.2.1]
      clear hb hb' hsz
      go_wp2_with fail
      go_roundw
      case rel =>
        refine ⟨k + 1, by omega, by go_num, ⟨Z, ?_, HH.out.2.2.2⟩, ?_, ?_⟩
        · rw [Below.heap_setCell _ _ _ _ (by simp)]; exact H1.out.1
        · rw [heap_set _ _ _ _ _ _ H1.out.2.1, mix_set _ _ k hlt]
        · exact H1.out.2.2.setCell (by simp) _
      case measure => simp [intOf]; omega
    · have hk32 : k = 32 := by omega
      subst hk32
      have hm := mix_all 8 (fun i => .int .u32 0)
      have H1 : Hd (wr.heap[w.heap.size]? = some (.cells Z 68) ∧ wr.heap[w.heap.size + 1]? = some (.cells (wy 8) 68) ∧ Below w.heap.size w wr ∧ Z.size = 32 ∧ (wy 8).all (·.oneCell') = true) := ⟨HH.out.1, by rw [← hm]; exact HH.out.2.1, HH.out.2.2.1, HH.out.2.2.2, wy_one _⟩
      clear HH hm
      go_wp2_with (first
        | (refine wpList_load_row rfl 68 (.tmp 1) rfl (w.heap.size + 1) rfl 68 (wy 8) (0, 0) _ H1.out.2.1 Try.underlying68 rfl (by rw [wy_size]; exact infoW) ?_)
        | (refine wpList_store_row rfl 68 (.tmp 0) (.tmp 13) rfl w.heap.size (wy 8) rfl rfl 68 Z H1.out.1 (by rw [wy_size]; exact infoW) (by rw [wy_size]; exact H1.out.2.2.2.1) H1.out.2.2.2.2 ?_))
      exact bodyPost_ret (v := .agg (wy 8)) (results_cell_row rfl _ _ w.heap.size 68 (wy 8) (0, 0) _ rfl (setRow_heap _ _ _ _ _ _ H1.out.1) Try.underlying68 rfl (by rw [wy_size]; exact infoW)) rfl ⟨rfl, below_setRow H1.out.2.2.1 (by omega) _⟩
end Go.Proofs.Ytofblciodgibdaa
