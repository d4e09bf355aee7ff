/- Contract of crc.Join. -/
import Derived.Test.YtofblciodgibdaaWay
namespace Go.Proofs.Ytofblciodgibdaa
open Go.RowKit
set_option linter.unusedVariables false
theorem heap_alloc_row (w : World) (g : Nat) (cs : Array Value) (Z : Array Value) {o : Obj} (ho : o = .cells Z 68) : ((w.setRow g cs).alloc o).heap[w.heap.size]? = some (.cells Z 68) := by
  subst ho
  have := heap_alloc_new (w.setRow g cs) (.cells Z 68)
  rwa [setRow_size] at this
theorem join_odd (s q x : Nat) (h : q % 2 = 1) : Crc.itT ((s + s) * (q / 2)) (Crc.itT s x) = Crc.itT (s * q) x := by
  rw [← Crc.itT_add]
  congr 1
  rw [show s * q = s * (2 * (q / 2) + 1) by congr 1; omega, Nat.mul_add, Nat.mul_one, ← Nat.mul_assoc, Nat.mul_two, Nat.add_comm]
theorem join_even (s q x : Nat) (h : q % 2 = 0) : Crc.itT ((s + s) * (q / 2)) x = Crc.itT (s * q) x := by
  congr 1
  rw [show s * q = s * (2 * (q / 2)) by congr 1; omega, ← Nat.mul_assoc, Nat.mul_two]
theorem toNat_half (q : Int) (h : 0 < q) : (q / 2).toNat = q.toNat / 2 ∧ q.toNat % 2 = (q % 2).toNat := by omega
set_option maxHeartbeats 1000000 in
theorem join_any (w : World) (a b : Nat) (N : Int) (ha : a < 4294967296) (hb : b < 4294967296) (n1 : -9223372036854775808 ≤ N) (n2 : N ≤ 9223372036854775807) :
    Calls Try.prog 35 #[.int .u32 (a : Int), .int .u32 (b : Int), .int .i64 N] w fun e w' => e = .returned (.int .u32 ((Crc.itT (8 * N.toNat) a ^^^ b : Nat) : Int)) ∧ Below w.heap.size w w' := by
  go_enter Try.func35, Try.ntmps35
  go_wp2_with fail
  refine (zeroByte_any w).mono ?_
  rintro e w0 ⟨rfl, hb0⟩
  have H0 : Hd (Below w.heap.size w w0 ∧ (wy 8).all (·.oneCell') = true) := ⟨hb0, wy_one _⟩
  clear hb0
  go_wp2_with (refine wpList_store_row rfl 68 (.tmp 7) (.tmp 8) rfl w0.heap.size (wy 8) rfl rfl 68 (Array.replicate 32 (.int .u32 0)) (heap_alloc_new _ _) (by rw [wy_size]; exact infoW) (by rw [wy_size]; simp) H0.out.2 ?_)
  go_frame
  go_loopw [0, 2, 7] (fun ua un up wr => ∃ (q : Int) (s x gw : Nat), -9223372036854775808 ≤ q ∧ q ≤ 9223372036854775807 ∧ w.heap.size ≤ gw ∧ un = .int .i64 q ∧ ua = .int .u32 ((x : Nat) : Int) ∧ up = .pointer (some ⟨gw, 0, none⟩) ∧ wr.heap[gw]? = some (.cells (wy s) 68) ∧ Below w.heap.size w wr ∧
      x < 4294967296 ∧ Crc.itT (s * q.toNat) x = Crc.itT (8 * N.toNat) a) (fun _ un _ _ => (intOf un).toNat)
  case atStart =>
    refine ⟨N, 8, a, w0.heap.size, n1, n2, H0.out.1.size, rfl, rfl, rfl, ?_, ?_, ha, rfl⟩
    · exact setRow_heap _ _ _ _ _ _ (heap_alloc_new _ _)
    · exact below_setRow (H0.out.1.alloc H0.out.1.size _) H0.out.1.size _
  case round =>
    obtain ⟨q, s, x, gw, q1, q2, hgw, rfl, rfl, rfl, hh, hbel, hx, hrest⟩ := hrel
    have HH : Hd (wr.heap[gw]? = some (.cells (wy s) 68) ∧ Below w.heap.size w wr ∧ Crc.itT (s * q.toNat) x = Crc.itT (8 * N.toNat) a) := ⟨hh, hbel, hrest⟩
    have HG : Hd (w.heap.size ≤ gw) := ⟨hgw⟩
    clear hh hbel hrest hgw H0
    by_cases hq : 0 < q
    · have HT := Hd.mk (toNat_half q hq)
      have hd := Int.tdiv_eq_ediv_of_nonneg (a := q) (b := 2) (by omega)
      have hm := Int.tmod_eq_emod_of_nonneg (a := q) (b := 2) (by omega)
      by_cases ho : q % 2 = 1
      · have HE : Hd (Crc.itT ((s + s) * (q / 2).toNat) (Crc.itT s x) = Crc.itT (8 * N.toNat) a) := ⟨by rw [HT.out.1, join_odd s q.toNat x (by rw [HT.out.2, ho]; rfl)]; exact HH.out.2.2⟩
        have HXL : Hd (Crc.itT s x < 4294967296) := ⟨Crc.itT_lt s x hx⟩
        go_wp2_with fail
        refine (of_any wr gw s (x : Int) (by omega) (by omega) HH.out.1).mono ?_
        rw [Int.toNat_natCast]
        rintro e w1 ⟨rfl, hb⟩
        have H1 : Hd (w1.heap[gw]? = some (.cells (wy s) 68) ∧ Below w.heap.size w w1) := ⟨by rw [hb.block _ (Array.getElem?_eq_some_iff.1 HH.out.1).1]; exact HH.out.1, HH.out.2.1.trans (hb.mono HH.out.2.1.size)⟩
        clear hb
        go_wp2_with (first
          | (refine wpList_load_row rfl 68 (.tmp 7) rfl gw rfl 68 (wy s) (0, 0) _ H1.out.1 Try.underlying68 rfl (by rw [wy_size]; exact infoW) ?_))
        refine (twice_any w1 s).mono ?_
        rintro e w2 ⟨rfl, hb⟩
        have H2 : Hd (w2.heap[gw]? = some (.cells (wy s) 68) ∧ Below w.heap.size w w2 ∧ (wy (s + s)).all (·.oneCell') = true ∧ (w2.setRow gw (wy (s + s))).heap[gw]? = some (.cells (wy (s + s)) 68)) :=
          have h0 : w2.heap[gw]? = some (.cells (wy s) 68) := by rw [hb.block _ (Array.getElem?_eq_some_iff.1 H1.out.1).1]; exact H1.out.1
          ⟨h0, H1.out.2.trans (hb.mono H1.out.2.size), wy_one _, setRow_heap _ _ _ _ _ _ h0⟩
        clear hb H1
        go_wp2_with (first
          | (refine wpList_store_row rfl 68 (.tmp 7) (.tmp 19) rfl gw (wy (s + s)) rfl rfl 68 (wy s) H2.out.1 (by rw [wy_size]; exact infoW) (by rw [wy_size, wy_size]) H2.out.2.2.1 ?_)
          | (refine wpList_load_row rfl 68 (.tmp 7) rfl gw rfl 68 (wy (s + s)) (0, 0) _ H2.out.2.2.2 Try.underlying68 rfl (by rw [wy_size]; exact infoW) ?_)
          | (refine wpList_store_row rfl 68 (.tmp 7) (.tmp 20) rfl w2.heap.size (wy (s + s)) rfl rfl 68 (Array.replicate 32 (.int .u32 0)) (heap_alloc_row w2 gw _ _ rfl) (by rw [wy_size]; exact infoW) (by rw [wy_size]; simp) H2.out.2.2.1 ?_))
        go_roundw
        case rel =>
          refine ⟨q / 2, s + s, Crc.itT s x, w2.heap.size, by omega, by omega, H2.out.2.1.size, rfl, rfl, rfl, ?_, ?_, HXL.out, HE.out⟩
          · exact setRow_heap _ _ _ _ _ _ (heap_alloc_row w2 gw _ _ rfl)
          · exact below_setRow ((below_setRow H2.out.2.1 (by have := HG.out; omega) _).alloc (by have := H2.out.2.1.size; simp; omega) _) H2.out.2.1.size _
        case measure => simp [intOf]; omega
      · have HE : Hd (Crc.itT ((s + s) * (q / 2).toNat) x = Crc.itT (8 * N.toNat) a) := ⟨by rw [HT.out.1, join_even s q.toNat x (by rw [HT.out.2, show q % 2 = 0 by omega]; rfl)]; exact HH.out.2.2⟩
        have H1 : Hd (wr.heap[gw]? = some (.cells (wy s) 68) ∧ Below w.heap.size w wr) := ⟨HH.out.1, HH.out.2.1⟩
        go_wp2_with (first
          | (refine wpList_load_row rfl 68 (.tmp 7) rfl gw rfl 68 (wy s) (0, 0) _ H1.out.1 Try.underlying68 rfl (by rw [wy_size]; exact infoW) ?_))
        refine (twice_any wr s).mono ?_
        rintro e w2 ⟨rfl, hb⟩
        have H2 : Hd (w2.heap[gw]? = some (.cells (wy s) 68) ∧ Below w.heap.size w w2 ∧ (wy (s + s)).all (·.oneCell') = true ∧ (w2.setRow gw (wy (s + s))).heap[gw]? = some (.cells (wy (s + s)) 68)) :=
          have h0 : w2.heap[gw]? = some (.cells (wy s) 68) := by rw [hb.block _ (Array.getElem?_eq_some_iff.1 H1.out.1).1]; exact H1.out.1
          ⟨h0, H1.out.2.trans (hb.mono H1.out.2.size), wy_one _, setRow_heap _ _ _ _ _ _ h0⟩
        clear hb H1
        go_wp2_with (first
          | (refine wpList_store_row rfl 68 (.tmp 7) (.tmp 19) rfl gw (wy (s + s)) rfl rfl 68 (wy s) H2.out.1 (by rw [wy_size]; exact infoW) (by rw [wy_size, wy_size]) H2.out.2.2.1 ?_)
          | (refine wpList_load_row rfl 68 (.tmp 7) rfl gw rfl 68 (wy (s + s)) (0, 0) _ H2.out.2.2.2 Try.underlying68 rfl (by rw [wy_size]; exact infoW) ?_)
          | (refine wpList_store_row rfl 68 (.tmp 7) (.tmp 20) rfl w2.heap.size (wy (s + s)) rfl rfl 68 (Array.replicate 32 (.int .u32 0)) (heap_alloc_row w2 gw _ _ rfl) (by rw [wy_size]; exact infoW) (by rw [wy_size]; simp) H2.out.2.2.1 ?_))
        go_roundw
        case rel =>
          refine ⟨q / 2, s + s, x, w2.heap.size, by omega, by omega, H2.out.2.1.size, rfl, rfl, rfl, ?_, ?_, hx, HE.out⟩
          · exact setRow_heap _ _ _ _ _ _ (heap_alloc_row w2 gw _ _ rfl)
          · exact below_setRow ((below_setRow H2.out.2.1 (by have := HG.out; omega) _).alloc (by have := H2.out.2.1.size; simp; omega) _) H2.out.2.1.size _
        case measure => simp [intOf]; omega
    · have HF : Hd (x = Crc.itT (8 * N.toNat) a) := ⟨by rw [← HH.out.2.2, show q.toNat = 0 by omega, Nat.mul_zero]; rfl⟩
      have hz := u32_xor_nat x b hx hb
      go_wp2_with fail
      go_ret
      exact ⟨by rw [HF.out]; rfl, HH.out.2.1⟩
end Go.Proofs.Ytofblciodgibdaa
