/- Contract of the law's putsOf, of rows of their own. (Turned from PutsOf.) -/
import Derived.Test.YtjkenhkoakaaoaaPutsOf
import Derived.Test.YtjkenhkoakaaoaaBag
namespace Go.Proofs.Ytjkenhkoakaaoaa
open Go.RowKit
set_option linter.unusedVariables false
theorem ko_of {w w' : World} {n : Nat} {v : Value} {xs : List Nat} (h : Onto w w' w.heap.size 5 (.slice none 0 0) v n (cb xs)) (hx : ∀ x ∈ xs, x < 256) : ∃ A c, v = .slice A n c ∧ (w'.ownsRow w.heap.size 5 1 (.slice A n c) n (cb xs) ∧ (∀ x ∈ xs, x < 256) ∧ (cb xs).length = n) ∧ Below w.heap.size w w' := by
  obtain ⟨A, c, rfl, _, _⟩ := own_form h.own
  exact ⟨A, c, rfl, ⟨h.own, hx, by have := h.own.1; omega⟩, h.below (fun k h => by cases h) (Nat.le_refl _)⟩
abbrev Slc := Option Addr × Nat × Nat × List Nat
def slv (x : Slc) : Value := .slice x.1 x.2.1 x.2.2.1
def slr (x : Slc) : Nat × Value × List Value := (5, slv x, cb x.2.2.2)
/-- A list of rows, each in memory of its own. -/
structure Ow (base : Nat) (w : World) (g : Nat) (l : List Slc) (ps : List (List Nat)) : Prop where
  out : w.ownsRow base 45 1 (.slice (some ⟨g, 0, none⟩) l.length l.length) l.length (l.map slv)
  bag : Bag w base (l.map slr) [g]
  ps : l.map (fun x => x.2.2.2) = ps
  lt : ∀ x ∈ l, ∀ y ∈ x.2.2.2, y < 256
theorem ow_of {w : World} {base : Nat} {e : TypeId} (l : List Slc) (B : Bag w base (l.map slr) []) (hb : base ≤ w.heap.size) (hx : ∀ x ∈ l, ∀ y ∈ x.2.2.2, y < 256) (hl : l.length ≤ maxLen) (he : e = 45) :
    Ow base (w.alloc (.cells (l.map slv).toArray e)) w.heap.size l (l.map fun x => x.2.2.2) where
  out := by
    subst he
    have h := onto_lit (w := w) (e := 45) (l.map slv) (by rw [List.length_map]; exact hl)
    have h2 := h.own
    rw [List.length_map] at h2
    exact ⟨h2.1, h2.2.imp id fun ⟨g, cap, cur, e1, e2, r⟩ => ⟨g, cap, cur, e1, Nat.le_trans hb e2, r⟩⟩
  bag := (B.board (k := w.heap.size) ((Below.refl _ _).alloc (Nat.le_refl _) _) (Nat.le_refl _) (by simp))
  ps := rfl
  lt := hx
set_option maxRecDepth 20000 in
set_option maxHeartbeats 4000000 in
theorem putsOf_own (w : World) (A Ap At : Option Addr) (n c m cp k ct B v zn : Nat) (sv : Int) (xb xp xt : Value) (bs ps : List Nat) (ts : List ByteArray) (hb : Rd w B A n (cb bs)) (hp : Rd w B Ap m (cb ps)) (ht : Rd w B At k (cs ts)) (hB : B ≤ w.heap.size) (lb : ∀ x ∈ bs, x < 256) (lp : ∀ x ∈ ps, x < 256) (lt : ∀ t ∈ ts, t.size < 2 ^ 64) (hv : v < 2 ^ 64) (hz : zn < 2 ^ 64) (s1 : -9223372036854775808 ≤ sv) (s2 : sv ≤ 9223372036854775807) (hzn : zig sv = (zn : Int)) (hbig : n + 40 + m + (tx ts).length ≤ 70368744177664) (hk : k ≤ 4398046511104) :
    Calls Try.prog 31 #[.slice A n c, .agg #[xb, .int .u64 (v : Int), .int .i64 sv, xp, xt], .slice Ap m cp, .slice At k ct] w fun e w' => ∃ g, e = .returned (.slice (some ⟨g, 0, none⟩) 9 9) ∧ ∃ l : List (Option Addr × Nat × Nat × List Nat), Ow w.heap.size w' g l (wants bs v zn m ps k ts) ∧ Below w.heap.size w w' := by
  have HX : Hd (v < 2 ^ 64 ∧ zn < 2 ^ 64 ∧ (∀ x ∈ bs, x < 256) ∧ (∀ x ∈ ps, x < 256) ∧ (∀ t ∈ ts, t.size < 2 ^ 64) ∧ n + 10 ≤ 140737488355328 ∧ n + 10 + m ≤ 140737488355328 ∧ n + 20 + (tx ts).length ≤ 140737488355000 ∧ k ≤ 140737488355000 ∧ n + 10 + (tx ts).length ≤ 140737488355000 ∧ m < 2 ^ 64 ∧ k < 2 ^ 64) := ⟨hv, hz, lb, lp, lt, by omega, by omega, by omega, by omega, by omega, by omega, by omega⟩
  have HZ : Hd (zig sv = (zn : Int)) := ⟨hzn⟩
  obtain ⟨V, hV⟩ : ∃ V : Int, (v : Int) = V := ⟨_, rfl⟩
  have HW : Hd (IntKind.u8.wrap V = ((v % 256 : Nat) : Int) ∧ IntKind.u16.wrap V = ((v % 65536 : Nat) : Int) ∧ IntKind.u32.wrap V = ((v % 4294967296 : Nat) : Int) ∧ V = (v : Int) ∧ V.tmod 256 = ((v % 256 : Nat) : Int) ∧ V.tmod 65536 = ((v % 65536 : Nat) : Int) ∧ V.tmod 4294967296 = ((v % 4294967296 : Nat) : Int)) :=
    ⟨by rw [← hV, IntKind.wrap_u8]; omega, by rw [← hV, IntKind.wrap_u16]; omega, by rw [← hV, IntKind.wrap_u32']; omega, hV.symm, by rw [← hV, Int.tmod_eq_emod_of_nonneg (by omega)]; omega, by rw [← hV, Int.tmod_eq_emod_of_nonneg (by omega)]; omega, by rw [← hV, Int.tmod_eq_emod_of_nonneg (by omega)]; omega⟩
  have hV0 : 0 ≤ V := by omega
  rw [hV]
  have HR : Hd (HS w w.heap.size A n bs Ap m ps At k ts (w.alloc (.cells #[xb, .int .u64 V, .int .i64 sv, xp, xt] 51))) :=
    ⟨(hb.more hB).alloc (Nat.le_refl _) _, (hp.more hB).alloc (Nat.le_refl _) _, (ht.more hB).alloc (Nat.le_refl _) _, by simp, (Below.refl _ w).alloc (Nat.le_refl _) _, Nat.le_refl _⟩
  clear hb hp ht hB lb lp lt hv hz hzn hbig hk hV
  go_enter Try.func31, Try.ntmps31
  go_wp2_with fail
  have C1 : (w.alloc (.cells #[xb, .int .u64 V, .int .i64 sv, xp, xt] 51)).cell? ⟨w.heap.size, 1, none⟩ = some (.int .u64 V) := by rw [cell_of_row _ _ 1 _ _ (0, 0) (heap_alloc_new w _)]; rfl
  have C2 : (w.alloc (.cells #[xb, .int .u64 V, .int .i64 sv, xp, xt] 51)).cell? ⟨w.heap.size, 2, none⟩ = some (.int .i64 sv) := by rw [cell_of_row _ _ 2 _ _ (0, 0) (heap_alloc_new w _)]; rfl
  have C3 : w.heap.size < (w.alloc (.cells #[xb, .int .u64 V, .int .i64 sv, xp, xt] 51)).heap.size := by simp
  obtain ⟨W1, hW1⟩ : ∃ W1, w.alloc (.cells #[xb, .int .u64 V, .int .i64 sv, xp, xt] 51) = W1 := ⟨_, rfl⟩
  rw [hW1] at HR C1 C2 C3 ⊢
  clear hW1
  have HC : Hd (W1.cell? ⟨w.heap.size, 1, none⟩ = some (.int .u64 V) ∧ W1.cell? ⟨w.heap.size, 2, none⟩ = some (.int .i64 sv) ∧ w.heap.size < W1.heap.size) := ⟨C1, C2, C3⟩
  have HD : Hd (HS w w.heap.size A n bs Ap m ps At k ts W1.drew) := ⟨HR.out.step (Below.refl _ _).drew⟩
  clear C1 C2 C3
  go_wp2_with fail
  have T1 : Hd True := ⟨trivial⟩
  have T2 : Hd True := ⟨trivial⟩
  have T3 : Hd True := ⟨trivial⟩
  have T4 : Hd True := ⟨trivial⟩
  have T5 : Hd True := ⟨trivial⟩
  have T6 : Hd True := ⟨trivial⟩
  have T7 : Hd True := ⟨trivial⟩
  have T8 : Hd True := ⟨trivial⟩
  have T9 : Hd True := ⟨trivial⟩
  go_region_held3 (fun w' => w'.cell? ⟨w.heap.size, 1, none⟩ = some (.int .u64 V) ∧ w'.cell? ⟨w.heap.size, 2, none⟩ = some (.int .i64 sv) ∧ w.heap.size < w'.heap.size ∧ HS w w.heap.size A n bs Ap m ps At k ts w')
    (first | assumption | (exact keepH hb (by assumption)) | (exact ⟨HC.out.1, HC.out.2.1, HC.out.2.2, HD.out⟩) | (exact keepH ((Below.refl _ _).alloc (Nat.le_refl _) _) (by assumption)))
    (first
      | (go_at_call 69; clear T1; (try rw [HW.out.1]); go_loud (refine (put_uint8 _ A n c w.heap.size (v % 256) bs (by assumption : _ ∧ _ ∧ _ ∧ HS w w.heap.size A n bs Ap m ps At k ts _).2.2.2.rb (by first | exact Nat.mod_lt _ (by decide) | exact HX.out.1) HX.out.2.2.2.2.2.1 (by assumption : _ ∧ _ ∧ _ ∧ HS w w.heap.size A n bs Ap m ps At k ts _).2.2.2.le).mono ?_); rintro e w' ⟨v', rfl, hO⟩; obtain ⟨A1, c1, rfl, K1, hb⟩ := ko_of hO (app_lt HX.out.2.2.1 (fx_lt _ _)); have E1 := hb; clear hO)
      | (go_at_call 70; clear T2; (try rw [HW.out.2.1]); go_loud (refine (put_uint16 _ A n c w.heap.size (v % 65536) bs (by assumption : _ ∧ _ ∧ _ ∧ HS w w.heap.size A n bs Ap m ps At k ts _).2.2.2.rb (by first | exact Nat.mod_lt _ (by decide) | exact HX.out.1) HX.out.2.2.2.2.2.1 (by assumption : _ ∧ _ ∧ _ ∧ HS w w.heap.size A n bs Ap m ps At k ts _).2.2.2.le).mono ?_); rintro e w' ⟨v', rfl, hO⟩; obtain ⟨A2, c2, rfl, K2, hb⟩ := ko_of hO (app_lt HX.out.2.2.1 (fx_lt _ _)); have E2 := hb; clear hO)
      | (go_at_call 71; clear T3; (try rw [HW.out.2.2.1]); go_loud (refine (put_uint32 _ A n c w.heap.size (v % 4294967296) bs (by assumption : _ ∧ _ ∧ _ ∧ HS w w.heap.size A n bs Ap m ps At k ts _).2.2.2.rb (by first | exact Nat.mod_lt _ (by decide) | exact HX.out.1) HX.out.2.2.2.2.2.1 (by assumption : _ ∧ _ ∧ _ ∧ HS w w.heap.size A n bs Ap m ps At k ts _).2.2.2.le).mono ?_); rintro e w' ⟨v', rfl, hO⟩; obtain ⟨A3, c3, rfl, K3, hb⟩ := ko_of hO (app_lt HX.out.2.2.1 (fx_lt _ _)); have E3 := hb; clear hO)
      | (go_at_call 72; clear T4; (try rw [HW.out.2.2.2.1]); go_loud (refine (put_uint64 _ A n c w.heap.size (v) bs (by assumption : _ ∧ _ ∧ _ ∧ HS w w.heap.size A n bs Ap m ps At k ts _).2.2.2.rb (by first | exact Nat.mod_lt _ (by decide) | exact HX.out.1) HX.out.2.2.2.2.2.1 (by assumption : _ ∧ _ ∧ _ ∧ HS w w.heap.size A n bs Ap m ps At k ts _).2.2.2.le).mono ?_); rintro e w' ⟨v', rfl, hO⟩; obtain ⟨A4, c4, rfl, K4, hb⟩ := ko_of hO (app_lt HX.out.2.2.1 (fx_lt _ _)); have E4 := hb; clear hO)
      | (go_at_call 73; clear T5; (try rw [HW.out.2.1]); go_loud (refine (put_tall _ A n c w.heap.size (v % 65536) bs (by assumption : _ ∧ _ ∧ _ ∧ HS w w.heap.size A n bs Ap m ps At k ts _).2.2.2.rb (by first | exact Nat.mod_lt _ (by decide) | exact HX.out.1) HX.out.2.2.2.2.2.1 (by assumption : _ ∧ _ ∧ _ ∧ HS w w.heap.size A n bs Ap m ps At k ts _).2.2.2.le).mono ?_); rintro e w' ⟨v', rfl, hO⟩; obtain ⟨A5, c5, rfl, K5, hb⟩ := ko_of hO (app_lt HX.out.2.2.1 (fx_lt _ _)); have E5 := hb; clear hO)
      | (go_at_call 26; clear T6; (try rw [HW.out.2.2.2.1]); go_loud (refine (putUvarint_any _ A n c w.heap.size v bs (by assumption : _ ∧ _ ∧ _ ∧ HS w w.heap.size A n bs Ap m ps At k ts _).2.2.2.rb HX.out.1 HX.out.2.2.2.2.2.1 (by assumption : _ ∧ _ ∧ _ ∧ HS w w.heap.size A n bs Ap m ps At k ts _).2.2.2.le).mono ?_); rintro e w' ⟨v', rfl, hO⟩; obtain ⟨A6, c6, rfl, K6, hb⟩ := ko_of hO (app_lt HX.out.2.2.1 (uv_lt _ HX.out.1)); have E6 := hb; clear hO)
      | (go_at_call 74; clear T7; go_loud (refine (putVarint_any _ A n c w.heap.size zn sv bs (by assumption : _ ∧ _ ∧ _ ∧ HS w w.heap.size A n bs Ap m ps At k ts _).2.2.2.rb s1 s2 HX.out.2.2.2.2.2.1 (by assumption : _ ∧ _ ∧ _ ∧ HS w w.heap.size A n bs Ap m ps At k ts _).2.2.2.le HZ.out HX.out.2.1).mono ?_); rintro e w' ⟨v', rfl, hO⟩; obtain ⟨A7, c7, rfl, K7, hb⟩ := ko_of hO (app_lt HX.out.2.2.1 (uv_lt _ HX.out.2.1)); have E7 := hb; clear hO)
      | (go_at_call 47; clear T8; go_loud (refine (putBytes_any _ A Ap n c m cp w.heap.size bs ps (by assumption : _ ∧ _ ∧ _ ∧ HS w w.heap.size A n bs Ap m ps At k ts _).2.2.2.rb (by assumption : _ ∧ _ ∧ _ ∧ HS w w.heap.size A n bs Ap m ps At k ts _).2.2.2.rp HX.out.2.2.2.2.2.2.1 (by assumption : _ ∧ _ ∧ _ ∧ HS w w.heap.size A n bs Ap m ps At k ts _).2.2.2.le).mono ?_); rintro e w' ⟨v', rfl, hO⟩; obtain ⟨A8, c8, rfl, K8, hb⟩ := ko_of hO (app_lt (app_lt HX.out.2.2.1 (uv_lt _ HX.out.2.2.2.2.2.2.2.2.2.2.1)) HX.out.2.2.2.1); have E8 := hb; clear hO)
      | (go_at_call 46; clear T9; go_loud (refine (putTexts_any _ A At n c k ct w.heap.size bs ts (by assumption : _ ∧ _ ∧ _ ∧ HS w w.heap.size A n bs Ap m ps At k ts _).2.2.2.rb (by assumption : _ ∧ _ ∧ _ ∧ HS w w.heap.size A n bs Ap m ps At k ts _).2.2.2.rt HX.out.2.2.2.2.2.2.2.2.2.1 HX.out.2.2.2.2.2.2.2.2.1 (by assumption : _ ∧ _ ∧ _ ∧ HS w w.heap.size A n bs Ap m ps At k ts _).2.2.2.le).mono ?_); rintro e w' ⟨v', rfl, hO⟩; obtain ⟨A9, c9, rfl, K9, hb⟩ := ko_of hO (app_lt (app_lt HX.out.2.2.1 (uv_lt _ HX.out.2.2.2.2.2.2.2.2.2.2.2)) (tx_lt ts HX.out.2.2.2.2.1)); have E9 := hb; clear hO))
  obtain ⟨_, _, _, hfin⟩ : _ ∧ _ ∧ _ ∧ HS w w.heap.size A n bs Ap m ps At k ts _ := by assumption
  have HF := Hd.mk hfin.bel
  have HB0 : Bag W1.drew w.heap.size [] [] := Bag.start _ _ _ (fun k h => absurd h List.not_mem_nil)
  have hlo : w.heap.size ≤ W1.drew.heap.size := HR.out.bel.size
  have s1_ := hlo
  have B1 := HB0.push hlo K1.2.2 E1 K1.1
  have l1 := Nat.le_trans hlo E1.size
  have B2 := B1.push l1 K2.2.2 E2 K2.1
  have l2 := Nat.le_trans l1 E2.size
  have B3 := B2.push l2 K3.2.2 E3 K3.1
  have l3 := Nat.le_trans l2 E3.size
  have B4 := B3.push l3 K4.2.2 E4 K4.1
  have l4 := Nat.le_trans l3 E4.size
  have B5 := B4.push l4 K5.2.2 E5 K5.1
  have l5 := Nat.le_trans l4 E5.size
  have B6 := B5.push l5 K6.2.2 E6 K6.1
  have l6 := Nat.le_trans l5 E6.size
  have B7 := B6.push l6 K7.2.2 E7 K7.1
  have l7 := Nat.le_trans l6 E7.size
  have B8 := B7.push l7 K8.2.2 E8 K8.1
  have l8 := Nat.le_trans l7 E8.size
  have B9 := B8.push l8 K9.2.2 E9 K9.1
  have l9 := Nat.le_trans l8 E9.size
  have R := Hd.mk (ow_of (w := w') (e := 45) [(A1, n + 1, c1, bs ++ fx 1 (v % 256)), (A2, n + 2, c2, bs ++ fx 2 (v % 65536)), (A3, n + 4, c3, bs ++ fx 4 (v % 4294967296)), (A4, n + 8, c4, bs ++ fx 8 v), (A5, n + 2, c5, bs ++ fx 2 (v % 65536)), (A6, n + (uv v).length, c6, bs ++ uv v), (A7, n + (uv zn).length, c7, bs ++ uv zn), (A8, n + (uv m).length + m, c8, bs ++ uv m ++ ps), (A9, n + (uv k).length + (tx ts).length, c9, bs ++ uv k ++ tx ts)] B9 l9 (by
    intro x hx
    simp only [List.mem_cons, List.not_mem_nil, or_false] at hx
    rcases hx with rfl | rfl | rfl | rfl | rfl | rfl | rfl | rfl | rfl
    · exact K1.2.1
    · exact K2.2.1
    · exact K3.2.1
    · exact K4.2.1
    · exact K5.2.1
    · exact K6.2.1
    · exact K7.2.1
    · exact K8.2.1
    · exact K9.2.1) (by simp [maxLen]) rfl)
  clear hfin s1_ HB0 hlo B1 l1 B2 l2 B3 l3 B4 l4 B5 l5 B6 l6 B7 l7 B8 l8 B9 l9
  go_wp2_with fail
  go_ret
  exact ⟨w'.heap.size, rfl, _, R.out, HF.out⟩
end Go.Proofs.Ytjkenhkoakaaoaa
