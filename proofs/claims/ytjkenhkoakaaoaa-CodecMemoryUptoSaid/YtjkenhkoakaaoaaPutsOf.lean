/- Contracts of the laws' putsOf and wantPuts. (Printed by tools/ofgen.py.) -/
import Derived.Test.YtjkenhkoakaaoaaPutsL
import Derived.Deep.RegionHeld3
namespace Go.Proofs.Ytjkenhkoakaaoaa
open Go.RowKit
set_option linter.unusedVariables false
/-- What the nine Puts write. -/
def wants (bs : List Nat) (v zn : Nat) (m : Nat) (ps : List Nat) (k : Nat) (ts : List ByteArray) : List (List Nat) :=
  [bs ++ fx 1 (v % 256), bs ++ fx 2 (v % 65536), bs ++ fx 4 (v % 4294967296), bs ++ fx 8 v, bs ++ fx 2 (v % 65536), bs ++ uv v, bs ++ uv zn, bs ++ uv m ++ ps, bs ++ uv k ++ tx ts]
/-- What a region over the nine Puts leans on. -/
structure HS (w0 : World) (B : Nat) (A : Option Addr) (n : Nat) (bs : List Nat) (Ap : Option Addr) (m : Nat) (ps : List Nat) (At : Option Addr) (k : Nat) (ts : List ByteArray) (w : World) : Prop where
  rb : Rd w B A n (cb bs)
  rp : Rd w B Ap m (cb ps)
  rt : Rd w B At k (cs ts)
  le : B ≤ w.heap.size
  bel : Below w0.heap.size w0 w
  lo : w0.heap.size ≤ B
section
variable {w0 w w' : World} {B n m k : Nat} {A Ap At : Option Addr} {bs ps : List Nat} {ts : List ByteArray}
theorem HS.step (h : HS w0 B A n bs Ap m ps At k ts w) (b : Below w.heap.size w w') : HS w0 B A n bs Ap m ps At k ts w' :=
  have b2 := b.mono h.le
  ⟨h.rb.below b2, h.rp.below b2, h.rt.below b2, Nat.le_trans h.le b.size, h.bel.trans (b.mono h.bel.size), h.lo⟩
theorem keepH {g : Nat} {u v : Value} (b : Below w.heap.size w w') (h : w.cell? ⟨g, 1, none⟩ = some u ∧ w.cell? ⟨g, 2, none⟩ = some v ∧ g < w.heap.size ∧ HS w0 B A n bs Ap m ps At k ts w) :
    w'.cell? ⟨g, 1, none⟩ = some u ∧ w'.cell? ⟨g, 2, none⟩ = some v ∧ g < w'.heap.size ∧ HS w0 B A n bs Ap m ps At k ts w' :=
  ⟨(b.cell (p := ⟨g, 1, none⟩) h.2.2.1).trans h.1, (b.cell (p := ⟨g, 2, none⟩) h.2.2.1).trans h.2.1, Nat.lt_of_lt_of_le h.2.2.1 b.size, h.2.2.2.step b⟩
end
/-- A result that stays: from w on it reads so. -/
structure Kp (w : World) (A : Option Addr) (n : Nat) (xs : List Nat) : Prop where
  rd : Rd w w.heap.size A n (cb xs)
  ln : xs.length = n
  lt : ∀ x ∈ xs, x < 256
theorem Kp.step {w w' : World} {A : Option Addr} {n : Nat} {xs : List Nat} (h : Kp w A n xs) (b : Below w.heap.size w w') : Kp w' A n xs := ⟨(h.rd.below b).more b.size, h.ln, h.lt⟩
theorem uv_lt (v : Nat) (hv : v < 2 ^ 64) : ∀ x ∈ uv v, x < 256 := by
  have : ∀ k v, v < 2 ^ (7 * k + 1) → ∀ x ∈ uvf k v, x < 256 := fun k => by
    induction k with
    | zero => intro v hv x hx; simp only [uvf, List.mem_singleton] at hx; omega
    | succ k ih =>
      intro v hv x hx
      unfold uvf at hx
      split at hx
      · rw [List.mem_singleton] at hx; omega
      · rcases List.mem_cons.1 hx with h | h
        · omega
        · exact ih _ (pow_step k v hv) x h
  exact this 9 v hv
theorem app_lt {a b : List Nat} (ha : ∀ x ∈ a, x < 256) (hb : ∀ x ∈ b, x < 256) : ∀ x ∈ a ++ b, x < 256 := fun x hx => (List.mem_append.1 hx).elim (ha x) (hb x)
theorem tx_lt (ts : List ByteArray) (h : ∀ t ∈ ts, t.size < 2 ^ 64) : ∀ x ∈ tx ts, x < 256 := by
  intro x hx
  obtain ⟨t, ht, hx⟩ := List.mem_flatMap.1 hx
  exact app_lt (uv_lt _ (h t ht)) (sb_lt t) x hx
theorem kp_of {w w' : World} {n : Nat} {v : Value} {xs : List Nat} (h : Onto w w' w.heap.size 5 (.slice none 0 0) v n (cb xs)) (hx : ∀ x ∈ xs, x < 256) : ∃ A c, v = .slice A n c ∧ Kp w' A n xs ∧ Below w.heap.size w w' := by
  obtain ⟨A, c, rfl, _, _⟩ := own_form h.own
  exact ⟨A, c, rfl, ⟨Rd.of_own h.own, by have := h.own.1; rw [cb_length] at this; omega, hx⟩, h.below (fun k h => by cases h) (Nat.le_refl _)⟩
theorem rws_of {w : World} {e : TypeId} (l : List (Option Addr × Nat × Nat × List Nat)) (h : ∀ x ∈ l, Kp w x.1 x.2.1 x.2.2.2) :
    Rws (w.alloc (.cells (l.map fun x => Value.slice x.1 x.2.1 x.2.2.1).toArray e)) (some ⟨w.heap.size, 0, none⟩) l.length (l.map fun x => x.2.2.2) := by
  refine ⟨by simp, fun r hr => ?_⟩
  have hm := h l[r] (List.getElem_mem hr)
  have hg : (l.map fun x => x.2.2.2).getD r [] = l[r].2.2.2 := by rw [List.getD_eq_getElem?_getD, List.getElem?_map, List.getElem?_eq_getElem hr]; rfl
  refine ⟨w.heap.size, 0, l[r].1, l[r].2.2.1, rfl, by simp, ?_, ?_, ?_⟩
  · rw [cell_of_row _ _ (0 + r) _ _ (0, 0) (heap_alloc_new w _), hg, hm.ln]
    simp [hr]
  · rw [hg, hm.ln]; exact (hm.rd.alloc (Nat.le_refl _) _).more (by simp)
  · rw [hg]; exact hm.lt
set_option maxRecDepth 20000 in
set_option maxHeartbeats 4000000 in
theorem putsOf_any (w : World) (A Ap At : Option Addr) (n c m cp k ct B v zn : Nat) (sv : Int) (xb xp xt : Value) (bs ps : List Nat) (ts : List ByteArray) (hb : Rd w B A n (cb bs)) (hp : Rd w B Ap m (cb ps)) (ht : Rd w B At k (cs ts)) (hB : B ≤ w.heap.size) (lb : ∀ x ∈ bs, x < 256) (lp : ∀ x ∈ ps, x < 256) (lt : ∀ t ∈ ts, t.size < 2 ^ 64) (hv : v < 2 ^ 64) (hz : zn < 2 ^ 64) (s1 : -9223372036854775808 ≤ sv) (s2 : sv ≤ 9223372036854775807) (hzn : zig sv = (zn : Int)) (hbig : n + 40 + m + (tx ts).length ≤ 70368744177664) (hk : k ≤ 4398046511104) :
    Calls Try.prog 31 #[.slice A n c, .agg #[xb, .int .u64 (v : Int), .int .i64 sv, xp, xt], .slice Ap m cp, .slice At k ct] w fun e w' => ∃ g, e = .returned (.slice (some ⟨g, 0, none⟩) 9 9) ∧ Rws w' (some ⟨g, 0, none⟩) 9 (wants bs v zn m ps k ts) ∧ Below w.heap.size w w' := by
  have HX : Hd (v < 2 ^ 64 ∧ zn < 2 ^ 64 ∧ (∀ x ∈ bs, x < 256) ∧ (∀ x ∈ ps, x < 256) ∧ (∀ t ∈ ts, t.size < 2 ^ 64) ∧ n + 10 ≤ 140737488355328 ∧ n + 10 + m ≤ 140737488355328 ∧ n + 20 + (tx ts).length ≤ 140737488355000 ∧ k ≤ 140737488355000 ∧ n + 10 + (tx ts).length ≤ 140737488355000 ∧ m < 2 ^ 64 ∧ k < 2 ^ 64) := ⟨hv, hz, lb, lp, lt, by omega, by omega, by omega, by omega, by omega, by omega, by omega⟩
  have HZ : Hd (zig sv = (zn : Int)) := ⟨hzn⟩
  obtain ⟨V, hV⟩ : ∃ V : Int, (v : Int) = V := ⟨_, rfl⟩
  have HW : Hd (IntKind.u8.wrap V = ((v % 256 : Nat) : Int) ∧ IntKind.u16.wrap V = ((v % 65536 : Nat) : Int) ∧ IntKind.u32.wrap V = ((v % 4294967296 : Nat) : Int) ∧ V = (v : Int) ∧ V.tmod 256 = ((v % 256 : Nat) : Int) ∧ V.tmod 65536 = ((v % 65536 : Nat) : Int) ∧ V.tmod 4294967296 = ((v % 4294967296 : Nat) : Int)) :=
    ⟨by rw [← hV, IntKind.wrap_u8]; omega, by rw [← hV, IntKind.wrap_u16]; omega, by rw [← hV, IntKind.wrap_u32']; omega, hV.symm, by rw [← hV, Int.tmod_eq_emod_of_nonneg (by omega)]; omega, by rw [← hV, Int.tmod_eq_emod_of_nonneg (by omega)]; omega, by rw [← hV, Int.tmod_eq_emod_of_nonneg (by omega)]; omega⟩
  have hV0 : 0 ≤ V := by omega
  rw [hV]
  have HR : Hd (HS w w.heap.size A n bs Ap m ps At k ts (w.alloc (.cells #[xb, .int .u64 V, .int .i64 sv, xp, xt] 51))) :=
    ⟨(hb.more hB).alloc (Nat.le_refl _) _, (hp.more hB).alloc (Nat.le_refl _) _, (ht.more hB).alloc (Nat.le_refl _) _, by simp, (Below.refl _ w).alloc (Nat.le_refl _) _, Nat.le_refl _⟩
  clear hb hp ht hB lb lp lt hv hz hzn hbig hk hV
  go_enter Try.func31, Try.ntmps31
  go_wp2_with fail
  have C1 : (w.alloc (.cells #[xb, .int .u64 V, .int .i64 sv, xp, xt] 51)).cell? ⟨w.heap.size, 1, none⟩ = some (.int .u64 V) := by rw [cell_of_row _ _ 1 _ _ (0, 0) (heap_alloc_new w _)]; rfl
  have C2 : (w.alloc (.cells #[xb, .int .u64 V, .int .i64 sv, xp, xt] 51)).cell? ⟨w.heap.size, 2, none⟩ = some (.int .i64 sv) := by rw [cell_of_row _ _ 2 _ _ (0, 0) (heap_alloc_new w _)]; rfl
  have C3 : w.heap.size < (w.alloc (.cells #[xb, .int .u64 V, .int .i64 sv, xp, xt] 51)).heap.size := by simp
  obtain ⟨W1, hW1⟩ : ∃ W1, w.alloc (.cells #[xb, .int .u64 V, .int .i64 sv, xp, xt] 51) = W1 := ⟨_, rfl⟩
  rw [hW1] at HR C1 C2 C3 ⊢
  clear hW1
  have HC : Hd (W1.cell? ⟨w.heap.size, 1, none⟩ = some (.int .u64 V) ∧ W1.cell? ⟨w.heap.size, 2, none⟩ = some (.int .i64 sv) ∧ w.heap.size < W1.heap.size) := ⟨C1, C2, C3⟩
  have HD : Hd (HS w w.heap.size A n bs Ap m ps At k ts W1.drew) := ⟨HR.out.step (Below.refl _ _).drew⟩
  clear C1 C2 C3
  go_wp2_with fail
  have T1 : Hd True := ⟨trivial⟩
  have T2 : Hd True := ⟨trivial⟩
  have T3 : Hd True := ⟨trivial⟩
  have T4 : Hd True := ⟨trivial⟩
  have T5 : Hd True := ⟨trivial⟩
  have T6 : Hd True := ⟨trivial⟩
  have T7 : Hd True := ⟨trivial⟩
  have T8 : Hd True := ⟨trivial⟩
  have T9 : Hd True := ⟨trivial⟩
  go_region_held3 (fun w' => w'.cell? ⟨w.heap.size, 1, none⟩ = some (.int .u64 V) ∧ w'.cell? ⟨w.heap.size, 2, none⟩ = some (.int .i64 sv) ∧ w.heap.size < w'.heap.size ∧ HS w w.heap.size A n bs Ap m ps At k ts w')
    (first | assumption | (exact keepH hb (by assumption)) | (exact ⟨HC.out.1, HC.out.2.1, HC.out.2.2, HD.out⟩) | (exact keepH ((Below.refl _ _).alloc (Nat.le_refl _) _) (by assumption)))
    (first
      | (go_at_call 69; clear T1; (try rw [HW.out.1]); go_loud (refine (put_uint8 _ A n c w.heap.size (v % 256) bs (by assumption : _ ∧ _ ∧ _ ∧ HS w w.heap.size A n bs Ap m ps At k ts _).2.2.2.rb (by first | exact Nat.mod_lt _ (by decide) | exact HX.out.1) HX.out.2.2.2.2.2.1 (by assumption : _ ∧ _ ∧ _ ∧ HS w w.heap.size A n bs Ap m ps At k ts _).2.2.2.le).mono ?_); rintro e w' ⟨v', rfl, hO⟩; obtain ⟨A1, c1, rfl, K1, hb⟩ := kp_of hO (app_lt HX.out.2.2.1 (fx_lt _ _)); have E1 := hb; clear hO)
      | (go_at_call 70; clear T2; (try rw [HW.out.2.1]); go_loud (refine (put_uint16 _ A n c w.heap.size (v % 65536) bs (by assumption : _ ∧ _ ∧ _ ∧ HS w w.heap.size A n bs Ap m ps At k ts _).2.2.2.rb (by first | exact Nat.mod_lt _ (by decide) | exact HX.out.1) HX.out.2.2.2.2.2.1 (by assumption : _ ∧ _ ∧ _ ∧ HS w w.heap.size A n bs Ap m ps At k ts _).2.2.2.le).mono ?_); rintro e w' ⟨v', rfl, hO⟩; obtain ⟨A2, c2, rfl, K2, hb⟩ := kp_of hO (app_lt HX.out.2.2.1 (fx_lt _ _)); have E2 := hb; clear hO)
      | (go_at_call 71; clear T3; (try rw [HW.out.2.2.1]); go_loud (refine (put_uint32 _ A n c w.heap.size (v % 4294967296) bs (by assumption : _ ∧ _ ∧ _ ∧ HS w w.heap.size A n bs Ap m ps At k ts _).2.2.2.rb (by first | exact Nat.mod_lt _ (by decide) | exact HX.out.1) HX.out.2.2.2.2.2.1 (by assumption : _ ∧ _ ∧ _ ∧ HS w w.heap.size A n bs Ap m ps At k ts _).2.2.2.le).mono ?_); rintro e w' ⟨v', rfl, hO⟩; obtain ⟨A3, c3, rfl, K3, hb⟩ := kp_of hO (app_lt HX.out.2.2.1 (fx_lt _ _)); have E3 := hb; clear hO)
      | (go_at_call 72; clear T4; (try rw [HW.out.2.2.2.1]); go_loud (refine (put_uint64 _ A n c w.heap.size (v) bs (by assumption : _ ∧ _ ∧ _ ∧ HS w w.heap.size A n bs Ap m ps At k ts _).2.2.2.rb (by first | exact Nat.mod_lt _ (by decide) | exact HX.out.1) HX.out.2.2.2.2.2.1 (by assumption : _ ∧ _ ∧ _ ∧ HS w w.heap.size A n bs Ap m ps At k ts _).2.2.2.le).mono ?_); rintro e w' ⟨v', rfl, hO⟩; obtain ⟨A4, c4, rfl, K4, hb⟩ := kp_of hO (app_lt HX.out.2.2.1 (fx_lt _ _)); have E4 := hb; clear hO)
      | (go_at_call 73; clear T5; (try rw [HW.out.2.1]); go_loud (refine (put_tall _ A n c w.heap.size (v % 65536) bs (by assumption : _ ∧ _ ∧ _ ∧ HS w w.heap.size A n bs Ap m ps At k ts _).2.2.2.rb (by first | exact Nat.mod_lt _ (by decide) | exact HX.out.1) HX.out.2.2.2.2.2.1 (by assumption : _ ∧ _ ∧ _ ∧ HS w w.heap.size A n bs Ap m ps At k ts _).2.2.2.le).mono ?_); rintro e w' ⟨v', rfl, hO⟩; obtain ⟨A5, c5, rfl, K5, hb⟩ := kp_of hO (app_lt HX.out.2.2.1 (fx_lt _ _)); have E5 := hb; clear hO)
      | (go_at_call 26; clear T6; (try rw [HW.out.2.2.2.1]); go_loud (refine (putUvarint_any _ A n c w.heap.size v bs (by assumption : _ ∧ _ ∧ _ ∧ HS w w.heap.size A n bs Ap m ps At k ts _).2.2.2.rb HX.out.1 HX.out.2.2.2.2.2.1 (by assumption : _ ∧ _ ∧ _ ∧ HS w w.heap.size A n bs Ap m ps At k ts _).2.2.2.le).mono ?_); rintro e w' ⟨v', rfl, hO⟩; obtain ⟨A6, c6, rfl, K6, hb⟩ := kp_of hO (app_lt HX.out.2.2.1 (uv_lt _ HX.out.1)); have E6 := hb; clear hO)
      | (go_at_call 74; clear T7; go_loud (refine (putVarint_any _ A n c w.heap.size zn sv bs (by assumption : _ ∧ _ ∧ _ ∧ HS w w.heap.size A n bs Ap m ps At k ts _).2.2.2.rb s1 s2 HX.out.2.2.2.2.2.1 (by assumption : _ ∧ _ ∧ _ ∧ HS w w.heap.size A n bs Ap m ps At k ts _).2.2.2.le HZ.out HX.out.2.1).mono ?_); rintro e w' ⟨v', rfl, hO⟩; obtain ⟨A7, c7, rfl, K7, hb⟩ := kp_of hO (app_lt HX.out.2.2.1 (uv_lt _ HX.out.2.1)); have E7 := hb; clear hO)
      | (go_at_call 47; clear T8; go_loud (refine (putBytes_any _ A Ap n c m cp w.heap.size bs ps (by assumption : _ ∧ _ ∧ _ ∧ HS w w.heap.size A n bs Ap m ps At k ts _).2.2.2.rb (by assumption : _ ∧ _ ∧ _ ∧ HS w w.heap.size A n bs Ap m ps At k ts _).2.2.2.rp HX.out.2.2.2.2.2.2.1 (by assumption : _ ∧ _ ∧ _ ∧ HS w w.heap.size A n bs Ap m ps At k ts _).2.2.2.le).mono ?_); rintro e w' ⟨v', rfl, hO⟩; obtain ⟨A8, c8, rfl, K8, hb⟩ := kp_of hO (app_lt (app_lt HX.out.2.2.1 (uv_lt _ HX.out.2.2.2.2.2.2.2.2.2.2.1)) HX.out.2.2.2.1); have E8 := hb; clear hO)
      | (go_at_call 46; clear T9; go_loud (refine (putTexts_any _ A At n c k ct w.heap.size bs ts (by assumption : _ ∧ _ ∧ _ ∧ HS w w.heap.size A n bs Ap m ps At k ts _).2.2.2.rb (by assumption : _ ∧ _ ∧ _ ∧ HS w w.heap.size A n bs Ap m ps At k ts _).2.2.2.rt HX.out.2.2.2.2.2.2.2.2.2.1 HX.out.2.2.2.2.2.2.2.2.1 (by assumption : _ ∧ _ ∧ _ ∧ HS w w.heap.size A n bs Ap m ps At k ts _).2.2.2.le).mono ?_); rintro e w' ⟨v', rfl, hO⟩; obtain ⟨A9, c9, rfl, K9, hb⟩ := kp_of hO (app_lt (app_lt HX.out.2.2.1 (uv_lt _ HX.out.2.2.2.2.2.2.2.2.2.2.2)) (tx_lt ts HX.out.2.2.2.2.1)); have E9 := hb; clear hO))
  obtain ⟨_, _, _, hfin⟩ : _ ∧ _ ∧ _ ∧ HS w w.heap.size A n bs Ap m ps At k ts _ := by assumption
  have HF := Hd.mk hfin.bel
  have R := Hd.mk (rws_of (w := w') (e := 45) [(A1, n + 1, c1, bs ++ fx 1 (v % 256)), (A2, n + 2, c2, bs ++ fx 2 (v % 65536)), (A3, n + 4, c3, bs ++ fx 4 (v % 4294967296)), (A4, n + 8, c4, bs ++ fx 8 v), (A5, n + 2, c5, bs ++ fx 2 (v % 65536)), (A6, n + (uv v).length, c6, bs ++ uv v), (A7, n + (uv zn).length, c7, bs ++ uv zn), (A8, n + (uv m).length + m, c8, bs ++ uv m ++ ps), (A9, n + (uv k).length + (tx ts).length, c9, bs ++ uv k ++ tx ts)] (by
    intro x hx
    simp only [List.mem_cons, List.not_mem_nil, or_false] at hx
    rcases hx with rfl | rfl | rfl | rfl | rfl | rfl | rfl | rfl | rfl
    · exact ((((((((K1).step E2).step E3).step E4).step E5).step E6).step E7).step E8).step E9
    · exact (((((((K2).step E3).step E4).step E5).step E6).step E7).step E8).step E9
    · exact ((((((K3).step E4).step E5).step E6).step E7).step E8).step E9
    · exact (((((K4).step E5).step E6).step E7).step E8).step E9
    · exact ((((K5).step E6).step E7).step E8).step E9
    · exact (((K6).step E7).step E8).step E9
    · exact ((K7).step E8).step E9
    · exact (K8).step E9
    · exact K9))
  clear hfin
  go_wp2_with fail
  go_ret
  exact ⟨w'.heap.size, rfl, R.out, HF.out⟩
set_option maxRecDepth 20000 in
set_option maxHeartbeats 4000000 in
theorem wantPuts_any (w : World) (A Ap At : Option Addr) (n c m cp k ct B v zn : Nat) (sv : Int) (xb xp xt : Value) (bs ps : List Nat) (ts : List ByteArray) (hb : Rd w B A n (cb bs)) (hp : Rd w B Ap m (cb ps)) (ht : Rd w B At k (cs ts)) (hB : B ≤ w.heap.size) (lb : ∀ x ∈ bs, x < 256) (lp : ∀ x ∈ ps, x < 256) (lt : ∀ t ∈ ts, t.size < 2 ^ 64) (hv : v < 2 ^ 64) (hz : zn < 2 ^ 64) (s1 : -9223372036854775808 ≤ sv) (s2 : sv ≤ 9223372036854775807) (hzn : zig sv = (zn : Int)) (hbig : n + 40 + m + (tx ts).length ≤ 70368744177664) (hk : k ≤ 4398046511104) :
    Calls Try.prog 29 #[.slice A n c, .agg #[xb, .int .u64 (v : Int), .int .i64 sv, xp, xt], .slice Ap m cp, .slice At k ct] w fun e w' => ∃ g, e = .returned (.slice (some ⟨g, 0, none⟩) 9 9) ∧ Rws w' (some ⟨g, 0, none⟩) 9 (wants bs v zn m ps k ts) ∧ Below w.heap.size w w' := by
  have HX : Hd (v < 2 ^ 64 ∧ zn < 2 ^ 64 ∧ (∀ x ∈ bs, x < 256) ∧ (∀ x ∈ ps, x < 256) ∧ (∀ t ∈ ts, t.size < 2 ^ 64) ∧ n + 10 ≤ 140737488355328 ∧ n + 10 + m ≤ 140737488355328 ∧ n + 20 + (tx ts).length ≤ 140737488355000 ∧ k ≤ 140737488355000 ∧ n + 10 + (tx ts).length ≤ 140737488355000 ∧ m < 2 ^ 64 ∧ k < 2 ^ 64) := ⟨hv, hz, lb, lp, lt, by omega, by omega, by omega, by omega, by omega, by omega, by omega⟩
  have HZ : Hd (zig sv = (zn : Int)) := ⟨hzn⟩
  obtain ⟨V, hV⟩ : ∃ V : Int, (v : Int) = V := ⟨_, rfl⟩
  have HW : Hd (IntKind.u8.wrap V = ((v % 256 : Nat) : Int) ∧ IntKind.u16.wrap V = ((v % 65536 : Nat) : Int) ∧ IntKind.u32.wrap V = ((v % 4294967296 : Nat) : Int) ∧ V = (v : Int) ∧ V.tmod 256 = ((v % 256 : Nat) : Int) ∧ V.tmod 65536 = ((v % 65536 : Nat) : Int) ∧ V.tmod 4294967296 = ((v % 4294967296 : Nat) : Int)) :=
    ⟨by rw [← hV, IntKind.wrap_u8]; omega, by rw [← hV, IntKind.wrap_u16]; omega, by rw [← hV, IntKind.wrap_u32']; omega, hV.symm, by rw [← hV, Int.tmod_eq_emod_of_nonneg (by omega)]; omega, by rw [← hV, Int.tmod_eq_emod_of_nonneg (by omega)]; omega, by rw [← hV, Int.tmod_eq_emod_of_nonneg (by omega)]; omega⟩
  have hV0 : 0 ≤ V := by omega
  rw [hV]
  have HR : Hd (HS w w.heap.size A n bs Ap m ps At k ts (w.alloc (.cells #[xb, .int .u64 V, .int .i64 sv, xp, xt] 51))) :=
    ⟨(hb.more hB).alloc (Nat.le_refl _) _, (hp.more hB).alloc (Nat.le_refl _) _, (ht.more hB).alloc (Nat.le_refl _) _, by simp, (Below.refl _ w).alloc (Nat.le_refl _) _, Nat.le_refl _⟩
  clear hb hp ht hB lb lp lt hv hz hzn hbig hk hV
  go_enter Try.func29, Try.ntmps29
  go_wp2_with fail
  have C1 : (w.alloc (.cells #[xb, .int .u64 V, .int .i64 sv, xp, xt] 51)).cell? ⟨w.heap.size, 1, none⟩ = some (.int .u64 V) := by rw [cell_of_row _ _ 1 _ _ (0, 0) (heap_alloc_new w _)]; rfl
  have C2 : (w.alloc (.cells #[xb, .int .u64 V, .int .i64 sv, xp, xt] 51)).cell? ⟨w.heap.size, 2, none⟩ = some (.int .i64 sv) := by rw [cell_of_row _ _ 2 _ _ (0, 0) (heap_alloc_new w _)]; rfl
  have C3 : w.heap.size < (w.alloc (.cells #[xb, .int .u64 V, .int .i64 sv, xp, xt] 51)).heap.size := by simp
  obtain ⟨W1, hW1⟩ : ∃ W1, w.alloc (.cells #[xb, .int .u64 V, .int .i64 sv, xp, xt] 51) = W1 := ⟨_, rfl⟩
  rw [hW1] at HR C1 C2 C3 ⊢
  clear hW1
  have HC : Hd (W1.cell? ⟨w.heap.size, 1, none⟩ = some (.int .u64 V) ∧ W1.cell? ⟨w.heap.size, 2, none⟩ = some (.int .i64 sv) ∧ w.heap.size < W1.heap.size) := ⟨C1, C2, C3⟩
  have HD : Hd (HS w w.heap.size A n bs Ap m ps At k ts W1.drew) := ⟨HR.out.step (Below.refl _ _).drew⟩
  clear C1 C2 C3
  go_wp2_with fail
  have T1 : Hd True := ⟨trivial⟩
  have T2 : Hd True := ⟨trivial⟩
  have T3 : Hd True := ⟨trivial⟩
  have T4 : Hd True := ⟨trivial⟩
  have T5 : Hd True := ⟨trivial⟩
  have T6 : Hd True := ⟨trivial⟩
  have T7 : Hd True := ⟨trivial⟩
  have T8 : Hd True := ⟨trivial⟩
  have T9 : Hd True := ⟨trivial⟩
  have T10 : Hd True := ⟨trivial⟩
  go_region_held3 (fun w' => w'.cell? ⟨w.heap.size, 1, none⟩ = some (.int .u64 V) ∧ w'.cell? ⟨w.heap.size, 2, none⟩ = some (.int .i64 sv) ∧ w.heap.size < w'.heap.size ∧ HS w w.heap.size A n bs Ap m ps At k ts w')
    (first | assumption | (exact keepH hb (by assumption)) | (exact ⟨HC.out.1, HC.out.2.1, HC.out.2.2, HD.out⟩) | (exact keepH ((Below.refl _ _).alloc (Nat.le_refl _) _) (by assumption)))
    (first
      | (go_at_call 65; clear T1; (try rw [HW.out.2.2.2.2.1]); go_loud (refine (refFixed_any _ A n c w.heap.size (v % 256) 1 bs (by assumption : _ ∧ _ ∧ _ ∧ HS w w.heap.size A n bs Ap m ps At k ts _).2.2.2.rb (by first | exact Nat.lt_of_lt_of_le (Nat.mod_lt _ (by decide)) (by decide) | exact HX.out.1) HX.out.2.2.2.2.2.1 (by decide) (by assumption : _ ∧ _ ∧ _ ∧ HS w w.heap.size A n bs Ap m ps At k ts _).2.2.2.le).mono ?_); rintro e w' ⟨v', rfl, hO⟩; obtain ⟨A1, c1, rfl, K1, hb⟩ := kp_of hO (app_lt HX.out.2.2.1 (fx_lt _ _)); have E1 := hb; clear hO)
      | (go_at_call 65; clear T2; (try rw [HW.out.2.2.2.2.2.1]); go_loud (refine (refFixed_any _ A n c w.heap.size (v % 65536) 2 bs (by assumption : _ ∧ _ ∧ _ ∧ HS w w.heap.size A n bs Ap m ps At k ts _).2.2.2.rb (by first | exact Nat.lt_of_lt_of_le (Nat.mod_lt _ (by decide)) (by decide) | exact HX.out.1) HX.out.2.2.2.2.2.1 (by decide) (by assumption : _ ∧ _ ∧ _ ∧ HS w w.heap.size A n bs Ap m ps At k ts _).2.2.2.le).mono ?_); rintro e w' ⟨v', rfl, hO⟩; obtain ⟨A2, c2, rfl, K2, hb⟩ := kp_of hO (app_lt HX.out.2.2.1 (fx_lt _ _)); have E2 := hb; clear hO)
      | (go_at_call 65; clear T3; (try rw [HW.out.2.2.2.2.2.2]); go_loud (refine (refFixed_any _ A n c w.heap.size (v % 4294967296) 4 bs (by assumption : _ ∧ _ ∧ _ ∧ HS w w.heap.size A n bs Ap m ps At k ts _).2.2.2.rb (by first | exact Nat.lt_of_lt_of_le (Nat.mod_lt _ (by decide)) (by decide) | exact HX.out.1) HX.out.2.2.2.2.2.1 (by decide) (by assumption : _ ∧ _ ∧ _ ∧ HS w w.heap.size A n bs Ap m ps At k ts _).2.2.2.le).mono ?_); rintro e w' ⟨v', rfl, hO⟩; obtain ⟨A3, c3, rfl, K3, hb⟩ := kp_of hO (app_lt HX.out.2.2.1 (fx_lt _ _)); have E3 := hb; clear hO)
      | (go_at_call 65; clear T4; (try rw [HW.out.2.2.2.1]); go_loud (refine (refFixed_any _ A n c w.heap.size (v) 8 bs (by assumption : _ ∧ _ ∧ _ ∧ HS w w.heap.size A n bs Ap m ps At k ts _).2.2.2.rb (by first | exact Nat.lt_of_lt_of_le (Nat.mod_lt _ (by decide)) (by decide) | exact HX.out.1) HX.out.2.2.2.2.2.1 (by decide) (by assumption : _ ∧ _ ∧ _ ∧ HS w w.heap.size A n bs Ap m ps At k ts _).2.2.2.le).mono ?_); rintro e w' ⟨v', rfl, hO⟩; obtain ⟨A4, c4, rfl, K4, hb⟩ := kp_of hO (app_lt HX.out.2.2.1 (fx_lt _ _)); have E4 := hb; clear hO)
      | (go_at_call 65; clear T5; (try rw [HW.out.2.2.2.2.2.1]); go_loud (refine (refFixed_any _ A n c w.heap.size (v % 65536) 2 bs (by assumption : _ ∧ _ ∧ _ ∧ HS w w.heap.size A n bs Ap m ps At k ts _).2.2.2.rb (by first | exact Nat.lt_of_lt_of_le (Nat.mod_lt _ (by decide)) (by decide) | exact HX.out.1) HX.out.2.2.2.2.2.1 (by decide) (by assumption : _ ∧ _ ∧ _ ∧ HS w w.heap.size A n bs Ap m ps At k ts _).2.2.2.le).mono ?_); rintro e w' ⟨v', rfl, hO⟩; obtain ⟨A5, c5, rfl, K5, hb⟩ := kp_of hO (app_lt HX.out.2.2.1 (fx_lt _ _)); have E5 := hb; clear hO)
      | (go_at_call 66; clear T6; (try rw [HW.out.2.2.2.1]); go_loud (refine (refPutUvarint_any _ A n c w.heap.size v bs (by assumption : _ ∧ _ ∧ _ ∧ HS w w.heap.size A n bs Ap m ps At k ts _).2.2.2.rb HX.out.1 HX.out.2.2.2.2.2.1 (by assumption : _ ∧ _ ∧ _ ∧ HS w w.heap.size A n bs Ap m ps At k ts _).2.2.2.le).mono ?_); rintro e w' ⟨v', rfl, hO⟩; obtain ⟨A6, c6, rfl, K6, hb⟩ := kp_of hO (app_lt HX.out.2.2.1 (uv_lt _ HX.out.1)); have E6 := hb; clear hO)
      | (go_at_call 14; clear T7; refine (fold_any _ sv s1 s2).mono ?_; rw [HZ.out]; rintro e w' ⟨rfl, rfl⟩)
      | (go_at_call 66; clear T8; go_loud (refine (refPutUvarint_any _ A n c w.heap.size zn bs (by assumption : _ ∧ _ ∧ _ ∧ HS w w.heap.size A n bs Ap m ps At k ts _).2.2.2.rb HX.out.2.1 HX.out.2.2.2.2.2.1 (by assumption : _ ∧ _ ∧ _ ∧ HS w w.heap.size A n bs Ap m ps At k ts _).2.2.2.le).mono ?_); rintro e w' ⟨v', rfl, hO⟩; obtain ⟨A8, c8, rfl, K8, hb⟩ := kp_of hO (app_lt HX.out.2.2.1 (uv_lt _ HX.out.2.1)); have E8 := hb; clear hO)
      | (go_at_call 67; clear T9; go_loud (refine (refPutBytes_any _ A Ap n c m cp w.heap.size bs ps (by assumption : _ ∧ _ ∧ _ ∧ HS w w.heap.size A n bs Ap m ps At k ts _).2.2.2.rb (by assumption : _ ∧ _ ∧ _ ∧ HS w w.heap.size A n bs Ap m ps At k ts _).2.2.2.rp HX.out.2.2.2.2.2.2.1 (by assumption : _ ∧ _ ∧ _ ∧ HS w w.heap.size A n bs Ap m ps At k ts _).2.2.2.le).mono ?_); rintro e w' ⟨v', rfl, hO⟩; obtain ⟨A9, c9, rfl, K9, hb⟩ := kp_of hO (app_lt (app_lt HX.out.2.2.1 (uv_lt _ HX.out.2.2.2.2.2.2.2.2.2.2.1)) HX.out.2.2.2.1); have E9 := hb; clear hO)
      | (go_at_call 68; clear T10; go_loud (refine (refPutTexts_any _ A At n c k ct w.heap.size bs ts (by assumption : _ ∧ _ ∧ _ ∧ HS w w.heap.size A n bs Ap m ps At k ts _).2.2.2.rb (by assumption : _ ∧ _ ∧ _ ∧ HS w w.heap.size A n bs Ap m ps At k ts _).2.2.2.rt HX.out.2.2.2.2.2.2.2.1 HX.out.2.2.2.2.2.2.2.2.1 (by assumption : _ ∧ _ ∧ _ ∧ HS w w.heap.size A n bs Ap m ps At k ts _).2.2.2.le).mono ?_); rintro e w' ⟨v', rfl, hO⟩; obtain ⟨A10, c10, rfl, K10, hb⟩ := kp_of hO (app_lt (app_lt HX.out.2.2.1 (uv_lt _ HX.out.2.2.2.2.2.2.2.2.2.2.2)) (tx_lt ts HX.out.2.2.2.2.1)); have E10 := hb; clear hO))
  obtain ⟨_, _, _, hfin⟩ : _ ∧ _ ∧ _ ∧ HS w w.heap.size A n bs Ap m ps At k ts _ := by assumption
  have HF := Hd.mk hfin.bel
  have R := Hd.mk (rws_of (w := w') (e := 45) [(A1, n + 1, c1, bs ++ fx 1 (v % 256)), (A2, n + 2, c2, bs ++ fx 2 (v % 65536)), (A3, n + 4, c3, bs ++ fx 4 (v % 4294967296)), (A4, n + 8, c4, bs ++ fx 8 v), (A5, n + 2, c5, bs ++ fx 2 (v % 65536)), (A6, n + (uv v).length, c6, bs ++ uv v), (A8, n + (uv zn).length, c8, bs ++ uv zn), (A9, n + (uv m).length + m, c9, bs ++ uv m ++ ps), (A10, n + (uv k).length + (tx ts).length, c10, bs ++ uv k ++ tx ts)] (by
    intro x hx
    simp only [List.mem_cons, List.not_mem_nil, or_false] at hx
    rcases hx with rfl | rfl | rfl | rfl | rfl | rfl | rfl | rfl | rfl
    · exact ((((((((K1).step E2).step E3).step E4).step E5).step E6).step E8).step E9).step E10
    · exact (((((((K2).step E3).step E4).step E5).step E6).step E8).step E9).step E10
    · exact ((((((K3).step E4).step E5).step E6).step E8).step E9).step E10
    · exact (((((K4).step E5).step E6).step E8).step E9).step E10
    · exact ((((K5).step E6).step E8).step E9).step E10
    · exact (((K6).step E8).step E9).step E10
    · exact ((K8).step E9).step E10
    · exact (K9).step E10
    · exact K10))
  clear hfin
  go_wp2_with fail
  go_ret
  exact ⟨w'.heap.size, rfl, R.out, HF.out⟩
end Go.Proofs.Ytjkenhkoakaaoaa
