/- Contracts of the reference's four, Save, Score, Order. -/
import Derived.Test.YtknpcbekaodlkaaRefLoad
import Derived.Test.YtknpcbekaodlkaaRank
namespace Go.Proofs.Ytknpcbekaodlkaa
open Go.RowKit
set_option linter.unusedVariables false
/-- A board of the reference: its scores. -/
def Vb (w : World) (B h cap : Nat) (ss : List Nat) : Prop := w.ownsRow B 58 1 (.slice (some ⟨h, 0, none⟩) ss.length cap) ss.length (ff ss)
theorem Vb.keep {w w' : World} {B h cap : Nat} {ss : List Nat} (H : Vb w B h cap ss) (b : Below w.heap.size w w') : Vb w' B h cap ss := own_belowH H b
theorem Vb.rd {w : World} {B h cap : Nat} {ss : List Nat} (H : Vb w B h cap ss) : Rd w w.heap.size (some ⟨h, 0, none⟩) ss.length (ff ss) := Rd.of_own H
theorem Vb.cell {w : World} {B h cap : Nat} {ss : List Nat} (H : Vb w B h cap ss) {i : Nat} (hi : i < ss.length) : w.cell? ⟨h, i, none⟩ = some (.float .f32 (ss.getD i 0)) := by
  obtain ⟨g, off, u, e, _, h1, h2⟩ := H.rd.at_ hi
  injection e with e
  injection e with e1 e2
  subst e1 e2
  rw [Nat.zero_add] at h2
  rw [h2, ← h1]; exact ff_get ss i hi
theorem Vb.lt {w : World} {B h cap : Nat} {ss : List Nat} (H : Vb w B h cap ss) (hn : 0 < ss.length) : h < w.heap.size := by
  obtain ⟨g, off, e, hg, _⟩ := H.rd.2 hn
  injection e with e
  injection e with e1 e2
  omega
set_option maxRecDepth 20000 in
set_option maxHeartbeats 1000000 in
theorem four_any (w : World) (x : Nat) (hx : x < 4294967296) :
    Calls Try.prog 66 #[.float .f32 x] w fun e w' => e = .returned (.slice (some ⟨w.heap.size, 0, none⟩) 4 4) ∧ Below w.heap.size w w' ∧ Rd w' (w.heap.size + 1) (some ⟨w.heap.size, 0, none⟩) 4 (cb (fourP x)) ∧ w.heap.size + 1 ≤ w'.heap.size := by
  have hb := fun w => run_f32bits x w
  obtain ⟨X, hX⟩ : ∃ X : Int, (x : Int) = X := ⟨_, rfl⟩
  rw [hX] at hb
  have hx0 : 0 ≤ X := by omega
  have hx1 : X ≤ 4294967295 := by omega
  have HC := Hd.mk (cb_four x X hX hx)
  clear hX hx
  go_enter Try.func66, Try.ntmps66
  go_wp2_with fail
  go_ret
  refine ⟨rfl, (Below.refl _ _).alloc (Nat.le_refl _) _, ?_, by simp⟩
  rw [← HC.out]
  exact rd_lit (w := w) (e := 5) [Value.int .u8 (X % 256), .int .u8 (X / 256 % 256), .int .u8 (X / 65536 % 256), .int .u8 (X / 16777216)]
/-- What stands underway: the board's own box, the row that grows. -/
def Sv (w wr : World) (K h n cap : Nat) (v : Value) (k : Nat) (xs : List Nat) : Prop :=
  wr.heap[w.heap.size]? = some (.cells #[.float .f32 K, .slice (some ⟨h, 0, none⟩) n cap] 64 (0, 0)) ∧ wr.ownsRow (w.heap.size + 1) 5 1 v k (cb xs) ∧ Below w.heap.size w wr ∧ w.heap.size + 1 ≤ wr.heap.size
theorem Sv.keep {w wr w' : World} {K h n cap : Nat} {v : Value} {k : Nat} {xs : List Nat} (H : Sv w wr K h n cap v k xs) (b : Below wr.heap.size wr w') : Sv w w' K h n cap v k xs :=
  ⟨(b.block _ (by have := H.2.2.2; omega)).trans H.1, own_belowH H.2.1 b, H.2.2.1.trans (b.mono H.2.2.1.size), Nat.le_trans H.2.2.2 b.size⟩
theorem Sv.more {w wr w' : World} {K h n cap : Nat} {v v' : Value} {k m : Nat} {xs ys : List Nat} (H : Sv w wr K h n cap v k xs) (O : Onto wr w' (w.heap.size + 1) 5 v v' m (cb ys)) : Sv w w' K h n cap v' m ys :=
  have b := O.below (B := w.heap.size + 1) (fun q hq => (H.2.1.lt q hq).1) H.2.2.2
  ⟨(b.block _ (by omega)).trans H.1, O.own, H.2.2.1.trans (b.mono (by omega)), Nat.le_trans H.2.2.2 b.size⟩
theorem Sv.c0 {w wr : World} {K h n cap : Nat} {v : Value} {k : Nat} {xs : List Nat} (H : Sv w wr K h n cap v k xs) : wr.cell? ⟨w.heap.size, 0, none⟩ = some (.float .f32 K) := by rw [cell_of_row _ _ _ _ _ _ H.1]; rfl
theorem Sv.c1 {w wr : World} {K h n cap : Nat} {v : Value} {k : Nat} {xs : List Nat} (H : Sv w wr K h n cap v k xs) : wr.cell? ⟨w.heap.size, 1, none⟩ = some (.slice (some ⟨h, 0, none⟩) n cap) := by rw [cell_of_row _ _ _ _ _ _ H.1]; rfl
set_option maxRecDepth 20000 in
set_option maxHeartbeats 2000000 in
theorem refsave_any (w : World) (B h cap K : Nat) (ss : List Nat) (H : Vb w B h cap ss) (L : Law K ss) (h1 : 1 ≤ ss.length) (hn2 : ss.length ≤ 255) :
    Calls Try.prog 55 #[.agg #[.float .f32 K, .slice (some ⟨h, 0, none⟩) ss.length cap]] w fun e w' => ∃ A c, e = .returned (.slice A (5 + 4 * ss.length) c) ∧ Below w.heap.size w w' ∧ Rd w' w'.heap.size A (5 + 4 * ss.length) (cb (saveP K ss)) := by
  obtain ⟨n, hn⟩ : ∃ n, ss.length = n := ⟨_, rfl⟩
  have HH : Hd (Vb w B h cap ss ∧ Law K ss ∧ ss.length = n) := ⟨H, L, hn⟩
  have hhs := H.lt (by omega)
  rw [hn] at hn2 h1 ⊢
  have hwr : IntKind.u8.wrap (n : Int) = (n : Int) := by simp [IntKind.wrap, IntKind.bits, IntKind.signed]; omega
  have HK : Hd (K < 4294967296) := ⟨Nat.lt_trans L.k1 one_big⟩
  have HC : Hd ((w.alloc (.cells #[.float .f32 K, .slice (some ⟨h, 0, none⟩) n cap] 64)).heap[w.heap.size]? = some (.cells #[.float .f32 K, .slice (some ⟨h, 0, none⟩) n cap] 64 (0, 0))) := ⟨heap_alloc_new _ _⟩
  clear H L hn
  go_enter Try.func55, Try.ntmps55
  go_wp2_with fail
  have H1 : Hd (Sv w ((w.alloc (.cells #[.float .f32 K, .slice (some ⟨h, 0, none⟩) n cap] 64)).alloc (.cells #[.int .u8 (n : Int)] 5)) K h n cap (.slice (some ⟨w.heap.size + 1, 0, none⟩) 1 1) 1 [n]) := ⟨by
    refine ⟨by rw [Go.Deep.blk_alloc_lt _ _ _ (by simp)]; exact heap_alloc_new _ _, ?_, ((Below.refl _ _).alloc (Nat.le_refl _) _).alloc (by simp) _, by simp⟩
    have := (onto_lit (w := w.alloc (.cells #[.float .f32 K, .slice (some ⟨h, 0, none⟩) n cap] 64)) (e := 5) (cb [n]) (by show 1 ≤ maxLen; unfold maxLen; decide)).own
    rw [World.size_alloc] at this
    exact this⟩
  obtain ⟨w1, hw1⟩ : ∃ w1, (w.alloc (.cells #[.float .f32 K, .slice (some ⟨h, 0, none⟩) n cap] 64)).alloc (.cells #[.int .u8 (n : Int)] 5) = w1 := ⟨_, rfl⟩
  rw [hw1] at H1 ⊢
  clear hw1 HC
  refine (four_any w1 K HK.out).mono ?_
  rintro e w2 ⟨rfl, hb2, hr2, hs2⟩
  have H2 : Hd (Sv w w2 K h n cap (.slice (some ⟨w.heap.size + 1, 0, none⟩) 1 1) 1 [n]) := ⟨H1.out.keep hb2⟩
  have HR2 := Hd.mk hr2
  have h63 : Hd (1 + 4 ≤ maxLen) := ⟨by unfold maxLen; decide⟩
  clear hb2 hr2 H1
  go_wp2_with (refine wpList_app elB rfl (.tmp 10) (.tmp 13) rfl (w.heap.size + 1) (.slice (some ⟨w.heap.size + 1, 0, none⟩) 1 1) 1 (cb [n]) rfl H2.out.2.1 (w1.heap.size + 1) (some ⟨w1.heap.size, 0, none⟩) 4 4 (cb (fourP K)) rfl HR2.out (cb_one _) h63.out (by decide) H2.out.2.2.2 ?_; intro v3 w3 hO3)
  have H3 : Hd (Sv w w3 K h n cap v3 (5 + 4 * 0) ([n] ++ fourP K ++ (ss.take 0).flatMap fourP)) := ⟨by
    refine H2.out.more ?_
    rw [List.take_zero, List.flatMap_nil, List.append_nil, cb_append]
    exact hO3⟩
  clear hO3 H2 HR2 hs2 h63 hwr
  go_loopw [3, 4] (fun s i wr => ∃ k : Nat, k ≤ n ∧ i = .int .i64 (k : Int) ∧ Sv w wr K h n cap s (5 + 4 * k) ([n] ++ fourP K ++ (ss.take k).flatMap fourP)) (fun _ i _ => n - (intOf i).toNat)
  case atStart => exact ⟨0, by omega, rfl, H3.out⟩
  case round =>
    obtain ⟨k, hk, rfl, hO⟩ := hrel
    have H4 := Hd.mk hO
    have c1 := hO.c1
    have hsz := hO.2.2.2
    clear hO H3
    by_cases hlt : k < n
    · have hki : (k : Int) < (n : Int) := by omega
      have hcc := (HH.out.1.keep H4.out.2.2.1).cell (i := k) (by rw [HH.out.2.2]; exact hlt)
      have hx : Hd (ss.getD k 0 < 4294967296) := ⟨Nat.lt_of_le_of_lt (HH.out.2.1.sc _ (getD_mem _ _ (by rw [HH.out.2.2]; exact hlt))) one_big⟩
      go_wp2_with fail
      refine (four_any wr (ss.getD k 0) hx.out).mono ?_
      rintro e w5 ⟨rfl, hb5, hr5, hs5⟩
      have H5 := Hd.mk (And.intro (H4.out.keep hb5) hr5)
      have h63 : Hd (5 + 4 * k + 4 ≤ maxLen) := ⟨by unfold maxLen; omega⟩
      have hby : Hd ((5 + 4 * k + 4) * 1 ≤ 140737488355328) := ⟨by omega⟩
      clear hb5 hr5 H4 hcc c1
      go_wp2_with (refine wpList_app elB rfl (.tmp 22) (.tmp 28) rfl (w.heap.size + 1) u3 (5 + 4 * k) _ rfl H5.out.1.2.1 (wr.heap.size + 1) (some ⟨wr.heap.size, 0, none⟩) 4 4 (cb (fourP (ss.getD k 0))) rfl H5.out.2 (cb_one _) h63.out hby.out H5.out.1.2.2.2 ?_; intro v6 w6 hO6)
      have H6 : Hd (Sv w w6 K h n cap v6 (5 + 4 * (k + 1)) ([n] ++ fourP K ++ (ss.take (k + 1)).flatMap fourP)) := ⟨by
        refine H5.out.1.more ?_
        rw [take_next ss k (by rw [HH.out.2.2]; exact hlt), List.flatMap_append, List.flatMap_cons, List.flatMap_nil, List.append_nil, ← List.append_assoc, cb_append]
        exact hO6⟩
      clear hO6
      go_wp2_with fail
      go_roundw
      case rel => exact ⟨k + 1, by omega, by go_num, H6.out⟩
      case measure => simp [intOf]; omega
    · have hkn : k = n := by omega
      subst hkn
      obtain ⟨A, c, hv, _, _⟩ := own_form H4.out.2.1
      subst hv
      go_wp2_with fail
      go_ret
      refine ⟨A, c, rfl, H4.out.2.2.1, ?_⟩
      have := Rd.of_own H4.out.2.1
      rw [List.take_of_length_le (by rw [HH.out.2.2]; exact Nat.le_refl _)] at this
      unfold saveP
      rw [HH.out.2.2, Nat.mod_eq_of_lt (by omega)]
      exact this
set_option maxRecDepth 20000 in
set_option maxHeartbeats 1000000 in
theorem refscore_in (w : World) (B h cap K : Nat) (ss : List Nat) (H : Vb w B h cap ss) (L : Law K ss) (i : Nat) (hi : i < ss.length) :
    Calls Try.prog 57 #[.agg #[.float .f32 K, .slice (some ⟨h, 0, none⟩) ss.length cap], .int .i64 (i : Int)] w fun e w' => e = .returned (.tuple #[.float .f64 (up (ss.getD i 0)), .int .i64 0]) ∧ Below w.heap.size w w' := by
  have hhs := H.lt (by omega)
  have cs : (w.alloc (.cells #[.float .f32 K, .slice (some ⟨h, 0, none⟩) ss.length cap] 64)).cell? ⟨h, i, none⟩ = some (.float .f32 (ss.getD i 0)) := by
    rw [World.cell?_alloc_lt _ _ _ hhs]; exact H.cell hi
  have h1 : (i : Int) < (ss.length : Int) := by omega
  have e1 := fun w => run_widen (P := Try.prog) w 58 24 (by rw [Try.underlying58]; rfl) Try.underlying24 (Nat.lt_of_le_of_lt (law_get L i) one_inf32)
  have hb : Hd (Below w.heap.size w (w.alloc (.cells #[.float .f32 K, .slice (some ⟨h, 0, none⟩) ss.length cap] 64))) := ⟨(Below.refl _ _).alloc (Nat.le_refl _) _⟩
  clear H L hi
  generalize ss.getD i 0 = s at *
  generalize up s = u at *
  generalize hn : ss.length = n at *
  clear hn
  go_enter Try.func57, Try.ntmps57
  go_wp2
  go_ret2
  exact ⟨rfl, hb.out⟩
set_option maxRecDepth 20000 in
set_option maxHeartbeats 1000000 in
theorem refscore_out (w : World) (n h cap K : Nat) (i : Int) (hi : i < 0 ∨ (n : Int) ≤ i) :
    Calls Try.prog 57 #[.agg #[.float .f32 K, .slice (some ⟨h, 0, none⟩) n cap], .int .i64 i] w fun e w' => e = .returned (.tuple #[.float .f64 0, .int .i64 2]) ∧ Below w.heap.size w w' := by
  have hb : Hd (Below w.heap.size w (w.alloc (.cells #[.float .f32 K, .slice (some ⟨h, 0, none⟩) n cap] 64))) := ⟨(Below.refl _ _).alloc (Nat.le_refl _) _⟩
  rcases hi with hi | hi
  · go_enter Try.func57, Try.ntmps57
    go_wp2
    go_ret2
    exact ⟨rfl, hb.out⟩
  · have h2 : ¬ i < 0 := by omega
    go_enter Try.func57, Try.ntmps57
    go_wp2
    go_ret2
    exact ⟨rfl, hb.out⟩
/-- What stands underway in Order: the board's own box, the row that is filled. -/
def Od (w wr : World) (K h n cap : Nat) (f : Nat → Value) : Prop :=
  wr.heap[w.heap.size]? = some (.cells #[.float .f32 K, .slice (some ⟨h, 0, none⟩) n cap] 64 (0, 0)) ∧ wr.rowIs (w.heap.size + 1) 3 n f ∧ Below w.heap.size w wr
set_option maxRecDepth 20000 in
set_option maxHeartbeats 4000000 in
theorem reforder_any (w : World) (B h cap K : Nat) (ss : List Nat) (H : Vb w B h cap ss) (L : Law K ss) (h1 : 1 ≤ ss.length) (hn2 : ss.length ≤ 255) :
    Calls Try.prog 56 #[.agg #[.float .f32 K, .slice (some ⟨h, 0, none⟩) ss.length cap]] w fun e w' => ∃ A c, e = .returned (.slice A ss.length c) ∧ Below w.heap.size w w' ∧ Rd w' w'.heap.size A ss.length (iv (orderP ss)) := by
  obtain ⟨n, hn⟩ : ∃ n, ss.length = n := ⟨_, rfl⟩
  have HH : Hd (Vb w B h cap ss ∧ Law K ss ∧ ss.length = n) := ⟨H, L, hn⟩
  have hhs := H.lt (by omega)
  rw [hn] at hn2 h1 ⊢
  have hmk := fun W => run_make_row' (P := Try.prog) 49 3 (.int .i64 0) 8 Try.underlying49 infoI rfl .i64 .i64 n (by omega) (by omega) W
  clear H L hn
  go_enter Try.func56, Try.ntmps56
  go_wp2_with fail
  have H1 : Hd (Od w ((w.alloc (.cells #[.float .f32 K, .slice (some ⟨h, 0, none⟩) n cap] 64)).alloc (.cells (madeCells #[.int .i64 0] n) 3)) K h n cap (fun _ => .int .i64 0)) := ⟨by
    refine ⟨by rw [Go.Deep.blk_alloc_lt _ _ _ (by simp)]; exact heap_alloc_new _ _, ?_, ((Below.refl _ _).alloc (Nat.le_refl _) _).alloc (by simp) _⟩
    have := World.rowIs_made (w.alloc (.cells #[.float .f32 K, .slice (some ⟨h, 0, none⟩) n cap] 64)) (.int .i64 0) n 3
    rwa [World.size_alloc] at this⟩
  obtain ⟨w1, hw1⟩ : ∃ w1, (w.alloc (.cells #[.float .f32 K, .slice (some ⟨h, 0, none⟩) n cap] 64)).alloc (.cells (madeCells #[.int .i64 0] n) 3) = w1 := ⟨_, rfl⟩
  rw [hw1] at H1 ⊢
  clear hw1 hmk
  go_loopw [4, 5, 6] (fun i _ _ wr => ∃ k : Nat, k ≤ n ∧ i = .int .i64 (k : Int) ∧ Od w wr K h n cap (fun q => if (orderP ss).getD q 0 < k then .int .i64 (((orderP ss).getD q 0 : Nat) : Int) else .int .i64 0)) (fun i _ _ _ => n - (intOf i).toNat)
  case atStart => exact ⟨0, by omega, rfl, H1.out.1, H1.out.2.1.congr (fun i hi => by rw [if_neg (by omega)]), H1.out.2.2⟩
  case round =>
    clear H1
    obtain ⟨k, hk, rfl, hO⟩ := hrel
    have d1 : wr.cell? ⟨w.heap.size, 1, none⟩ = some (.slice (some ⟨h, 0, none⟩) n cap) := by rw [cell_of_row _ _ _ _ _ _ hO.1]; rfl
    have H4 := Hd.mk hO
    have hsz := hO.2.1.lt
    clear hO
    by_cases hlt : k < n
    · have hki : (k : Int) < (n : Int) := by omega
      go_wp2_with fail
      have hoi := order_lt ss k (by rw [HH.out.2.2]; exact hlt)
      have HPUT : Hd (∀ q, q < n → _) := ⟨fun q hq => order_put ss k q (by rw [HH.out.2.2]; exact hlt) (by rw [HH.out.2.2]; exact hq)⟩
      have hck : ∀ W, Below w.heap.size w W → W.cell? ⟨h, k, none⟩ = some (.float .f32 (ss.getD k 0)) := fun W hW => (HH.out.1.keep hW).cell (by rw [HH.out.2.2]; exact hlt)
      have hbk : ss.getD k 0 < inf32 := Nat.lt_of_le_of_lt (law_get HH.out.2.1 k) one_inf32
      have HCK := Hd.mk (And.intro hck hbk)
      clear hck hbk
      go_loopw [6, 5] (fun jv av wr => ∃ j : Nat, j ≤ n ∧ jv = .int .i64 (j : Int) ∧ av = .int .i64 ((aheadP ss j k : Nat) : Int) ∧ Od w wr K h n cap (fun q => if (orderP ss).getD q 0 < k then .int .i64 (((orderP ss).getD q 0 : Nat) : Int) else .int .i64 0)) (fun jv _ _ => n - (intOf jv).toNat)
      case atStart => exact ⟨0, by omega, rfl, rfl, H4.out⟩
      case round =>
        obtain ⟨j, hj, rfl, rfl, hO⟩ := hrel
        clear H4 d1 hsz
        have d1 : wr.cell? ⟨w.heap.size, 1, none⟩ = some (.slice (some ⟨h, 0, none⟩) n cap) := by rw [cell_of_row _ _ _ _ _ _ hO.1]; rfl
        have H5 := Hd.mk hO
        have hsz := hO.2.1.lt
        have hal := aheadP_le ss j k
        clear hO
        by_cases hjn : j < n
        · have hji : (j : Int) < (n : Int) := by omega
          have hcj := (HH.out.1.keep H5.out.2.2).cell (i := j) (by rw [HH.out.2.2]; exact hjn)
          have hck := HCK.out.1 wr H5.out.2.2
          have hbj : ss.getD j 0 < inf32 := Nat.lt_of_le_of_lt (law_get HH.out.2.1 j) one_inf32
          have ho := ord32 hbj HCK.out.2
          have hnx := aheadP_next ss j k
          have hbt := beatP_iff ss j k
          generalize ss.getD j 0 = a at *
          generalize ss.getD k 0 = b at *
          generalize aheadP ss j k = c at *
          rcases Nat.lt_trichotomy a b with h3 | h3 | h3
          · rw [if_pos h3] at ho
            rw [if_neg (by rw [hbt]; omega)] at hnx
            have HNX := Hd.mk hnx
            have o1 : (FloatKind.f32.format.order a b == some .gt) = false := by rw [ho]; rfl
            have o2 : (FloatKind.f32.format.order a b == some .eq) = false := by rw [ho]; rfl
            clear ho hnx hbt h3 hbj
            go_wp2_with fail
            go_quiet (fail)
            go_wp2_with fail
            go_roundw
            case rel => exact ⟨j + 1, by omega, by go_num, by rw [HNX.out], H5.out.1, H5.out.2.1, below_drewN H5.out.2.2 _⟩
            case measure => simp [intOf]; omega
          · rw [if_neg (by omega), if_pos h3] at ho
            have o1 : (FloatKind.f32.format.order a b == some .gt) = false := by rw [ho]; rfl
            have o2 : (FloatKind.f32.format.order a b == some .eq) = true := by rw [ho]; rfl
            by_cases hjk : j < k
            · have hjk2 : (j : Int) < (k : Int) := by omega
              rw [if_pos (by rw [hbt]; omega)] at hnx
              have HNX := Hd.mk hnx
              clear ho hnx hbt h3 hbj
              go_wp2_with fail
              go_quiet (fail)
              go_wp2_with fail
              go_roundw
              case rel => exact ⟨j + 1, by omega, by go_num, by rw [HNX.out]; go_num, H5.out.1, H5.out.2.1, below_drewN H5.out.2.2 _⟩
              case measure => simp [intOf]; omega
            · have hjk2 : ¬ (j : Int) < (k : Int) := by omega
              rw [if_neg (by rw [hbt]; omega)] at hnx
              have HNX := Hd.mk hnx
              clear ho hnx hbt h3 hbj
              go_wp2_with fail
              go_quiet (fail)
              go_wp2_with fail
              go_roundw
              case rel => exact ⟨j + 1, by omega, by go_num, by rw [HNX.out], H5.out.1, H5.out.2.1, below_drewN H5.out.2.2 _⟩
              case measure => simp [intOf]; omega
          · rw [if_neg (by omega), if_neg (by omega)] at ho
            rw [if_pos (by rw [hbt]; omega)] at hnx
            have HNX := Hd.mk hnx
            have o1 : (FloatKind.f32.format.order a b == some .gt) = true := by rw [ho]; rfl
            clear ho hnx hbt h3 hbj
            go_wp2_with fail
            go_quiet (fail)
            go_wp2_with fail
            go_roundw
            case rel => exact ⟨j + 1, by omega, by go_num, by rw [HNX.out]; go_num, H5.out.1, H5.out.2.1, below_drewN H5.out.2.2 _⟩
            case measure => simp [intOf]; omega
        · have hjn2 : j = n := by omega
          subst hjn2
          have hcs := H5.out.2.1.cell (i := aheadP ss j k) (by rw [HH.out.2.2] at hoi; exact hoi)
          have hfz := H5.out.2.1.frozen (aheadP ss j k)
          have hol : aheadP ss j k < j := by rw [HH.out.2.2] at hoi; exact hoi
          have HOL := Hd.mk (show aheadP ss ss.length k = aheadP ss j k by rw [HH.out.2.2])
          clear hoi
          generalize aheadP ss j k = c at *
          generalize (if (orderP ss).getD c 0 < k then Value.int .i64 (((orderP ss).getD c 0 : Nat) : Int) else .int .i64 0) = old at *
          go_wp2_with fail
          go_roundw
          case rel =>
            refine ⟨k + 1, by omega, by go_num, ?_, ?_, ?_⟩
            · rw [Go.Deep.blk_setCell_other _ _ _ _ (by show w.heap.size ≠ w.heap.size + 1; omega)]; exact H5.out.1
            · refine (H5.out.2.1.set c _).congr fun q hq => ?_
              have := HPUT.out q hq
              rw [HOL.out] at this
              exact this
            · exact H5.out.2.2.setCell (by show w.heap.size ≤ w.heap.size + 1; omega) _
          case measure => simp [intOf]; omega
    · have hkn : k = n := by omega
      subst hkn
      go_wp2_with fail
      go_ret
      refine ⟨_, _, rfl, H4.out.2.2, ?_, fun hp => ⟨w.heap.size + 1, 0, rfl, hsz, fun i hi => ?_⟩⟩
      · rw [iv_len, orderP_len, HH.out.2.2]
      · have hio := order_getD ss i (by rw [HH.out.2.2]; exact hi)
        rw [Nat.zero_add, H4.out.2.1.cell hi, iv_get _ _ (by rw [orderP_len, HH.out.2.2]; exact hi), if_pos (by have := hio.2; rw [HH.out.2.2] at this; exact this)]
end Go.Proofs.Ytknpcbekaodlkaa
