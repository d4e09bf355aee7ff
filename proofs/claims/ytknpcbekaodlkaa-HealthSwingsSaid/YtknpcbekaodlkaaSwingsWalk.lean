/- The walk of HealthSwings: it returns true for every input. -/
import Derived.Test.YtknpcbekaodlkaaAwake
import Derived.Test.YtknpcbekaodlkaaSwingQ
import Derived.Test.YtknpcbekaodlkaaArgs
import Derived.Test.YtknpcbekaodlkaaTurnsWalk
import Derived.WalkLawsBesides
import Derived.Deep.RegionLaw
namespace Go.Proofs.Ytknpcbekaodlkaa
open Go.RowKit
set_option linter.unusedVariables false
/-- The laws' whole numbers. -/
def wholeI (zs : List Int) : List Int := (zs.take 4096).map fun z => ((pickP z 1048576 : Nat) : Int)
theorem wholeI_len (zs : List Int) : (wholeI zs).length = min 4096 zs.length := by unfold wholeI; rw [List.length_map, List.length_take]
theorem wholeI_small (zs : List Int) : Small (wholeI zs) := fun k => by
  unfold wholeI
  rw [List.getD_eq_getElem?_getD, List.getElem?_map]
  rcases (zs.take 4096)[k]? with _ | z
  · simp
  · have := pickP_lt z 1048576 (by decide)
    simp only [Option.map_some, Option.getD_some]
    omega
def pz (z : Int) : Int := ((pickP z 1048576 : Nat) : Int)
theorem wholeI_take (zs : List Int) (k : Nat) (hk : k < zs.length) : (zs.take (k + 1)).map pz = (zs.take k).map pz ++ [pz (zs.getD k 0)] := by
  rw [List.take_succ_eq_append_getElem hk, List.map_append, List.getD_eq_getElem?_getD, List.getElem?_eq_getElem hk]; rfl
theorem wzs_append (a b : List Int) : wzs (a ++ b) = wzs a ++ wzs b := List.map_append
def WholeP (w : World) (zs : List Int) (e : Ending) (w' : World) : Prop := ∃ (v : Value) (k : Nat), e = .returned v ∧ k = min 4096 zs.length ∧ Onto w w' w.heap.size 24 (.slice none 0 0) v k (fv (wzs (wholeI zs)))
theorem WholeP.mk {w w' : World} {e : Ending} {zs : List Int} {v : Value} {k : Nat} (h0 : e = .returned v) (hk : k = min 4096 zs.length) (h1 : Onto w w' w.heap.size 24 (.slice none 0 0) v k (fv (wzs (wholeI zs)))) : WholeP w zs e w' := ⟨v, k, h0, hk, h1⟩
set_option maxRecDepth 20000 in
set_option maxHeartbeats 1000000 in
theorem whole_any (w : World) (A : Option Addr) (n c B : Nat) (zs : List Int) (hr : Rd w B A n (zs.map (.int .i64))) (hB : B ≤ w.heap.size) (hz : ∀ k, -9223372036854775808 ≤ zs.getD k 0 ∧ zs.getD k 0 ≤ 9223372036854775807) :
    Calls Try.prog 42 #[.slice A n c] w fun e w' => WholeP w zs e w' := by
  have hl : zs.length = n := by have := hr.1; simpa using this
  have HH := Hd.mk (And.intro hr (And.intro hB (And.intro hz hl)))
  clear hr hB hz hl
  go_enter Try.func42, Try.ntmps42
  go_wp2_with fail
  go_loopw [3, 4] (fun s i wr => ∃ k : Nat, k ≤ n ∧ k ≤ 4096 ∧ i = .int .i64 (k : Int) ∧ Onto w wr w.heap.size 24 (.slice none 0 0) s k (fv (wzs ((zs.take k).map pz)))) (fun _ i _ => 4096 - (intOf i).toNat)
  case atStart => exact ⟨0, by omega, by omega, rfl, Onto.nil _ _ _⟩
  case round =>
    obtain ⟨k, hk, hk2, rfl, hO⟩ := hrel
    have H2 := Hd.mk hO
    clear hO
    by_cases hkn : k < n
    · have hki : (k : Int) < (n : Int) := by omega
      by_cases hk5 : k < 4096
      · have hk5i : (k : Int) < 4096 := by omega
        have h63 : Hd (k + 1 ≤ maxLen) := ⟨by unfold maxLen; omega⟩
        have hby : Hd ((k + 1) * 8 ≤ 140737488355328) := ⟨by omega⟩
        have hbel := H2.out.below (B := w.heap.size) (fun k h => by cases h) (Nat.le_refl _)
        obtain ⟨g, off, u, hA, _, hx, hc⟩ := (HH.out.1.below (hbel.mono HH.out.2.1)).at_ hkn
        have hx2 : u = .int .i64 (zs.getD k 0) := by
          rw [List.getElem?_map, List.getElem?_eq_getElem (by rw [HH.out.2.2.2]; exact hkn)] at hx
          injection hx with hx
          rw [← hx, List.getD_eq_getElem?_getD, List.getElem?_eq_getElem (by rw [HH.out.2.2.2]; exact hkn)]; rfl
        subst hx2 hA
        have hb := HH.out.2.2.1 k
        have HT := Hd.mk (wholeI_take zs k (by rw [HH.out.2.2.2]; exact hkn))
        obtain ⟨z, hz⟩ : ∃ z, zs.getD k 0 = z := ⟨_, rfl⟩
        rw [hz] at hc hb HT
        have HZ := Hd.mk hb
        have hpz : ((pickP z 1048576 : Nat) : Int) = pz z := rfl
        have hfi := floatOfInt_wz (z := pz z)
        clear hx hbel hb hz
        go_wp2_with fail
        refine (pick_any _ z 1048576 (by decide) (by decide) HZ.out.1 HZ.out.2).mono ?_
        rintro e w1 ⟨rfl, rfl⟩
        rw [hpz]
        clear hpz
        go_wp2_with (refine wpList_push elF rfl rfl (.tmp 15) (.tmp 21) 22 rfl rfl rfl w.heap.size u3 _ _ _ rfl rfl rfl rfl H2.out.own h63.out hby.out H2.out.size ?_; intro v2 w2 hO2)
        go_roundw
        case rel => exact ⟨k + 1, by omega, by omega, by go_num, by rw [HT.out, wzs_append, fv_append]; exact H2.out.trans hO2⟩
        case measure => simp [intOf]; omega
      · have hk5i : ¬ (k : Int) < 4096 := by omega
        have hki5 : decide ((k : Int) < 4096) = false := decide_eq_false hk5i
        have HE : Hd ((zs.take k).map pz = wholeI zs) := ⟨by rw [show k = 4096 by omega]; rfl⟩
        rw [HE.out] at H2
        go_wp2_with fail
        go_ret
        exact WholeP.mk rfl (by rw [HH.out.2.2.2]; omega) H2.out
    · have hki : decide ((k : Int) < (n : Int)) = false := decide_eq_false (by omega)
      have HE : Hd ((zs.take k).map pz = wholeI zs) := ⟨by unfold wholeI; rw [List.take_of_length_le (by rw [HH.out.2.2.2]; omega), List.take_of_length_le (by rw [HH.out.2.2.2]; omega)]; rfl⟩
      rw [HE.out] at H2
      go_wp2_with fail
      go_ret
      exact WholeP.mk rfl (by rw [HH.out.2.2.2]; omega) H2.out
theorem wz_sum {a : Int} (h : a.natAbs < 2 ^ 53) : Sum c1074 a.natAbs (wz a) := ⟨wz_fin h, wz_not h, by rw [vl_wz h, wz_abs]; exact Nat.le_refl _⟩
theorem csum_wz {a b c d : Int} (ha : a.natAbs < 2 ^ 53) (hb : b.natAbs < 2 ^ 53) (hc : c.natAbs < 2 ^ 53) (hd : d.natAbs < 2 ^ 53) : cSumBits .add .f64 (wz a) (wz b) (wz c) (wz d) = some (wz (a + c), wz (b + d)) := by
  unfold cSumBits
  show (Ieee.double.add _ _).bind _ = _
  rw [bits_add_sum (wz_sum ha) (wz_fin hc)]
  show (Ieee.double.add _ _).bind _ = _
  rw [bits_add_sum (wz_sum hb) (wz_fin hd), wz_add ha hc, wz_add hb hd]; rfl
theorem wzs_lt {zs : List Int} (h : Small zs) : ∀ y ∈ wzs zs, y < 2 ^ 64 := by
  intro x hx
  obtain ⟨z, hz, rfl⟩ := List.mem_map.1 hx
  obtain ⟨k, hk, rfl⟩ := List.getElem_of_mem hz
  have := h k
  rw [List.getD_eq_getElem?_getD, List.getElem?_eq_getElem hk, Option.getD_some] at this
  have h2 := (wz_fin (z := zs[k]) (by omega)).lt
  unfold ms64 at h2
  omega
theorem small_add {X Y : List Int} (hX : Small X) (hx : ∀ k, (X.getD k 0).natAbs < 1048576) (hy : ∀ k, (Y.getD k 0).natAbs < 1048576) (h : X.length = Y.length) : Small (addI X Y) := fun k => by
  rw [addI_get h]; have := hx k; have := hy k; omega
theorem wholeI_lt (zs : List Int) (k : Nat) : ((wholeI zs).getD k 0).natAbs < 1048576 := by
  unfold wholeI
  rw [List.getD_eq_getElem?_getD, List.getElem?_map]
  rcases (zs.take 4096)[k]? with _ | z
  · simp
  · have := pickP_lt z 1048576 (by decide)
    simp only [Option.map_some, Option.getD_some]
    omega
theorem wzs_take (X : List Int) (k : Nat) (h : k < X.length) : wzs (X.take (k + 1)) = wzs (X.take k) ++ [wz (X.getD k 0)] := by
  rw [List.take_succ_eq_append_getElem h, wzs_append, List.getD_eq_getElem?_getD, List.getElem?_eq_getElem h]; rfl
theorem addI_len (X Y : List Int) : (addI X Y).length = X.length := by unfold addI; simp
theorem ord_self2 {x : Nat} (h : FinS x) : (FloatKind.f64.format.order x x == some .eq) = true := by rw [order_same h]; rfl
theorem ord_ne2 {x : Nat} (h : FinS x) : (FloatKind.f64.format.order x x != some .eq) = false := by rw [order_same h]; rfl
theorem turn_wz (w : World) (A : Option Addr) (n c B : Nat) (X : List Int) (N : Int) (hr : Rd w B A n (fv (wzs X))) (hB : B ≤ w.heap.size) (hX : Small X) (hl : X.length = n) (hn : n ≤ 4096) (hN1 : -9223372036854775808 ≤ N) (hN2 : N ≤ 9223372036854775807) (st : Nat) (hst : (N % 4).toNat = st) :
    Calls Try.prog 21 #[.slice A n c, .int .i64 N] w fun e w' => e = .returned (.tuple #[.complex .f64 (wz (iRe X st n)) (wz (iIm X st n)), .int .i64 0]) ∧ Below w.heap.size w w' := by
  have h := turn_any w A n c B (wzs X) N hr hB (wzs_lt hX) (by omega) hN1 hN2
  rw [turnP_wz hX (by omega), hst, hl] at h
  exact h
theorem onto_new {w w' : World} {o : Obj} {base e n : Nat} {v v' : Value} {xs : List Value} (h : Onto (w.drew.alloc o) w' base e v v' n xs) : Onto w w' base e v v' n xs :=
  ⟨h.1, ⟨h.2.1.os, h.2.1.tape, h.2.1.output, by have := h.2.1.size; simp at this; omega, fun k hk hne => (h.2.1.block k (by simp; omega) hne).trans ((World.grownBy_alloc w.drew o v.ownBlock).block k hk hne)⟩, fun k hk => by
    rcases h.2.2 k hk with h1 | h1
    · exact .inl h1
    · simp at h1; exact .inr (by omega)⟩
set_option maxRecDepth 20000 in
set_option maxHeartbeats 4000000 in
theorem swings_walk0 (A : Option Addr) (n c : Nat) (A2 : Option Addr) (n2 c2 : Nat) (zs ys : List Int) (k : Int) (w : World) (hr : Rd w w.heap.size A n (zs.map (.int .i64))) (hr2 : Rd w w.heap.size A2 n2 (ys.map (.int .i64))) (hc : n ≤ c) (hc2 : n2 ≤ c2)
    (hz : ∀ k, -9223372036854775808 ≤ zs.getD k 0 ∧ zs.getD k 0 ≤ 9223372036854775807) (hy : ∀ k, -9223372036854775808 ≤ ys.getD k 0 ∧ ys.getD k 0 ≤ 9223372036854775807) (hk1 : -9223372036854775808 ≤ k) (hk2 : k ≤ 9223372036854775807) :
    Calls Try.prog 13 #[.slice A n c, .slice A2 n2 c2, .int .i64 k] w fun e w' => e = .returned (.bool true) ∧ Below w.heap.size w w' := by
  obtain ⟨N, hN⟩ : ∃ N, min n n2 = N := ⟨_, rfl⟩
  have hm : min (n : Int) (n2 : Int) = (N : Int) := by omega
  have hn1 : N ≤ n := by omega
  have hn2 : N ≤ n2 := by omega
  have gd : ∀ (l : List Int) (h : ∀ k, -9223372036854775808 ≤ l.getD k 0 ∧ l.getD k 0 ≤ 9223372036854775807) (k : Nat), -9223372036854775808 ≤ (l.take N).getD k 0 ∧ (l.take N).getD k 0 ≤ 9223372036854775807 := fun l h k => by
    rw [List.getD_eq_getElem?_getD, List.getElem?_take]
    have := h k
    rw [List.getD_eq_getElem?_getD] at this
    split
    · exact this
    · simp
  have hR1 : Rd w w.heap.size A N ((zs.take N).map (.int .i64)) := by rw [List.map_take]; exact hr.take hn1
  have hR2 : Rd w w.heap.size A2 N ((ys.take N).map (.int .i64)) := by rw [List.map_take]; exact hr2.take hn2
  have HH := Hd.mk (And.intro hR1 (And.intro hR2 (And.intro (gd zs hz) (gd ys hy))))
  have hlx : (zs.take N).length = N := by have := hR1.1; simpa using this
  have hly : (ys.take N).length = N := by have := hR2.1; simpa using this
  have s1 := fun W => run_cut_to (P := Try.prog) (w := W) elI A n c N (by omega)
  have s2 := fun W => run_cut_to (P := Try.prog) (w := W) elI A2 n2 c2 N (by omega)
  generalize zs.take N = Z at *
  generalize ys.take N = Y at *
  have HL := Hd.mk (And.intro hlx hly)
  clear hr hr2 hz hy gd hR1 hR2 hlx hly hN
  go_enter Try.func13, Try.ntmps13
  go_wp2_with fail
  refine (awake_any w).mono ?_
  rintro e w1 ⟨rfl, hb1⟩
  have H1 := Hd.mk hb1
  clear hb1
  go_wp2_with fail
  refine (whole_any w1 A N c w.heap.size Z (HH.out.1.below H1.out) H1.out.size HH.out.2.2.1).mono ?_
  rintro e w2 ⟨v, M, rfl, hM, hO⟩
  rw [HL.out.1] at hM
  obtain ⟨A3, c3, rfl, _, _⟩ := own_form hO.own
  have hb2 := hO.below (B := w1.heap.size) (fun k h => by cases h) (Nat.le_refl _)
  have H2 : Hd (Rd w2 w2.heap.size A3 M (fv (wzs (wholeI Z))) ∧ Below w.heap.size w w2 ∧ M = min 4096 N) := ⟨Rd.of_own hO.own, H1.out.trans (hb2.mono H1.out.size), hM⟩
  clear hO hb2 hM
  go_wp2_with fail
  refine (whole_any w2 A2 N c2 w.heap.size Y (HH.out.2.1.below H2.out.2.1) H2.out.2.1.size HH.out.2.2.2).mono ?_
  rintro e w3 ⟨v, M', rfl, hM, hO⟩
  rw [HL.out.2, ← H2.out.2.2] at hM
  subst hM
  obtain ⟨A4, c4, rfl, _, _⟩ := own_form hO.own
  have hb3 := hO.below (B := w2.heap.size) (fun k h => by cases h) (Nat.le_refl _)
  obtain ⟨X, hX⟩ : ∃ X, wholeI Z = X := ⟨_, rfl⟩
  obtain ⟨V, hV⟩ : ∃ V, wholeI Y = V := ⟨_, rfl⟩
  have H3 : Hd (Rd w3 w3.heap.size A3 M' (fv (wzs X)) ∧ Rd w3 w3.heap.size A4 M' (fv (wzs V)) ∧ Below w.heap.size w w3 ∧ M' ≤ 4096 ∧ X.length = M' ∧ V.length = M' ∧ Small X ∧ Small V ∧ Small (addI X V)) := ⟨by
    rw [← hX]; exact (H2.out.1.below hb3).more hb3.size, by rw [← hV]; exact Rd.of_own hO.own, H2.out.2.1.trans (hb3.mono H2.out.2.1.size), by have := H2.out.2.2; omega, by rw [← hX, wholeI_len, HL.out.1]; exact H2.out.2.2.symm, by rw [← hV, wholeI_len, HL.out.2]; exact H2.out.2.2.symm, by rw [← hX]; exact wholeI_small Z, by rw [← hV]; exact wholeI_small Y, by
      rw [← hX, ← hV]; exact small_add (wholeI_small Z) (wholeI_lt Z) (wholeI_lt Y) (by rw [wholeI_len, wholeI_len, HL.out.1, HL.out.2])⟩
  obtain ⟨M, hMM⟩ : ∃ M, M' = M := ⟨_, rfl⟩
  subst hMM
  have hM5 := H3.out.2.2.2.1
  clear hO hb3 hX hV H2
  go_wp2_with fail
  clear s1 s2
  go_loopw [10, 11, 12] (fun s u i wr => ∃ j : Nat, j ≤ M' ∧ i = .int .i64 (j : Int) ∧ u = .float .f64 (wz (iRe X 0 j)) ∧ Onto w3 wr w3.heap.size 24 (.slice none 0 0) s j (fv (wzs ((addI X V).take j)))) (fun _ _ i _ => M' - (intOf i).toNat)
  case atStart => exact ⟨0, by omega, rfl, by rw [show iRe X 0 0 = 0 from rfl, wz_zero], Onto.nil _ _ _⟩
  case round =>
    obtain ⟨j, hj, rfl, rfl, hO⟩ := hrel
    have H4 := Hd.mk hO
    clear hO
    by_cases hjM : j < M'
    · have hji : (j : Int) < (M' : Int) := by omega
      have hbel := H4.out.below (B := w3.heap.size) (fun k h => by cases h) (Nat.le_refl _)
      obtain ⟨g, off, u, hA, hgl, hx, hcx⟩ := (H3.out.1.below hbel).at_ hjM
      obtain ⟨g2, off2, u2, hA2, _, hx2, hcy⟩ := (H3.out.2.1.below hbel).at_ hjM
      rw [fv_get _ _ (by rw [wzs_len, H3.out.2.2.2.2.1]; exact hjM), wzs_get] at hx
      rw [fv_get _ _ (by rw [wzs_len, H3.out.2.2.2.2.2.1]; exact hjM), wzs_get] at hx2
      injection hx with hx
      injection hx2 with hx2
      subst hx hx2 hA hA2
      have sx := H3.out.2.2.2.2.2.2.1 j
      have sv := H3.out.2.2.2.2.2.2.2.1 j
      have sr := small53 (iRe_abs H3.out.2.2.2.2.2.2.1 0 j) (by omega)
      have e1 := fun w => run_float_arith (P := Try.prog) w .add 24 .f64 (wz (X.getD j 0)) (wz (V.getD j 0)) _ (bits_add_sum (wz_sum (by omega)) (wz_fin (by omega)))
      have e2 := fun w => run_float_arith (P := Try.prog) w .add 24 .f64 (wz (iRe X 0 j)) (wz (X.getD j 0)) _ (bits_add_sum (wz_sum sr) (wz_fin (by omega)))
      rw [wz_add (by omega) (by omega)] at e1
      rw [wz_add sr (by omega), ← iRe_zero] at e2
      have HT : Hd (wzs ((addI X V).take (j + 1)) = wzs ((addI X V).take j) ++ [wz (X.getD j 0 + V.getD j 0)]) := ⟨by rw [wzs_take _ _ (by rw [addI_len, H3.out.2.2.2.2.1]; exact hjM), addI_get (by rw [H3.out.2.2.2.2.1, H3.out.2.2.2.2.2.1])]⟩
      obtain ⟨x1, hx1⟩ : ∃ x, wz (X.getD j 0) = x := ⟨_, rfl⟩
      obtain ⟨x2, hx2⟩ : ∃ x, wz (V.getD j 0) = x := ⟨_, rfl⟩
      obtain ⟨x3, hx3⟩ : ∃ x, wz (X.getD j 0 + V.getD j 0) = x := ⟨_, rfl⟩
      obtain ⟨x4, hx4⟩ : ∃ x, wz (iRe X 0 j) = x := ⟨_, rfl⟩
      obtain ⟨x5, hx5⟩ : ∃ x, wz (iRe X 0 (j + 1)) = x := ⟨_, rfl⟩
      rw [hx1] at hcx e1 e2
      rw [hx2] at hcy e1
      rw [hx3] at e1 HT
      rw [hx4, hx5] at e2
      rw [hx4]
      have HX5 := Hd.mk hx5
      have h63 : Hd (j + 1 ≤ maxLen) := ⟨by unfold maxLen; omega⟩
      have hby : Hd ((j + 1) * 8 ≤ 140737488355328) := ⟨by omega⟩
      have HBX : Hd (∀ W, Below w3.heap.size w3 W → W.cell? ⟨g, off + j, none⟩ = some (.float .f64 x1)) := ⟨fun W hW => by
        rw [hW.cell (p := ⟨g, off + j, none⟩) hgl, ← hbel.cell (p := ⟨g, off + j, none⟩) hgl]; exact hcx⟩
      clear hx1 hx2 hx3 hx4 hx5 sx sv sr hbel hgl
      have HR : Hd (Rd (wr.drew.alloc (.cells #[.float .f64 x3] 24)) (wr.heap.size + 1) (some ⟨wr.heap.size, 0, none⟩) 1 [.float .f64 x3]) := ⟨rd_lit (w := wr.drew) [.float .f64 x3]⟩
      go_wp2_with fail
      go_region_law (refine step_app elF rfl (.tmp 48) (.tmp 58) rfl w3.heap.size u10 j _ (by simp [Act.eval]) (H4.out.own.drew.alloc _) (wr.heap.size + 1) (some ⟨wr.heap.size, 0, none⟩) 1 1 [.float .f64 x3] (by simp [Act.eval]) HR.out (by simp [Value.oneCell']) h63.out hby.out (by simp; exact Nat.le_succ_of_le H4.out.size) ?_; intro v2 w5 hO2)
      all_goals
        have H6 := Hd.mk (H4.out.trans (onto_new hO2))
        have hc5 := HBX.out w5 (H6.out.below (fun k h => by cases h) (Nat.le_refl _))
        clear hO2 hcx hcy
        go_wp2_with fail
        go_roundw
        case rel => exact ⟨j + 1, by omega, by go_num, by rw [HX5.out], by rw [HT.out, fv_append]; exact H6.out⟩
        case measure => simp [intOf]; omega
    · have hjM2 : j = M' := by omega
      subst hjM2
      obtain ⟨w4, hw4⟩ : ∃ w4 : World, w4 = wr := ⟨_, rfl⟩
      rw [← hw4] at H4 ⊢
      clear hw4
      have hb4 := H4.out.below (B := w3.heap.size) (fun k h => by cases h) (Nat.le_refl _)
      obtain ⟨A5, c5, rfl, _, _⟩ := own_form H4.out.own
      have hZ : (addI X V).take j = addI X V := List.take_of_length_le (by rw [addI_len, H3.out.2.2.2.2.1]; exact Nat.le_refl _)
      have H5 : Hd (Rd w4 w4.heap.size A3 j (fv (wzs X)) ∧ Rd w4 w4.heap.size A4 j (fv (wzs V)) ∧ Rd w4 w4.heap.size A5 j (fv (wzs (addI X V))) ∧ Below w.heap.size w w4) :=
        ⟨(H3.out.1.below hb4).more hb4.size, (H3.out.2.1.below hb4).more hb4.size, by have := Rd.of_own H4.out.own; rwa [hZ] at this, H3.out.2.2.1.trans (hb4.mono H3.out.2.2.1.size)⟩
      obtain ⟨st, hst⟩ : ∃ st, (k % 4).toNat = st := ⟨_, rfl⟩
      have hst4 : (wrap64 (k + 4) % 4).toNat = st := by rw [← hst]; unfold wrap64; omega
      have hwb := wrap64_bd (k + 4)
      have b1 := small53 (iRe_abs H3.out.2.2.2.2.2.2.1 st j) hM5
      have b2 := small53 (iIm_abs H3.out.2.2.2.2.2.2.1 st j) hM5
      have b3 := small53 (iRe_abs H3.out.2.2.2.2.2.2.2.1 st j) hM5
      have b4 := small53 (iIm_abs H3.out.2.2.2.2.2.2.2.1 st j) hM5
      have b5 := small53 (iRe_abs H3.out.2.2.2.2.2.2.2.2 st j) hM5
      have b6 := small53 (iIm_abs H3.out.2.2.2.2.2.2.2.2 st j) hM5
      have b7 := small53 (iRe_abs H3.out.2.2.2.2.2.2.1 0 j) hM5
      have HT : Hd (∀ W, Below w4.heap.size w4 W → Calls Try.prog 21 #[.slice A3 j c3, .int .i64 k] W (fun e w' => e = .returned (.tuple #[.complex .f64 (wz (iRe X st j)) (wz (iIm X st j)), .int .i64 0]) ∧ Below W.heap.size W w') ∧
          Calls Try.prog 21 #[.slice A4 j c4, .int .i64 k] W (fun e w' => e = .returned (.tuple #[.complex .f64 (wz (iRe V st j)) (wz (iIm V st j)), .int .i64 0]) ∧ Below W.heap.size W w') ∧
          Calls Try.prog 21 #[.slice A5 j c5, .int .i64 k] W (fun e w' => e = .returned (.tuple #[.complex .f64 (wz (iRe (addI X V) st j)) (wz (iIm (addI X V) st j)), .int .i64 0]) ∧ Below W.heap.size W w') ∧
          Calls Try.prog 21 #[.slice A3 j c3, .int .i64 (wrap64 (k + 4))] W (fun e w' => e = .returned (.tuple #[.complex .f64 (wz (iRe X st j)) (wz (iIm X st j)), .int .i64 0]) ∧ Below W.heap.size W w') ∧
          Calls Try.prog 21 #[.slice A3 j c3, .int .i64 0] W (fun e w' => e = .returned (.tuple #[.complex .f64 (wz (iRe X 0 j)) 0, .int .i64 0]) ∧ Below W.heap.size W w')) := ⟨fun W hW => by
        have z := turn_wz W A3 j c3 w4.heap.size X 0 (H5.out.1.below hW) hW.size H3.out.2.2.2.2.2.2.1 H3.out.2.2.2.2.1 hM5 (by omega) (by omega) 0 rfl
        rw [iIm_zero, wz_zero] at z
        exact ⟨turn_wz W A3 j c3 w4.heap.size X k (H5.out.1.below hW) hW.size H3.out.2.2.2.2.2.2.1 H3.out.2.2.2.2.1 hM5 hk1 hk2 st hst,
          turn_wz W A4 j c4 w4.heap.size V k (H5.out.2.1.below hW) hW.size H3.out.2.2.2.2.2.2.2.1 H3.out.2.2.2.2.2.1 hM5 hk1 hk2 st hst,
          turn_wz W A5 j c5 w4.heap.size (addI X V) k (H5.out.2.2.1.below hW) hW.size H3.out.2.2.2.2.2.2.2.2 (by rw [addI_len]; exact H3.out.2.2.2.2.1) hM5 hk1 hk2 st hst,
          turn_wz W A3 j c3 w4.heap.size X (wrap64 (k + 4)) (H5.out.1.below hW) hW.size H3.out.2.2.2.2.2.2.1 H3.out.2.2.2.2.1 hM5 hwb.1 hwb.2 st hst4, z⟩⟩
      have ea := fun w => run_complex_sum (P := Try.prog) w .add (.inl rfl) 34 .f64 _ _ _ _ _ _ (csum_wz b1 b2 b3 b4)
      rw [← iRe_add (by rw [H3.out.2.2.2.2.1, H3.out.2.2.2.2.2.1]), ← iIm_add (by rw [H3.out.2.2.2.2.1, H3.out.2.2.2.2.2.1])] at ea
      have q1 := ord_self2 (wz_fin b1)
      have q2 := ord_self2 (wz_fin b2)
      have q5 := ord_self2 (wz_fin b5)
      have q6 := ord_self2 (wz_fin b6)
      have q7 := ord_ne2 (wz_fin b7)
      have q8 := ord_ne2 fin_zero
      have q9 := ord_self 0 (by decide)
      have f64s : (Try.prog.underlying 24).isSome = true := by rw [Try.underlying24]; rfl
      have v1 := fun w => run_convert_float_int (P := Try.prog) w 24 3 .f64 .i64 _ _ f64s Try.underlying3 (floatToInt_wz b1)
      have v2 := fun w => run_convert_float_int (P := Try.prog) w 24 3 .f64 .i64 _ _ f64s Try.underlying3 (floatToInt_wz b2)
      have v3 := floatOfInt_wz (z := iRe X st j)
      have v4 := floatOfInt_wz (z := iIm X st j)
      generalize wz (iRe X st j) = a1 at HT ea q1 v1 v3
      generalize wz (iIm X st j) = a2 at HT ea q2 v2 v4
      generalize wz (iRe V st j) = a3 at HT ea
      generalize wz (iIm V st j) = a4 at HT ea
      generalize wz (iRe (addI X V) st j) = a5 at HT ea q5
      generalize wz (iIm (addI X V) st j) = a6 at HT ea q6
      generalize iRe X st j = i1 at v1 v3
      generalize iIm X st j = i2 at v2 v4
      generalize wz (iRe X 0 j) = a7 at HT q7 ⊢
      clear b1 b2 b3 b4 b5 b6 b7 hst hst4 hwb f64s hb4 hZ
      go_wp2_with fail
      refine (HT.out w4 (Below.refl _ _)).1.mono ?_
      rintro e w5 ⟨rfl, hb5⟩
      have H6 := Hd.mk hb5
      clear hb5
      go_wp2_with fail
      refine (HT.out w5 H6.out).2.1.mono ?_
      rintro e w6 ⟨rfl, hb6⟩
      have H7 := Hd.mk (H6.out.trans (hb6.mono H6.out.size))
      clear hb6
      go_wp2_with fail
      refine (HT.out w6 H7.out).2.2.1.mono ?_
      rintro e w7 ⟨rfl, hb7⟩
      have H8 := Hd.mk (H7.out.trans (hb7.mono H7.out.size))
      clear hb7
      go_wp2_with fail
      refine (HT.out w7 H8.out).2.2.2.1.mono ?_
      rintro e w8 ⟨rfl, hb8⟩
      have H9 := Hd.mk (H8.out.trans (hb8.mono H8.out.size))
      clear hb8
      go_wp2_with fail
      refine (HT.out w8 H9.out).2.2.2.2.mono ?_
      rintro e w9 ⟨rfl, hb9⟩
      have H10 : Hd (Below w.heap.size w w9) := ⟨H5.out.2.2.2.trans ((H9.out.trans (hb9.mono H9.out.size)).mono H5.out.2.2.2.size)⟩
      clear hb9
      have l1 := Int.lt_tmod_of_pos k (show (0 : Int) < 1000 by omega)
      have l2 := Int.tmod_lt_of_pos k (show (0 : Int) < 1000 by omega)
      obtain ⟨v, hv, hok, hfin, hlt⟩ := div8 l1 l2
      have ed := fun w => run_float_arith (P := Try.prog) w .quo 24 .f64 _ _ _ hv
      have HV := Hd.mk (And.intro hok (And.intro hfin hlt))
      clear hv hok hfin hlt
      go_wp2_with fail
      clear ed l1 l2
      go_loopw [24, 25, 26] (fun i u25 u26 wr => ∃ q : Nat, 1 ≤ q ∧ q ≤ 4 ∧ i = .int .i64 (q : Int) ∧ Below w9.heap.size w9 wr) (fun i _ _ _ => 4 - (intOf i).toNat)
      case atStart => exact ⟨1, by omega, by omega, rfl, Below.refl _ _⟩
      case round =>
        obtain ⟨q, hq1, hq2, rfl, hbw⟩ := hrel
        have H11 := Hd.mk hbw
        clear hbw
        by_cases hq4 : q < 4
        · have hq3 : (q : Int) ≤ 3 := by omega
          have HF : Hd (∀ W A c B, Rd W B A 4 (fv [v, v, v, v]) → B ≤ W.heap.size → Calls Try.prog 21 #[.slice A 4 c, .int .i64 (q : Int)] W (fun e w' => e = .returned (.tuple #[.complex .f64 0 0, .int .i64 0]) ∧ Below W.heap.size W w')) := ⟨fun W A c B h1 h2 => by
            have h := turn_any W A 4 c B [v, v, v, v] (q : Int) h1 h2 (by simpa using HV.out.2.2) (by decide) (by omega) (by omega)
            rw [four_alike HV.out.2.1 HV.out.1 (by omega)] at h
            exact h⟩
          go_wp2_with fail
          refine (HF.out _ (some ⟨wr.heap.size, 0, none⟩) 4 (wr.heap.size + 1) (rd_lit (fv [v, v, v, v])) (by simp)).mono ?_
          rintro e w10 ⟨rfl, hb10⟩
          have H12 : Hd (Below w9.heap.size w9 w10) := ⟨H11.out.trans ((((Below.refl _ _).alloc (Nat.le_refl _) _).trans (hb10.mono (by simp))).mono H11.out.size)⟩
          clear hb10
          go_wp2_with fail
          go_roundw
          case rel => exact ⟨q + 1, by omega, by omega, by go_num, H12.out⟩
          case measure => simp [intOf]; omega
        · have hq3 : ¬ (q : Int) ≤ 3 := by omega
          go_wp2_with fail
          go_ret
          exact ⟨rfl, H10.out.trans (H11.out.mono H10.out.size)⟩
theorem take_bd {zs : List Int} (h : ∀ n ∈ zs, (Lit.int .i64 n).wf = true) (m k : Nat) : -9223372036854775808 ≤ (zs.take m).getD k 0 ∧ (zs.take m).getD k 0 ≤ 9223372036854775807 := by
  rw [List.getD_eq_getElem?_getD, List.getElem?_take]
  split
  · by_cases hk : k < zs.length
    · rw [List.getElem?_eq_getElem hk, Option.getD_some]
      have := h _ (List.getElem_mem hk)
      simpa [Lit.wf, IntKind.min, IntKind.max, IntKind.signed, IntKind.bits] using this
    · rw [List.getElem?_eq_none (by omega)]; simp
  · simp
theorem swings_walk (A : Option Addr) (n c : Nat) (zs : List Int) (A2 : Option Addr) (n2 c2 : Nat) (ys : List Int) (k : Int) (w : World) (h1 : IsRow .i64 w A n c zs) (hb1 : c * 8 ≤ 140737488351232) (h2 : IsRow .i64 w A2 n2 c2 ys) (hb2 : c2 * 8 ≤ 140737488351232) (hk : (Lit.int .i64 k).wf = true) :
    Calls Try.prog 13 #[.slice A n c, .slice A2 n2 c2, .int .i64 k] w fun e w' => e = .returned (.bool true) ∧ Below w.heap.size w w' := by
  have hkk : -9223372036854775808 ≤ k ∧ k ≤ 9223372036854775807 := by simpa [Lit.wf, IntKind.min, IntKind.max, IntKind.signed, IntKind.bits] using hk
  exact swings_walk0 A n c A2 n2 c2 (zs.take n) (ys.take n2) k w h1.rd h2.rd h1.len_le h2.len_le (take_bd h1.wf n) (take_bd h2.wf n2) hkk.1 hkk.2
end Go.Proofs.Ytknpcbekaodlkaa
