/- The walk of HealthTurns: it returns true for every input. -/
import Derived.Test.YtknpcbekaodlkaaChancesWalk
import Derived.Test.YtknpcbekaodlkaaHealthTurn
namespace Go.Proofs.Ytknpcbekaodlkaa
open Go.RowKit
set_option linter.unusedVariables false
theorem turnP_all {ps : List Nat} {N : Int} (hp : ∀ y ∈ ps, y < 2 ^ 64) : (FinS (turnP ps N).1 ∧ (turnP ps N).1 ≠ ms64) ∧ FinS (turnP ps N).2.1 ∧ (turnP ps N).2.1 ≠ ms64 := by
  have h0 : FinS 0 ∧ 0 ≠ ms64 := ⟨fin_zero, by decide⟩
  unfold turnP
  split
  · exact ⟨h0, h0⟩
  · rename_i hl
    split
    · exact ⟨h0, h0⟩
    · rename_i ha
      have ha : ps.all okT = true := by simpa using ha
      obtain ⟨e, he⟩ : ∃ e, e = 1114 := ⟨_, rfl⟩
      have hf : ∀ j, (vl (ps.getD j 0)).natAbs ≤ 2 ^ e := fun j => by
        by_cases hj : j < ps.length
        · rw [List.getD_eq_getElem?_getD, List.getElem?_eq_getElem hj, Option.getD_some]
          exact (okT_good e he (hp _ (List.getElem_mem hj)) (List.all_eq_true.1 ha _ (List.getElem_mem hj))).2
        · rw [getD_out ps j (by omega), vl_zero]; exact Nat.zero_le _
      have h1 := tRe_sum (st := (N % 4).toNat) (e := e) (by omega) hf ps.length (by omega)
      have h2 := tIm_sum (st := (N % 4).toNat) (e := e) (by omega) hf ps.length (by omega)
      exact ⟨⟨h1.fin, h1.not⟩, h2.fin, h2.not⟩
theorem order_vl {a b : Nat} (ha : FinS a) (hb : FinS b) : Ieee.double.order a b = some (compare (vl a) (vl b)) := by
  have := order_fin ha.word hb.word
  rw [fb64_eq] at this
  exact this
theorem cmp_self (a : Int) : compare a a = .eq := by simp [compare, compareOfLessAndEq]
theorem order_same {a : Nat} (h : FinS a) : FloatKind.f64.format.order a a = some .eq := by
  have := order_vl h h
  rw [cmp_self] at this
  exact this
theorem vl_ne {x : Nat} (h : FinS x) (h0 : x ≠ 0) (hm : x ≠ ms64) : vl x ≠ 0 := by
  have h1 := h.lt
  by_cases hs : ms64 ≤ x
  · have := vl_low h hs hm; omega
  · have h2 : x % ms64 = x := Nat.mod_eq_of_lt (by omega)
    have h3 := sv_pos 52 (r := x) (by omega)
    have := vl_abs x
    rw [h2] at this
    omega
theorem div_zero : Ieee.double.div one64 0 = some inf64 := by kernel_rfl
theorem inf_zero : (FloatKind.f64.format.order inf64 0 == some .lt) = false := by kernel_rfl
theorem div_some {R : Nat} (h : FinS R) (h0 : vl R ≠ 0) : ∃ Q, Ieee.double.div one64 R = some Q := by
  obtain ⟨m, p, r1, _⟩ := one_fin.read
  obtain ⟨n, q, r2, h3, h4⟩ := h.word.read
  unfold Ieee.Format.div
  rw [r1, r2]
  have hn : n ≠ 0 := fun e => by
    subst e
    rw [Nat.zero_mul, fb64_eq] at h4
    have := vl_abs R
    omega
  unfold Ieee.Datum.quotient
  simp only [if_neg hn]
  exact ⟨_, rfl⟩
/-- One by a sum: what the test of a zero's sign asks. -/
theorem recip {R : Nat} (h : FinS R) (hm : R ≠ ms64) : ∃ Q, floatBits .quo .f64 4607182418800017408 R = some Q ∧ ((FloatKind.f64.format.order Q 0 == some .lt) = false ∨ ((FloatKind.f64.format.order Q 0 == some .lt) = true ∧ (FloatKind.f64.format.order R 0 == some .eq) = false)) := by
  by_cases h0 : R = 0
  · subst h0
    exact ⟨inf64, div_zero, .inl inf_zero⟩
  · have hv := vl_ne h h0 hm
    obtain ⟨Q, hQ⟩ := div_some h hv
    refine ⟨Q, hQ, ?_⟩
    rcases hb : (FloatKind.f64.format.order Q 0 == some .lt) with _ | _
    · exact .inl rfl
    · refine .inr ⟨rfl, ?_⟩
      have ho := order_vl h fin_zero
      rw [vl_zero] at ho
      have hc : compare (vl R) 0 ≠ .eq := fun e => by
        simp only [compare, compareOfLessAndEq] at e
        by_cases h1 : vl R < 0
        · rw [if_pos h1] at e; cases e
        · rw [if_neg h1, if_neg hv] at e; cases e
      have ho2 : FloatKind.f64.format.order R 0 = some (compare (vl R) 0) := ho
      rw [ho2]
      cases hcc : compare (vl R) 0 <;> first | rfl | exact absurd hcc hc
set_option maxRecDepth 20000 in
set_option maxHeartbeats 1000000 in
theorem turns_walk0 (A : Option Addr) (n c : Nat) (l : List Nat) (N : Int) (w : World) (hr : Rd w w.heap.size A n (fv l)) (hlt : ∀ y ∈ l, y < 2 ^ 64) (hn : n * 8 ≤ 140737488351232) (hN1 : -9223372036854775808 ≤ N) (hN2 : N ≤ 9223372036854775807) :
    Calls Try.prog 4 #[.slice A n c, .int .i64 N] w fun e w' => e = .returned (.bool true) ∧ Below w.heap.size w w' := by
  have hl : l.length = n := by have := hr.1; rw [fv_len] at this; exact this
  have HH : Hd (Rd w w.heap.size A n (fv l) ∧ (∀ y ∈ l, y < 2 ^ 64) ∧ l.length = n ∧ n * 8 ≤ 140737488351232 ∧ -9223372036854775808 ≤ N ∧ N ≤ 9223372036854775807) := ⟨hr, hlt, hl, hn, hN1, hN2⟩
  have hnn : n ≤ 17592186043904 := by omega
  clear hr hlt hl hn hN1 hN2
  go_enter Try.func4, Try.ntmps4
  go_wp2_with fail
  refine (lentNumbers_any w A n c w.heap.size l HH.out.1 HH.out.2.2.2.1 (Nat.le_refl _)).mono ?_
  rintro e w1 ⟨g, cap, rfl, ho, hb, hg1, hg2, hc⟩
  have H1 := Hd.mk (And.intro ho (And.intro hb (And.intro hg1 (And.intro hg2 hc))))
  clear ho hb hg1 hg2 hc
  go_wp2_with fail
  go_loopw [6] (fun i wr => ∃ (k : Nat) (cur : List Nat), k ≤ 2 ∧ i = .int .i64 (k : Int) ∧ cur.length = n ∧ (∀ y ∈ cur, y < 2 ^ 64) ∧ wr.ownsRow w.heap.size 24 1 (.slice (some ⟨g, 0, none⟩) (n + 64) cap) (n + 64) (fv (cur ++ marksF)) ∧ Below w.heap.size w wr) (fun i _ => 2 - (intOf i).toNat)
  case atStart => exact ⟨0, l, by omega, rfl, HH.out.2.2.1, HH.out.2.1, H1.out.1, H1.out.2.1⟩
  case round =>
    obtain ⟨k, cur, hk, rfl, hcl, hcx, hO, hB⟩ := hrel
    by_cases hk2 : k < 2
    · have hgl := (hO.lt g rfl).2
      have hR1 : Rd wr wr.heap.size (some ⟨g, 0, none⟩) n (fv cur) := by
        have h := (Rd.of_own hO).take (h := n) (by omega)
        rw [fv, ← List.map_take, List.take_left' hcl] at h
        exact h
      have H2 := Hd.mk (And.intro hO (And.intro hB (And.intro hR1 (And.intro hcl (And.intro hcx hgl)))))
      have h63 : Hd (0 + n ≤ maxLen) := ⟨by unfold maxLen; omega⟩
      have hby : Hd ((0 + n) * 8 ≤ 140737488355328) := ⟨by have := HH.out.2.2.2.1; omega⟩
      clear hO hB hR1 hcl hcx hgl
      obtain ⟨wo, hwo⟩ : ∃ wo : World, wo = wr := ⟨_, rfl⟩
      rw [← hwo] at H2 ⊢
      clear hwo
      go_wp2_with (refine wpList_app elF rfl (.const (.slice none 0 0)) (.tmp 20) rfl wo.heap.size (.slice none 0 0) 0 [] rfl (World.ownsRow_nil ..) wo.heap.size (some ⟨g, 0, none⟩) n cap (fv cur) rfl H2.out.2.2.1 (fv_one cur) h63.out hby.out (Nat.le_refl _) ?_; intro v2 w2 hO2; have H3 : Hd (Onto wo w2 wo.heap.size 24 (.slice none 0 0) v2 n (fv cur)) := ⟨by simpa using hO2⟩; clear hO2)
      obtain ⟨A2, c2, rfl, _, _⟩ := own_form H3.out.own
      have hb2 := H3.out.below (B := wo.heap.size) (fun k h => by cases h) (Nat.le_refl _)
      have H4 := Hd.mk (And.intro hb2 (Rd.of_own H3.out.own))
      clear hb2
      refine (refTurn_any w2 A2 n c2 w2.heap.size cur N H4.out.2 (Nat.le_refl _) H2.out.2.2.2.2.1 (by omega) HH.out.2.2.2.2.1 HH.out.2.2.2.2.2).mono ?_
      rintro e w3 ⟨rfl, hb3⟩
      have H5 := Hd.mk hb3
      clear hb3
      go_wp2_with fail
      refine (turn_any w3 (some ⟨g, 0, none⟩) n cap wo.heap.size cur N ((H2.out.2.2.1.below H4.out.1).below (H5.out.mono H4.out.1.size)) (Nat.le_trans H4.out.1.size H5.out.size) H2.out.2.2.2.2.1 (by omega) HH.out.2.2.2.2.1 HH.out.2.2.2.2.2).mono ?_
      rintro e w4 ⟨rfl, hb4⟩
      have H6 := Hd.mk hb4
      clear hb4
      have hF := turnP_all (N := N) H2.out.2.2.2.2.1
      obtain ⟨R, hR2⟩ : ∃ R, (turnP cur N).1 = R := ⟨_, rfl⟩
      obtain ⟨I, hI2⟩ : ∃ I, (turnP cur N).2.1 = I := ⟨_, rfl⟩
      obtain ⟨E, hE2⟩ : ∃ E, (turnP cur N).2.2 = E := ⟨_, rfl⟩
      rw [hR2, hI2] at hF ⊢
      rw [hE2]
      have hRR : (FloatKind.f64.format.order R R != some .eq) = false := by rw [order_same hF.1.1]; rfl
      have hII : (FloatKind.f64.format.order I I != some .eq) = false := by rw [order_same hF.2.1]; rfl
      have hEE : (E != E) = false := by simp
      obtain ⟨QR, hQR, cR⟩ := recip hF.1.1 hF.1.2
      obtain ⟨QI, hQI, cI⟩ := recip hF.2.1 hF.2.2
      have qR := fun w => run_float_arith (P := Try.prog) w .quo 24 .f64 _ _ _ hQR
      have qI := fun w => run_float_arith (P := Try.prog) w .quo 24 .f64 _ _ _ hQI
      clear hF hR2 hI2 hE2 hQR hQI
      have HB : Hd (Below wo.heap.size wo w4) := ⟨(H4.out.1.trans (H5.out.mono H4.out.1.size)).trans (H6.out.mono (Nat.le_trans H4.out.1.size H5.out.size))⟩
      have HO4 : Hd (w4.ownsRow w.heap.size 24 1 (.slice (some ⟨g, 0, none⟩) (n + 64) cap) (n + 64) (fv (cur ++ marksF)) ∧ Rd w4 w4.heap.size A2 n (fv cur)) := ⟨own_below27 H2.out.1 HB.out, by
        have h := H4.out.2.below (H5.out.trans (H6.out.mono H5.out.size))
        exact h.more (Nat.le_trans H5.out.size H6.out.size)⟩
      rcases cR with d1 | ⟨d1, d2⟩ <;> rcases cI with d3 | ⟨d3, d4⟩
      all_goals
        go_wp2_with fail
        refine (unmarkedNumbers_any w4 w.heap.size g n cap w4.heap.size A2 c2 cur HO4.out.1 HO4.out.2 (Nat.le_refl _) (by omega) H1.out.2.2.2.2).mono ?_
        rintro e w5 ⟨rfl, hb5⟩
        have H7 : Hd (w5.ownsRow w.heap.size 24 1 (.slice (some ⟨g, 0, none⟩) (n + 64) cap) (n + 64) (fv (cur ++ marksF)) ∧ Below w.heap.size w w5) := ⟨own_below27 HO4.out.1 hb5, H2.out.2.1.trans ((HB.out.trans (hb5.mono HB.out.size)).mono H2.out.2.1.size)⟩
        clear hb5
        go_wp2_with fail
        go_loopw [13] (fun i wr => ∃ (j : Nat) (cu : List Nat), j ≤ n ∧ i = .int .i64 (j : Int) ∧ cu.length = n ∧ (∀ y ∈ cu, y < 2 ^ 64) ∧ wr.ownsRow w.heap.size 24 1 (.slice (some ⟨g, 0, none⟩) (n + 64) cap) (n + 64) (fv (cu ++ marksF)) ∧ Below w.heap.size w wr) (fun i _ => n - (intOf i).toNat)
        case atStart => exact ⟨0, cur, by omega, rfl, H2.out.2.2.2.1, H2.out.2.2.2.2.1, H7.out.1, H7.out.2⟩
        case round =>
          obtain ⟨j, cu, hj, rfl, hcl, hcx, hO, hB⟩ := hrel
          have H8 := Hd.mk (And.intro hcl (And.intro hcx (And.intro hO hB)))
          clear hcl hcx hO hB
          by_cases hjn : j < n
          · have hji : (j : Int) < (n : Int) := by omega
            have hc1 : wr.cell? ⟨g, j, none⟩ = some (.float .f64 (cu.getD j 0)) := by
              rw [H8.out.2.2.1.cellAt j (by omega), fv_append, List.getElem?_append_left (by rw [fv_len, H8.out.1]; exact hjn), fv_get _ _ (by rw [H8.out.1]; exact hjn)]
            have hfz := H8.out.2.2.1.frozenAt j
            obtain ⟨x, hx⟩ : ∃ x, cu.getD j 0 = x := ⟨_, rfl⟩
            rw [hx] at hc1
            clear hx
            have HS : ∀ r : Nat, (fv (cu ++ marksF)).set j (.float .f64 r) = fv (cu.set j r ++ marksF) := fun r => by rw [fv_set, List.set_append_left _ _ (by rw [H8.out.1]; exact hjn)]
            have HS2 := Hd.mk HS
            clear HS
            obtain ⟨r, w6, hrun, hr64, hw⟩ := run_sub_any (P := Try.prog) wr 24 4613937818241073152 x
            have hset : ∀ y ∈ cu.set j r, y < 2 ^ 64 := fun y hy => by
              rcases List.mem_or_eq_of_mem_set hy with h | h
              · exact H8.out.2.1 y h
              · rw [h]; exact hr64
            have HR := Hd.mk hset
            clear hset hr64
            rcases hw with rfl | rfl
            · have hst := st_float (P := Try.prog) w6 g j r _ hc1 hfz
              go_wp2_with fail
              go_roundw
              case rel =>
                have hs := (H8.out.2.2.1.stored j (.float .f64 r)).1
                rw [HS2.out] at hs
                exact ⟨j + 1, cu.set j r, by omega, by go_num, by rw [List.length_set]; exact H8.out.1, HR.out, hs, H8.out.2.2.2.setCell (p := ⟨g, j, none⟩) H1.out.2.2.1 _⟩
              case measure => simp [intOf]; omega
            · have hst := st_float (P := Try.prog) wr.drew g j r _ hc1 hfz
              go_wp2_with fail
              go_roundw
              case rel =>
                have hs := (H8.out.2.2.1.drew.stored j (.float .f64 r)).1
                rw [HS2.out] at hs
                exact ⟨j + 1, cu.set j r, by omega, by go_num, by rw [List.length_set]; exact H8.out.1, HR.out, hs, H8.out.2.2.2.drew.setCell (p := ⟨g, j, none⟩) H1.out.2.2.1 _⟩
              case measure => simp [intOf]; omega
          · go_wp2_with fail
            go_roundw
            case rel => exact ⟨k + 1, cu, by omega, by go_num, H8.out.1, H8.out.2.1, H8.out.2.2.1, H8.out.2.2.2⟩
            case measure => simp [intOf]; omega
    · have H2 := Hd.mk hB
      clear hB hO hcl hcx
      go_wp2_with fail
      go_ret
      exact ⟨rfl, H2.out⟩
theorem turns_walk (A : Option Addr) (n c : Nat) (l : List Nat) (N : Int) (w : World) (hr : Rd w w.heap.size A n (fv l)) (hlt : ∀ y ∈ l, y < 2 ^ 64) (hn : n * 8 ≤ 140737488351232) (hN : (Lit.int .i64 N).wf = true) :
    Calls Try.prog 4 #[.slice A n c, .int .i64 N] w fun e w' => e = .returned (.bool true) ∧ Below w.heap.size w w' := by
  have h : IntKind.i64.min ≤ N ∧ N ≤ IntKind.i64.max := by simpa [Lit.wf] using hN
  rw [show IntKind.i64.min = -9223372036854775808 from rfl, show IntKind.i64.max = 9223372036854775807 from rfl] at h
  exact turns_walk0 A n c l N w hr hlt hn h.1 h.2
end Go.Proofs.Ytknpcbekaodlkaa
