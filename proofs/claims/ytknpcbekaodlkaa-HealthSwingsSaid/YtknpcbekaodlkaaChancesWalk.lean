/- The walk of HealthChances: it returns true for every input. -/
import Derived.Test.YtknpcbekaodlkaaHealthChance
import Derived.Test.YtknpcbekaodlkaaLentNums
namespace Go.Proofs.Ytknpcbekaodlkaa
open Go.RowKit
set_option linter.unusedVariables false
theorem chanceP_le (ps : List Nat) (N : Int) : (chanceP ps N).1 < inf64 := by
  unfold chanceP
  split
  · exact (by decide)
  · split
    · exact (by decide)
    · split
      · exact (by decide)
      · exact Nat.lt_of_le_of_lt (Nat.min_le_right _ _) (by decide)
/-- A difference: a number, or none, which the tape names. -/
theorem run_sub_any {P : Program} (w : World) (t : TypeId) (x y : Nat) : ∃ r w', (binOp .sub t (.float .f64 x) (.float .f64 y)).run P w = .ok (.float .f64 r) w' ∧ r < 2 ^ 64 ∧ (w' = w ∨ w' = w.drew) := by
  rcases h : floatBits .sub .f64 x y with _ | r
  · refine ⟨(Question.nanBits .f64 x y).cut (w.tape w.drawn (.nanBits .f64 x y)), w.drew, ?_, ?_, .inr rfl⟩
    · have h2 : FloatKind.f64.format.sub x y = none := h
      simp [binOp, Op.floatArith, h2, Question.forced]
    · simp only [Question.cut]; omega
  · refine ⟨r, w, run_float_arith w .sub t .f64 x y r h, ?_, .inl rfl⟩
    have := floatBits_wf h
    simpa [Lit.wf] using this
theorem own_below27 {w w' : World} {base e n : Nat} {v : Value} {xs : List Value} (h : w.ownsRow base e 1 v n xs) (b : Below w.heap.size w w') : w'.ownsRow base e 1 v n xs :=
  ⟨h.1, h.2.imp id fun ⟨g, cap, cur, hv, hg, hh, r⟩ => ⟨g, cap, cur, hv, hg, by rw [b.block g (Array.getElem?_eq_some_iff.1 hh).1]; exact hh, r⟩⟩
theorem fv_set (l : List Nat) (i v : Nat) : (fv l).set i (.float .f64 v) = fv (l.set i v) := by unfold fv; rw [List.map_set]
set_option maxRecDepth 20000 in
set_option maxHeartbeats 1000000 in
theorem chances_walk0 (A : Option Addr) (n c : Nat) (l : List Nat) (N : Int) (w : World) (hr : Rd w w.heap.size A n (fv l)) (hlt : ∀ y ∈ l, y < 2 ^ 64) (hn : n * 8 ≤ 140737488351232) (hN1 : -9223372036854775808 ≤ N) (hN2 : N ≤ 9223372036854775807) :
    Calls Try.prog 3 #[.slice A n c, .int .i64 N] w fun e w' => e = .returned (.bool true) ∧ Below w.heap.size w w' := by
  have hl : l.length = n := by have := hr.1; rw [fv_len] at this; exact this
  have HH : Hd (Rd w w.heap.size A n (fv l) ∧ (∀ y ∈ l, y < 2 ^ 64) ∧ l.length = n ∧ n * 8 ≤ 140737488351232 ∧ -9223372036854775808 ≤ N ∧ N ≤ 9223372036854775807) := ⟨hr, hlt, hl, hn, hN1, hN2⟩
  have hnn : n ≤ 17592186043904 := by omega
  clear hr hlt hl hn hN1 hN2
  go_enter Try.func3, Try.ntmps3
  go_wp2_with fail
  refine (lentNumbers_any w A n c w.heap.size l HH.out.1 HH.out.2.2.2.1 (Nat.le_refl _)).mono ?_
  rintro e w1 ⟨g, cap, rfl, ho, hb, hg1, hg2, hc⟩
  have H1 := Hd.mk (And.intro ho (And.intro hb (And.intro hg1 (And.intro hg2 hc))))
  clear ho hb hg1 hg2 hc
  go_wp2_with fail
  go_loopw [6] (fun i wr => ∃ (k : Nat) (cur : List Nat), k ≤ 2 ∧ i = .int .i64 (k : Int) ∧ cur.length = n ∧ (∀ y ∈ cur, y < 2 ^ 64) ∧ wr.ownsRow w.heap.size 24 1 (.slice (some ⟨g, 0, none⟩) (n + 64) cap) (n + 64) (fv (cur ++ marksF)) ∧ Below w.heap.size w wr) (fun i _ => 2 - (intOf i).toNat)
  case atStart => exact ⟨0, l, by omega, rfl, HH.out.2.2.1, HH.out.2.1, H1.out.1, H1.out.2.1⟩
  case round =>
    obtain ⟨k, cur, hk, rfl, hcl, hcx, hO, hB⟩ := hrel
    by_cases hk2 : k < 2
    · have hgl := (hO.lt g rfl).2
      have hR1 : Rd wr wr.heap.size (some ⟨g, 0, none⟩) n (fv cur) := by
        have h := (Rd.of_own hO).take (h := n) (by omega)
        rw [fv, ← List.map_take, List.take_left' hcl] at h
        exact h
      have H2 := Hd.mk (And.intro hO (And.intro hB (And.intro hR1 (And.intro hcl (And.intro hcx hgl)))))
      have h63 : Hd (0 + n ≤ maxLen) := ⟨by unfold maxLen; omega⟩
      have hby : Hd ((0 + n) * 8 ≤ 140737488355328) := ⟨by have := HH.out.2.2.2.1; omega⟩
      clear hO hB hR1 hcl hcx hgl
      obtain ⟨wo, hwo⟩ : ∃ wo : World, wo = wr := ⟨_, rfl⟩
      rw [← hwo] at H2 ⊢
      clear hwo
      go_wp2_with (refine wpList_app elF rfl (.const (.slice none 0 0)) (.tmp 19) rfl wo.heap.size (.slice none 0 0) 0 [] rfl (World.ownsRow_nil ..) wo.heap.size (some ⟨g, 0, none⟩) n cap (fv cur) rfl H2.out.2.2.1 (fv_one cur) h63.out hby.out (Nat.le_refl _) ?_; intro v2 w2 hO2; have H3 : Hd (Onto wo w2 wo.heap.size 24 (.slice none 0 0) v2 n (fv cur)) := ⟨by simpa using hO2⟩; clear hO2)
      obtain ⟨A2, c2, rfl, _, _⟩ := own_form H3.out.own
      have hb2 := H3.out.below (B := wo.heap.size) (fun k h => by cases h) (Nat.le_refl _)
      have H4 := Hd.mk (And.intro hb2 (Rd.of_own H3.out.own))
      clear hb2
      refine (refChance_any w2 A2 n c2 w2.heap.size cur N H4.out.2 (Nat.le_refl _) H2.out.2.2.2.2.1 (by omega) HH.out.2.2.2.2.1 HH.out.2.2.2.2.2).mono ?_
      rintro e w3 ⟨rfl, hb3⟩
      have H5 := Hd.mk hb3
      clear hb3
      go_wp2_with fail
      refine (chance_any w3 (some ⟨g, 0, none⟩) n cap wo.heap.size cur N ((H2.out.2.2.1.below H4.out.1).below (H5.out.mono H4.out.1.size)) (Nat.le_trans H4.out.1.size H5.out.size) H2.out.2.2.2.2.1 (by omega) HH.out.2.2.2.2.1 HH.out.2.2.2.2.2).mono ?_
      rintro e w4 ⟨rfl, hb4⟩
      have H6 := Hd.mk hb4
      clear hb4
      have hF := chanceP_le cur N
      obtain ⟨F, hF2⟩ : ∃ F, (chanceP cur N).1 = F := ⟨_, rfl⟩
      obtain ⟨E, hE2⟩ : ∃ E, (chanceP cur N).2 = E := ⟨_, rfl⟩
      rw [hF2] at hF ⊢
      rw [hE2]
      have hFF : (FloatKind.f64.format.order F F != some .eq) = false := by
        have := order_pos hF hF
        rw [show FloatKind.f64.format.order F F = some .eq by refine this.trans ?_; rw [if_neg (Nat.lt_irrefl _), if_pos rfl]]; rfl
      have hEE : (E != E) = false := by simp
      clear hF hF2 hE2
      have HB : Hd (Below wo.heap.size wo w4) := ⟨(H4.out.1.trans (H5.out.mono H4.out.1.size)).trans (H6.out.mono (Nat.le_trans H4.out.1.size H5.out.size))⟩
      have HO4 : Hd (w4.ownsRow w.heap.size 24 1 (.slice (some ⟨g, 0, none⟩) (n + 64) cap) (n + 64) (fv (cur ++ marksF)) ∧ Rd w4 w4.heap.size A2 n (fv cur)) := ⟨own_below27 H2.out.1 HB.out, by
        have h := H4.out.2.below (H5.out.trans (H6.out.mono H5.out.size))
        exact h.more (Nat.le_trans H5.out.size H6.out.size)⟩
      go_wp2_with fail
      refine (unmarkedNumbers_any w4 w.heap.size g n cap w4.heap.size A2 c2 cur HO4.out.1 HO4.out.2 (Nat.le_refl _) (by omega) H1.out.2.2.2.2).mono ?_
      rintro e w5 ⟨rfl, hb5⟩
      have H7 : Hd (w5.ownsRow w.heap.size 24 1 (.slice (some ⟨g, 0, none⟩) (n + 64) cap) (n + 64) (fv (cur ++ marksF)) ∧ Below w.heap.size w w5) := ⟨own_below27 HO4.out.1 hb5, H2.out.2.1.trans ((HB.out.trans (hb5.mono HB.out.size)).mono H2.out.2.1.size)⟩
      clear hb5
      go_wp2_with fail
      go_loopw [12] (fun i wr => ∃ (j : Nat) (cu : List Nat), j ≤ n ∧ i = .int .i64 (j : Int) ∧ cu.length = n ∧ (∀ y ∈ cu, y < 2 ^ 64) ∧ wr.ownsRow w.heap.size 24 1 (.slice (some ⟨g, 0, none⟩) (n + 64) cap) (n + 64) (fv (cu ++ marksF)) ∧ Below w.heap.size w wr) (fun i _ => n - (intOf i).toNat)
      case atStart => exact ⟨0, cur, by omega, rfl, H2.out.2.2.2.1, H2.out.2.2.2.2.1, H7.out.1, H7.out.2⟩
      case round =>
        obtain ⟨j, cu, hj, rfl, hcl, hcx, hO, hB⟩ := hrel
        have H8 := Hd.mk (And.intro hcl (And.intro hcx (And.intro hO hB)))
        clear hcl hcx hO hB
        by_cases hjn : j < n
        · have hji : (j : Int) < (n : Int) := by omega
          have hc1 : wr.cell? ⟨g, j, none⟩ = some (.float .f64 (cu.getD j 0)) := by
            rw [H8.out.2.2.1.cellAt j (by omega), fv_append, List.getElem?_append_left (by rw [fv_len, H8.out.1]; exact hjn), fv_get _ _ (by rw [H8.out.1]; exact hjn)]
          have hfz := H8.out.2.2.1.frozenAt j
          obtain ⟨x, hx⟩ : ∃ x, cu.getD j 0 = x := ⟨_, rfl⟩
          rw [hx] at hc1
          clear hx
          have HS : ∀ r : Nat, (fv (cu ++ marksF)).set j (.float .f64 r) = fv (cu.set j r ++ marksF) := fun r => by rw [fv_set, List.set_append_left _ _ (by rw [H8.out.1]; exact hjn)]
          have HS2 := Hd.mk HS
          clear HS
          obtain ⟨r, w6, hrun, hr64, hw⟩ := run_sub_any (P := Try.prog) wr 24 4607182418800017408 x
          have hset : ∀ y ∈ cu.set j r, y < 2 ^ 64 := fun y hy => by
            rcases List.mem_or_eq_of_mem_set hy with h | h
            · exact H8.out.2.1 y h
            · rw [h]; exact hr64
          have HR := Hd.mk hset
          clear hset hr64
          rcases hw with rfl | rfl
          · have hst := st_float (P := Try.prog) w6 g j r _ hc1 hfz
            go_wp2_with fail
            go_roundw
            case rel =>
              have hs := (H8.out.2.2.1.stored j (.float .f64 r)).1
              rw [HS2.out] at hs
              exact ⟨j + 1, cu.set j r, by omega, by go_num, by rw [List.length_set]; exact H8.out.1, HR.out, hs, H8.out.2.2.2.setCell (p := ⟨g, j, none⟩) H1.out.2.2.1 _⟩
            case measure => simp [intOf]; omega
          · have hst := st_float (P := Try.prog) wr.drew g j r _ hc1 hfz
            go_wp2_with fail
            go_roundw
            case rel =>
              have hs := (H8.out.2.2.1.drew.stored j (.float .f64 r)).1
              rw [HS2.out] at hs
              exact ⟨j + 1, cu.set j r, by omega, by go_num, by rw [List.length_set]; exact H8.out.1, HR.out, hs, H8.out.2.2.2.drew.setCell (p := ⟨g, j, none⟩) H1.out.2.2.1 _⟩
            case measure => simp [intOf]; omega
        · go_wp2_with fail
          go_roundw
          case rel => exact ⟨k + 1, cu, by omega, by go_num, H8.out.1, H8.out.2.1, H8.out.2.2.1, H8.out.2.2.2⟩
          case measure => simp [intOf]; omega
    · have H2 := Hd.mk hB
      clear hB hO hcl hcx
      go_wp2_with fail
      go_ret
      exact ⟨rfl, H2.out⟩
theorem chances_walk (A : Option Addr) (n c : Nat) (l : List Nat) (N : Int) (w : World) (hr : Rd w w.heap.size A n (fv l)) (hlt : ∀ y ∈ l, y < 2 ^ 64) (hn : n * 8 ≤ 140737488351232) (hN : (Lit.int .i64 N).wf = true) :
    Calls Try.prog 3 #[.slice A n c, .int .i64 N] w fun e w' => e = .returned (.bool true) ∧ Below w.heap.size w w' := by
  have h : IntKind.i64.min ≤ N ∧ N ≤ IntKind.i64.max := by simpa [Lit.wf] using hN
  rw [show IntKind.i64.min = -9223372036854775808 from rfl, show IntKind.i64.max = 9223372036854775807 from rfl] at h
  exact chances_walk0 A n c l N w hr hlt hn h.1 h.2
end Go.Proofs.Ytknpcbekaodlkaa
