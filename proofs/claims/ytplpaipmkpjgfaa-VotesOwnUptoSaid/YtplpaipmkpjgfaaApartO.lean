/- Contract of the law's apart. (tools/apart17.py prints it.) -/
import Derived.Test.YtplpaipmkpjgfaaApartP
import Derived.Test.YtplpaipmkpjgfaaOwnAsk
namespace Go.Proofs.Ytplpaipmkpjgfaa
open Go.RowKit
set_option linter.unusedVariables false
set_option linter.unusedSimpArgs false
theorem own_at {w : World} {base e g n cap : Nat} {xs : List Value} (h : w.ownsRow base e 1 (.slice (some ⟨g, 0, none⟩) n cap) n xs) {j : Nat} {u : Value} (hj : xs[j]? = some u) : w.cell? ⟨g, j, none⟩ = some u ∧ w.frozen? ⟨g, j, none⟩ = false := by
  have h1 := h.cells (g := g) rfl j u hj
  rw [show (⟨g, 0, none⟩ : Addr).add j = ⟨g, j, none⟩ by unfold Addr.add; split <;> simp_all] at h1
  refine ⟨h1, ?_⟩
  rcases h.2 with ⟨hv, _⟩ | ⟨g', cap', cur, hv, hb, hg, _⟩
  · cases hv
  · cases hv
    simp [World.frozen?, hg]
theorem elI1 : ElN Try.prog 25 3 1 8 := elI.toN
def fbI (n : Nat → Nat) (i t : Nat) : Value := if t < n i then .int .i64 (-200 - (i : Int)) else .int .i64 (100000 + (i : Int))
set_option maxRecDepth 20000 in
set_option maxHeartbeats 4000000 in
theorem apart_any (w : World) (base L c : Nat) (A : Option Addr) (us : List Value) (n : Nat → Nat) (hL : us.length = L) (H : Fil w base 25 3 (.slice A L c) us n (fbI n) (fun _ _ => False)) (hl : L ≤ 1073741824) (hn : ∀ i, n i ≤ 1073741824) (hbase : base ≤ w.heap.size) :
    Calls Try.prog 47 #[.slice A L c] w fun e w' => e = .returned (.bool true) ∧ Chg (blk us) w w' := by
  have HH : Hd (Fil w base 25 3 (.slice A L c) us n (fbI n) (fun _ _ => False) ∧ us.length = L ∧ base ≤ w.heap.size ∧ (∀ i, n i ≤ 1073741824)) := ⟨H, hL, hbase, hn⟩
  clear H hL hbase hn
  go_enter Try.func47, Try.ntmps47
  go_wp2_with fail
  go_loopw [3] (fun u3 wr => ∃ i : Nat, i ≤ L ∧ u3 = .int .i64 (i : Int) ∧ Fil wr base 25 3 (.slice A L c) us n (fbI n) (fun k _ => k < i) ∧ Chg (blk us) w wr) (fun u3 _ => L - (intOf u3).toNat)
  case atStart => exact ⟨0, by omega, rfl, HH.out.1.imp fun k s _ h => absurd h (by omega), Chg.refl _ _⟩
  case round =>
    obtain ⟨i, hi, rfl, hF, hC⟩ := hrel
    have H1 := Hd.mk (And.intro hF hC)
    clear hF hC
    by_cases hlt : i < L
    · have hii : (i : Int) < (L : Int) := by omega
      obtain ⟨u, hu⟩ : ∃ u, us[i]? = some u := ⟨_, List.getElem?_eq_getElem (by rw [HH.out.2.1]; exact hlt)⟩
      have ho := H1.out.1.out
      rw [HH.out.2.1] at ho
      obtain ⟨gv, cv, e, _, hgv⟩ := own_pos ho (by omega)
      cases e
      obtain ⟨xs, hr, hd⟩ := H1.out.1.row i u hu
      obtain ⟨Ai, ci, hui, _, _⟩ := own_form hr
      subst hui
      obtain ⟨m, hm⟩ : ∃ m, n i = m := ⟨_, rfl⟩
      have hm2 := HH.out.2.2.2 i
      have HM := Hd.mk hm
      rw [hm] at hm2 hr
      have HU : Hd (us[i]? = some (.slice Ai m ci) ∧ True) := ⟨by rw [← hm]; exact hu, trivial⟩
      obtain ⟨wo, hwo⟩ : ∃ wo : World, wo = wr := ⟨_, rfl⟩
      subst hwo
      clear hr hd hu ho hm
      go_wp2_with fail
      go_loopw [4] (fun u4 wr => ∃ j : Nat, j ≤ m ∧ u4 = .int .i64 (j : Int) ∧ Fil wr base 25 3 (.slice (some ⟨gv, 0, none⟩) L c) us n (fbI n) (fun k s => k < i ∨ (k = i ∧ s < j)) ∧ Chg (blk us) w wr) (fun u4 _ => m - (intOf u4).toNat)
      case atStart => exact ⟨0, by omega, rfl, H1.out.1.imp fun k s _ h => Or.elim h id (fun h => absurd h.2 (by omega)), H1.out.2⟩
      case round =>
        obtain ⟨j, hj, rfl, hF, hC⟩ := hrel
        have H2 := Hd.mk (And.intro hF hC)
        have ho := hF.out
        rw [HH.out.2.1] at ho
        obtain ⟨xs2, hr, hd⟩ := hF.row i _ HU.out.1
        have hcv := (own_at ho (j := i) (u := .slice Ai m ci) HU.out.1).1
        clear hF hC ho hd
        by_cases hjl : j < m
        · have hji : (j : Int) < (m : Int) := by omega
          rw [HM.out] at hr
          obtain ⟨g, c2, e, _, hg⟩ := own_pos hr (by omega)
          cases e
          obtain ⟨old, hold⟩ : ∃ old, xs2[j]? = some old := ⟨_, List.getElem?_eq_getElem (by have := hr.1; omega)⟩
          obtain ⟨hc1, hc2⟩ := own_at hr hold
          have HR := Hd.mk (And.intro hr hg)
          have hb1 : True := trivial
          clear hr hold hg
          go_wp2_with fail
          go_roundw
          case rel =>
            refine ⟨j + 1, by omega, by go_num, ?_, H2.out.2.setCell (show g ∈ blk us from blk_mem HU.out.1 rfl) _⟩
            have h := H2.out.1.set (i := i) (t := j) (g := g) (c := ci) (D' := fun k s => k < i ∨ (k = i ∧ s < j + 1)) (by rw [HM.out]; exact HU.out.1) (by rw [HM.out]; exact hjl) (fun k s h => by omega)
            rw [show fbI n i j = .int .i64 (-200 - (i : Int)) by unfold fbI; rw [if_pos (by rw [HM.out]; exact hjl)]] at h
            exact h
          case measure => simp [intOf]; omega
        · have hjm : j = m := by omega
          subst hjm
          go_wp2_with fail
          go_roundw
          case rel => exact ⟨i + 1, by omega, by go_num, H2.out.1.imp fun k s hs h => by
            rcases Nat.lt_or_ge k i with h1 | h1
            · exact .inl h1
            · have : k = i := by omega
              subst this
              exact .inr ⟨rfl, by rw [← HM.out]; exact hs⟩, H2.out.2⟩
          case measure => simp [intOf]; omega
    · have hiL : i = L := by omega
      subst hiL
      have HG : Hd (Gro w wr base 3 (O2 (.slice A i c) 25 us (.slice none 0 0) 25 []) us n (fbI n) 0 []) := ⟨Gro.start (by rw [HH.out.2.1]; exact H1.out.1) H1.out.2⟩
      clear H1
      obtain ⟨L, hL⟩ : ∃ L, L = i := ⟨_, rfl⟩
      subst hL
      go_wp2_with fail
      obtain ⟨wz, hwz⟩ : ∃ wz : World, wz = wr := ⟨_, rfl⟩
      subst hwz
      go_loopw [5, 6] (fun u5 u6 wr => ∃ (i : Nat) (ls : List Value) (S : List (Value × Nat × Nat)), i ≤ L ∧ u6 = .int .i64 (i : Int) ∧ ls.length = 20 * i ∧ Gro w wr base 3 (O2 (.slice A L c) 25 us u5 25 ls) us n (fbI n) i S ∧ (∀ (q : Nat) (z : Value), ls[q]? = some z → (z, q / 20, n (q / 20) + q % 20 + 1) ∈ S) ∧ (∀ (k : Nat) (z : Value), k < i → us[k]? = some z → (z, k, n k) ∈ S)) (fun _ u6 _ => L - (intOf u6).toNat)
      case atStart => exact ⟨0, [], [], by omega, rfl, rfl, HG.out, fun q z h => by simp at h, fun k z h => absurd h (by omega)⟩
      case round =>
        obtain ⟨i, ls, S, hi, rfl, hll, hG, hs1, hs2⟩ := hrel
        have H1 := Hd.mk (And.intro hG (And.intro hll (And.intro hs1 hs2)))
        clear hG hll hs1 hs2
        by_cases hlt : i < L
        · have hii : (i : Int) < (L : Int) := by omega
          obtain ⟨u, hu⟩ : ∃ u, us[i]? = some u := ⟨_, List.getElem?_eq_getElem (by rw [HH.out.2.1]; exact hlt)⟩
          have HC := Hd.mk (H1.out.1.enter hu)
          have ho : wr.ownsRow base 25 1 (.slice A L c) us.length us := H1.out.1.out 0
          rw [HH.out.2.1] at ho
          obtain ⟨gv, cv, e, _, hgv⟩ := own_pos ho (by omega)
          cases e
          have hcv := (own_at ho hu).1
          obtain ⟨Ai, ci, hui, _, _⟩ := own_form (H1.out.1.rest i u (Nat.le_refl _) hu)
          obtain ⟨m, hm⟩ : ∃ m, n i = m := ⟨_, rfl⟩
          have hm2 := HH.out.2.2.2 i
          have HM := Hd.mk hm
          rw [hm] at hm2 hui HC
          have HU := Hd.mk (And.intro hu hui)
          rw [hui] at hcv
          obtain ⟨wo, hwo⟩ : ∃ wo : World, wo = wr := ⟨_, rfl⟩
          subst hwo
          clear hu hui ho hm
          go_wp2_with fail
          go_loopw [5, 7, 8] (fun u5 u7 u8 wr => ∃ (k : Nat) (ls2 : List Value) (M : List (Value × Nat × Nat)), k ≤ 20 ∧ u8 = .int .i64 (k : Int) ∧ ls2.length = 20 * i + k ∧ Cur w wr base 3 (O2 (.slice (some ⟨gv, 0, none⟩) L c) 25 us u5 25 ls2) us n (fbI n) i S u7 (m + k) M ∧ (∀ (q : Nat) (z : Value), ls2[q]? = some z → (z, q / 20, n (q / 20) + q % 20 + 1) ∈ M ++ S) ∧ (u, i, m) ∈ M) (fun _ _ u8 _ => 20 - (intOf u8).toNat)
          case atStart => exact ⟨0, ls, [(u, i, m)], by omega, rfl, H1.out.2.1, by rw [← HU.out.2]; exact HC.out, fun q z h => List.mem_append_right _ (H1.out.2.2.1 q z h), by simp⟩
          case round =>
            obtain ⟨k, ls2, M, hk, rfl, hll2, hc, hs3, hs4⟩ := hrel
            have H2 := Hd.mk (And.intro hc (And.intro hll2 (And.intro hs3 hs4)))
            have hws : base ≤ wr.heap.size := Nat.le_trans HH.out.2.2.1 hc.gro.chg.size
            clear hc hll2 hs3 hs4
            by_cases hkl : k < 20
            · have h63 : Hd (m + k + 1 ≤ maxLen) := ⟨by unfold maxLen; omega⟩
              have hby : Hd ((m + k + 1) * 8 ≤ 140737488355328) := ⟨by omega⟩
              have h63b : Hd (20 * i + k + 1 ≤ maxLen) := ⟨by unfold maxLen; omega⟩
              have hbyb : Hd ((20 * i + k + 1) * 24 ≤ 140737488355328) := ⟨by omega⟩
              go_upto_region 17 with (at_builtin; refine pushSN_at0 elI1 rfl (.tmp 50) (.tmp 53) rfl base u7 (m + k) (cellsF (fbI n i) (m + k)) [.int .i64 (100000 + (i : Int))] rfl wr.heap.size rfl rfl rfl (by simp [Value.oneCell']) H2.out.1.own h63.out hby.out hws ?_; intro v2 w2 hO2; have H3 : Hd (Cur w w2 base 3 (O2 (.slice (some ⟨gv, 0, none⟩) L c) 25 us u5 25 ls2) us n (fbI n) i S v2 (m + k + 1) M) := ⟨H2.out.1.app1 (by unfold fbI; rw [if_neg (by rw [HM.out]; omega)]) hO2⟩; clear hO2)
              obtain ⟨A7, c7, h7, _, _⟩ := own_form H3.out.own
              subst h7
              have ho5 : Hd (w2.ownsRow base 25 1 u5 (20 * i + k) ls2 ∧ base ≤ w2.heap.size) := ⟨by have := H3.out.gro.out 1; rw [← H2.out.2.1]; exact this, Nat.le_trans HH.out.2.2.1 H3.out.gro.chg.size⟩
              go_wp2_with (refine at_buildSlice ?_; refine wpList_push elII rfl rfl (.tmp 55) (.tmp 56) 57 rfl rfl rfl base u5 (20 * i + k) ls2 (.slice A7 (m + k + 1) c7) rfl rfl rfl rfl ho5.out.1 h63b.out hbyb.out ho5.out.2 ?_; intro v3 w3 hO3; have H4 := Hd.mk hO3; clear hO3)
              go_roundw
              case rel =>
                refine ⟨k + 1, ls2 ++ [.slice A7 (m + k + 1) c7], (.slice A7 (m + k + 1) c7, i, m + k + 1) :: M, by omega, by go_num, by rw [List.length_append, H2.out.2.1]; rfl, (H3.out.push (q := 1) (O' := O2 (.slice (some ⟨gv, 0, none⟩) L c) 25 us v3 25 (ls2 ++ [.slice A7 (m + k + 1) c7])) (y := .slice A7 (m + k + 1) c7) (M' := (.slice A7 (m + k + 1) c7, i, m + k + 1) :: M) (by decide) rfl (by rw [H2.out.2.1]; exact H4.out) rfl O2_other (fun x hx => by
                  rcases List.mem_cons.1 hx with h | h
                  · exact .inr h
                  · exact .inl h)), fun q z hz => ?_, List.mem_cons_of_mem _ H2.out.2.2.2⟩
                rcases Nat.lt_or_ge q ls2.length with h | h
                · rw [List.getElem?_append_left h] at hz
                  exact List.mem_cons_of_mem _ (H2.out.2.2.1 q z hz)
                · have hq := (List.getElem?_eq_some_iff.1 hz).1
                  have hq2 : q = ls2.length := by simp at hq; omega
                  subst hq2
                  rw [List.getElem?_append_right (Nat.le_refl _)] at hz
                  simp at hz
                  subst hz
                  have hl := H2.out.2.1
                  rw [hl, show (20 * i + k) / 20 = i by omega, show (20 * i + k) % 20 = k by omega, HM.out]
                  exact List.mem_cons_self ..
              case measure => simp [intOf]; omega
            · have hk20 : k = 20 := by omega
              subst hk20
              go_wp2_with fail
              go_roundw
              case rel =>
                refine ⟨i + 1, ls2, M ++ S, by omega, by go_num, by rw [H2.out.2.1]; omega, H2.out.1.leave, H2.out.2.2.1, fun k z hk hz => ?_⟩
                rcases Nat.lt_or_ge k i with h | h
                · exact List.mem_append_right _ (H1.out.2.2.2 k z h hz)
                · have hq2 : k = i := by omega
                  subst hq2
                  have : u = z := by have := HU.out.1; rw [hz] at this; injection this with this; exact this.symm
                  subst this
                  rw [HM.out]
                  exact List.mem_append_left _ H2.out.2.2.2
              case measure => simp [intOf]; omega
        · have hiL : i = L := by omega
          subst hiL
          have H4 : Hd ((∀ (q : Nat) (z : Value), ls[q]? = some z → SnapOf wr (fbI n) (z, q / 20, n (q / 20) + q % 20 + 1)) ∧ (∀ (k : Nat) (z : Value), us[k]? = some z → SnapOf wr (fbI n) (z, k, n k)) ∧ Chg (blk us) w wr ∧ wr.ownsRow base 25 1 (.slice A i c) i us ∧ wr.ownsRow base 25 1 u5 (20 * i) ls) :=
            ⟨fun q z h => (H1.out.1.snap _ (H1.out.2.2.1 q z h)).1, fun k z h => (H1.out.1.snap _ (H1.out.2.2.2 k z (by rw [← HH.out.2.1]; exact (List.getElem?_eq_some_iff.1 h).1) h)).1, H1.out.1.chg, by have := H1.out.1.out 0; rw [← HH.out.2.1] at this ⊢; exact this, by have := H1.out.1.out 1; rw [← H1.out.2.1]; exact this⟩
          have HL : Hd (us.length = i ∧ ls.length = 20 * i) := ⟨HH.out.2.1, H1.out.2.1⟩
          clear H1
          obtain ⟨L, hL⟩ : ∃ L, L = i := ⟨_, rfl⟩
          subst hL
          obtain ⟨wy, hwy⟩ : ∃ wy : World, wy = wr := ⟨_, rfl⟩
          subst hwy
          obtain ⟨A5, c5, h5, _, _⟩ := own_form H4.out.2.2.2.2
          subst h5
          obtain ⟨LL, hLL⟩ : ∃ LL, 20 * L = LL := ⟨_, rfl⟩
          rw [hLL] at H4 HL ⊢
          have HLL := Hd.mk hLL
          have hLL2 : LL ≤ 21474836480 := by omega
          clear hLL
          go_wp2_with fail
          go_loopw [9] (fun u9 wr => ∃ (j : Nat), j ≤ LL ∧ u9 = .int .i64 (j : Int) ∧ wr.heap = wy.heap ∧ Chg (blk us) w wr) (fun u9 _ => LL - (intOf u9).toNat)
          case atStart => exact ⟨0, by omega, rfl, rfl, H4.out.2.2.1⟩
          case round =>
            obtain ⟨j, hj, rfl, hh, hC⟩ := hrel
            have H5 := Hd.mk (And.intro hh hC)
            have hcell : ∀ p : Addr, wr.cell? p = wy.cell? p := fun p => by simp [World.cell?, hh]
            by_cases hlt : j < LL
            · have hjj : (j : Int) < (LL : Int) := by omega
              obtain ⟨i, hi⟩ : ∃ i, j / 20 = i := ⟨_, rfl⟩
              obtain ⟨r, hr⟩ : ∃ r, j % 20 = r := ⟨_, rfl⟩
              have hiL : i < L := by have := HLL.out; omega
              have hii : (i : Int) < (L : Int) := by omega
              have hdiv : (j : Int) / 20 = (i : Int) := by omega
              have hdiv2 : Int.tdiv (j : Int) 20 = (i : Int) := by rw [Int.tdiv_eq_ediv_of_nonneg (by omega)]; exact hdiv
              have hr20 : r < 20 := by omega
              obtain ⟨u, hu⟩ : ∃ u, us[i]? = some u := ⟨_, List.getElem?_eq_getElem (by rw [HL.out.1]; exact hiL)⟩
              obtain ⟨z, hz⟩ : ∃ z, ls[j]? = some z := ⟨_, List.getElem?_eq_getElem (by rw [HL.out.2]; exact hlt)⟩
              have ho := H4.out.2.2.2.1
              obtain ⟨gv, cv, e, _, hgv⟩ := own_pos ho (by omega)
              cases e
              have ho5 := H4.out.2.2.2.2
              obtain ⟨gl, cl, e, _, hgl⟩ := own_pos ho5 (by omega)
              cases e
              have hcv := (hcell _).trans (own_at ho hu).1
              have hcl := (hcell _).trans (own_at ho5 hz).1
              have hsu := H4.out.2.1 i u hu
              have hsz := H4.out.1 j z hz
              rw [hi, hr] at hsz
              obtain ⟨Ai, ci, hui⟩ := hsu.form
              obtain ⟨Az, cz, hzi⟩ := hsz.form
              simp only at hui hzi
              obtain ⟨m, hm⟩ : ∃ m, n i = m := ⟨_, rfl⟩
              have hm2 := HH.out.2.2.2 i
              have HM := Hd.mk hm
              rw [hm] at hm2 hui hzi hsu hsz
              subst hui hzi
              have HS := Hd.mk (And.intro hsu hsz)
              obtain ⟨wo, hwo⟩ : ∃ wo : World, wo = wr := ⟨_, rfl⟩
              subst hwo
              clear hsu hsz hu hz ho ho5 hm hh hC hcell hi hr
              go_wp2_with fail
              go_loopw [11] (fun u11 wr => ∃ t : Nat, t ≤ m + r + 1 ∧ u11 = .int .i64 (t : Int) ∧ wr.heap = wy.heap ∧ Chg (blk us) w wr) (fun u11 _ => m + r + 1 - (intOf u11).toNat)
              case atStart => exact ⟨0, by omega, rfl, H5.out⟩
              case round =>
                obtain ⟨t, ht, rfl, hh, hC⟩ := hrel
                have H6 := Hd.mk (And.intro hh hC)
                have hcell : ∀ p : Addr, wr.cell? p = wy.cell? p := fun p => by simp [World.cell?, hh]
                have hcv2 := (hcell ⟨gv, i, none⟩).trans ((World.cell?_of_block (a := ⟨gv, i, none⟩) (by rw [H5.out.1])).symm.trans hcv)
                have hcl2 := (hcell ⟨gl, j, none⟩).trans ((World.cell?_of_block (a := ⟨gl, j, none⟩) (by rw [H5.out.1])).symm.trans hcl)
                clear hcv hcl
                by_cases hjl : t < m + r + 1
                · have hjt : (t : Int) < ((m + r + 1 : Nat) : Int) := by omega
                  obtain ⟨bz, _, ez, _, hz⟩ := HS.out.2.cell (t := t) hjl
                  cases ez
                  have hz2 := (hcell _).trans hz
                  by_cases hjm : t < m
                  · have hji : (t : Int) < (m : Int) := by omega
                    obtain ⟨bu, _, eu, _, hu⟩ := HS.out.1.cell (t := t) hjm
                    cases eu
                    have hu2 := (hcell _).trans hu
                    have hf : fbI n i t = .int .i64 (-200 - (i : Int)) := by unfold fbI; rw [if_pos (by rw [HM.out]; exact hjm)]
                    simp only [hf] at hz2 hu2
                    clear hz hu hcell hh hC hf
                    have e4 : (-200 - (i : Int) != -200 - (i : Int)) = false := by simp
                    go_wp2_with fail
                    go_roundw
                    case rel => exact ⟨t + 1, by omega, by go_num, H6.out⟩
                    case measure => simp [intOf]; omega
                  · have hji : ¬ (t : Int) < (m : Int) := by omega
                    have hf : fbI n i t = .int .i64 (100000 + (i : Int)) := by unfold fbI; rw [if_neg (by rw [HM.out]; exact hjm)]
                    simp only [hf] at hz2
                    clear hz hcell hh hC hf
                    have e4 : (100000 + (i : Int) != 100000 + (i : Int)) = false := by simp
                    go_wp2_with fail
                    go_roundw
                    case rel => exact ⟨t + 1, by omega, by go_num, H6.out⟩
                    case measure => simp [intOf]; omega
                · have hjm : t = m + r + 1 := by omega
                  subst hjm
                  clear hcell hh hC
                  go_wp2_with fail
                  go_roundw
                  case rel => exact ⟨j + 1, by omega, by go_num, H6.out⟩
                  case measure => simp [intOf]; omega
            · have hiL : LL = j := by omega
              subst hiL
              clear hcell hh hC
              go_wp2_with fail
              go_ret
              exact ⟨rfl, H5.out.2⟩
end Go.Proofs.Ytplpaipmkpjgfaa
