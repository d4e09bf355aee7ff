/- The walk of HealthMemory: it returns true for every input. -/
import Derived.Test.YtknpcbekaodlkaaOrdersWalk
import Derived.Test.YtknpcbekaodlkaaFormWalk
import Derived.Test.YtknpcbekaodlkaaApartC
import Derived.Test.YtknpcbekaodlkaaBag
namespace Go.Proofs.Ytknpcbekaodlkaa
open Go.RowKit
set_option linter.unusedVariables false
set_option linter.unusedSimpArgs false
theorem Brd.lowerM {w : World} {B B' b h cap K : Nat} {ss : List Nat} (H : Brd w B b h cap K ss) (hB : B' ≤ B) : Brd w B' b h cap K ss :=
  ⟨Nat.le_trans hB H.hB, H.ne, H.blk, own_more H.row hB⟩
theorem Brd.chg {w w' : World} {B b h cap K : Nat} {ss L : List Nat} (H : Brd w B b h cap K ss) (c : Chg L w w') (hb : b ∉ L) (hh : h ∉ L) : Brd w' B b h cap K ss :=
  ⟨H.hB, H.ne, (c.block b H.lt.1 hb).trans H.blk, c.own H.row fun k hk => by cases hk; exact hh⟩
/-- Where HealthMemory stands behind the loop. -/
structure MS (w W : World) (b h cap b2 h2 cap2 K : Nat) (ss : List Nat) (RL : List (Nat × Value × List Value)) : Prop where
  one : Brd W w.heap.size b h cap K ss
  two : Brd W w.heap.size b2 h2 cap2 K ss
  bag : Bag W w.heap.size RL [b2, h2, b, h]
  bel : Below w.heap.size w W
section
variable {w W W' : World} {b h cap b2 h2 cap2 K : Nat} {ss : List Nat} {RL RL2 : List (Nat × Value × List Value)} {us : List Value}
theorem MS.keep (H : MS w W b h cap b2 h2 cap2 K ss RL) (k : Below W.heap.size W W') : MS w W' b h cap b2 h2 cap2 K ss RL := ⟨H.one.keep k, H.two.keep k, H.bag.keep k, H.bel.trans (k.mono H.bel.size)⟩
theorem MS.push (H : MS w W b h cap b2 h2 cap2 K ss RL) {e n : Nat} {v : Value} {xs : List Value} (hn : xs.length = n) (k : Below W.heap.size W W') (o : W'.ownsRow W.heap.size e 1 v n xs) : MS w W' b h cap b2 h2 cap2 K ss (RL ++ [(e, v, xs)]) :=
  ⟨H.one.keep k, H.two.keep k, H.bag.push H.bel.size hn k o, H.bel.trans (k.mono H.bel.size)⟩
theorem MS.chg (H : MS w W b h cap b2 h2 cap2 K ss RL) (I J : List Nat) (c : Chg (blk us) W W') (hus : ∀ u ∈ us, ∃ i x, i ∈ I ∧ RL[i]? = some x ∧ u = x.2.1) (hJ : J.Nodup) (hIJ : ∀ j ∈ J, j ∉ I) (h2' : ∀ (k : Nat) (y : Nat × Value × List Value), RL2[k]? = some y → ∃ j, J[k]? = some j ∧ RL[j]? = some y) : MS w W' b h cap b2 h2 cap2 K ss RL2 := by
  have off : ∀ {k : Nat}, k ∈ [b2, h2, b, h] → k ∉ blk us := fun hk => H.bag.off_blk (fun u hu => let ⟨i, x, _, a, b⟩ := hus u hu; ⟨i, x, a, b⟩) hk
  refine ⟨H.one.chg c (off (by simp)) (off (by simp)), H.two.chg c (off (by simp)) (off (by simp)), H.bag.chg I J c hus hJ hIJ h2', H.bel.trans (c.below H.bel.size fun k hk => ?_)⟩
  obtain ⟨u, hu, he⟩ := List.mem_filterMap.1 hk
  obtain ⟨i, x, _, hx, rfl⟩ := hus u hu
  exact ((H.bag.own x (List.mem_of_getElem? hx)).lt k he).1
end
set_option maxRecDepth 20000 in
set_option maxHeartbeats 4000000 in
theorem memory_walk0 (n : Int) (x : Nat) (A : Option Addr) (m c : Nat) (T : Nat → Bool × Int × Int × Bool) (w : World) (hT : Tolds w A m T) (hm : m * 32 ≤ 140737488351232) :
    Calls Try.prog 5 #[.int .i64 n, .float .f64 x, .slice A m c] w fun e w' => e = .returned (.bool true) ∧ Below w.heap.size w w' := by
  have HB := Hd.mk (wrap64_bd (n - 1))
  have HN : Hd ((1 : Int) + ((pickP (wrap64 (n - 1)) 255 : Nat) : Int) = ((placesN n : Nat) : Int)) := ⟨by unfold placesN; omega⟩
  have hp := pickP_lt (wrap64 (n - 1)) 255 (by decide)
  have HT := Hd.mk hT
  have HL := Hd.mk (placesN_le n)
  have hm2 : m ≤ 4398046510976 := by omega
  clear hT hm
  go_enter Try.func5, Try.ntmps5
  go_wp2_with fail
  refine (awake_any w).mono ?_
  rintro e w1 ⟨rfl, hb1⟩
  have H1 := Hd.mk hb1
  clear hb1
  go_wp2_with fail
  refine (board_any w1 n x).mono ?_
  rintro e w2 ⟨b, h, cap, K, rfl, hK0, hK1, hBr, hb2⟩
  have H2 : Hd (0 < K ∧ K < one32 ∧ Brd w2 w.heap.size b h cap K (List.replicate (placesN n) one32) ∧ Below w.heap.size w w2) := ⟨hK0, hK1, ⟨Nat.le_trans H1.out.size hBr.hB, hBr.ne, hBr.blk, own_more hBr.row H1.out.size⟩, H1.out.trans (hb2.mono H1.out.size)⟩
  clear hK0 hK1 hBr hb2
  go_wp2_with fail
  refine (pick_any _ _ 255 (by decide) (by decide) HB.out.1 HB.out.2).mono ?_
  rintro e w3 ⟨rfl, rfl⟩
  obtain ⟨q, hq⟩ : ∃ q, placesN n = q := ⟨_, rfl⟩
  have hpq := HN.out
  obtain ⟨pp, hpp⟩ : ∃ pp, pickP (wrap64 (n - 1)) 255 = pp := ⟨_, rfl⟩
  rw [hpp] at hpq hp ⊢
  rw [hq] at H2 HL hpq
  have hq1 := HL.out.1
  have hq2 := HL.out.2
  have L0 := Hd.mk (law_start H2.out.1 H2.out.2.1 q)
  clear hq hpp HN HB
  go_wp2_with fail
  clear hpq hp
  go_loopw [8] (fun i wr => ∃ (k : Nat) (ss : List Nat), k ≤ m ∧ i = .int .i64 (k : Int) ∧ ss.length = q ∧ Law K ss ∧ Brd wr w.heap.size b h cap K ss ∧ Below w.heap.size w wr) (fun i _ => m - (intOf i).toNat)
  case atStart => exact ⟨0, List.replicate q one32, by omega, rfl, List.length_replicate, L0.out, H2.out.2.2.1, H2.out.2.2.2⟩
  case round =>
    obtain ⟨k, ss, hk, rfl, hlen, hLaw, hBr, hbel⟩ := hrel
    have H4 := Hd.mk (And.intro hlen (And.intro hLaw (And.intro hBr hbel)))
    clear hlen hLaw hBr hbel
    obtain ⟨wo, hwo⟩ : ∃ wo : World, wo = wr := ⟨_, rfl⟩
    rw [← hwo] at H4 ⊢
    clear hwo
    by_cases hkm : k < m
    · have hki : (k : Int) < (m : Int) := by omega
      obtain ⟨gT, oT, rfl, _, c0, c1', c2, c3, _, j2⟩ := (HT.out.below H4.out.2.2.2) k hkm
      obtain ⟨P, hP⟩ : ∃ P, (T k).2.2.1 = P := ⟨_, rfl⟩
      obtain ⟨G, hG⟩ : ∃ G, (T k).2.2.2 = G := ⟨_, rfl⟩
      rw [hP] at c2 j2
      rw [hG] at c3
      have ha := pickP_lt P q hq1
      have HC : Hd (Calls Try.prog 24 #[.int .i64 P, .int .i64 (q : Int)] wo.drew fun e w' => e = .returned (.int .i64 ((pickP P q : Nat) : Int)) ∧ w' = wo.drew) :=
        ⟨(pick_any _ P q hq1 (by omega) j2.1 j2.2).mono fun _ _ ⟨h1, h2⟩ => ⟨h1, h2.symm⟩⟩
      obtain ⟨a, haa⟩ : ∃ a, pickP P q = a := ⟨_, rfl⟩
      rw [haa] at ha HC
      clear haa j2 c0 c1' hP hG
      go_wp2_with fail
      refine wp_region_still_tail 13 (by kernel_rfl) (by kernel_rfl) ?_
      simp only [List.take_succ_cons, List.take_zero, List.drop_succ_cons, List.drop_zero]
      repeat still_step
      still_call HC.out
      repeat still_step
      refine wpStill_nil ?_
      change wpList _ _ _ _ _ wo.drew
      go_wp2_with fail
      refine (tell_in wo.drew w.heap.size b h cap K ss (H4.out.2.2.1.drew 1) H4.out.2.1 a (by rw [H4.out.1]; exact ha) G).mono ?_
      rintro e w5 ⟨rfl, hB5, hg5⟩
      have H5 : Hd (Brd w5 w.heap.size b h cap K (ss.set a (tellT K (ss.getD a 0) G)) ∧ Law K (ss.set a (tellT K (ss.getD a 0) G)) ∧ Below w.heap.size w w5 ∧ (ss.set a (tellT K (ss.getD a 0) G)).length = q) :=
        ⟨hB5, law_set H4.out.2.1 a _ (tellT_one (Nat.le_of_lt H4.out.2.1.k1) (law_get H4.out.2.1 a) G), H4.out.2.2.2.drew.grown hg5 H4.out.2.2.2.size (fun k hk => by cases hk; exact H4.out.2.2.1.lt.2.2), by rw [List.length_set]; exact H4.out.1⟩
      clear hB5 hg5
      go_wp2_with fail
      go_roundw
      case rel => exact ⟨k + 1, _, by omega, by go_num, H5.out.2.2.2, H5.out.2.1, H5.out.1, H5.out.2.2.1⟩
      case measure => simp [intOf]; omega
    · have HSV : Hd (∀ W, ∀ (b h cap : Nat), Brd W w.heap.size b h cap K ss → Calls Try.prog 26 #[.pointer (some ⟨b, 0, none⟩)] W fun e w' => ∃ A c, e = .returned (.slice A (5 + 4 * q) c) ∧ 5 + 4 * q ≤ c ∧ w'.ownsRow W.heap.size 5 1 (.slice A (5 + 4 * q) c) (5 + 4 * q) (cb (saveP K ss)) ∧ Below W.heap.size W w') := ⟨fun W b h cap hW => by
        have := save_any W w.heap.size b h cap K ss hW H4.out.2.1 (by rw [H4.out.1]; exact hq2)
        rw [H4.out.1] at this
        exact this.mono fun e w' ⟨v, he, hO⟩ => by
          obtain ⟨A, c, rfl, h1, _⟩ := own_form hO.own
          exact ⟨A, c, he, h1, hO.own, hO.below (fun k hk => by cases hk) (Nat.le_refl _)⟩⟩
      have HOR : Hd (∀ W, ∀ (b h cap : Nat), Brd W w.heap.size b h cap K ss → Calls Try.prog 28 #[.pointer (some ⟨b, 0, none⟩)] W fun e w' => ∃ g, e = .returned (.slice (some ⟨g, 0, none⟩) q q) ∧ w'.ownsRow W.heap.size 3 1 (.slice (some ⟨g, 0, none⟩) q q) q (iv (orderP ss)) ∧ Below W.heap.size W w') := ⟨fun W b h cap hW => by
        have := order_any W w.heap.size b h cap K ss hW H4.out.2.1.sc (by rw [H4.out.1]; omega) (by rw [H4.out.1]; exact hq2)
        rw [H4.out.1] at this
        exact this.mono fun e w' ⟨g, he, ho, hb, _⟩ => ⟨g, he, ho, hb⟩⟩
      have HLN : Hd ((saveP K ss).length = 5 + 4 * q ∧ (iv (orderP ss)).length = q) := ⟨by rw [saveP_len, H4.out.1], by rw [iv_len, orderP_len]; exact H4.out.1⟩
      go_wp2_with fail
      refine (HSV.out wo b h cap H4.out.2.2.1).mono ?_
      rintro e w5 ⟨A1, c1, rfl, hc1, ho1, hb5⟩
      have H5 : Hd (Brd w5 w.heap.size b h cap K ss ∧ Bag w5 w.heap.size [(5, .slice A1 (5 + 4 * q) c1, cb (saveP K ss))] [b, h] ∧ Below w.heap.size w w5) :=
        ⟨H4.out.2.2.1.keep hb5, (Bag.start wo w.heap.size [b, h] (fun k hk => by simp at hk; rcases hk with rfl | rfl; exact H4.out.2.2.1.lt.1; exact H4.out.2.2.1.lt.2.1)).push H4.out.2.2.2.size (by rw [cb_length]; exact HLN.out.1) hb5 ho1, H4.out.2.2.2.trans (hb5.mono H4.out.2.2.2.size)⟩
      clear hb5 ho1
      go_wp2_with fail
      refine (HSV.out w5 b h cap H5.out.1).mono ?_
      rintro e w6 ⟨A2, c2, rfl, _, ho1, hb6⟩
      have H6 : Hd (Brd w6 w.heap.size b h cap K ss ∧ Bag w6 w.heap.size [(5, .slice A1 (5 + 4 * q) c1, cb (saveP K ss)), (5, .slice A2 (5 + 4 * q) c2, cb (saveP K ss))] [b, h] ∧ Below w.heap.size w w6) :=
        ⟨H5.out.1.keep hb6, H5.out.2.1.push H5.out.2.2.size (by rw [cb_length]; exact HLN.out.1) hb6 ho1, H5.out.2.2.trans (hb6.mono H5.out.2.2.size)⟩
      clear hb6 ho1
      obtain ⟨S, hS⟩ : ∃ S, bstr (saveP K ss) = S := ⟨_, rfl⟩
      have g1 : (convert 45 9 (.slice A1 (5 + 4 * q) c1)).run Try.prog w6 = .ok (.string S) w6 := by rw [← hS]; exact conv_bytes (H6.out.2.1.rd 0 rfl)
      have HS := Hd.mk hS
      clear hS
      go_wp2_with fail
      clear g1
      refine (load_any w6 w6.heap.size (5 + 4 * q) c1 A1 (saveP K ss) (H6.out.2.1.rd 0 rfl) (saveP_lt K ss) (Nat.le_refl _) hc1).mono ?_
      rintro e w7 ⟨hb7, ⟨hno, rfl⟩ | ⟨K6, ss6, b2, h2, cap2, hld, rfl, hB6⟩⟩
      · exfalso
        rw [load_save H4.out.2.1 (by rw [H4.out.1]; exact hq1) (by rw [H4.out.1]; exact hq2)] at hno
        cases hno
      have hld2 := load_save H4.out.2.1 (by rw [H4.out.1]; exact hq1) (by rw [H4.out.1]; exact hq2)
      rw [hld2] at hld
      injection hld with hld
      injection hld with e1 e2
      subst e1 e2
      have H7 : Hd (MS w w7 b h cap b2 h2 cap2 K ss [(5, .slice A1 (5 + 4 * q) c1, cb (saveP K ss)), (5, .slice A2 (5 + 4 * q) c2, cb (saveP K ss))]) :=
        ⟨⟨H6.out.1.keep hb7, hB6.lowerM H6.out.2.2.size, H6.out.2.1.board2 hb7 hB6.hB hB6.lt.1 hB6.lt.2.2 hB6.lt.2.1, H6.out.2.2.trans (hb7.mono H6.out.2.2.size)⟩⟩
      clear hb7 hB6 hld2
      have g1 : (convert 45 9 (.slice A2 (5 + 4 * q) c2)).run Try.prog w7 = .ok (.string S) w7 := by rw [← HS.out]; exact conv_bytes (H7.out.bag.rd 1 rfl)
      go_wp2_with fail
      refine (HOR.out w7 b h cap H7.out.one).mono ?_
      rintro e w8 ⟨g1, rfl, ho, hb⟩
      have H8 : Hd (MS w w8 b h cap b2 h2 cap2 K ss ([(5, .slice A1 (5 + 4 * q) c1, cb (saveP K ss)), (5, .slice A2 (5 + 4 * q) c2, cb (saveP K ss))] ++ [(3, .slice (some ⟨g1, 0, none⟩) q q, iv (orderP ss))])) := ⟨H7.out.push HLN.out.2 hb ho⟩
      clear ho hb H7
      go_wp2_with fail
      refine (HOR.out w8 b h cap H8.out.one).mono ?_
      rintro e w9 ⟨g2, rfl, ho, hb⟩
      have H9 : Hd (MS w w9 b h cap b2 h2 cap2 K ss ([(5, .slice A1 (5 + 4 * q) c1, cb (saveP K ss)), (5, .slice A2 (5 + 4 * q) c2, cb (saveP K ss)), (3, .slice (some ⟨g1, 0, none⟩) q q, iv (orderP ss))] ++ [(3, .slice (some ⟨g2, 0, none⟩) q q, iv (orderP ss))])) := ⟨H8.out.push HLN.out.2 hb ho⟩
      clear ho hb H8
      go_wp2_with fail
      refine (HOR.out w9 b2 h2 cap2 H9.out.two).mono ?_
      rintro e w10 ⟨g3, rfl, ho, hb⟩
      have H10 : Hd (MS w w10 b h cap b2 h2 cap2 K ss ([(5, .slice A1 (5 + 4 * q) c1, cb (saveP K ss)), (5, .slice A2 (5 + 4 * q) c2, cb (saveP K ss)), (3, .slice (some ⟨g1, 0, none⟩) q q, iv (orderP ss)), (3, .slice (some ⟨g2, 0, none⟩) q q, iv (orderP ss))] ++ [(3, .slice (some ⟨g3, 0, none⟩) q q, iv (orderP ss))])) := ⟨H9.out.push HLN.out.2 hb ho⟩
      clear ho hb H9
      have h63 : Hd (0 + q ≤ maxLen) := ⟨by unfold maxLen; omega⟩
      have hby : Hd ((0 + q) * 8 ≤ 140737488355328) := ⟨by omega⟩
      go_wp2_with (at_builtin; refine wpList_app elI rfl (.const (.slice none 0 0)) (.tmp 86) rfl w10.heap.size (.slice none 0 0) 0 [] rfl (World.ownsRow_nil ..) w10.heap.size (some ⟨g1, 0, none⟩) q q (iv (orderP ss)) rfl (H10.out.bag.rd 2 rfl) (iv_one _) h63.out hby.out (Nat.le_refl _) ?_; intro vr w11 hO; have HO := Hd.mk hO; clear hO)
      obtain ⟨Ar, cr, e, _, _⟩ := own_form HO.out.own
      rw [Nat.zero_add] at e
      subst e
      have H11 : Hd (MS w w11 b h cap b2 h2 cap2 K ss ([(5, .slice A1 (5 + 4 * q) c1, cb (saveP K ss)), (5, .slice A2 (5 + 4 * q) c2, cb (saveP K ss)), (3, .slice (some ⟨g1, 0, none⟩) q q, iv (orderP ss)), (3, .slice (some ⟨g2, 0, none⟩) q q, iv (orderP ss)), (3, .slice (some ⟨g3, 0, none⟩) q q, iv (orderP ss))] ++ [(3, .slice Ar q cr, iv (orderP ss))])) := ⟨H10.out.push HLN.out.2 (HO.out.below (fun k hk => by cases hk) (Nat.le_refl _)) (by have := HO.out.own; rw [Nat.zero_add, List.nil_append] at this; exact this)⟩
      clear HO H10
      refine (sameInts_any w11 w11.heap.size q q cr (some ⟨g2, 0, none⟩) Ar (orderP ss) (H11.out.bag.rd 3 rfl) (H11.out.bag.rd 5 rfl) (Nat.le_refl _) (by omega)).mono ?_
      rintro e w12 ⟨rfl, hb⟩
      have H12 := Hd.mk (H11.out.keep hb)
      clear hb
      go_wp2_with fail
      refine (sameInts_any w12 w12.heap.size q q cr (some ⟨g3, 0, none⟩) Ar (orderP ss) (H12.out.bag.rd 4 rfl) (H12.out.bag.rd 5 rfl) (Nat.le_refl _) (by omega)).mono ?_
      rintro e w13 ⟨rfl, hb⟩
      have H13 := Hd.mk (H12.out.keep hb)
      clear hb
      go_wp2_with fail
      refine (HSV.out w13 b2 h2 cap2 H13.out.two).mono ?_
      rintro e w14 ⟨A3, c3, rfl, _, ho, hb⟩
      have H14 : Hd (MS w w14 b h cap b2 h2 cap2 K ss ([(5, .slice A1 (5 + 4 * q) c1, cb (saveP K ss)), (5, .slice A2 (5 + 4 * q) c2, cb (saveP K ss)), (3, .slice (some ⟨g1, 0, none⟩) q q, iv (orderP ss)), (3, .slice (some ⟨g2, 0, none⟩) q q, iv (orderP ss)), (3, .slice (some ⟨g3, 0, none⟩) q q, iv (orderP ss)), (3, .slice Ar q cr, iv (orderP ss))] ++ [(5, .slice A3 (5 + 4 * q) c3, cb (saveP K ss))])) := ⟨H13.out.push (by rw [cb_length]; exact HLN.out.1) hb ho⟩
      clear ho hb H11 H12 H13
      go_wp2_with fail
      have hF := Fil.of_bag (RL := [(5, .slice A1 (5 + 4 * q) c1, cb (saveP K ss)), (5, .slice A2 (5 + 4 * q) c2, cb (saveP K ss)), (3, .slice (some ⟨g1, 0, none⟩) q q, iv (orderP ss)), (3, .slice (some ⟨g2, 0, none⟩) q q, iv (orderP ss)), (3, .slice (some ⟨g3, 0, none⟩) q q, iv (orderP ss)), (3, .slice Ar q cr, iv (orderP ss)), (5, .slice A3 (5 + 4 * q) c3, cb (saveP K ss))]) H14.out.bag (N := w14.heap.size) (E := 45) (e := 5) (us := [.slice A1 (5 + 4 * q) c1, .slice A2 (5 + 4 * q) c2, .slice A3 (5 + 4 * q) c3]) (m := 3) (n := fun _ => 5 + 4 * q) (F := fbB fun _ => 5 + 4 * q) rfl H14.out.bel.size rfl (by unfold maxLen; simp) [0, 1, 6] (by decide) (fun k u h => by
        match k, h with
        | 0, h => exact ⟨0, _, rfl, rfl, (Option.some.inj h).symm, rfl, by rw [cb_length]; exact HLN.out.1.symm⟩
        | 1, h => exact ⟨1, _, rfl, rfl, (Option.some.inj h).symm, rfl, by rw [cb_length]; exact HLN.out.1.symm⟩
        | 2, h => exact ⟨6, _, rfl, rfl, (Option.some.inj h).symm, rfl, by rw [cb_length]; exact HLN.out.1.symm⟩
        | (k + 3), h => simp at h)
      have HF := Hd.mk hF
      clear hF
      refine (apartBytes_any _ w.heap.size 3 3 _ _ (fun _ => 5 + 4 * q) rfl HF.out (by decide) (fun _ => by omega) (by have := H14.out.bel.size; simp; omega)).mono ?_
      rintro e w15 ⟨rfl, hC⟩
      have H15 : Hd (MS w w15 b h cap b2 h2 cap2 K ss [(3, .slice (some ⟨g1, 0, none⟩) q q, iv (orderP ss)), (3, .slice (some ⟨g2, 0, none⟩) q q, iv (orderP ss)), (3, .slice (some ⟨g3, 0, none⟩) q q, iv (orderP ss)), (3, .slice Ar q cr, iv (orderP ss))]) := ⟨(H14.out.keep ((Below.refl _ w14).alloc (Nat.le_refl _) _)).chg (us := [.slice A1 (5 + 4 * q) c1, .slice A2 (5 + 4 * q) c2, .slice A3 (5 + 4 * q) c3]) [0, 1, 6] [2, 3, 4, 5] hC (fun u hu => by simp only [List.mem_cons, List.not_mem_nil, or_false] at hu; rcases hu with rfl | rfl | rfl <;> first | exact ⟨0, _, by simp, rfl, rfl⟩ | exact ⟨1, _, by simp, rfl, rfl⟩ | exact ⟨6, _, by simp, rfl, rfl⟩) (by decide) (by decide) (fun k y h => by
        match k, h with
        | 0, h => exact ⟨2, rfl, h⟩
        | 1, h => exact ⟨3, rfl, h⟩
        | 2, h => exact ⟨4, rfl, h⟩
        | 3, h => exact ⟨5, rfl, h⟩
        | (k + 4), h => simp at h)⟩
      clear hC HF H14
      go_wp2_with fail
      have hF := Fil.of_bag (RL := [(3, .slice (some ⟨g1, 0, none⟩) q q, iv (orderP ss)), (3, .slice (some ⟨g2, 0, none⟩) q q, iv (orderP ss)), (3, .slice (some ⟨g3, 0, none⟩) q q, iv (orderP ss)), (3, .slice Ar q cr, iv (orderP ss))]) H15.out.bag (N := w15.heap.size) (E := 49) (e := 3) (us := [.slice (some ⟨g1, 0, none⟩) q q, .slice (some ⟨g2, 0, none⟩) q q, .slice (some ⟨g3, 0, none⟩) q q]) (m := 3) (n := fun _ => q) (F := fbI fun _ => q) rfl H15.out.bel.size rfl (by unfold maxLen; simp) [0, 1, 2] (by decide) (fun k u h => by
        match k, h with
        | 0, h => exact ⟨0, _, rfl, rfl, (Option.some.inj h).symm, rfl, HLN.out.2.symm⟩
        | 1, h => exact ⟨1, _, rfl, rfl, (Option.some.inj h).symm, rfl, HLN.out.2.symm⟩
        | 2, h => exact ⟨2, _, rfl, rfl, (Option.some.inj h).symm, rfl, HLN.out.2.symm⟩
        | (k + 3), h => simp at h)
      have HF := Hd.mk hF
      clear hF
      refine (apartInts_any _ w.heap.size 3 3 _ _ (fun _ => q) rfl HF.out (by decide) (fun _ => by omega) (by have := H15.out.bel.size; simp; omega)).mono ?_
      rintro e w16 ⟨rfl, hC⟩
      have H16 : Hd (MS w w16 b h cap b2 h2 cap2 K ss [(3, .slice Ar q cr, iv (orderP ss))]) := ⟨(H15.out.keep ((Below.refl _ w15).alloc (Nat.le_refl _) _)).chg (us := [.slice (some ⟨g1, 0, none⟩) q q, .slice (some ⟨g2, 0, none⟩) q q, .slice (some ⟨g3, 0, none⟩) q q]) [0, 1, 2] [3] hC (fun u hu => by simp only [List.mem_cons, List.not_mem_nil, or_false] at hu; rcases hu with rfl | rfl | rfl <;> first | exact ⟨0, _, by simp, rfl, rfl⟩ | exact ⟨1, _, by simp, rfl, rfl⟩ | exact ⟨2, _, by simp, rfl, rfl⟩) (by decide) (by decide) (fun k y h => by
        match k, h with
        | 0, h => exact ⟨3, rfl, h⟩
        | (k + 1), h => simp at h)⟩
      clear hC HF H15
      go_wp2_with fail
      refine (HSV.out w16 b h cap H16.out.one).mono ?_
      rintro e w17 ⟨A5, c5, rfl, _, ho, hb⟩
      have H17 := Hd.mk (H16.out.keep hb)
      have g1 : (convert 45 9 (.slice A5 (5 + 4 * q) c5)).run Try.prog w17 = .ok (.string S) w17 := by rw [← HS.out]; exact conv_bytes (Rd.of_own ho)
      clear ho hb
      go_wp2_with fail
      clear g1
      refine (HSV.out w17 b2 h2 cap2 H17.out.two).mono ?_
      rintro e w18 ⟨A5, c5, rfl, _, ho, hb⟩
      have H18 := Hd.mk (H17.out.keep hb)
      have g1 : (convert 45 9 (.slice A5 (5 + 4 * q) c5)).run Try.prog w18 = .ok (.string S) w18 := by rw [← HS.out]; exact conv_bytes (Rd.of_own ho)
      clear ho hb
      go_wp2_with fail
      clear g1
      refine (HOR.out w18 b h cap H18.out.one).mono ?_
      rintro e w19 ⟨g5, rfl, ho, hb⟩
      have H19 := Hd.mk (H18.out.keep hb)
      have HO := Hd.mk (Rd.of_own ho)
      clear ho hb
      go_wp2_with fail
      refine (sameInts_any w19 w19.heap.size q q cr (some ⟨g5, 0, none⟩) Ar (orderP ss) HO.out (H19.out.bag.rd 0 rfl) (Nat.le_refl _) (by omega)).mono ?_
      rintro e w20 ⟨rfl, hb⟩
      have H20 := Hd.mk (H19.out.keep hb)
      clear hb HO
      go_wp2_with fail
      refine (HOR.out w20 b2 h2 cap2 H20.out.two).mono ?_
      rintro e w21 ⟨g5, rfl, ho, hb⟩
      have H21 := Hd.mk (H20.out.keep hb)
      have HO := Hd.mk (Rd.of_own ho)
      clear ho hb
      go_wp2_with fail
      refine (sameInts_any w21 w21.heap.size q q cr (some ⟨g5, 0, none⟩) Ar (orderP ss) HO.out (H21.out.bag.rd 0 rfl) (Nat.le_refl _) (by omega)).mono ?_
      rintro e w22 ⟨rfl, hb⟩
      have H22 := Hd.mk (H21.out.keep hb)
      clear hb HO
      go_wp2_with fail
      go_ret
      exact ⟨rfl, H22.out.bel⟩
theorem memory_walk (n : Int) (x : Nat) (A : Option Addr) (m c : Nat) (T : Nat → Bool × Int × Int × Bool) (w : World) (hn : (Lit.int .i64 n).wf = true) (hx : (Lit.float .f64 x).wf = true) (hT : Tolds w A m T) (hm : m * 32 ≤ 140737488351232) :
    Calls Try.prog 5 #[.int .i64 n, .float .f64 x, .slice A m c] w fun e w' => e = .returned (.bool true) ∧ Below w.heap.size w w' := memory_walk0 n x A m c T w hT hm
end Go.Proofs.Ytknpcbekaodlkaa
