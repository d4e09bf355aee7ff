/- The walk of CodecPuts. -/
import Derived.Test.YtjkenhkoakaaoaaCPuts
namespace Go.Proofs.Ytjkenhkoakaaoaa
open Go.RowKit
set_option linter.unusedVariables false
set_option maxRecDepth 20000 in
set_option maxHeartbeats 4000000 in
theorem puts_walk (Ab Ap At : Option Addr) (nb cb2 np cp2 k ct2 v zn : Nat) (sv : Int) (bs ps : List Nat) (ts : List ByteArray) (w : World) (hb : Rd w w.heap.size Ab nb (cb bs)) (hp : Rd w w.heap.size Ap np (cb ps)) (ht : Rd w w.heap.size At k (cs ts)) (lb : ∀ x ∈ bs, x < 256) (lp : ∀ x ∈ ps, x < 256)
    (hv : v < 2 ^ 64) (hz : zn < 2 ^ 64) (s1 : -9223372036854775808 ≤ sv) (s2 : sv ≤ 9223372036854775807) (hzn : zig sv = (zn : Int)) (hnb : nb ≤ 1048576) (hnp : np ≤ 1048576) (hk : k ≤ 1048576) (hss : ssum ts ≤ 1048576) :
    Calls Try.prog 6 #[.agg #[.slice Ab nb cb2, .int .u64 (v : Int), .int .i64 sv, .slice Ap np cp2, .slice At k ct2]] w fun e w' => e = .returned (.bool true) ∧ Below w.heap.size w w' := by
  have HX : Hd (Rd w w.heap.size Ab nb (cb bs) ∧ Rd w w.heap.size Ap np (cb ps) ∧ Rd w w.heap.size At k (cs ts) ∧ v < 2 ^ 64 ∧ zn < 2 ^ 64 ∧ zig sv = (zn : Int) ∧ (∀ x ∈ bs, x < 256) ∧ (∀ x ∈ ps, x < 256) ∧ ssum ts ≤ 1048576) := ⟨hb, hp, ht, hv, hz, hzn, lb, lp, hss⟩
  obtain ⟨V, hV⟩ : ∃ V : Int, (v : Int) = V := ⟨_, rfl⟩
  have HV := Hd.mk hV
  rw [hV]
  clear hb hp ht hv hz hzn lb lp hss hV
  go_enter Try.func6, Try.ntmps6
  go_wp2_with fail
  obtain ⟨xc, hxc⟩ : ∃ xc : Array Value, xc = #[.slice Ab nb cb2, .int .u64 V, .int .i64 sv, .slice Ap np cp2, .slice At k ct2] := ⟨_, rfl⟩
  have HXC := Hd.mk hxc
  obtain ⟨W1, hW1⟩ : ∃ W1, w.alloc (.cells #[.slice Ab nb cb2, .int .u64 V, .int .i64 sv, .slice Ap np cp2, .slice At k ct2] 51) = W1 := ⟨_, rfl⟩
  have hnew : W1.heap[w.heap.size]? = some (.cells xc 51) := by rw [← hW1, hxc]; exact heap_alloc_new w _
  have hbel : Below w.heap.size w W1 := by rw [← hW1]; exact (Below.refl _ w).alloc (Nat.le_refl _) _
  have hlt1 : w.heap.size < W1.heap.size := (Array.getElem?_eq_some_iff.1 hnew).1
  rw [hW1]
  have c0 : W1.cell? ⟨w.heap.size, 0, none⟩ = some (.slice Ab nb cb2) := by rw [cell_of_row _ _ 0 _ _ (0, 0) hnew, hxc]; rfl
  have c3 : W1.cell? ⟨w.heap.size, 3, none⟩ = some (.slice Ap np cp2) := by rw [cell_of_row _ _ 3 _ _ (0, 0) hnew, hxc]; rfl
  have c4 : W1.cell? ⟨w.heap.size, 4, none⟩ = some (.slice At k ct2) := by rw [cell_of_row _ _ 4 _ _ (0, 0) hnew, hxc]; rfl
  have H1 : Hd (W1.heap[w.heap.size]? = some (.cells xc 51) ∧ Below w.heap.size w W1 ∧ w.heap.size < W1.heap.size) := ⟨hnew, hbel, hlt1⟩
  clear hW1 hnew hbel hxc hlt1
  go_wp2_with fail
  refine (lent_any W1 Ab nb cb2 w.heap.size bs (HX.out.1.below H1.out.2.1) (by omega) H1.out.2.1.size).mono ?_
  rintro e W2 ⟨gb, cpb, rfl, ob, b2, gb1, gb2, cb3⟩
  have c3 : W2.cell? ⟨w.heap.size, 3, none⟩ = some (.slice Ap np cp2) := (b2.cell (p := ⟨w.heap.size, 3, none⟩) H1.out.2.2).trans c3
  have c4 : W2.cell? ⟨w.heap.size, 4, none⟩ = some (.slice At k ct2) := (b2.cell (p := ⟨w.heap.size, 4, none⟩) H1.out.2.2).trans c4
  have H2 : Hd (W2.ownsRow W1.heap.size 5 1 (.slice (some ⟨gb, 0, none⟩) (nb + 64) cpb) (nb + 64) (cb (bs ++ marks)) ∧ Below W1.heap.size W1 W2 ∧ W1.heap.size ≤ gb ∧ gb < W2.heap.size ∧ nb + 64 ≤ cpb ∧ Below w.heap.size w W2) := ⟨ob, b2, gb1, gb2, cb3, H1.out.2.1.trans (b2.mono H1.out.2.1.size)⟩
  clear ob b2 gb1 gb2 cb3 c0
  go_wp2_with fail
  refine (lent_any W2 Ap np cp2 w.heap.size ps (HX.out.2.1.below H2.out.2.2.2.2.2) (by omega) H2.out.2.2.2.2.2.size).mono ?_
  rintro e W3 ⟨gp, cpp, rfl, op, b3, gp1, gp2, cp3⟩
  have c4 : W3.cell? ⟨w.heap.size, 4, none⟩ = some (.slice At k ct2) := (b3.cell (p := ⟨w.heap.size, 4, none⟩) (Nat.lt_of_lt_of_le H1.out.2.2 H2.out.2.1.size)).trans c4
  have H3 : Hd (W3.ownsRow W2.heap.size 5 1 (.slice (some ⟨gp, 0, none⟩) (np + 64) cpp) (np + 64) (cb (ps ++ marks)) ∧ Below W2.heap.size W2 W3 ∧ W2.heap.size ≤ gp ∧ gp < W3.heap.size ∧ np + 64 ≤ cpp ∧ Below w.heap.size w W3) := ⟨op, b3, gp1, gp2, cp3, H2.out.2.2.2.2.2.trans (b3.mono H2.out.2.2.2.2.2.size)⟩
  clear op b3 gp1 gp2 cp3 c3
  go_wp2_with fail
  refine (lentTexts_any W3 At k ct2 w.heap.size ts (HX.out.2.2.1.below H3.out.2.2.2.2.2) (by omega) H3.out.2.2.2.2.2.size).mono ?_
  rintro e W4 ⟨gt, cpt, rfl, ot, b4, gt1, gt2, ct3⟩
  obtain ⟨gx, hgx⟩ : ∃ gx, w.heap.size = gx := ⟨_, rfl⟩
  have hsz1 := H2.out.2.1.size
  have hsz2 := H3.out.2.1.size
  have HC : Hd (CP w W4 xc gx gb gp gt nb np k cpb cpp cpt bs ps ts) := by
    rw [← hgx]
    exact ⟨{ ob := own_base (own_below' (own_below' H2.out.1 H3.out.2.1) b4) H1.out.2.1.size
             op := own_base (own_below' H3.out.1 b4) H2.out.2.2.2.2.2.size
             ot := own_base ot H3.out.2.2.2.2.2.size
             hx := by rw [b4.block _ (by have := H1.out.2.2; omega), H3.out.2.1.block _ (by have := H1.out.2.2; omega), H2.out.2.1.block _ H1.out.2.2]; exact H1.out.1
             lb := HX.out.2.2.2.2.2.2.1, lp := HX.out.2.2.2.2.2.2.2.1
             bel := H3.out.2.2.2.2.2.trans (b4.mono H3.out.2.2.2.2.2.size)
             g0 := Nat.le_refl _, g1 := by have := H1.out.2.2; have := H2.out.2.2.1; omega, g2 := Nat.lt_of_lt_of_le H2.out.2.2.2.1 H3.out.2.2.1, g3 := Nat.lt_of_lt_of_le H3.out.2.2.2.1 gt1, lt := gt2 }⟩
  have HCap : Hd (nb + 64 ≤ cpb ∧ np + 64 ≤ cpp ∧ k + 64 ≤ cpt) := ⟨H2.out.2.2.2.2.1, H3.out.2.2.2.2.1, ct3⟩
  rw [hgx]
  clear ot b4 gt1 gt2 ct3 c4 hgx hsz1 hsz2 H1 H2 H3
  go_wp2_with fail
  go_loopw [6] (fun j wr => ∃ (q : Nat) (bs ps : List Nat) (ts : List ByteArray), q ≤ 2 ∧ j = .int .i64 q ∧ CP w wr xc gx gb gp gt nb np k cpb cpp cpt bs ps ts ∧ ssum ts ≤ 1048576 + q * k) (fun j _ => 2 - (intOf j).toNat)
  case atStart => exact ⟨0, bs, ps, ts, by omega, rfl, HC.out, by have := HX.out.2.2.2.2.2.2.2.2; omega⟩
  case round =>
    obtain ⟨q, bs2, ps2, ts2, hq, rfl, hC, hs⟩ := hrel
    have S0 := Hd.mk hC
    have hs2 : ssum ts2 ≤ 4194304 := by
      have : q * k ≤ 2 * 1048576 := Nat.mul_le_mul hq hk
      omega
    have HS0 := Hd.mk hs
    clear hC hs
    by_cases hlt : q < 2
    · have h63 : Hd (0 + nb ≤ maxLen ∧ 0 + np ≤ maxLen ∧ 0 + k ≤ maxLen) := ⟨by unfold maxLen; omega, by unfold maxLen; omega, by unfold maxLen; omega⟩
      have hby : Hd ((0 + nb) * 1 ≤ 140737488355328 ∧ (0 + np) * 1 ≤ 140737488355328 ∧ (0 + k) * 16 ≤ 140737488355328) := ⟨by omega, by omega, by omega⟩
      go_wp2_with (first
        | (refine wpList_app elB rfl (.const (.slice none 0 0)) (.tmp 27) rfl wr.heap.size (.slice none 0 0) 0 [] rfl (World.ownsRow_nil ..) wr.heap.size (some ⟨gb, 0, none⟩) nb cpb (cb bs2) rfl S0.out.rdb (cb_one _) h63.out.1 hby.out.1 (Nat.le_refl _) ?_
           intro v1 w1 hO1
           obtain ⟨A1, c1, hv1, _, _⟩ := own_form hO1.own
           have hb1 := hO1.below (B := wr.heap.size) (fun k h => by cases h) (Nat.le_refl _)
           rw [Nat.zero_add] at hv1 hO1
           subst hv1
           have S1 : Hd (CP w w1 xc gx gb gp gt nb np k cpb cpp cpt bs2 ps2 ts2 ∧ Rd w1 w1.heap.size A1 nb (cb bs2)) := ⟨S0.out.step hb1, by simpa using Rd.of_own hO1.own⟩
           clear hO1 hb1)
        | (refine wpList_app elB rfl (.const (.slice none 0 0)) (.tmp 29) rfl w1.heap.size (.slice none 0 0) 0 [] rfl (World.ownsRow_nil ..) w1.heap.size (some ⟨gp, 0, none⟩) np cpp (cb ps2) rfl S1.out.1.rdp (cb_one _) h63.out.2.1 hby.out.2.1 (Nat.le_refl _) ?_
           intro v2 w2 hO2
           obtain ⟨A2, c2, hv2, _, _⟩ := own_form hO2.own
           have hb2 := hO2.below (B := w1.heap.size) (fun k h => by cases h) (Nat.le_refl _)
           rw [Nat.zero_add] at hv2 hO2
           subst hv2
           have S2 : Hd (CP w w2 xc gx gb gp gt nb np k cpb cpp cpt bs2 ps2 ts2 ∧ Rd w2 w2.heap.size A1 nb (cb bs2) ∧ Rd w2 w2.heap.size A2 np (cb ps2)) := ⟨S1.out.1.step hb2, (S1.out.2.below hb2).more hb2.size, by simpa using Rd.of_own hO2.own⟩
           clear hO2 hb2)
        | (refine wpList_app elS rfl (.const (.slice none 0 0)) (.tmp 31) rfl w2.heap.size (.slice none 0 0) 0 [] rfl (World.ownsRow_nil ..) w2.heap.size (some ⟨gt, 0, none⟩) k cpt (cs ts2) rfl S2.out.1.rdt (cs_one _) h63.out.2.2 hby.out.2.2 (Nat.le_refl _) ?_
           intro v3 w3 hO3
           obtain ⟨A3, c3, hv3, _, _⟩ := own_form hO3.own
           have hb3 := hO3.below (B := w2.heap.size) (fun k h => by cases h) (Nat.le_refl _)
           rw [Nat.zero_add] at hv3 hO3
           subst hv3
           have S3 : Hd (CP w w3 xc gx gb gp gt nb np k cpb cpp cpt bs2 ps2 ts2 ∧ Rd w3 w3.heap.size A1 nb (cb bs2) ∧ Rd w3 w3.heap.size A2 np (cb ps2) ∧ Rd w3 w3.heap.size A3 k (cs ts2)) := ⟨S2.out.1.step hb3, (S2.out.2.1.below hb3).more hb3.size, (S2.out.2.2.below hb3).more hb3.size, by simpa using Rd.of_own hO3.own⟩
           have x0 : w3.cell? ⟨gx, 0, none⟩ = some (.slice Ab nb cb2) := by rw [cell_of_row _ _ 0 _ _ (0, 0) S3.out.1.hx, HXC.out]; rfl
           have x1 : w3.cell? ⟨gx, 1, none⟩ = some (.int .u64 V) := by rw [cell_of_row _ _ 1 _ _ (0, 0) S3.out.1.hx, HXC.out]; rfl
           have x2 : w3.cell? ⟨gx, 2, none⟩ = some (.int .i64 sv) := by rw [cell_of_row _ _ 2 _ _ (0, 0) S3.out.1.hx, HXC.out]; rfl
           have x3 : w3.cell? ⟨gx, 3, none⟩ = some (.slice Ap np cp2) := by rw [cell_of_row _ _ 3 _ _ (0, 0) S3.out.1.hx, HXC.out]; rfl
           have x4 : w3.cell? ⟨gx, 4, none⟩ = some (.slice At k ct2) := by rw [cell_of_row _ _ 4 _ _ (0, 0) S3.out.1.hx, HXC.out]; rfl
           clear hO3 hb3))
      obtain ⟨WL, hWL⟩ : ∃ WL, wants bs2 v zn np ps2 k ts2 = WL := ⟨_, rfl⟩
      have HG : Hd ((∀ t ∈ ts2, t.size < 2 ^ 64) ∧ nb + 40 + np + (tx ts2).length ≤ 70368744177664 ∧ k ≤ 4398046511104) := ⟨fun t ht => by have := ssum_mem ts2 t ht; omega, by have := tx_le ts2; have := S0.out.lent; omega, by omega⟩
      rw [← HV.out]
      refine (wantPuts_any w3 A1 A2 A3 nb c1 np c2 k c3 w3.heap.size v zn sv _ _ _ bs2 ps2 ts2 S3.out.2.1 S3.out.2.2.1 S3.out.2.2.2 (Nat.le_refl _) S3.out.1.lb S3.out.1.lp HG.out.1 HX.out.2.2.2.1 HX.out.2.2.2.2.1 s1 s2 HX.out.2.2.2.2.2.1 HG.out.2.1 HG.out.2.2).mono ?_
      rw [hWL]
      rintro e w4 ⟨g1, rfl, R1, b4⟩
      rw [HV.out]
      have S4 : Hd (CP w w4 xc gx gb gp gt nb np k cpb cpp cpt bs2 ps2 ts2 ∧ Rd w4 w4.heap.size A1 nb (cb bs2) ∧ Rd w4 w4.heap.size A2 np (cb ps2) ∧ Rd w4 w4.heap.size A3 k (cs ts2) ∧ Rws w4 (some ⟨g1, 0, none⟩) 9 WL) := ⟨S3.out.1.step b4, (S3.out.2.1.below b4).more b4.size, (S3.out.2.2.1.below b4).more b4.size, (S3.out.2.2.2.below b4).more b4.size, R1⟩
      clear R1 b4 x0 x1 x2 x3 x4
      have x0 : w4.cell? ⟨gx, 0, none⟩ = some (.slice Ab nb cb2) := by rw [cell_of_row _ _ 0 _ _ (0, 0) S4.out.1.hx, HXC.out]; rfl
      have x1 : w4.cell? ⟨gx, 1, none⟩ = some (.int .u64 V) := by rw [cell_of_row _ _ 1 _ _ (0, 0) S4.out.1.hx, HXC.out]; rfl
      have x2 : w4.cell? ⟨gx, 2, none⟩ = some (.int .i64 sv) := by rw [cell_of_row _ _ 2 _ _ (0, 0) S4.out.1.hx, HXC.out]; rfl
      have x3 : w4.cell? ⟨gx, 3, none⟩ = some (.slice Ap np cp2) := by rw [cell_of_row _ _ 3 _ _ (0, 0) S4.out.1.hx, HXC.out]; rfl
      have x4 : w4.cell? ⟨gx, 4, none⟩ = some (.slice At k ct2) := by rw [cell_of_row _ _ 4 _ _ (0, 0) S4.out.1.hx, HXC.out]; rfl
      go_wp2_with fail
      rw [← HV.out]
      refine (putsOf_any w4 (some ⟨gb, 0, none⟩) (some ⟨gp, 0, none⟩) (some ⟨gt, 0, none⟩) nb cpb np cpp k cpt w4.heap.size v zn sv _ _ _ bs2 ps2 ts2 S4.out.1.rdb S4.out.1.rdp S4.out.1.rdt (Nat.le_refl _) S4.out.1.lb S4.out.1.lp HG.out.1 HX.out.2.2.2.1 HX.out.2.2.2.2.1 s1 s2 HX.out.2.2.2.2.2.1 HG.out.2.1 HG.out.2.2).mono ?_
      rw [hWL]
      rintro e w5 ⟨g2, rfl, R2, b5⟩
      rw [HV.out]
      have S5 : Hd (CP w w5 xc gx gb gp gt nb np k cpb cpp cpt bs2 ps2 ts2 ∧ Rd w5 w5.heap.size A1 nb (cb bs2) ∧ Rd w5 w5.heap.size A2 np (cb ps2) ∧ Rd w5 w5.heap.size A3 k (cs ts2) ∧ Rws w5 (some ⟨g1, 0, none⟩) 9 WL ∧ Rws w5 (some ⟨g2, 0, none⟩) 9 WL) := ⟨S4.out.1.step b5, (S4.out.2.1.below b5).more b5.size, (S4.out.2.2.1.below b5).more b5.size, (S4.out.2.2.2.1.below b5).more b5.size, S4.out.2.2.2.2.step b5, R2⟩
      clear R2 b5 x0 x1 x2 x3 x4 hWL
      go_wp2_with fail
      refine (same_any w5 (some ⟨g2, 0, none⟩) (some ⟨g1, 0, none⟩) 9 9 9 WL S5.out.2.2.2.2.2 S5.out.2.2.2.2.1 (by omega)).mono ?_
      rintro e w6 ⟨rfl, b6⟩
      have S6 : Hd (CP w w6 xc gx gb gp gt nb np k cpb cpp cpt bs2 ps2 ts2 ∧ Rd w6 w6.heap.size A1 nb (cb bs2) ∧ Rd w6 w6.heap.size A2 np (cb ps2) ∧ Rd w6 w6.heap.size A3 k (cs ts2)) := ⟨S5.out.1.step b6, (S5.out.2.1.below b6).more b6.size, (S5.out.2.2.1.below b6).more b6.size, (S5.out.2.2.2.1.below b6).more b6.size⟩
      clear b6
      go_wp2_with fail
      refine (unmarked_any w6 w.heap.size gb nb cpb w6.heap.size A1 c1 bs2 S6.out.1.ob S6.out.2.1 (by omega) HCap.out.1).mono ?_
      rintro e z1 ⟨rfl, rfl⟩
      go_wp2_with fail
      refine (unmarked_any w6 w.heap.size gp np cpp w6.heap.size A2 c2 ps2 S6.out.1.op S6.out.2.2.1 (by omega) HCap.out.2.1).mono ?_
      rintro e z2 ⟨rfl, rfl⟩
      go_wp2_with fail
      refine (unmarkedTexts_any w6 w.heap.size gt k cpt w6.heap.size A3 c3 ts2 S6.out.1.ot S6.out.2.2.2 (Nat.le_refl _) (by omega) HCap.out.2.2).mono ?_
      rintro e w7 ⟨rfl, b7⟩
      have S7 := Hd.mk (S6.out.1.step b7)
      clear b7 S6 S5 S4 S3 S2 S1
      go_wp2_with fail
      go_loopw [11] (fun j wr => ∃ (i : Nat) (l : List Nat), i ≤ nb ∧ j = .int .i64 i ∧ CP w wr xc gx gb gp gt nb np k cpb cpp cpt l ps2 ts2) (fun j _ => nb - (intOf j).toNat)
      case atStart => exact ⟨0, bs2, by omega, rfl, S7.out⟩
      case round =>
        obtain ⟨i, l, hi, rfl, hC⟩ := hrel
        have T := Hd.mk hC
        clear hC
        by_cases hi2 : i < nb
        · have hcc := T.out.ob.cellAt i (by omega)
          rw [cb_append, List.getElem?_append_left (by rw [cb_length, T.out.lenb]; exact hi2), cb_get _ _ (by rw [T.out.lenb]; exact hi2)] at hcc
          have hz := T.out.ob.frozenAt i
          have hx8 : l.getD i 0 < 256 := by rw [List.getD_eq_getElem?_getD, List.getElem?_eq_getElem (by rw [T.out.lenb]; exact hi2)]; exact T.out.lb _ (List.getElem_mem _)
          have e8 : ((l.getD i 0 : Nat) : Int) + 7 = ((l.getD i 0 + 7 : Nat) : Int) := by omega
          have hst := Hd.mk (T.out.ob.stored i (.int .u8 (((l.getD i 0 + 7) % 256 : Nat) : Int)))
          have hset : (cb (l ++ marks)).set i (.int .u8 (((l.getD i 0 + 7) % 256 : Nat) : Int)) = cb (l.set i ((l.getD i 0 + 7) % 256) ++ marks) := by
            rw [cb_append, cb_append, List.set_append_left _ _ (by rw [cb_length, T.out.lenb]; exact hi2)]; unfold cb; rw [List.map_set]; rfl
          rw [hset] at hst
          have HL2 : Hd (∀ x ∈ l.set i ((l.getD i 0 + 7) % 256), x < 256) := ⟨fun x hx => by
            rcases List.mem_or_eq_of_mem_set hx with h | h
            · exact T.out.lb x h
            · rw [h]; exact Nat.mod_lt _ (by omega)⟩
          have e9 : (((l.getD i 0 + 7) % 256 : Nat) : Int) = (((l.getD i 0 : Nat) : Int) + 7) % 256 := by omega
          rw [e9] at hst
          generalize l.set i ((l.getD i 0 + 7) % 256) = l2 at *
          obtain ⟨X, hX⟩ : ∃ X : Int, ((l.getD i 0 : Nat) : Int) = X := ⟨_, rfl⟩
          rw [hX] at hcc hst
          have hii : (i : Int) < (nb : Int) := by omega
          clear hset hx8 e8 e9 hX
          go_wp2_with fail
          go_roundw
          case rel => exact ⟨i + 1, l2, by omega, by go_num, T.out.turnB hst.out.2 hst.out.1 HL2.out⟩
          case measure => simp [intOf]; omega
        · have hin : nb = i := by omega
          rw [← hin]
          clear hin hi hi2
          obtain ⟨w8, hw8⟩ : ∃ x, x = wr := ⟨_, rfl⟩
          subst hw8
          go_wp2_with fail
          go_loopw [12] (fun j wr => ∃ (i : Nat) (l2 : List Nat), i ≤ np ∧ j = .int .i64 i ∧ CP w wr xc gx gb gp gt nb np k cpb cpp cpt l l2 ts2) (fun j _ => np - (intOf j).toNat)
          case atStart => exact ⟨0, ps2, by omega, rfl, T.out⟩
          case round =>
            obtain ⟨i2, l2, hi2, rfl, hC⟩ := hrel
            have T2 := Hd.mk hC
            clear hC
            by_cases hi3 : i2 < np
            · have hcc := T2.out.op.cellAt i2 (by omega)
              rw [cb_append, List.getElem?_append_left (by rw [cb_length, T2.out.lenp]; exact hi3), cb_get _ _ (by rw [T2.out.lenp]; exact hi3)] at hcc
              have hz := T2.out.op.frozenAt i2
              have hx8 : l2.getD i2 0 < 256 := by rw [List.getD_eq_getElem?_getD, List.getElem?_eq_getElem (by rw [T2.out.lenp]; exact hi3)]; exact T2.out.lp _ (List.getElem_mem _)
              have e8 := u8_xor_nat (l2.getD i2 0) 41 hx8 (by omega)
              have hst := Hd.mk (T2.out.op.stored i2 (.int .u8 ((l2.getD i2 0 ^^^ 41 : Nat) : Int)))
              have hset : (cb (l2 ++ marks)).set i2 (.int .u8 ((l2.getD i2 0 ^^^ 41 : Nat) : Int)) = cb (l2.set i2 (l2.getD i2 0 ^^^ 41) ++ marks) := by
                rw [cb_append, cb_append, List.set_append_left _ _ (by rw [cb_length, T2.out.lenp]; exact hi3)]; unfold cb; rw [List.map_set]; rfl
              rw [hset] at hst
              have HL2 : Hd (∀ x ∈ l2.set i2 (l2.getD i2 0 ^^^ 41), x < 256) := ⟨fun x hx => by
                rcases List.mem_or_eq_of_mem_set hx with h | h
                · exact T2.out.lp x h
                · rw [h]; exact Nat.xor_lt_two_pow (n := 8) hx8 (by decide)⟩
              generalize l2.set i2 (l2.getD i2 0 ^^^ 41) = l3 at *
              generalize l2.getD i2 0 ^^^ 41 = z at *
              obtain ⟨X, hX⟩ : ∃ X : Int, ((l2.getD i2 0 : Nat) : Int) = X := ⟨_, rfl⟩
              rw [hX] at hcc e8
              rw [show ((41 : Nat) : Int) = 41 from rfl] at e8
              have hii : (i2 : Int) < (np : Int) := by omega
              clear hset hx8 hX
              go_wp2_with fail
              go_roundw
              case rel => exact ⟨i2 + 1, l3, by omega, by go_num, T2.out.turnP hst.out.2 hst.out.1 HL2.out⟩
              case measure => simp [intOf]; omega
            · have hin : np = i2 := by omega
              rw [← hin]
              clear hin hi2 hi3
              obtain ⟨w9, hw9⟩ : ∃ x, x = wr := ⟨_, rfl⟩
              subst hw9
              go_wp2_with fail
              go_loopw [13] (fun j wr => ∃ (i : Nat) (t2 : List ByteArray), i ≤ k ∧ j = .int .i64 i ∧ CP w wr xc gx gb gp gt nb np k cpb cpp cpt l l2 t2 ∧ ssum t2 ≤ ssum ts2 + i) (fun j _ => k - (intOf j).toNat)
              case atStart => exact ⟨0, ts2, by omega, rfl, T2.out, Nat.le_refl _⟩
              case round =>
                obtain ⟨i3, t2, hi3, rfl, hC, hss⟩ := hrel
                have T3 : Hd (CP w wr xc gx gb gp gt nb np k cpb cpp cpt l l2 t2 ∧ ssum t2 ≤ ssum ts2 + i3) := ⟨hC, hss⟩
                clear hC
                by_cases hi4 : i3 < k
                · have hcc := T3.out.1.ot.cellAt i3 (by omega)
                  rw [cs_append, List.getElem?_append_left (by rw [cs_len, T3.out.1.lent]; exact hi4), cs_get _ _ (by rw [T3.out.1.lent]; exact hi4)] at hcc
                  have hz := T3.out.1.ot.frozenAt i3
                  have hii : (i3 : Int) < (k : Int) := by omega
                  have hmem : (t2.getD i3 ByteArray.empty).size ≤ ssum t2 := ssum_mem _ _ (by rw [List.getD_eq_getElem?_getD, List.getElem?_eq_getElem (by rw [T3.out.1.lent]; exact hi4)]; exact List.getElem_mem _)
                  obtain ⟨S, hS⟩ : ∃ S, t2.getD i3 ByteArray.empty = S := ⟨_, rfl⟩
                  rw [hS] at hcc hmem
                  have HSS := Hd.mk hS
                  have hsz : S.size ≤ 8388608 := by omega
                  clear hS hmem hss
                  have hst := T3.out.1.ot.stored i3 (.string (S ++ ⟨#[46]⟩))
                  have hset : (cs (t2 ++ List.replicate 64 markS)).set i3 (.string (S ++ ⟨#[46]⟩)) = cs (t2.set i3 (S ++ ⟨#[46]⟩) ++ List.replicate 64 markS) := by
                    rw [cs_append, cs_append, List.set_append_left _ _ (by rw [cs_len, T3.out.1.lent]; exact hi4)]; unfold cs; rw [List.map_set]
                  rw [hset] at hst
                  have hs1 := ssum_set t2 i3 (S ++ ⟨#[46]⟩) (by rw [T3.out.1.lent]; exact hi4) (by rw [HSS.out, ByteArray.size_append]; exact Nat.le_refl _)
                  have HT3 := Hd.mk hst
                  have HT4 : Hd (ssum (t2.set i3 (S ++ ⟨#[46]⟩)) ≤ ssum ts2 + (i3 + 1)) := ⟨by have := T3.out.2; omega⟩
                  clear hst hset hs1
                  go_wp2_with fail
                  go_roundw
                  case rel => exact ⟨i3 + 1, t2.set i3 (S ++ ⟨#[46]⟩), by omega, by go_num, T3.out.1.turnT HT3.out.2 HT3.out.1, HT4.out⟩
                  case measure => simp [intOf]; omega
                · have hin : k = i3 := by omega
                  have HQ : Hd (ssum t2 ≤ 1048576 + (q + 1) * k) := ⟨by
                    have h1 := T3.out.2
                    have h2 := HS0.out
                    rw [Nat.add_mul, Nat.one_mul]
                    omega⟩
                  rw [← hin]
                  clear hin hi3 hi4 hss
                  go_wp2_with fail
                  go_roundw
                  case rel => exact ⟨q + 1, l, l2, t2, by omega, by go_num, T3.out.1, HQ.out⟩
                  case measure => simp [intOf]; omega
    · have hq2 : q = 2 := by omega
      subst hq2
      go_wp2_with fail
      go_ret
      exact ⟨rfl, S0.out.bel⟩
theorem puts_frame (Ab : Option Addr) (nb cb2 : Nat) (V S : Int) (Ap : Option Addr) (np cp2 : Nat) (At : Option Addr) (k ct2 : Nat) (bs ps : List Nat) (ts : List ByteArray) (w : World) (hb : Rd w w.heap.size Ab nb (cb bs)) (hp : Rd w w.heap.size Ap np (cb ps)) (ht : Rd w w.heap.size At k (cs ts)) (lb : ∀ x ∈ bs, x < 256) (lp : ∀ x ∈ ps, x < 256)
    (hV : (Lit.int .u64 V).wf = true) (hS : (Lit.int .i64 S).wf = true) (hnb : nb ≤ 1048576) (hnp : np ≤ 1048576) (hk : k ≤ 1048576) (hss : ssum ts ≤ 1048576) :
    Calls Try.prog 6 #[.agg #[.slice Ab nb cb2, .int .u64 V, .int .i64 S, .slice Ap np cp2, .slice At k ct2]] w fun e w' => e = .returned (.bool true) ∧ Below w.heap.size w w' := by
  have h1 : 0 ≤ V ∧ V ≤ 18446744073709551615 := by simpa [Lit.wf, IntKind.min, IntKind.max, IntKind.signed, IntKind.bits] using hV
  have h2 : -9223372036854775808 ≤ S ∧ S ≤ 9223372036854775807 := by simpa [Lit.wf, IntKind.min, IntKind.max, IntKind.signed, IntKind.bits] using hS
  have hz : 0 ≤ zig S ∧ zig S < 18446744073709551616 := by unfold zig; split <;> omega
  have := puts_walk Ab Ap At nb cb2 np cp2 k ct2 V.toNat (zig S).toNat S bs ps ts w hb hp ht lb lp (by omega) (by omega) h2.1 h2.2 (by omega) hnb hnp hk hss
  rw [Int.toNat_of_nonneg h1.1] at this
  exact this
end Go.Proofs.Ytjkenhkoakaaoaa
