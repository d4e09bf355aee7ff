/- Put together of: RefT MsgR. -/
import Derived.Test.YtbcmjjcbjojakaaPk10
import Derived.Test.YtbcmjjcbjojakaaPk7
section
namespace Go.Proofs.Ytbcmjjcbjojakaa
open Go.RowKit
set_option linter.unusedVariables false
set_option maxRecDepth 20000
set_option maxHeartbeats 4000000 in
theorem rblock_any (w : World) (gr n c at_ : Nat) (fl : Int) (A : Option Addr) (bs : List Nat) (x : Int) (hx : -9223372036854775808 ≤ x ∧ x ≤ 9223372036854775807) (R : Rr w gr A n c at_ fl bs) :
  Calls Try.prog 123 #[.pointer (some ⟨gr, 0, none⟩), .int .i64 x] w (Ans w gr n c A bs (KOwn w.heap.size) (redo (blkF bs at_ x) [] at_ fl)) := by
 have HR := Hd.mk R
 have g1 := R.c1
 have g2 := R.c2
 obtain ⟨l1, l2, l3⟩ := R.le
 obtain ⟨x1, x2⟩ := hx
 by_cases h0 : fl = 0
 ·subst h0
  by_cases hneg : x < 0
  ·have HN := Hd.mk hneg
   clear R
   go_enter Try.func123, Try.ntmps123
   go_wp2_with fail
   refine (refused_any _ gr n c at_ at_ 0 2 A bs HR.out l1).mono ?_
   rintro e w2 ⟨rfl, hch, hr⟩
   have H2 : Hd (Chg [gr] w w2 ∧ Rr w2 gr A n c at_ 2 bs) := ⟨hch, hr⟩
   clear hch hr
   go_wp2_with fail
   go_ret
   have e1 : redo (blkF bs at_ x) [] at_ 0 = ([], at_, 2) := by unfold blkF; rw [if_pos HN.out]; rfl
   rw [e1]
   exact ⟨_, rfl, H2.out.1, KOwn.nil _ _, H2.out.2⟩
  ·obtain ⟨M, rfl⟩ := Int.eq_ofNat_of_zero_le (show 0 ≤ x by omega)
   have HB : Hd (blkF bs at_ (M : Int) = blockF bs at_ M) := ⟨by unfold blkF; rw [if_neg (by omega), Int.toNat_natCast]⟩
   clear R hneg
   go_enter Try.func123, Try.ntmps123
   go_wp2_with fail
   clear g1 g2
   refine (ruvarint_any w gr n c at_ 0 A bs HR.out).mono ?_
   rcases hnum : numF bs at_ with ec | ⟨k, a1⟩
   ·rw [show redo (Except.error (α := Nat × Nat) ec) 0 at_ 0 = (0, at_, ec) from rfl]
    rintro e w1 ⟨v, rfl, hch, hk, hr⟩
    unfold KNum at hk
    subst hk
    have hec : ec ≠ 0 := by
     have := well_num (bs := bs) (at_ := at_) HR.out.lb (by rw [HR.out.len]; exact l1)
     rw [hnum] at this
     rcases this with h | h | h <;> omega
    have hec' : (ec != 0) = true := by simp [hec]
    have g2 := hr.c2
    have H1 : Hd (Chg [gr] w w1 ∧ Rr w1 gr A n c at_ ec bs ∧ blkF bs at_ (M : Int) = .error ec) := ⟨hch, hr, by rw [HB.out]; unfold blockF; rw [hnum]⟩
    clear hch hr hnum hec
    go_wp2_with fail
    go_ret
    rw [H1.out.2.2]
    exact ⟨_, rfl, H1.out.1, KOwn.nil _ _, H1.out.2.1⟩
   ·rw [show redo (Except.ok (ε := Int) (k, a1)) 0 at_ 0 = (k, a1, 0) from rfl]
    rintro e w1 ⟨v, rfl, hch, hk, hr⟩
    unfold KNum at hk
    subst hk
    have hxx := numF_hi bs at_ k a1 HR.out.lb hnum
    have g2 := hr.c2
    have H1 : Hd (Chg [gr] w w1 ∧ Rr w1 gr A n c a1 0 bs ∧ blkF bs at_ (M : Int) = if k ≤ M then takeF bs a1 k else .error 71) := ⟨hch, hr, by rw [HB.out]; unfold blockF; rw [hnum]⟩
    obtain ⟨X, hX⟩ : ∃ X : Int, (k : Int) = X := ⟨_, rfl⟩
    have y1 : 0 ≤ X := by omega
    have y2 : X ≤ 18446744073709551615 := by have := hxx.1; omega
    have HX := Hd.mk hX
    rw [hX]
    clear hch hnum hxx hX hr
    by_cases hle : (M : Int) < X
    ·go_wp2_with fail
     refine (refused_any _ gr n c a1 at_ 0 71 A bs H1.out.2.1 l1).mono ?_
     rintro e w2 ⟨rfl, hch, hr⟩
     have H2 : Hd (Chg [gr] w w2 ∧ Rr w2 gr A n c at_ 71 bs) := ⟨H1.out.1.trans hch, hr⟩
     clear hch hr
     go_wp2_with fail
     go_ret
     rw [H1.out.2.2, if_neg (by have := HX.out; omega)]
     exact ⟨_, rfl, H2.out.1, KOwn.nil _ _, H2.out.2⟩
    ·have g0 := H1.out.2.1.c0
     have g1 := H1.out.2.1.c1
     obtain ⟨m1, m2, m3⟩ := H1.out.2.1.le
     have w1' : IntKind.i64.wrap ((n : Int) - (a1 : Int)) = (n : Int) - (a1 : Int) := by rw [IntKind.wrap_i64]; omega
     have w2' : IntKind.u64.wrap ((n : Int) - (a1 : Int)) = (n : Int) - (a1 : Int) := by rw [IntKind.wrap_u64]; omega
     have hx63 : X ≤ 9223372036854775807 := by omega
     by_cases hcut : (n : Int) - (a1 : Int) < X
     ·have hd : decide ((n : Int) - (a1 : Int) < X) = true := by simp; omega
      go_wp2_with fail
      go_quiet (fail)
      go_wp2_with fail
      refine (refused_any _ gr n c a1 at_ 0 70 A bs (H1.out.2.1.drewN _) l1).mono ?_
      rintro e w2 ⟨rfl, hch, hr⟩
      have H2 : Hd (Chg [gr] w w2 ∧ Rr w2 gr A n c at_ 70 bs) := ⟨(H1.out.1.drewN nq).trans hch, hr⟩
      clear hch hr
      go_wp2_with fail
      go_ret
      rw [H1.out.2.2, if_pos (by have := HX.out; omega)]
      unfold takeF
      rw [if_neg (by rw [HR.out.len]; have := HX.out; omega)]
      exact ⟨_, rfl, H2.out.1, KOwn.nil _ _, H2.out.2⟩
     ·have hd : decide ((n : Int) - (a1 : Int) < X) = false := by simp; omega
      go_wp2_with fail
      go_quiet (fail)
      go_wp2_with fail
      refine (rbytes_any _ gr n c a1 0 A bs X (by omega) (H1.out.2.1.drewN _)).mono ?_
      have hre : redo (bytesF bs a1 X) [] a1 0 = redo (blkF bs at_ (M : Int)) [] at_ 0 := by
       rw [H1.out.2.2, if_pos (by have := HX.out; omega)]
       unfold bytesF takeF
       rw [if_neg (by omega), show X.toNat = k by have := HX.out; omega, if_pos (by rw [HR.out.len]; have := HX.out; omega)]
       rfl
      rw [hre]
      rintro e w2 ⟨v, rfl, hch, hk, hr⟩
      obtain ⟨A2, c2, rfl, _, _⟩ := own_form hk
      have H2 : Hd (Chg [gr] w w2 ∧ KOwn w.heap.size (.slice A2 (redo (blkF bs at_ (M : Int)) [] at_ 0).1.length c2) (redo (blkF bs at_ (M : Int)) [] at_ 0).1 w2 ∧ Rr w2 gr A n c (redo (blkF bs at_ (M : Int)) [] at_ 0).2.1 (redo (blkF bs at_ (M : Int)) [] at_ 0).2.2 bs) :=
       ⟨(H1.out.1.drewN nq).trans hch, own_base hk H1.out.1.size, hr⟩
      obtain ⟨L, hL⟩ : ∃ L, (redo (blkF bs at_ (M : Int)) [] at_ 0).1.length = L := ⟨_, rfl⟩
      rw [hL] at H2 ⊢
      clear hch hk hr hre hL
      go_wp2_with fail
      go_ret
      exact ⟨_, rfl, H2.out.1, H2.out.2.1, H2.out.2.2⟩
 ·have h0' : (fl != 0) = true := by simp [h0]
  have HZ := Hd.mk h0
  clear h0 R
  go_enter Try.func123, Try.ntmps123
  go_wp2_with fail
  go_ret
  have e1 : redo (blkF bs at_ x) [] at_ fl = ([], at_, fl) := by unfold redo; rw [if_neg HZ.out]
  rw [e1]
  exact ⟨_, rfl, Chg.refl _ _, KOwn.nil _ _, HR.out⟩
set_option maxHeartbeats 4000000 in
theorem rtexts_any (w : World) (gr n c at_ : Nat) (fl : Int) (A : Option Addr) (bs : List Nat) (x y : Int) (hx : -9223372036854775808 ≤ x ∧ x ≤ 9223372036854775807) (hy : -9223372036854775808 ≤ y ∧ y ≤ 9223372036854775807) (R : Rr w gr A n c at_ fl bs) :
  Calls Try.prog 124 #[.pointer (some ⟨gr, 0, none⟩), .int .i64 x, .int .i64 y] w (Ans w gr n c A bs (KTxt w.heap.size) (redo (textsF bs at_ x y) [] at_ fl)) := by
 have HR := Hd.mk R
 have g1 := R.c1
 have g2 := R.c2
 obtain ⟨l1, l2, l3⟩ := R.le
 obtain ⟨x1, x2⟩ := hx
 obtain ⟨y1, y2⟩ := hy
 by_cases h0 : fl = 0
 ·subst h0
  by_cases hneg : x < 0 ∨ y < 0
  ·have HN := Hd.mk hneg
   clear R
   rcases hneg with h | h
   ·go_enter Try.func124, Try.ntmps124
    go_wp2_with fail
    refine (refused_any _ gr n c at_ at_ 0 2 A bs HR.out l1).mono ?_
    rintro e w2 ⟨rfl, hch, hr⟩
    have H2 : Hd (Chg [gr] w w2 ∧ Rr w2 gr A n c at_ 2 bs) := ⟨hch, hr⟩
    clear hch hr
    go_wp2_with fail
    go_ret
    have e1 : redo (textsF bs at_ x y) [] at_ 0 = ([], at_, 2) := by unfold textsF; rw [if_pos HN.out]; rfl
    rw [e1]
    exact ⟨_, rfl, H2.out.1, KTxt.nil _ _, H2.out.2⟩
   ·by_cases hx0 : x < 0
    all_goals
     go_enter Try.func124, Try.ntmps124
     go_wp2_with fail
     refine (refused_any _ gr n c at_ at_ 0 2 A bs HR.out l1).mono ?_
     rintro e w2 ⟨rfl, hch, hr⟩
     have H2 : Hd (Chg [gr] w w2 ∧ Rr w2 gr A n c at_ 2 bs) := ⟨hch, hr⟩
     clear hch hr
     go_wp2_with fail
     go_ret
     have e1 : redo (textsF bs at_ x y) [] at_ 0 = ([], at_, 2) := by unfold textsF; rw [if_pos HN.out]; rfl
     rw [e1]
     exact ⟨_, rfl, H2.out.1, KTxt.nil _ _, H2.out.2⟩
  ·have hn1 : 0 ≤ x := by omega
   have hn2 : 0 ≤ y := by omega
   have HN : Hd (¬ (x < 0 ∨ y < 0)) := ⟨hneg⟩
   clear R hneg
   go_enter Try.func124, Try.ntmps124
   go_wp2_with fail
   clear g1 g2
   refine (ruvarint_any w gr n c at_ 0 A bs HR.out).mono ?_
   rcases hnum : numF bs at_ with ec | ⟨k, a1⟩
   ·rw [show redo (Except.error (α := Nat × Nat) ec) 0 at_ 0 = (0, at_, ec) from rfl]
    rintro e w1 ⟨v, rfl, hch, hk, hr⟩
    unfold KNum at hk
    subst hk
    have hec : ec ≠ 0 := by
     have := well_num (bs := bs) (at_ := at_) HR.out.lb (by rw [HR.out.len]; exact l1)
     rw [hnum] at this
     rcases this with h | h | h <;> omega
    have hec' : (ec != 0) = true := by simp [hec]
    have g2 := hr.c2
    have H1 : Hd (Chg [gr] w w1 ∧ Rr w1 gr A n c at_ ec bs ∧ textsF bs at_ x y = .error ec) := ⟨hch, hr, by unfold textsF; rw [if_neg HN.out, hnum]⟩
    clear hch hr hnum hec
    go_wp2_with fail
    go_ret
    rw [H1.out.2.2]
    exact ⟨_, rfl, H1.out.1, KTxt.nil _ _, H1.out.2.1⟩
   ·rw [show redo (Except.ok (ε := Int) (k, a1)) 0 at_ 0 = (k, a1, 0) from rfl]
    rintro e w1 ⟨v, rfl, hch, hk, hr⟩
    unfold KNum at hk
    subst hk
    have hxx := numF_hi bs at_ k a1 HR.out.lb hnum
    have g2 := hr.c2
    have H1 : Hd (Chg [gr] w w1 ∧ Rr w1 gr A n c a1 0 bs ∧ textsF bs at_ x y = if k ≤ x.toNat then rowsF bs y.toNat k a1 else .error 71) := ⟨hch, hr, by unfold textsF; rw [if_neg HN.out, hnum]⟩
    obtain ⟨X, hX⟩ : ∃ X : Int, (k : Int) = X := ⟨_, rfl⟩
    have z1 : 0 ≤ X := by omega
    have z2 : X ≤ 18446744073709551615 := by have := hxx.1; omega
    have HX := Hd.mk hX
    rw [hX]
    clear hch hnum hxx hX hr
    by_cases hle : x < X
    ·go_wp2_with fail
     refine (refused_any _ gr n c a1 at_ 0 71 A bs H1.out.2.1 l1).mono ?_
     rintro e w2 ⟨rfl, hch, hr⟩
     have H2 : Hd (Chg [gr] w w2 ∧ Rr w2 gr A n c at_ 71 bs) := ⟨H1.out.1.trans hch, hr⟩
     clear hch hr
     go_wp2_with fail
     go_ret
     rw [H1.out.2.2, if_neg (by have := HX.out; omega)]
     exact ⟨_, rfl, H2.out.1, KTxt.nil _ _, H2.out.2⟩
    ·have HB : Hd (textsF bs at_ x y = rowsF bs y.toNat k a1) := ⟨by rw [H1.out.2.2, if_pos (by have := HX.out; omega)]⟩
     go_wp2_with fail
     clear g2
     go_loopw [9, 10] (fun s i wr => ∃ (j a : Nat) (l : List (List Nat)), i = .int .u64 (j : Int) ∧ (j : Int) ≤ X ∧ Chg [gr] w1 wr ∧ Rr wr gr A n c a 0 bs ∧ wr.ownsRow w1.heap.size 9 1 s j (cs (l.map tx1)) ∧ l.length = j ∧ a1 + j ≤ a ∧
      (match rowsF bs y.toNat (k - j) a with | .ok (l2, a2) => Except.ok (l ++ l2, a2) | .error e => .error e) = rowsF bs y.toNat k a1) (fun _ i _ => k - (intOf i).toNat)
     case atStart =>
      refine ⟨0, a1, [], rfl, by omega, Chg.refl _ _, H1.out.2.1, World.ownsRow_nil .., rfl, by omega, ?_⟩
      rw [Nat.sub_zero]
      rcases rowsF bs y.toNat k a1 with e | ⟨l2, a2⟩ <;> rfl
     case round =>
      obtain ⟨j, a, l, rfl, hj, hch, hr, ho, hll, haj, hrow⟩ := hrel
      have hgr : gr < w1.heap.size := H1.out.2.1.lt
      have H2 : Hd (Chg [gr] w1 wr ∧ Rr wr gr A n c a 0 bs ∧ wr.ownsRow w1.heap.size 9 1 u9 j (cs (l.map tx1)) ∧ l.length = j ∧ a1 + j ≤ a ∧ (match rowsF bs y.toNat (k - j) a with | .ok (l2, a2) => Except.ok (l ++ l2, a2) | .error e => .error e) = rowsF bs y.toNat k a1 ∧ w1.heap.size ≤ wr.heap.size ∧ gr < w1.heap.size) := ⟨hch, hr, ho, hll, haj, hrow, hch.size, hgr⟩
      have hjn : j ≤ 4398046511104 := by have := hr.le; omega
      clear hch hr ho hll haj hrow hgr
      by_cases hlt : (j : Int) < X
      ·go_wp2_with fail
       refine (rblock_any wr gr n c a 0 A bs y ⟨y1, y2⟩ H2.out.2.1).mono ?_
       obtain ⟨q, hq⟩ : ∃ q, k - j = q + 1 := ⟨k - j - 1, by have := HX.out; omega⟩
       have hbf : blkF bs a y = blockF bs a y.toNat := by unfold blkF; rw [if_neg (by omega)]
       rw [hbf]
       rcases hbk : blockF bs a y.toNat with ec | ⟨b, a2⟩
       ·rw [show redo (Except.error (α := List Nat × Nat) ec) [] a 0 = ([], a, ec) from rfl]
        rintro e w2 ⟨v, rfl, hch, hk, hr⟩
        obtain ⟨A2, c2, rfl, _, _⟩ := own_form hk
        have hec : ec ≠ 0 := by
         have := well_block (bs := bs) (at_ := a) y.toNat HR.out.lb (by rw [HR.out.len]; exact H2.out.2.1.le.1)
         rw [hbk] at this
         rcases this with h | h | h <;> omega
        have hec' : (ec != 0) = true := by simp [hec]
        have g2 := hr.c2
        have H3 : Hd (Chg [gr] w w2 ∧ Rr w2 gr A n c a ec bs ∧ textsF bs at_ x y = .error ec) := ⟨(H1.out.1.trans H2.out.1).trans hch, hr, by
         rw [HB.out, ← H2.out.2.2.2.2.2.1, hq, rowsF, hbk]⟩
        clear hch hk hbk hr hec hbf hq
        go_wp2_with fail
        refine (refused_any _ gr n c a at_ ec ec A bs H3.out.2.1 l1).mono ?_
        rintro e w3 ⟨rfl, hch, hr⟩
        have H4 : Hd (Chg [gr] w w3 ∧ Rr w3 gr A n c at_ ec bs) := ⟨H3.out.1.trans hch, hr⟩
        clear hch hr
        go_wp2_with fail
        go_ret
        rw [H3.out.2.2]
        exact ⟨_, rfl, H4.out.1, KTxt.nil _ _, H4.out.2⟩
       ·rw [show redo (Except.ok (ε := Int) (b, a2)) [] a 0 = (b, a2, 0) from rfl]
        rintro e w2 ⟨v, rfl, hch, hk, hr⟩
        unfold KOwn at hk
        obtain ⟨A1, c1, rfl, _, _⟩ := own_form hk
        have ho := hch.own H2.out.2.2.1 (fun g hg => by have := (H2.out.2.2.1.lt g hg).1; have := H2.out.2.2.2.2.2.2.2; simp; omega)
        have hcv : (convert 26 9 (.slice A1 b.length c1)).run Try.prog w2 = .ok (.string (tx1 b)) w2 := by
         have hrd := Rd.of_own hk
         rw [cb_ints] at hrd
         exact run_conv_str 26 9 5 Try.underlying26 Try.underlying5 infoStr c1 hrd
        have ha2 : a < a2 ∧ a2 ≤ n := by
         have h1 := rowsF_len bs y.toNat 1 a [b] a2 (by have := H2.out.2.1.len; have := H2.out.2.1.le; omega) H2.out.2.1.lb (by rw [rowsF, hbk]; rfl)
         have := H2.out.2.1.len
         omega
        have g2 := hr.c2
        have H3 : Hd (Chg [gr] w1 w2 ∧ Rr w2 gr A n c a2 0 bs ∧ w2.ownsRow w1.heap.size 9 1 u9 j (cs (l.map tx1)) ∧ (match rowsF bs y.toNat q a2 with | .ok (l2, a2) => Except.ok ((l ++ [b]) ++ l2, a2) | .error e => .error e) = rowsF bs y.toNat k a1 ∧ w1.heap.size ≤ w2.heap.size ∧ a < a2 ∧ k - j = q + 1) :=
         ⟨H2.out.1.trans hch, hr, ho, by
          rw [← H2.out.2.2.2.2.2.1, hq, rowsF, hbk]
          simp only
          rcases rowsF bs y.toNat q a2 with e | ⟨l2, a3⟩
          ·rfl
          ·simp, Nat.le_trans H2.out.2.2.2.2.2.2.1 hch.size, ha2.1, hq⟩
        have h63 : Hd (j + 1 ≤ maxLen) := ⟨by unfold maxLen; omega⟩
        have hby : Hd ((j + 1) * 16 ≤ 140737488355328) := ⟨by omega⟩
        obtain ⟨BL, hBL⟩ : ∃ BL, b.length = BL := ⟨_, rfl⟩
        rw [hBL] at hcv ⊢
        clear hch hk hbk hr ho ha2 hbf hq hBL
        go_wp2_with (refine wpList_push elS rfl rfl (.tmp 64) (.tmp 66) 67 rfl rfl rfl w1.heap.size u9 _ _ _ rfl rfl rfl rfl H3.out.2.2.1 h63.out hby.out H3.out.2.2.2.2.1 ?_; intro v2 w3 hO2)
        have hbl := hO2.below (B := w1.heap.size) (fun g hg => (H3.out.2.2.1.lt g hg).1) H3.out.2.2.2.2.1
        have HF : Hd (Chg [gr] w1 w3 ∧ Rr w3 gr A n c a2 0 bs ∧ w3.ownsRow w1.heap.size 9 1 v2 (j + 1) (cs ((l ++ [b]).map tx1))) :=
         ⟨H3.out.1.then_below hbl, H3.out.2.1.below hbl H2.out.2.2.2.2.2.2.2, by rw [List.map_append, cs_append]; exact hO2.own⟩
        clear hO2 hbl
        go_wp2_with fail
        go_roundw
        case rel =>
         refine ⟨j + 1, a2, l ++ [b], by go_num, by omega, HF.out.1, HF.out.2.1, HF.out.2.2, by rw [List.length_append, H2.out.2.2.2.1]; rfl, by have := H2.out.2.2.2.2.1; have := H3.out.2.2.2.2.2; omega, ?_⟩
         rw [show k - (j + 1) = q by have := H3.out.2.2.2.2.2.2; omega]; exact H3.out.2.2.2.1
        case measure => simp [intOf]; have := HX.out; omega
      ·have hkj : k = j := by have := HX.out; omega
       obtain ⟨A2, c2, rfl, _, _⟩ := own_form H2.out.2.2.1
       have H4 : Hd (textsF bs at_ x y = .ok (l, a)) := ⟨by
        rw [HB.out, ← H2.out.2.2.2.2.2.1, hkj, Nat.sub_self, rowsF]; simp⟩
       have hX2 : X = (j : Int) := by omega
       subst hX2
       clear hkj hlt hj
       go_wp2_with fail
       go_ret
       rw [H4.out]
       refine ⟨_, rfl, H1.out.1.trans H2.out.1, ?_, H2.out.2.1⟩
       show KTxt _ _ l _
       unfold KTxt
       rw [H2.out.2.2.2.1]
       exact own_base H2.out.2.2.1 H1.out.1.size
 ·have h0' : (fl != 0) = true := by simp [h0]
  have HZ := Hd.mk h0
  clear h0 R
  go_enter Try.func124, Try.ntmps124
  go_wp2_with fail
  go_ret
  have e1 : redo (textsF bs at_ x y) [] at_ fl = ([], at_, fl) := by unfold redo; rw [if_neg HZ.out]
  rw [e1]
  exact ⟨_, rfl, Chg.refl _ _, KTxt.nil _ _, HR.out⟩
end Go.Proofs.Ytbcmjjcbjojakaa
end
section
namespace Go.Proofs.Ytbcmjjcbjojakaa
open Go.RowKit
set_option linter.unusedVariables false
section
variable {w : World} {gr n c : Nat} {A : Option Addr} {s : Nat × Int} {bs : List Nat}
theorem rFix_bd (R : Rr w gr A n c s.1 s.2 bs) (k : Nat) : (rFix bs k s).1 < 256 ^ k := by
 refine redo_val (P := fun v => v < 256 ^ k) (Nat.pow_pos (by omega)) fun v a' h => ?_
 unfold fixF at h
 split at h
 ·rename_i l a2 ht
  cases h
  obtain ⟨e1, e2, e3, e4⟩ := takeF_form _ _ _ _ _ ht
  have := le256_lt l fun x hx => R.lb x (by rw [e1] at hx; exact List.mem_of_mem_drop (List.mem_of_mem_take hx))
  rwa [e4] at this
 ·cases h
theorem dFix1 (R : Rr w gr A n c s.1 s.2 bs) : Calls Try.prog 120 #[.pointer (some ⟨gr, 0, none⟩), .int .i64 1] w fun e w' => ∃ v s', rFix bs 1 s = (v, s') ∧ e = .returned (.int .u64 (v : Int)) ∧ v < 256 ∧ Chg [gr] w w' ∧ Rr w' gr A n c s'.1 s'.2 bs := by
 refine (rfixed_any w gr n c s.1 1 s.2 A bs (by omega) (by omega) R).mono ?_
 rintro e w' ⟨v, rfl, hc, hk, hR⟩
 unfold KNum at hk
 subst hk
 exact ⟨_, _, rfl, rfl, rFix_bd R 1, hc, hR⟩
theorem dFix8 (R : Rr w gr A n c s.1 s.2 bs) : Calls Try.prog 120 #[.pointer (some ⟨gr, 0, none⟩), .int .i64 8] w fun e w' => ∃ v s', rFix bs 8 s = (v, s') ∧ e = .returned (.int .u64 (v : Int)) ∧ v < 18446744073709551616 ∧ Chg [gr] w w' ∧ Rr w' gr A n c s'.1 s'.2 bs := by
 refine (rfixed_any w gr n c s.1 8 s.2 A bs (by omega) (by omega) R).mono ?_
 rintro e w' ⟨v, rfl, hc, hk, hR⟩
 unfold KNum at hk
 subst hk
 exact ⟨_, _, rfl, rfl, rFix_bd R 8, hc, hR⟩
theorem dNumU (R : Rr w gr A n c s.1 s.2 bs) : Calls Try.prog 121 #[.pointer (some ⟨gr, 0, none⟩)] w fun e w' => ∃ v s', rNum bs s = (v, s') ∧ e = .returned (.int .u64 (v : Int)) ∧ v < 18446744073709551616 ∧ Chg [gr] w w' ∧ Rr w' gr A n c s'.1 s'.2 bs := by
 refine (ruvarint_any w gr n c s.1 s.2 A bs R).mono ?_
 rintro e w' ⟨v, rfl, hc, hk, hR⟩
 unfold KNum at hk
 subst hk
 exact ⟨_, _, rfl, rfl, rNum_bd R, hc, hR⟩
theorem dNumV (R : Rr w gr A n c s.1 s.2 bs) : Calls Try.prog 122 #[.pointer (some ⟨gr, 0, none⟩)] w fun e w' => ∃ v s', rNum bs s = (v, s') ∧ e = .returned (.int .i64 (unz (v : Int))) ∧ (-9223372036854775808 ≤ unz (v : Int) ∧ unz (v : Int) ≤ 9223372036854775807) ∧ Chg [gr] w w' ∧ Rr w' gr A n c s'.1 s'.2 bs := by
 refine (rvarint_any w gr n c s.1 s.2 A bs R).mono ?_
 rintro e w' ⟨v, rfl, hc, hk, hR⟩
 unfold KZag at hk
 subst hk
 have h5 : ∀ v : Nat, v < 18446744073709551616 → -9223372036854775808 ≤ unz (v : Int) ∧ unz (v : Int) ≤ 9223372036854775807 := fun v hv => unz_bd _ (by omega) (by omega)
 exact ⟨_, _, rfl, rfl, h5 _ (rNum_bd R), hc, hR⟩
theorem dBlk (most : Nat) (hm : most ≤ 1048576) (R : Rr w gr A n c s.1 s.2 bs) : Calls Try.prog 123 #[.pointer (some ⟨gr, 0, none⟩), .int .i64 (most : Int)] w fun e w' => ∃ l s' vb cp, rBlk bs (most : Int) s = (l, s') ∧ e = .returned (.slice vb l.length cp) ∧ w'.ownsRow w.heap.size 5 1 (.slice vb l.length cp) l.length (cb l) ∧ Chg [gr] w w' ∧ Rr w' gr A n c s'.1 s'.2 bs := by
 refine (rblock_any w gr n c s.1 s.2 A bs (most : Int) (by omega) R).mono ?_
 rintro e w' ⟨v, rfl, hc, hk, hR⟩
 obtain ⟨A', c', rfl, _, _⟩ := own_form hk
 exact ⟨_, _, A', c', rfl, rfl, hk, hc, hR⟩
theorem dTxt (most each : Nat) (hm : most ≤ 1048576) (he : each ≤ 1048576) (R : Rr w gr A n c s.1 s.2 bs) : Calls Try.prog 124 #[.pointer (some ⟨gr, 0, none⟩), .int .i64 (most : Int), .int .i64 (each : Int)] w fun e w' => ∃ l s' vb cp, rTxt bs (most : Int) (each : Int) s = (l, s') ∧ e = .returned (.slice vb l.length cp) ∧ w'.ownsRow w.heap.size 9 1 (.slice vb l.length cp) l.length (cs (l.map bstr)) ∧ Chg [gr] w w' ∧ Rr w' gr A n c s'.1 s'.2 bs := by
 refine (rtexts_any w gr n c s.1 s.2 A bs (most : Int) (each : Int) (by omega) (by omega) R).mono ?_
 rintro e w' ⟨v, rfl, hc, hk, hR⟩
 unfold KTxt at hk
 obtain ⟨A', c', rfl, _, _⟩ := own_form hk
 exact ⟨_, _, A', c', rfl, rfl, hk, hc, hR⟩
end
/-- Where the reference's reading of a message stands: the box of the result, the codec's reader behind it, the message's own box behind both. -/
structure QR (w W : World) (t gx gq gr : Nat) (A : Option Addr) (n c : Nat) (s : Nat × Int) (bs : List Nat) (zs : Array Value) (M : Wm) : Prop where
 box : W.heap[gq]? = some (.cells M.cells.toArray t)
 res : W.heap[gx]? = some (.cells zs t)
 rdr : Rr W gr A n c s.1 s.2 bs
 ch : Chg [] w W
 ok : M.ok W (gq + 1)
 l1 : w.heap.size ≤ gx
 l2 : gx < gr
 l3 : gr < gq
 na : ∀ g off, A = some ⟨g, off, none⟩ → 0 < n → g ≠ gx
section
variable {w W W' : World} {t gx gq gr n c : Nat} {A : Option Addr} {s s' : Nat × Int} {bs : List Nat} {zs : Array Value} {M M' : Wm}
theorem Chg.newOne {x : Nat} (h : Chg [] w W) (hc : Chg [x] W W') (hx : w.heap.size ≤ x) : Chg [] w W' :=
 Chg.pop (L := []) ((h.mono (L' := [] ++ [x]) (fun k hk hl => by simp at hk)).trans hc) hx
theorem QR.lt (h : QR w W t gx gq gr A n c s bs zs M) : gq < W.heap.size := (Array.getElem?_eq_some_iff.1 h.box).1
/-- A call of the codec's reader. -/
theorem QR.call (h : QR w W t gx gq gr A n c s bs zs M) (hc : Chg [gr] W W') (hR : Rr W' gr A n c s'.1 s'.2 bs) : QR w W' t gx gq gr A n c s' bs zs M where
 box := by rw [hc.block gq h.lt (by have := h.l3; simp; omega)]; exact h.box
 res := by rw [hc.block gx (by have := h.lt; have := h.l2; have := h.l3; omega) (by have := h.l2; simp; omega)]; exact h.res
 rdr := hR
 ch := h.ch.newOne hc (by have := h.l1; have := h.l2; omega)
 ok := h.ok.chg hc fun r hr k hk => by have := (h.ok.lt hr hk).1; have := h.l3; simp; omega
 l1 := h.l1
 l2 := h.l2
 l3 := h.l3
 na := h.na
theorem QR.below (h : QR w W t gx gq gr A n c s bs zs M) (hb : Chg [] W W') : QR w W' t gx gq gr A n c s bs zs M :=
 h.call (hb.mono (by simp)) (h.rdr.keep hb (by simp) (by simp))
/-- A field is written; a row more may be owned. -/
theorem QR.set (h : QR w W t gx gq gr A n c s bs zs M) (i : Nat) (u : Value) (hM : M'.cells = M.cells.set i u) (hok : M'.ok W (gq + 1)) : QR w (W.setCell ⟨gq, i, none⟩ u) t gx gq gr A n c s bs zs M' where
 box := by rw [heap_set W gq i u _ _ h.box, hM]; simp
 res := by rw [Below.heap_setCell _ _ _ _ (by show gx ≠ gq; have := h.l2; have := h.l3; omega)]; exact h.res
 rdr := h.rdr.keep' ((Chg.refl [gq] W).setCell (by simp) u) (by simp; have := h.l3; omega)
 ch := h.ch.newOne ((Chg.refl [gq] W).setCell (by simp) u) (by have := h.l1; have := h.l2; have := h.l3; omega)
 ok := hok.chg ((Chg.refl [gq] W).setCell (by simp) u) fun r hr k hk => by have := (hok.lt hr hk).1; simp; omega
 l1 := h.l1
 l2 := h.l2
 l3 := h.l3
 na := h.na
theorem QR.at_ (h : QR w W t gx gq gr A n c s bs zs M) (i : Nat) {v : Value} (hv : M.cells[i]? = some v) : W.cell? ⟨gq, i, none⟩ = some v := by rw [cell_of_row W gq i _ _ (0, 0) h.box]; simpa using hv
theorem QR.range (h : QR w W t gx gq gr A n c s bs zs M) : W.rangeAt gq 0 M.cells := fun j v hj => by rw [Nat.zero_add]; exact h.at_ j hj
theorem QR.stored (h : QR w W t gx gq gr A n c s bs zs M) {cells : Array Value} (hs : W'.heap[gx]? = some (.cells cells t)) (hg : W.grownBy W' (some gx)) : QR w W' t gx gq gr A n c s bs cells M := by
 have hc : Chg [gx] W W' := ⟨hg.os, hg.tape, hg.output, hg.size, fun k hk hm => hg.block k hk (by simpa using hm)⟩
 exact {
  box := by rw [hg.block gq h.lt (by have := h.l2; have := h.l3; intro e; injection e; omega)]; exact h.box
  res := hs
  rdr := h.rdr.keep hc (by simp; have := h.l2; omega) (fun g off he hn => by simp; exact h.na g off he hn)
  ch := h.ch.newOne hc h.l1
  ok := h.ok.chg (X := [gx]) hc fun r hr k hk => by have := (h.ok.lt hr hk).1; have := h.l2; have := h.l3; simp; omega
  l1 := h.l1
  l2 := h.l2
  l3 := h.l3
  na := h.na }
theorem QR.z (h : QR w W t gx gq gr A n c s bs zs M) (i : Nat) : W.frozen? ⟨gq, i, none⟩ = false := by simp [World.frozen?, h.box]
end
/-- What the reference's reading of a message answers. -/
def RMsg (T : Type) (rd : List Nat → Option T) (is : Wm → T → Prop) (m : Nat) (w : World) (bs : List Nat) (e : Ending) (w' : World) : Prop :=
 ∃ (W : Wm) (ok : Bool), e = .returned (.tuple #[.agg W.cells.toArray, .bool ok]) ∧ Chg [] w w' ∧ W.cells.length = m ∧ W.cells.toArray.all (·.oneCell') = true ∧ ((∃ x, ok = true ∧ rd bs = some x ∧ is W x ∧ W.ok w' w.heap.size) ∨ (ok = false ∧ rd bs = none))
end Go.Proofs.Ytbcmjjcbjojakaa
end
