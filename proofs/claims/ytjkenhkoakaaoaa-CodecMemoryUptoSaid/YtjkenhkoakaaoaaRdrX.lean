/- Contracts of codec's Reader: Texts. -/
import Derived.Test.YtjkenhkoakaaoaaRdrL
namespace Go.Proofs.Ytjkenhkoakaaoaa
open Go.RowKit
set_option linter.unusedVariables false
set_option maxRecDepth 20000
/-- The text of these bytes. -/
def tx1 (l : List Nat) : ByteArray := strOfNums (l.map Int.ofNat)
def KTxt (base : Nat) (v : Value) (a : List (List Nat)) (w : World) : Prop := w.ownsRow base 9 1 v a.length (cs (a.map tx1))
theorem KTxt.nil (base : Nat) (w : World) : KTxt base (.slice none 0 0) [] w := World.ownsRow_nil ..
theorem rowsF_len (bs : List Nat) (each : Nat) : ∀ (k a : Nat) (l : List (List Nat)) (a2 : Nat), a ≤ bs.length → (∀ y ∈ bs, y < 256) → rowsF bs each k a = .ok (l, a2) → l.length = k ∧ a + k ≤ a2 ∧ a2 ≤ bs.length := by
  intro k
  induction k with
  | zero => intro a l a2 ha _ h; unfold rowsF at h; cases h; exact ⟨rfl, by omega, ha⟩
  | succ k ih =>
    intro a l a2 ha hb h
    unfold rowsF at h
    split at h
    · cases h
    · rename_i b a1 hbk
      split at h
      · cases h
      · rename_i l2 a3 hrk
        cases h
        have h1 : a < a1 ∧ a1 ≤ bs.length := by
          unfold blockF at hbk
          split at hbk
          · rename_i x ax hx
            have h2 := numF_hi bs a x ax hb hx
            split at hbk
            · unfold takeF at hbk
              split at hbk
              · cases hbk; have := h2.2.2 ha; omega
              · cases hbk
            · cases hbk
          · cases hbk
        obtain ⟨i1, i2, i3⟩ := ih a1 l2 a2 h1.2 hb hrk
        exact ⟨by simp [i1], by omega, i3⟩
theorem Chg.then_below {L : List Nat} {w w1 w2 : World} (h : Chg L w w1) (b : Below w.heap.size w1 w2) : Chg L w w2 :=
  ⟨b.os.trans h.os, b.tape.trans h.tape, b.output.trans h.output, Nat.le_trans h.size b.size, fun k hk hn => (b.block k hk).trans (h.block k hk hn)⟩
theorem Rr.below {w w1 : World} {B gr n c at_ : Nat} {A : Option Addr} {fl : Int} {bs : List Nat} (R : Rr w gr A n c at_ fl bs) (b : Below B w w1) (hg : gr < B) : Rr w1 gr A n c at_ fl bs where
  c0 := (b.cell (p := ⟨gr, 0, none⟩) hg).trans R.c0
  c1 := (b.cell (p := ⟨gr, 1, none⟩) hg).trans R.c1
  c2 := (b.cell (p := ⟨gr, 2, none⟩) hg).trans R.c2
  z1 := (b.frozen (p := ⟨gr, 1, none⟩) hg).trans R.z1
  z2 := (b.frozen (p := ⟨gr, 2, none⟩) hg).trans R.z2
  rd := R.rd.below (b.mono (Nat.le_of_lt hg))
  le := R.le
  lt := Nat.lt_of_lt_of_le R.lt b.size
  lb := R.lb
set_option maxHeartbeats 4000000 in
theorem textsC_any (w : World) (gr pr pv pm pe n c at_ : Nat) (A : Option Addr) (bs : List Nat) (x y : Int) (hx : -9223372036854775808 ≤ x ∧ x ≤ 9223372036854775807) (hy : -9223372036854775808 ≤ y ∧ y ≤ 9223372036854775807) (R : Rr w gr A n c at_ 0 bs) (C : Caps w gr pr pv)
    (cm : w.cell? ⟨pm, 0, none⟩ = some (.int .i64 x)) (hpm : gr < pm ∧ pm < w.heap.size) (ce : w.cell? ⟨pe, 0, none⟩ = some (.int .i64 y)) (hpe : gr < pe ∧ pe < w.heap.size) :
    Calls Try.prog 99 #[.pointer (some ⟨pm, 0, none⟩), .pointer (some ⟨pe, 0, none⟩), .pointer (some ⟨pr, 0, none⟩), .pointer (some ⟨pv, 0, none⟩)] w (Clo w gr pv n c A bs (KTxt (pv + 1)) (textsF bs at_ x y)) := by
  have HR : Hd (Rr w gr A n c at_ 0 bs ∧ Caps w gr pr pv ∧ (gr < pm ∧ pm < w.heap.size) ∧ (gr < pe ∧ pe < w.heap.size)) := ⟨R, C, hpm, hpe⟩
  have HC : Hd (w.cell? ⟨pm, 0, none⟩ = some (.int .i64 x) ∧ w.cell? ⟨pe, 0, none⟩ = some (.int .i64 y)) := ⟨cm, ce⟩
  have k1 := C.hr
  have hx1 := hx.1
  have hx2 := hx.2
  have hy1 := hy.1
  have hy2 := hy.2
  clear R C hpm hpe hx hy
  go_enter Try.func99, Try.ntmps99
  by_cases h0 : 0 ≤ x ∧ 0 ≤ y
  · have h01 := h0.1
    have h02 := h0.2
    clear h0
    go_wp2_with fail
    refine (must_yes _ 2).mono ?_
    rintro e z ⟨rfl, rfl⟩
    go_wp2_with fail
    refine (number_any w gr n c at_ A 0 bs HR.out.1).mono ?_
    rintro e w1 ⟨hch, hyy, hn⟩
    rcases hnum : numF bs at_ with ec | ⟨k, a1⟩
    · obtain ⟨rfl, at', hr⟩ := hn ec hnum
      have H1 : Hd (Chg [gr] w w1 ∧ Rr w1 gr A n c at' 0 bs ∧ textsF bs at_ x y = .error ec) := ⟨hch, hr, by unfold textsF; rw [if_neg (by omega), hnum]⟩
      clear hch hyy hn hnum hr
      unfold giveUp
      go_wp2_with fail
      exact ⟨rfl, Clo.no H1.out.2.2 H1.out.1 H1.out.2.1⟩
    · obtain ⟨v, rfl, hk, hr⟩ := hyy _ _ hnum
      unfold KNum at hk
      subst hk
      have hxx := numF_hi bs at_ k a1 HR.out.1.lb hnum
      have cm : w1.cell? ⟨pm, 0, none⟩ = some (.int .i64 x) := (hch.cell (p := ⟨pm, 0, none⟩) HR.out.2.2.1.2 (by have := HR.out.2.2.1; simp; omega)).trans HC.out.1
      have ce : w1.cell? ⟨pe, 0, none⟩ = some (.int .i64 y) := (hch.cell (p := ⟨pe, 0, none⟩) HR.out.2.2.2.2 (by have := HR.out.2.2.2; simp; omega)).trans HC.out.2
      have H1 : Hd (Chg [gr] w w1 ∧ Rr w1 gr A n c a1 0 bs ∧ Caps w1 gr pr pv ∧ numF bs at_ = .ok (k, a1) ∧ w1.cell? ⟨pe, 0, none⟩ = some (.int .i64 y)) := ⟨hch, hr, HR.out.2.1.keep hch, hnum, ce⟩
      have k1 := H1.out.2.2.1.hr
      obtain ⟨X, hX⟩ : ∃ X : Int, (k : Int) = X := ⟨_, rfl⟩
      have x1 : 0 ≤ X := by omega
      have x2 : X ≤ 18446744073709551615 := by omega
      have HX := Hd.mk hX
      rw [hX]
      clear hch hyy hn hnum hr hxx hX
      by_cases hle : X ≤ x
      · have HB : Hd (textsF bs at_ x y = rowsF bs y.toNat k a1) := ⟨by unfold textsF; rw [if_neg (by omega), H1.out.2.2.2.1]; simp only; rw [if_pos (by have := HX.out; omega)]⟩
        go_wp2_with fail
        refine (must_yes _ 71).mono ?_
        rintro e z ⟨rfl, rfl⟩
        clear cm
        go_wp2_with fail
        go_loopw [5, 21] (fun s i wr => ∃ (j a : Nat) (l : List (List Nat)), i = .int .u64 (j : Int) ∧ (j : Int) ≤ X ∧ Chg [gr] w1 wr ∧ Rr wr gr A n c a 0 bs ∧ wr.ownsRow w1.heap.size 9 1 s j (cs (l.map tx1)) ∧ l.length = j ∧ a1 + j ≤ a ∧
          (match rowsF bs y.toNat (k - j) a with | .ok (l2, a2) => Except.ok (l ++ l2, a2) | .error e => .error e) = rowsF bs y.toNat k a1) (fun _ i _ => k - (intOf i).toNat)
        case atStart =>
          refine ⟨0, a1, [], rfl, by omega, Chg.refl _ _, H1.out.2.1, World.ownsRow_nil .., rfl, by omega, ?_⟩
          rw [Nat.sub_zero]
          rcases rowsF bs y.toNat k a1 with e | ⟨l2, a2⟩ <;> rfl
        case round =>
          obtain ⟨j, a, l, rfl, hj, hch, hr, ho, hll, haj, hrow⟩ := hrel
          have ck : Caps wr gr pr pv := H1.out.2.2.1.keep hch
          have k1 := ck.hr
          have ce : wr.cell? ⟨pe, 0, none⟩ = some (.int .i64 y) := (hch.cell (p := ⟨pe, 0, none⟩) (Nat.lt_of_lt_of_le HR.out.2.2.2.2 H1.out.1.size) (by have := HR.out.2.2.2; simp; omega)).trans H1.out.2.2.2.2
          have hgr : gr < w1.heap.size := H1.out.2.1.lt
          have H2 : Hd (Chg [gr] w1 wr ∧ Rr wr gr A n c a 0 bs ∧ wr.ownsRow w1.heap.size 9 1 u5 j (cs (l.map tx1)) ∧ l.length = j ∧ a1 + j ≤ a ∧ (match rowsF bs y.toNat (k - j) a with | .ok (l2, a2) => Except.ok (l ++ l2, a2) | .error e => .error e) = rowsF bs y.toNat k a1 ∧ w1.heap.size ≤ wr.heap.size ∧ gr < w1.heap.size) := ⟨hch, hr, ho, hll, haj, hrow, hch.size, hgr⟩
          have hjn : j ≤ 4398046511104 := by have := hr.le; omega
          clear hch hr ho hll haj hrow ck hgr
          by_cases hlt : (j : Int) < X
          · go_wp2_with fail
            refine (by have := block_any wr gr n c a y.toNat A 0 bs H2.out.2.1 (by omega); rw [show ((y.toNat : Nat) : Int) = y by omega] at this; exact this : Calls Try.prog 94 #[.pointer (some ⟨gr, 0, none⟩), .int .i64 y] wr (Gives wr gr n c A 0 bs (KCut gr) (blockF bs a y.toNat))).mono ?_
            rintro e w2 ⟨hch, hyy, hn⟩
            obtain ⟨q, hq⟩ : ∃ q, k - j = q + 1 := ⟨k - j - 1, by have := HX.out; omega⟩
            rcases hbk : blockF bs a y.toNat with ec | ⟨b, a2⟩
            · obtain ⟨rfl, at', hr⟩ := hn ec hbk
              have H3 : Hd (Chg [gr] w w2 ∧ Rr w2 gr A n c at' 0 bs ∧ textsF bs at_ x y = .error ec) := ⟨(H1.out.1.trans H2.out.1).trans hch, hr, by
                rw [HB.out, ← H2.out.2.2.2.2.2.1, hq, rowsF, hbk]⟩
              clear hch hyy hn hbk hr
              unfold giveUp
              go_wp2_with fail
              exact ⟨rfl, Clo.no H3.out.2.2 H3.out.1 H3.out.2.1⟩
            · obtain ⟨v, rfl, ⟨A1, c1, rfl, hrd, hc1⟩, hr⟩ := hyy _ _ hbk
              have ho := hch.own H2.out.2.2.1 (fun g hg => by have := (H2.out.2.2.1.lt g hg).1; have := H2.out.2.2.2.2.2.2.2; simp; omega)
              have hcv : ∀ w3, w3 = w2 → (convert 45 9 (.slice A1 b.length c1)).run Try.prog w3 = .ok (.string (tx1 b)) w3 := fun w3 he => by
                subst he
                rw [cb_ints] at hrd
                exact run_conv_str 45 9 5 Try.underlying45 Try.underlying5 infoStr c1 hrd
              have hcv := hcv w2 rfl
              have ha2 : a < a2 ∧ a2 ≤ n := by
                have h1 := rowsF_len bs y.toNat 1 a [b] a2 (by have := H2.out.2.1.len; have := H2.out.2.1.le; omega) H2.out.2.1.lb (by rw [rowsF, hbk]; rfl)
                have := H2.out.2.1.len
                omega
              have H3 : Hd (Chg [gr] w1 w2 ∧ Rr w2 gr A n c a2 0 bs ∧ w2.ownsRow w1.heap.size 9 1 u5 j (cs (l.map tx1)) ∧ (match rowsF bs y.toNat q a2 with | .ok (l2, a2) => Except.ok ((l ++ [b]) ++ l2, a2) | .error e => .error e) = rowsF bs y.toNat k a1 ∧ w1.heap.size ≤ w2.heap.size ∧ a < a2) :=
                ⟨H2.out.1.trans hch, hr, ho, by
                  rw [← H2.out.2.2.2.2.2.1, hq, rowsF, hbk]
                  simp only
                  rcases rowsF bs y.toNat q a2 with e | ⟨l2, a3⟩
                  · rfl
                  · simp, Nat.le_trans H2.out.2.2.2.2.2.2.1 hch.size, ha2.1⟩
              have h63 : Hd (j + 1 ≤ maxLen) := ⟨by unfold maxLen; omega⟩
              have hby : Hd ((j + 1) * 16 ≤ 140737488355328) := ⟨by omega⟩
              clear hch hyy hn hbk hr hrd hc1 ho ha2
              go_wp2_with (refine wpList_push elS rfl rfl (.tmp 23) (.tmp 27) 28 rfl rfl rfl w1.heap.size u5 _ _ _ rfl rfl rfl rfl H3.out.2.2.1 h63.out hby.out H3.out.2.2.2.2.1 ?_; intro v2 w3 hO2)
              have hbl := hO2.below (B := w1.heap.size) (fun g hg => (H3.out.2.2.1.lt g hg).1) H3.out.2.2.2.2.1
              go_roundw
              case rel =>
                refine ⟨j + 1, a2, l ++ [b], by go_num, by omega, ?_, ?_, ?_, by rw [List.length_append, H2.out.2.2.2.1]; rfl, by have := H2.out.2.2.2.2.1; have := H3.out.2.2.2.2.2; omega, ?_⟩
                · exact H3.out.1.then_below hbl
                · exact H3.out.2.1.below hbl H2.out.2.2.2.2.2.2.2
                · rw [List.map_append, cs_append]; exact hO2.own
                · rw [show k - (j + 1) = q by omega]; exact H3.out.2.2.2.1
              case measure => simp [intOf]; have := HX.out; omega
          · have hkj : k = j := by have := HX.out; omega
            obtain ⟨A2, c2, rfl, _, _⟩ := own_form H2.out.2.2.1
            have H4 : Hd (textsF bs at_ x y = .ok (l, a) ∧ Caps wr gr pr pv ∧ pv < w1.heap.size) := ⟨by
              rw [HB.out, ← H2.out.2.2.2.2.2.1, hkj, Nat.sub_self, rowsF]; simp, H1.out.2.2.1.keep H2.out.1, H1.out.2.2.1.lt.2.2.1⟩
            obtain ⟨u, d1⟩ := H4.out.2.1.hv
            have d2 := H4.out.2.1.zv
            have hX2 : X = (j : Int) := by omega
            subst hX2
            clear hkj hlt hj
            go_wp2_with fail
            go_end0
            refine Clo.yes (a := l) (at' := a) H4.out.1 (((H1.out.1.trans H2.out.1).mono (by simp)).setCell (by simp) _) (H2.out.2.1.keep' ((Chg.refl [pv] wr).setCell (by simp) _) (by have := HR.out.2.1.lt; simp; omega)) (World.cell?_setCell_same _ _ _ d1) (by rw [World.frozen?_setCell]; exact d2) ?_
            unfold KTxt
            rw [H2.out.2.2.2.1]
            exact own_base (ownsRow_setCell_below H2.out.2.2.1 (a := ⟨pv, 0, none⟩) H4.out.2.2 _) (by have := H4.out.2.2; omega)
      · go_wp2_with fail
        rw [show decide (X ≤ x) = false from by simp; omega]
        refine (must_no _ 71).mono ?_
        rintro e z ⟨he, rfl⟩
        unfold giveUp at he
        subst he
        go_wp2_with fail
        refine ⟨rfl, Clo.no ?_ H1.out.1 H1.out.2.1⟩
        unfold textsF
        rw [if_neg (by omega), H1.out.2.2.2.1]
        simp only
        rw [if_neg (by have := HX.out; omega)]
  · have HB : Hd (textsF bs at_ x y = .error 2) := ⟨by unfold textsF; rw [if_pos (by omega)]⟩
    have cm := HC.out.1
    have ce := HC.out.2
    by_cases hx0 : 0 ≤ x
    · have hy0 : ¬ 0 ≤ y := by omega
      have HH := Hd.mk h0
      clear h0
      go_wp2_with fail
      refine (must_no _ 2).mono ?_
      rintro e z ⟨he, rfl⟩
      unfold giveUp at he
      subst he
      go_wp2_with fail
      exact ⟨rfl, Clo.no HB.out (Chg.refl _ _) HR.out.1⟩
    · have HH := Hd.mk h0
      clear h0
      go_wp2_with fail
      refine (must_no _ 2).mono ?_
      rintro e z ⟨he, rfl⟩
      unfold giveUp at he
      subst he
      go_wp2_with fail
      exact ⟨rfl, Clo.no HB.out (Chg.refl _ _) HR.out.1⟩
end Go.Proofs.Ytjkenhkoakaaoaa
