/- Put together of: RdrX AskF OneForm MsgP. -/
import Derived.Test.YtbcmjjcbjojakaaDoorPk4
import Derived.Test.YtbcmjjcbjojakaaDoorPk3
section
namespace Go.Proofs.YtbcmjjcbjojakaaDoor
open Go.RowKit
set_option linter.unusedVariables false
set_option maxRecDepth 20000
/-- The text of these bytes. -/
def tx1 (l : List Nat) : ByteArray := strOfNums (l.map Int.ofNat)
def KTxt (base : Nat) (v : Value) (a : List (List Nat)) (w : World) : Prop := w.ownsRow base 9 1 v a.length (cs (a.map tx1))
theorem KTxt.nil (base : Nat) (w : World) : KTxt base (.slice none 0 0) [] w := World.ownsRow_nil ..
theorem rowsF_len (bs : List Nat) (each : Nat) : ∀ (k a : Nat) (l : List (List Nat)) (a2 : Nat), a ≤ bs.length → (∀ y ∈ bs, y < 256) → rowsF bs each k a = .ok (l, a2) → l.length = k ∧ a + k ≤ a2 ∧ a2 ≤ bs.length := by
  intro k
  induction k with
  | zero => intro a l a2 ha _ h; unfold rowsF at h; cases h; exact ⟨rfl, by omega, ha⟩
  | succ k ih =>
    intro a l a2 ha hb h
    unfold rowsF at h
    split at h
    · cases h
    · rename_i b a1 hbk
      split at h
      · cases h
      · rename_i l2 a3 hrk
        cases h
        have h1 : a < a1 ∧ a1 ≤ bs.length := by
          unfold blockF at hbk
          split at hbk
          · rename_i x ax hx
            have h2 := numF_hi bs a x ax hb hx
            split at hbk
            · unfold takeF at hbk
              split at hbk
              · cases hbk; have := h2.2.2 ha; omega
              · cases hbk
            · cases hbk
          · cases hbk
        obtain ⟨i1, i2, i3⟩ := ih a1 l2 a2 h1.2 hb hrk
        exact ⟨by simp [i1], by omega, i3⟩
theorem Chg.then_below {L : List Nat} {w w1 w2 : World} (h : Chg L w w1) (b : Below w.heap.size w1 w2) : Chg L w w2 :=
  ⟨b.os.trans h.os, b.tape.trans h.tape, b.output.trans h.output, Nat.le_trans h.size b.size, fun k hk hn => (b.block k hk).trans (h.block k hk hn)⟩
theorem Rr.below {w w1 : World} {B gr n c at_ : Nat} {A : Option Addr} {fl : Int} {bs : List Nat} (R : Rr w gr A n c at_ fl bs) (b : Below B w w1) (hg : gr < B) : Rr w1 gr A n c at_ fl bs where
  c0 := (b.cell (p := ⟨gr, 0, none⟩) hg).trans R.c0
  c1 := (b.cell (p := ⟨gr, 1, none⟩) hg).trans R.c1
  c2 := (b.cell (p := ⟨gr, 2, none⟩) hg).trans R.c2
  z1 := (b.frozen (p := ⟨gr, 1, none⟩) hg).trans R.z1
  z2 := (b.frozen (p := ⟨gr, 2, none⟩) hg).trans R.z2
  rd := R.rd.below (b.mono (Nat.le_of_lt hg))
  le := R.le
  lt := Nat.lt_of_lt_of_le R.lt b.size
  lb := R.lb
set_option maxHeartbeats 4000000 in
theorem textsC_any (w : World) (gr pr pv pm pe n c at_ : Nat) (A : Option Addr) (bs : List Nat) (x y : Int) (hx : -9223372036854775808 ≤ x ∧ x ≤ 9223372036854775807) (hy : -9223372036854775808 ≤ y ∧ y ≤ 9223372036854775807) (R : Rr w gr A n c at_ 0 bs) (C : Caps w gr pr pv)
    (cm : w.cell? ⟨pm, 0, none⟩ = some (.int .i64 x)) (hpm : gr < pm ∧ pm < w.heap.size) (ce : w.cell? ⟨pe, 0, none⟩ = some (.int .i64 y)) (hpe : gr < pe ∧ pe < w.heap.size) :
    Calls Tryd.prog 79 #[.pointer (some ⟨pm, 0, none⟩), .pointer (some ⟨pe, 0, none⟩), .pointer (some ⟨pr, 0, none⟩), .pointer (some ⟨pv, 0, none⟩)] w (Clo w gr pv n c A bs (KTxt (pv + 1)) (textsF bs at_ x y)) := by
  have HR : Hd (Rr w gr A n c at_ 0 bs ∧ Caps w gr pr pv ∧ (gr < pm ∧ pm < w.heap.size) ∧ (gr < pe ∧ pe < w.heap.size)) := ⟨R, C, hpm, hpe⟩
  have HC : Hd (w.cell? ⟨pm, 0, none⟩ = some (.int .i64 x) ∧ w.cell? ⟨pe, 0, none⟩ = some (.int .i64 y)) := ⟨cm, ce⟩
  have k1 := C.hr
  have hx1 := hx.1
  have hx2 := hx.2
  have hy1 := hy.1
  have hy2 := hy.2
  clear R C hpm hpe hx hy
  go_enter Tryd.func79, Tryd.ntmps79
  by_cases h0 : 0 ≤ x ∧ 0 ≤ y
  · have h01 := h0.1
    have h02 := h0.2
    clear h0
    go_wp2_with fail
    refine (must_yes _ 2).mono ?_
    rintro e z ⟨rfl, rfl⟩
    go_wp2_with fail
    refine (number_any w gr n c at_ A 0 bs HR.out.1).mono ?_
    rintro e w1 ⟨hch, hyy, hn⟩
    rcases hnum : numF bs at_ with ec | ⟨k, a1⟩
    · obtain ⟨rfl, at', hr⟩ := hn ec hnum
      have H1 : Hd (Chg [gr] w w1 ∧ Rr w1 gr A n c at' 0 bs ∧ textsF bs at_ x y = .error ec) := ⟨hch, hr, by unfold textsF; rw [if_neg (by omega), hnum]⟩
      clear hch hyy hn hnum hr
      unfold giveUp
      go_wp2_with fail
      exact ⟨rfl, Clo.no H1.out.2.2 H1.out.1 H1.out.2.1⟩
    · obtain ⟨v, rfl, hk, hr⟩ := hyy _ _ hnum
      unfold KNum at hk
      subst hk
      have hxx := numF_hi bs at_ k a1 HR.out.1.lb hnum
      have cm : w1.cell? ⟨pm, 0, none⟩ = some (.int .i64 x) := (hch.cell (p := ⟨pm, 0, none⟩) HR.out.2.2.1.2 (by have := HR.out.2.2.1; simp; omega)).trans HC.out.1
      have ce : w1.cell? ⟨pe, 0, none⟩ = some (.int .i64 y) := (hch.cell (p := ⟨pe, 0, none⟩) HR.out.2.2.2.2 (by have := HR.out.2.2.2; simp; omega)).trans HC.out.2
      have H1 : Hd (Chg [gr] w w1 ∧ Rr w1 gr A n c a1 0 bs ∧ Caps w1 gr pr pv ∧ numF bs at_ = .ok (k, a1) ∧ w1.cell? ⟨pe, 0, none⟩ = some (.int .i64 y)) := ⟨hch, hr, HR.out.2.1.keep hch, hnum, ce⟩
      have k1 := H1.out.2.2.1.hr
      obtain ⟨X, hX⟩ : ∃ X : Int, (k : Int) = X := ⟨_, rfl⟩
      have x1 : 0 ≤ X := by omega
      have x2 : X ≤ 18446744073709551615 := by omega
      have HX := Hd.mk hX
      rw [hX]
      clear hch hyy hn hnum hr hxx hX
      by_cases hle : X ≤ x
      · have HB : Hd (textsF bs at_ x y = rowsF bs y.toNat k a1) := ⟨by unfold textsF; rw [if_neg (by omega), H1.out.2.2.2.1]; simp only; rw [if_pos (by have := HX.out; omega)]⟩
        go_wp2_with fail
        refine (must_yes _ 71).mono ?_
        rintro e z ⟨rfl, rfl⟩
        clear cm
        go_wp2_with fail
        go_loopw [5, 21] (fun s i wr => ∃ (j a : Nat) (l : List (List Nat)), i = .int .u64 (j : Int) ∧ (j : Int) ≤ X ∧ Chg [gr] w1 wr ∧ Rr wr gr A n c a 0 bs ∧ wr.ownsRow w1.heap.size 9 1 s j (cs (l.map tx1)) ∧ l.length = j ∧ a1 + j ≤ a ∧
          (match rowsF bs y.toNat (k - j) a with | .ok (l2, a2) => Except.ok (l ++ l2, a2) | .error e => .error e) = rowsF bs y.toNat k a1) (fun _ i _ => k - (intOf i).toNat)
        case atStart =>
          refine ⟨0, a1, [], rfl, by omega, Chg.refl _ _, H1.out.2.1, World.ownsRow_nil .., rfl, by omega, ?_⟩
          rw [Nat.sub_zero]
          rcases rowsF bs y.toNat k a1 with e | ⟨l2, a2⟩ <;> rfl
        case round =>
          obtain ⟨j, a, l, rfl, hj, hch, hr, ho, hll, haj, hrow⟩ := hrel
          have ck : Caps wr gr pr pv := H1.out.2.2.1.keep hch
          have k1 := ck.hr
          have ce : wr.cell? ⟨pe, 0, none⟩ = some (.int .i64 y) := (hch.cell (p := ⟨pe, 0, none⟩) (Nat.lt_of_lt_of_le HR.out.2.2.2.2 H1.out.1.size) (by have := HR.out.2.2.2; simp; omega)).trans H1.out.2.2.2.2
          have hgr : gr < w1.heap.size := H1.out.2.1.lt
          have H2 : Hd (Chg [gr] w1 wr ∧ Rr wr gr A n c a 0 bs ∧ wr.ownsRow w1.heap.size 9 1 u5 j (cs (l.map tx1)) ∧ l.length = j ∧ a1 + j ≤ a ∧ (match rowsF bs y.toNat (k - j) a with | .ok (l2, a2) => Except.ok (l ++ l2, a2) | .error e => .error e) = rowsF bs y.toNat k a1 ∧ w1.heap.size ≤ wr.heap.size ∧ gr < w1.heap.size) := ⟨hch, hr, ho, hll, haj, hrow, hch.size, hgr⟩
          have hjn : j ≤ 4398046511104 := by have := hr.le; omega
          clear hch hr ho hll haj hrow ck hgr
          by_cases hlt : (j : Int) < X
          · go_wp2_with fail
            refine (by have := block_any wr gr n c a y.toNat A 0 bs H2.out.2.1 (by omega); rw [show ((y.toNat : Nat) : Int) = y by omega] at this; exact this : Calls Tryd.prog 78 #[.pointer (some ⟨gr, 0, none⟩), .int .i64 y] wr (Gives wr gr n c A 0 bs (KCut gr) (blockF bs a y.toNat))).mono ?_
            rintro e w2 ⟨hch, hyy, hn⟩
            obtain ⟨q, hq⟩ : ∃ q, k - j = q + 1 := ⟨k - j - 1, by have := HX.out; omega⟩
            rcases hbk : blockF bs a y.toNat with ec | ⟨b, a2⟩
            · obtain ⟨rfl, at', hr⟩ := hn ec hbk
              have H3 : Hd (Chg [gr] w w2 ∧ Rr w2 gr A n c at' 0 bs ∧ textsF bs at_ x y = .error ec) := ⟨(H1.out.1.trans H2.out.1).trans hch, hr, by
                rw [HB.out, ← H2.out.2.2.2.2.2.1, hq, rowsF, hbk]⟩
              clear hch hyy hn hbk hr
              unfold giveUp
              go_wp2_with fail
              exact ⟨rfl, Clo.no H3.out.2.2 H3.out.1 H3.out.2.1⟩
            · obtain ⟨v, rfl, ⟨A1, c1, rfl, hrd, hc1⟩, hr⟩ := hyy _ _ hbk
              have ho := hch.own H2.out.2.2.1 (fun g hg => by have := (H2.out.2.2.1.lt g hg).1; have := H2.out.2.2.2.2.2.2.2; simp; omega)
              have hcv : ∀ w3, w3 = w2 → (convert 28 9 (.slice A1 b.length c1)).run Tryd.prog w3 = .ok (.string (tx1 b)) w3 := fun w3 he => by
                subst he
                rw [cb_ints] at hrd
                exact run_conv_str 28 9 5 Tryd.underlying28 Tryd.underlying5 infoStr c1 hrd
              have hcv := hcv w2 rfl
              have ha2 : a < a2 ∧ a2 ≤ n := by
                have h1 := rowsF_len bs y.toNat 1 a [b] a2 (by have := H2.out.2.1.len; have := H2.out.2.1.le; omega) H2.out.2.1.lb (by rw [rowsF, hbk]; rfl)
                have := H2.out.2.1.len
                omega
              have H3 : Hd (Chg [gr] w1 w2 ∧ Rr w2 gr A n c a2 0 bs ∧ w2.ownsRow w1.heap.size 9 1 u5 j (cs (l.map tx1)) ∧ (match rowsF bs y.toNat q a2 with | .ok (l2, a2) => Except.ok ((l ++ [b]) ++ l2, a2) | .error e => .error e) = rowsF bs y.toNat k a1 ∧ w1.heap.size ≤ w2.heap.size ∧ a < a2) :=
                ⟨H2.out.1.trans hch, hr, ho, by
                  rw [← H2.out.2.2.2.2.2.1, hq, rowsF, hbk]
                  simp only
                  rcases rowsF bs y.toNat q a2 with e | ⟨l2, a3⟩
                  · rfl
                  · simp, Nat.le_trans H2.out.2.2.2.2.2.2.1 hch.size, ha2.1⟩
              have h63 : Hd (j + 1 ≤ maxLen) := ⟨by unfold maxLen; omega⟩
              have hby : Hd ((j + 1) * 16 ≤ 140737488355328) := ⟨by omega⟩
              clear hch hyy hn hbk hr hrd hc1 ho ha2
              go_wp2_with (refine wpList_push elS rfl rfl (.tmp 23) (.tmp 27) 28 rfl rfl rfl w1.heap.size u5 _ _ _ rfl rfl rfl rfl H3.out.2.2.1 h63.out hby.out H3.out.2.2.2.2.1 ?_; intro v2 w3 hO2)
              have hbl := hO2.below (B := w1.heap.size) (fun g hg => (H3.out.2.2.1.lt g hg).1) H3.out.2.2.2.2.1
              go_roundw
              case rel =>
                refine ⟨j + 1, a2, l ++ [b], by go_num, by omega, ?_, ?_, ?_, by rw [List.length_append, H2.out.2.2.2.1]; rfl, by have := H2.out.2.2.2.2.1; have := H3.out.2.2.2.2.2; omega, ?_⟩
                · exact H3.out.1.then_below hbl
                · exact H3.out.2.1.below hbl H2.out.2.2.2.2.2.2.2
                · rw [List.map_append, cs_append]; exact hO2.own
                · rw [show k - (j + 1) = q by omega]; exact H3.out.2.2.2.1
              case measure => simp [intOf]; have := HX.out; omega
          · have hkj : k = j := by have := HX.out; omega
            obtain ⟨A2, c2, rfl, _, _⟩ := own_form H2.out.2.2.1
            have H4 : Hd (textsF bs at_ x y = .ok (l, a) ∧ Caps wr gr pr pv ∧ pv < w1.heap.size) := ⟨by
              rw [HB.out, ← H2.out.2.2.2.2.2.1, hkj, Nat.sub_self, rowsF]; simp, H1.out.2.2.1.keep H2.out.1, H1.out.2.2.1.lt.2.2.1⟩
            obtain ⟨u, d1⟩ := H4.out.2.1.hv
            have d2 := H4.out.2.1.zv
            have hX2 : X = (j : Int) := by omega
            subst hX2
            clear hkj hlt hj
            go_wp2_with fail
            go_end0
            refine Clo.yes (a := l) (at' := a) H4.out.1 (((H1.out.1.trans H2.out.1).mono (by simp)).setCell (by simp) _) (H2.out.2.1.keep' ((Chg.refl [pv] wr).setCell (by simp) _) (by have := HR.out.2.1.lt; simp; omega)) (World.cell?_setCell_same _ _ _ d1) (by rw [World.frozen?_setCell]; exact d2) ?_
            unfold KTxt
            rw [H2.out.2.2.2.1]
            exact own_base (ownsRow_setCell_below H2.out.2.2.1 (a := ⟨pv, 0, none⟩) H4.out.2.2 _) (by have := H4.out.2.2; omega)
      · go_wp2_with fail
        rw [show decide (X ≤ x) = false from by simp; omega]
        refine (must_no _ 71).mono ?_
        rintro e z ⟨he, rfl⟩
        unfold giveUp at he
        subst he
        go_wp2_with fail
        refine ⟨rfl, Clo.no ?_ H1.out.1 H1.out.2.1⟩
        unfold textsF
        rw [if_neg (by omega), H1.out.2.2.2.1]
        simp only
        rw [if_neg (by have := HX.out; omega)]
  · have HB : Hd (textsF bs at_ x y = .error 2) := ⟨by unfold textsF; rw [if_pos (by omega)]⟩
    have cm := HC.out.1
    have ce := HC.out.2
    by_cases hx0 : 0 ≤ x
    · have hy0 : ¬ 0 ≤ y := by omega
      have HH := Hd.mk h0
      clear h0
      go_wp2_with fail
      refine (must_no _ 2).mono ?_
      rintro e z ⟨he, rfl⟩
      unfold giveUp at he
      subst he
      go_wp2_with fail
      exact ⟨rfl, Clo.no HB.out (Chg.refl _ _) HR.out.1⟩
    · have HH := Hd.mk h0
      clear h0
      go_wp2_with fail
      refine (must_no _ 2).mono ?_
      rintro e z ⟨he, rfl⟩
      unfold giveUp at he
      subst he
      go_wp2_with fail
      exact ⟨rfl, Clo.no HB.out (Chg.refl _ _) HR.out.1⟩
end Go.Proofs.YtbcmjjcbjojakaaDoor
end
section
namespace Go.Proofs.YtbcmjjcbjojakaaDoor
open Go.RowKit
set_option linter.unusedVariables false
/-- What a call tells: a number, bytes, texts. -/
structure Tld where
  U : Int
  B : List Nat
  T : List (List Nat)
def numT (r : Nat × Nat × Int) : Tld × Nat × Int := (⟨(r.1 : Int), [], []⟩, r.2)
def zagT (r : Nat × Nat × Int) : Tld × Nat × Int := (⟨IntKind.u64.wrap (unz (r.1 : Int)), [], []⟩, r.2)
def bytT (r : List Nat × Nat × Int) : Tld × Nat × Int := (⟨0, r.1, []⟩, r.2)
def txtT (r : List (List Nat) × Nat × Int) : Tld × Nat × Int := (⟨0, [], r.1⟩, r.2)
def askF (bs : List Nat) (at_ : Nat) (fl : Int) (N E : Int) : Nat → Tld × Nat × Int
  | 0 => numT (redo (fixF bs at_ 1) 0 at_ fl)
  | 1 => numT (redo (fixF bs at_ 2) 0 at_ fl)
  | 2 => numT (redo (fixF bs at_ 4) 0 at_ fl)
  | 3 => numT (redo (fixF bs at_ 8) 0 at_ fl)
  | 4 => numT (redo (fixF bs at_ 2) 0 at_ fl)
  | 5 => numT (redo (numF bs at_) 0 at_ fl)
  | 6 => zagT (redo (numF bs at_) 0 at_ fl)
  | 7 => bytT (redo (bytesF bs at_ N) [] at_ fl)
  | 8 => bytT (redo (blkF bs at_ N) [] at_ fl)
  | 9 => txtT (redo (textsF bs at_ N E) [] at_ fl)
  | 10 => (⟨((bs.length - at_ : Nat) : Int), [], []⟩, at_, fl)
  | 11 => (⟨fl, [], []⟩, at_, fl)
  | _ => (⟨endF bs.length at_ fl, [], []⟩, at_, fl)
/-- What is told of no reader. -/
def noneF : Nat → Tld
  | 11 => ⟨1, [], []⟩
  | 12 => ⟨1, [], []⟩
  | _ => ⟨0, [], []⟩
/-- A fault's number. -/
def Bad (e : Int) : Prop := e = 2 ∨ e = 70 ∨ e = 71
/-- A reading that goes well goes on, within the bytes; one that does not tells a fault. -/
def Well {α : Type} (bs : List Nat) (at_ : Nat) (o : Except Int (α × Nat)) : Prop :=
  match o with
  | .ok (_, a) => at_ ≤ a ∧ a ≤ bs.length
  | .error e => Bad e
theorem numR_err : ∀ (l : List Nat) (i v : Nat) (e : Int), numR l i v = .error e → Bad e
  | [], _, _, e, h => by cases h; exact .inr (.inl rfl)
  | c :: l, i, v, e, h => by
    unfold numR at h
    split at h
    · cases h; exact .inr (.inr rfl)
    · split at h
      · split at h
        · cases h; exact .inr (.inr rfl)
        · cases h
      · exact numR_err l _ _ e h
variable {bs : List Nat} {at_ : Nat}
theorem well_num (hb : ∀ y ∈ bs, y < 256) (ha : at_ ≤ bs.length) : Well bs at_ (numF bs at_) := by
  rcases h : numF bs at_ with e | ⟨x, a⟩
  · unfold numF at h
    split at h
    · cases h
    · rename_i e' h'
      cases h
      exact numR_err _ _ _ _ h'
  · have := numF_hi bs at_ x a hb h
    exact ⟨by omega, this.2.2 ha⟩
theorem well_take (k : Nat) (ha : at_ ≤ bs.length) : Well bs at_ (takeF bs at_ k) := by
  unfold takeF
  split
  · exact ⟨by omega, by omega⟩
  · exact .inr (.inl rfl)
theorem well_fix (k : Nat) (ha : at_ ≤ bs.length) : Well bs at_ (fixF bs at_ k) := by
  have := well_take k ha
  unfold fixF
  rcases h : takeF bs at_ k with e | ⟨x, a⟩ <;> rw [h] at this <;> exact this
theorem well_bytes (k : Int) (ha : at_ ≤ bs.length) : Well bs at_ (bytesF bs at_ k) := by
  unfold bytesF
  split
  · exact .inl rfl
  · exact well_take _ ha
theorem well_block (most : Nat) (hb : ∀ y ∈ bs, y < 256) (ha : at_ ≤ bs.length) : Well bs at_ (blockF bs at_ most) := by
  have h1 := well_num hb ha
  unfold blockF
  rcases h : numF bs at_ with e | ⟨x, a⟩ <;> rw [h] at h1
  · exact h1
  · simp only
    split
    · have h2 := well_take (bs := bs) x h1.2
      rcases h3 : takeF bs a x with e | ⟨y, a2⟩ <;> rw [h3] at h2
      · exact h2
      · exact ⟨Nat.le_trans h1.1 h2.1, h2.2⟩
    · exact .inr (.inr rfl)
theorem well_blk (most : Int) (hb : ∀ y ∈ bs, y < 256) (ha : at_ ≤ bs.length) : Well bs at_ (blkF bs at_ most) := by
  unfold blkF
  split
  · exact .inl rfl
  · exact well_block _ hb ha
theorem well_rows (each : Nat) (hb : ∀ y ∈ bs, y < 256) : ∀ (k at_ : Nat), at_ ≤ bs.length → Well bs at_ (rowsF bs each k at_)
  | 0, a, ha => ⟨Nat.le_refl _, ha⟩
  | k + 1, a, ha => by
    have h1 := well_block each hb ha
    unfold rowsF
    rcases h : blockF bs a each with e | ⟨x, a1⟩ <;> rw [h] at h1
    · exact h1
    · simp only
      have h2 := well_rows each hb k a1 h1.2
      rcases h3 : rowsF bs each k a1 with e | ⟨y, a2⟩ <;> rw [h3] at h2
      · exact h2
      · exact ⟨Nat.le_trans h1.1 h2.1, h2.2⟩
theorem well_texts (most each : Int) (hb : ∀ y ∈ bs, y < 256) (ha : at_ ≤ bs.length) : Well bs at_ (textsF bs at_ most each) := by
  have h1 := well_num hb ha
  unfold textsF
  split
  · exact .inl rfl
  rcases h : numF bs at_ with e | ⟨x, a⟩ <;> rw [h] at h1
  · exact h1
  · simp only
    split
    · have h2 := well_rows each.toNat hb x a h1.2
      rcases h3 : rowsF bs each.toNat x a with e | ⟨y, a2⟩ <;> rw [h3] at h2
      · exact h2
      · exact ⟨Nat.le_trans h1.1 h2.1, h2.2⟩
    · exact .inr (.inr rfl)
/-- What a reading comes to. -/
theorem redo_well {α : Type} {o : Except Int (α × Nat)} (z : α) (fl : Int) (h : Well bs at_ o) (ha : at_ ≤ bs.length) :
    (fl ≠ 0 ∧ redo o z at_ fl = (z, at_, fl)) ∨ (fl = 0 ∧ ∃ e, Bad e ∧ redo o z at_ fl = (z, at_, e)) ∨ (fl = 0 ∧ ∃ a at', o = .ok (a, at') ∧ redo o z at_ fl = (a, at', 0) ∧ at_ ≤ at' ∧ at' ≤ bs.length) := by
  unfold redo
  by_cases h0 : fl = 0
  · rw [if_pos h0]
    rcases ho : o with e | ⟨a, at'⟩ <;> rw [ho] at h
    · exact .inr (.inl ⟨h0, e, h, rfl⟩)
    · exact .inr (.inr ⟨h0, a, at', rfl, rfl, h.1, h.2⟩)
  · rw [if_neg h0]; exact .inl ⟨h0, rfl⟩
def zeroT : Tld := ⟨0, [], []⟩
theorem unz_0 : unz 0 = 0 := by decide
/-- What a reading tells, and where it leaves the reader. -/
theorem ask_read (hb : ∀ y ∈ bs, y < 256) (ha : at_ ≤ bs.length) (fl N E : Int) (k : Nat) (hk : k < 10) :
    (fl ≠ 0 ∧ askF bs at_ fl N E k = (zeroT, at_, fl)) ∨ (fl = 0 ∧ ∃ e, Bad e ∧ askF bs at_ fl N E k = (zeroT, at_, e)) ∨ (fl = 0 ∧ ∃ t at', askF bs at_ fl N E k = (t, at', 0) ∧ at_ ≤ at' ∧ at' ≤ bs.length) := by
  have num : ∀ o : Except Int (Nat × Nat), Well bs at_ o → (fl ≠ 0 ∧ numT (redo o 0 at_ fl) = (zeroT, at_, fl)) ∨ (fl = 0 ∧ ∃ e, Bad e ∧ numT (redo o 0 at_ fl) = (zeroT, at_, e)) ∨ (fl = 0 ∧ ∃ t at', numT (redo o 0 at_ fl) = (t, at', 0) ∧ at_ ≤ at' ∧ at' ≤ bs.length) := by
    intro o ho
    rcases redo_well (0 : Nat) fl ho ha with ⟨h0, h⟩ | ⟨h0, e, he, h⟩ | ⟨h0, a, at', _, h, h1, h2⟩ <;> rw [h]
    · exact .inl ⟨h0, rfl⟩
    · exact .inr (.inl ⟨h0, e, he, rfl⟩)
    · exact .inr (.inr ⟨h0, _, at', rfl, h1, h2⟩)
  have zg : ∀ o : Except Int (Nat × Nat), Well bs at_ o → (fl ≠ 0 ∧ zagT (redo o 0 at_ fl) = (zeroT, at_, fl)) ∨ (fl = 0 ∧ ∃ e, Bad e ∧ zagT (redo o 0 at_ fl) = (zeroT, at_, e)) ∨ (fl = 0 ∧ ∃ t at', zagT (redo o 0 at_ fl) = (t, at', 0) ∧ at_ ≤ at' ∧ at' ≤ bs.length) := by
    intro o ho
    rcases redo_well (0 : Nat) fl ho ha with ⟨h0, h⟩ | ⟨h0, e, he, h⟩ | ⟨h0, a, at', _, h, h1, h2⟩ <;> rw [h]
    · exact .inl ⟨h0, by unfold zagT zeroT; simp only [Int.natCast_zero, unz_0]; rfl⟩
    · exact .inr (.inl ⟨h0, e, he, by unfold zagT zeroT; simp only [Int.natCast_zero, unz_0]; rfl⟩)
    · exact .inr (.inr ⟨h0, _, at', rfl, h1, h2⟩)
  have byt : ∀ o : Except Int (List Nat × Nat), Well bs at_ o → (fl ≠ 0 ∧ bytT (redo o [] at_ fl) = (zeroT, at_, fl)) ∨ (fl = 0 ∧ ∃ e, Bad e ∧ bytT (redo o [] at_ fl) = (zeroT, at_, e)) ∨ (fl = 0 ∧ ∃ t at', bytT (redo o [] at_ fl) = (t, at', 0) ∧ at_ ≤ at' ∧ at' ≤ bs.length) := by
    intro o ho
    rcases redo_well ([] : List Nat) fl ho ha with ⟨h0, h⟩ | ⟨h0, e, he, h⟩ | ⟨h0, a, at', _, h, h1, h2⟩ <;> rw [h]
    · exact .inl ⟨h0, rfl⟩
    · exact .inr (.inl ⟨h0, e, he, rfl⟩)
    · exact .inr (.inr ⟨h0, _, at', rfl, h1, h2⟩)
  have txt : ∀ o : Except Int (List (List Nat) × Nat), Well bs at_ o → (fl ≠ 0 ∧ txtT (redo o [] at_ fl) = (zeroT, at_, fl)) ∨ (fl = 0 ∧ ∃ e, Bad e ∧ txtT (redo o [] at_ fl) = (zeroT, at_, e)) ∨ (fl = 0 ∧ ∃ t at', txtT (redo o [] at_ fl) = (t, at', 0) ∧ at_ ≤ at' ∧ at' ≤ bs.length) := by
    intro o ho
    rcases redo_well ([] : List (List Nat)) fl ho ha with ⟨h0, h⟩ | ⟨h0, e, he, h⟩ | ⟨h0, a, at', _, h, h1, h2⟩ <;> rw [h]
    · exact .inl ⟨h0, rfl⟩
    · exact .inr (.inl ⟨h0, e, he, rfl⟩)
    · exact .inr (.inr ⟨h0, _, at', rfl, h1, h2⟩)
  match k, hk with
  | 0, _ => exact num _ (well_fix 1 ha)
  | 1, _ => exact num _ (well_fix 2 ha)
  | 2, _ => exact num _ (well_fix 4 ha)
  | 3, _ => exact num _ (well_fix 8 ha)
  | 4, _ => exact num _ (well_fix 2 ha)
  | 5, _ => exact num _ (well_num hb ha)
  | 6, _ => exact zg _ (well_num hb ha)
  | 7, _ => exact byt _ (well_bytes N ha)
  | 8, _ => exact byt _ (well_blk N hb ha)
  | 9, _ => exact txt _ (well_texts N E hb ha)
end Go.Proofs.YtbcmjjcbjojakaaDoor
end
section
namespace Go.Proofs.YtbcmjjcbjojakaaDoor
open Go.RowKit
set_option linter.unusedVariables false
/-! the groups of a number -/
theorem numR_put : ∀ (k i y v0 : Nat) (r : List Nat), i + k = 9 → y < 2 ^ (7 * k + 1) → (i = 0 ∨ y ≠ 0) → numR (uvf k y ++ r) i v0 = .ok (v0 + y * 2 ^ (7 * i), i + (uvf k y).length)
  | 0, i, y, v0, r, hi, hy, h0 => by
    have : y < 2 := by simpa using hy
    simp only [uvf, List.cons_append, List.nil_append, numR, List.length_cons, List.length_nil]
    rw [if_neg (by omega), if_pos (by omega), if_neg (by omega), show y % 128 = y by omega]
  | k + 1, i, y, v0, r, hi, hy, h0 => by
    unfold uvf
    split
    · rename_i h
      simp only [List.cons_append, List.nil_append, numR, List.length_cons, List.length_nil]
      rw [if_neg (by omega), if_pos h, if_neg (by omega), show y % 128 = y by omega]
    · rename_i h
      have hq : y / 128 < 2 ^ (7 * k + 1) := by
        rw [show 7 * (k + 1) + 1 = (7 * k + 1) + 7 by omega, Nat.pow_add] at hy
        exact Nat.div_lt_of_lt_mul (by rw [Nat.mul_comm]; exact hy)
      simp only [List.cons_append, numR]
      rw [if_neg (by omega), if_neg (by omega), numR_put k (i + 1) (y / 128) _ r (by omega) hq (.inr (by omega)), List.length_cons]
      congr 2
      · rw [show 7 * (i + 1) = 7 + 7 * i by omega, Nat.pow_add, show (y % 128 + 128) % 128 = y % 128 by omega]
        have hd : y = y % 128 + y / 128 * 2 ^ 7 := by omega
        generalize 2 ^ (7 * i) = z
        conv => rhs; rw [hd]
        rw [Nat.add_mul, Nat.mul_assoc, Nat.add_assoc]
      · omega
theorem numR_cut : ∀ (k i y v0 j : Nat), i + k = 9 → y < 2 ^ (7 * k + 1) → (i = 0 ∨ y ≠ 0) → j < (uvf k y).length → numR ((uvf k y).take j) i v0 = .error 70
  | 0, i, y, v0, j, hi, hy, h0, hj => by
    have : j = 0 := by simp [uvf] at hj; omega
    subst this; rfl
  | k + 1, i, y, v0, j, hi, hy, h0, hj => by
    unfold uvf at hj ⊢
    split
    · rename_i h
      rw [if_pos h] at hj
      have : j = 0 := by simp at hj; omega
      subst this; rfl
    · rename_i h
      rw [if_neg h] at hj
      rcases j with _ | j
      · rfl
      have hq : y / 128 < 2 ^ (7 * k + 1) := by
        rw [show 7 * (k + 1) + 1 = (7 * k + 1) + 7 by omega, Nat.pow_add] at hy
        exact Nat.div_lt_of_lt_mul (by rw [Nat.mul_comm]; exact hy)
      simp only [List.take_succ_cons, numR]
      rw [if_neg (by omega), if_neg (by omega)]
      exact numR_cut k (i + 1) (y / 128) _ j (by omega) hq (.inr (by omega)) (by simpa using hj)
theorem numR_form : ∀ (l : List Nat) (i v0 x m : Nat), i ≤ 9 → (∀ y ∈ l, y < 256) → numR l i v0 = .ok (x, m) → ∃ y, x = v0 + y * 2 ^ (7 * i) ∧ l.take (m - i) = uvf (9 - i) y ∧ (i = 0 ∨ y ≠ 0) ∧ i < m
  | [], _, _, _, _, _, _, h => by cases h
  | c :: l, i, v0, x, m, hi, hl, h => by
    have hc := hl c (by simp)
    unfold numR at h
    split at h
    · cases h
    rename_i hbad
    split at h
    · rename_i hlt
      split at h
      · cases h
      rename_i h0
      cases h
      refine ⟨c, by rw [show c % 128 = c by omega], ?_, by omega, by omega⟩
      rw [show i + 1 - i = 1 by omega, List.take_succ_cons, List.take_zero]
      rcases Nat.eq_zero_or_pos (9 - i) with h9 | h9
      · rw [h9]; rfl
      · obtain ⟨q, hq⟩ : ∃ q, 9 - i = q + 1 := ⟨9 - i - 1, by omega⟩
        rw [hq]; unfold uvf; rw [if_pos hlt]
    · rename_i hge
      obtain ⟨y, hx, ht, hy, hm⟩ := numR_form l (i + 1) _ x m (by omega) (fun y hy => hl y (by simp [hy])) h
      have hy0 : y ≠ 0 := by omega
      refine ⟨c % 128 + y * 128, ?_, ?_, .inr (by omega), by omega⟩
      · rw [hx, show 7 * (i + 1) = 7 + 7 * i by omega, Nat.pow_add, Nat.add_mul, Nat.mul_assoc, Nat.add_assoc]
      · obtain ⟨q, hq⟩ : ∃ q, 9 - i = q + 1 := ⟨9 - i - 1, by omega⟩
        rw [hq, show m - i = (m - (i + 1)) + 1 by omega, List.take_succ_cons, ht, show 9 - (i + 1) = q by omega]
        conv => rhs; unfold uvf
        rw [if_neg (by omega), show (c % 128 + y * 128) / 128 = y by omega, show (c % 128 + y * 128) % 128 + 128 = c by omega]
/-! a number at a place -/
theorem numF_put (pre r : List Nat) (v : Nat) (hv : v < 2 ^ 64) : numF (pre ++ uv v ++ r) pre.length = .ok (v, pre.length + (uv v).length) := by
  unfold numF
  rw [List.append_assoc, List.drop_left]
  have := numR_put 9 0 v 0 r rfl hv (.inl rfl)
  unfold uv
  rw [this]
  simp
theorem numF_cut (pre : List Nat) (v j : Nat) (hv : v < 2 ^ 64) (hj : j < (uv v).length) : numF (pre ++ (uv v).take j) pre.length = .error 70 := by
  unfold numF
  rw [List.drop_left]
  have := numR_cut 9 0 v 0 j rfl hv (.inl rfl) hj
  unfold uv
  rw [this]
theorem numF_form (bs : List Nat) (at_ x a : Nat) (hb : ∀ y ∈ bs, y < 256) (h : numF bs at_ = .ok (x, a)) : (bs.drop at_).take (a - at_) = uv x ∧ at_ < a := by
  unfold numF at h
  split at h
  · rename_i v m hr
    cases h
    obtain ⟨y, hx, ht, _, hm⟩ := numR_form _ 0 0 _ _ (by omega) (fun y hy => hb y (List.mem_of_mem_drop hy)) hr
    have : x = y := by rw [hx]; simp
    subst this
    rw [show at_ + m - at_ = m - 0 by omega, ht]
    exact ⟨rfl, by omega⟩
  · cases h
/-! bytes -/
theorem takeF_put (pre p r : List Nat) : takeF (pre ++ p ++ r) pre.length p.length = .ok (p, pre.length + p.length) := by
  unfold takeF
  rw [if_pos (by simp), List.append_assoc, List.drop_left, List.take_left]
theorem takeF_cut (pre p : List Nat) (j : Nat) (hj : j < p.length) : takeF (pre ++ p.take j) pre.length p.length = .error 70 := by
  unfold takeF
  rw [if_neg (by simp; omega)]
theorem takeF_form (bs : List Nat) (at_ k a : Nat) (l : List Nat) (h : takeF bs at_ k = .ok (l, a)) : l = (bs.drop at_).take k ∧ a = at_ + k ∧ (k = 0 ∨ at_ + k ≤ bs.length) ∧ l.length = k := by
  unfold takeF at h
  split at h
  · rename_i hk; cases h; exact ⟨rfl, rfl, by omega, by rw [List.length_take, List.length_drop]; omega⟩
  · cases h
/-- Two pieces that follow one another. -/
theorem cut_two (bs : List Nat) (a b c : Nat) (h1 : a ≤ b) (h2 : b ≤ c) : (bs.drop a).take (c - a) = (bs.drop a).take (b - a) ++ (bs.drop b).take (c - b) := by
  have e : c - a = (b - a) + (c - b) := by omega
  rw [e, List.take_add, List.drop_drop, show a + (b - a) = b by omega]
theorem fx_cons (k c r : Nat) (hc : c < 256) : fx (k + 1) (c + 256 * r) = c :: fx k r := by
  unfold fx
  rw [List.range_succ_eq_map, List.map_cons, List.map_map]
  congr 1
  · simp; omega
  · refine List.map_congr_left fun i _ => ?_
    simp only [Function.comp]
    rw [show 8 * (i + 1) = 8 + 8 * i by omega, Nat.pow_add, ← Nat.div_div_eq_div_mul, show (c + 256 * r) / 2 ^ 8 = r by omega]
theorem fx_le256 : ∀ (l : List Nat), (∀ x ∈ l, x < 256) → fx l.length (le256 l) = l
  | [], _ => rfl
  | c :: l, h => by
    rw [List.length_cons, le256, fx_cons _ _ _ (h c (by simp)), fx_le256 l fun x hx => h x (by simp [hx])]
theorem fx_zero (k : Nat) : le256 (fx k 0) = 0 := by
  induction k with
  | zero => rfl
  | succ k ih =>
    have := fx_cons k 0 0 (by omega)
    simp only [Nat.zero_add, Nat.mul_zero] at this
    rw [this, le256, ih]
theorem le256_fx : ∀ (k v : Nat), le256 (fx k v) = v % 256 ^ k
  | 0, v => by simp [fx, le256, Nat.mod_one]
  | k + 1, v => by
    have h := fx_cons k (v % 256) (v / 256) (by omega)
    rw [show v % 256 + 256 * (v / 256) = v by omega] at h
    rw [h, le256, le256_fx k, Nat.pow_succ, Nat.mul_comm (256 ^ k) 256, Nat.mod_mul]
theorem fixF_put (pre r : List Nat) (k v : Nat) (hv : v < 256 ^ k) : fixF (pre ++ fx k v ++ r) pre.length k = .ok (v, pre.length + (fx k v).length) := by
  unfold fixF
  have := takeF_put pre (fx k v) r
  rw [fx_len] at this
  rw [this]
  simp only
  rw [le256_fx, Nat.mod_eq_of_lt hv, fx_len]
theorem fixF_cut (pre : List Nat) (k v j : Nat) (hj : j < k) : fixF (pre ++ (fx k v).take j) pre.length k = .error 70 := by
  unfold fixF
  have := takeF_cut pre (fx k v) j (by rw [fx_len]; exact hj)
  rw [fx_len] at this
  rw [this]
theorem fixF_form (bs : List Nat) (at_ k x a : Nat) (hb : ∀ y ∈ bs, y < 256) (h : fixF bs at_ k = .ok (x, a)) : (bs.drop at_).take (a - at_) = fx k x ∧ at_ ≤ a := by
  unfold fixF at h
  split at h
  · rename_i l a' ht
    cases h
    obtain ⟨hl, ha, _, hk⟩ := takeF_form _ _ _ _ _ ht
    have := fx_le256 l fun y hy => hb y (by rw [hl] at hy; exact List.mem_of_mem_drop (List.mem_of_mem_take hy))
    rw [hk] at this
    rw [this, ha, show at_ + k - at_ = k by omega, hl]
    exact ⟨rfl, by omega⟩
  · cases h
/-! blocks -/
def blk (p : List Nat) : List Nat := uv p.length ++ p
theorem blockF_put (pre r p : List Nat) (most : Nat) (hp : p.length ≤ most) (h64 : p.length < 2 ^ 64) : blockF (pre ++ blk p ++ r) pre.length most = .ok (p, pre.length + (blk p).length) := by
  unfold blockF blk
  have h1 := numF_put pre (p ++ r) p.length h64
  rw [show pre ++ (uv p.length ++ p) ++ r = pre ++ uv p.length ++ (p ++ r) by simp, h1]
  simp only
  rw [if_pos hp]
  have h2 := takeF_put (pre ++ uv p.length) p r
  rw [show pre ++ uv p.length ++ (p ++ r) = pre ++ uv p.length ++ p ++ r by simp]
  rw [List.length_append] at h2
  rw [h2, List.length_append, Nat.add_assoc]
theorem blockF_cut (pre p : List Nat) (most j : Nat) (hp : p.length ≤ most) (h64 : p.length < 2 ^ 64) (hj : j < (blk p).length) : blockF (pre ++ (blk p).take j) pre.length most = .error 70 := by
  unfold blk at hj ⊢
  rw [List.length_append] at hj
  unfold blockF
  rcases Nat.lt_or_ge j (uv p.length).length with h | h
  · rw [List.take_append_of_le_length (by omega), numF_cut pre p.length j h64 h]
  · rw [List.take_append, List.take_of_length_le h]
    have h1 := numF_put pre (p.take (j - (uv p.length).length)) p.length h64
    rw [List.append_assoc] at h1
    rw [h1]
    simp only
    rw [if_pos hp]
    have h2 := takeF_cut (pre ++ uv p.length) p (j - (uv p.length).length) (by omega)
    rw [List.length_append, List.append_assoc] at h2
    exact h2
theorem blockF_form (bs : List Nat) (at_ most a : Nat) (l : List Nat) (hb : ∀ y ∈ bs, y < 256) (h : blockF bs at_ most = .ok (l, a)) : (bs.drop at_).take (a - at_) = blk l ∧ at_ ≤ a := by
  unfold blockF at h
  split at h
  · rename_i k a1 hn
    split at h
    · obtain ⟨h1, h2⟩ := numF_form bs at_ k a1 hb hn
      obtain ⟨hl, ha, _, hk⟩ := takeF_form _ _ _ _ _ h
      refine ⟨?_, by omega⟩
      rw [cut_two bs at_ a1 a (by omega) (by omega), h1, show a - a1 = k by omega, ← hl]
      unfold blk
      rw [hk]
    · cases h
  · cases h
/-! texts -/
def rws (ts : List (List Nat)) : List Nat := ts.flatMap blk
theorem rws_cons (t : List Nat) (ts : List (List Nat)) : rws (t :: ts) = blk t ++ rws ts := rfl
theorem rowsF_put (each : Nat) : ∀ (ts : List (List Nat)) (pre r : List Nat), (∀ t ∈ ts, t.length ≤ each ∧ t.length < 2 ^ 64) → rowsF (pre ++ rws ts ++ r) each ts.length pre.length = .ok (ts, pre.length + (rws ts).length)
  | [], pre, r, _ => by simp [rowsF, rws]
  | t :: ts, pre, r, h => by
    have ht := h t (by simp)
    have h1 := blockF_put pre (rws ts ++ r) t each ht.1 ht.2
    have h2 := rowsF_put each ts (pre ++ blk t) r fun x hx => h x (by simp [hx])
    rw [rws_cons, List.length_cons]
    unfold rowsF
    rw [show pre ++ (blk t ++ rws ts) ++ r = pre ++ blk t ++ (rws ts ++ r) by simp, h1]
    simp only
    rw [show pre ++ blk t ++ (rws ts ++ r) = pre ++ blk t ++ rws ts ++ r by simp]
    rw [List.length_append] at h2
    rw [h2]
    simp only [List.length_append, Nat.add_assoc]
theorem rowsF_cut (each : Nat) : ∀ (ts : List (List Nat)) (pre : List Nat) (j : Nat), (∀ t ∈ ts, t.length ≤ each ∧ t.length < 2 ^ 64) → j < (rws ts).length → rowsF (pre ++ (rws ts).take j) each ts.length pre.length = .error 70
  | [], pre, j, _, hj => by simp [rws] at hj
  | t :: ts, pre, j, h, hj => by
    have ht := h t (by simp)
    rw [rws_cons, List.length_append] at hj
    rw [rws_cons, List.length_cons]
    unfold rowsF
    rcases Nat.lt_or_ge j (blk t).length with hlt | hge
    · rw [List.take_append_of_le_length (by omega), blockF_cut pre t each j ht.1 ht.2 hlt]
    · have h1 := blockF_put pre ((rws ts).take (j - (blk t).length)) t each ht.1 ht.2
      have h2 := rowsF_cut each ts (pre ++ blk t) (j - (blk t).length) (fun x hx => h x (by simp [hx])) (by omega)
      rw [List.take_append, List.take_of_length_le hge]
      rw [List.append_assoc] at h1
      rw [h1]
      simp only
      rw [List.length_append, List.append_assoc] at h2
      rw [h2]
theorem rowsF_form (bs : List Nat) (each : Nat) (hb : ∀ y ∈ bs, y < 256) : ∀ (k at_ a : Nat) (l : List (List Nat)), rowsF bs each k at_ = .ok (l, a) → (bs.drop at_).take (a - at_) = rws l ∧ at_ ≤ a ∧ l.length = k
  | 0, at_, a, l, h => by cases h; simp [rws]
  | k + 1, at_, a, l, h => by
    unfold rowsF at h
    split at h
    · cases h
    rename_i b a1 hb1
    split at h
    · cases h
    rename_i l2 a2 hr
    cases h
    obtain ⟨h1, h2⟩ := blockF_form bs at_ each a1 b hb hb1
    obtain ⟨h3, h4, h5⟩ := rowsF_form bs each hb k a1 a l2 hr
    refine ⟨?_, by omega, by simp [h5]⟩
    rw [cut_two bs at_ a1 a h2 h4, h1, h3, rws_cons]
def txts (ts : List (List Nat)) : List Nat := uv ts.length ++ rws ts
theorem textsF_put (pre r : List Nat) (ts : List (List Nat)) (most each : Int) (h0 : ts.length ≤ most.toNat) (hm : 0 ≤ most) (he : 0 ≤ each) (h : ∀ t ∈ ts, t.length ≤ each.toNat ∧ t.length < 2 ^ 64) (h64 : ts.length < 2 ^ 64) :
    textsF (pre ++ txts ts ++ r) pre.length most each = .ok (ts, pre.length + (txts ts).length) := by
  unfold textsF txts
  rw [if_neg (by omega)]
  have h1 := numF_put pre (rws ts ++ r) ts.length h64
  rw [show pre ++ (uv ts.length ++ rws ts) ++ r = pre ++ uv ts.length ++ (rws ts ++ r) by simp, h1]
  simp only
  rw [if_pos h0]
  have h2 := rowsF_put each.toNat ts (pre ++ uv ts.length) r h
  rw [show pre ++ uv ts.length ++ (rws ts ++ r) = pre ++ uv ts.length ++ rws ts ++ r by simp]
  rw [List.length_append] at h2
  rw [h2, List.length_append, Nat.add_assoc]
theorem textsF_cut (pre : List Nat) (ts : List (List Nat)) (most each : Int) (j : Nat) (h0 : ts.length ≤ most.toNat) (hm : 0 ≤ most) (he : 0 ≤ each) (h : ∀ t ∈ ts, t.length ≤ each.toNat ∧ t.length < 2 ^ 64) (h64 : ts.length < 2 ^ 64) (hj : j < (txts ts).length) :
    textsF (pre ++ (txts ts).take j) pre.length most each = .error 70 := by
  unfold txts at hj ⊢
  rw [List.length_append] at hj
  unfold textsF
  rw [if_neg (by omega)]
  rcases Nat.lt_or_ge j (uv ts.length).length with hlt | hge
  · rw [List.take_append_of_le_length (by omega), numF_cut pre ts.length j h64 hlt]
  · rw [List.take_append, List.take_of_length_le hge]
    have h1 := numF_put pre ((rws ts).take (j - (uv ts.length).length)) ts.length h64
    rw [List.append_assoc] at h1
    rw [h1]
    simp only
    rw [if_pos h0]
    have h2 := rowsF_cut each.toNat ts (pre ++ uv ts.length) (j - (uv ts.length).length) h (by omega)
    rw [List.length_append, List.append_assoc] at h2
    exact h2
theorem textsF_form (bs : List Nat) (at_ : Nat) (most each : Int) (a : Nat) (l : List (List Nat)) (hb : ∀ y ∈ bs, y < 256) (h : textsF bs at_ most each = .ok (l, a)) : (bs.drop at_).take (a - at_) = txts l ∧ at_ ≤ a := by
  unfold textsF at h
  split at h
  · cases h
  split at h
  · cases h
  rename_i k a1 hn
  split at h
  · obtain ⟨h1, h2⟩ := numF_form bs at_ k a1 hb hn
    obtain ⟨h3, h4, h5⟩ := rowsF_form bs each.toNat hb k a1 a l h
    refine ⟨?_, by omega⟩
    rw [cut_two bs at_ a1 a (by omega) h4, h1, h3]
    unfold txts
    rw [h5]
  · cases h
end Go.Proofs.YtbcmjjcbjojakaaDoor
end
section
namespace Go.Proofs.YtbcmjjcbjojakaaDoor
open Go.RowKit
set_option linter.unusedVariables false
/-! The steps of a reading: where it stands, and the fault. -/
def rFix (bs : List Nat) (k : Nat) (s : Nat × Int) : Nat × Nat × Int := redo (fixF bs s.1 k) 0 s.1 s.2
def rNum (bs : List Nat) (s : Nat × Int) : Nat × Nat × Int := redo (numF bs s.1) 0 s.1 s.2
def rBlk (bs : List Nat) (most : Int) (s : Nat × Int) : List Nat × Nat × Int := redo (blkF bs s.1 most) [] s.1 s.2
def rTxt (bs : List Nat) (most each : Int) (s : Nat × Int) : List (List Nat) × Nat × Int := redo (textsF bs s.1 most each) [] s.1 s.2
/-- A step that is made or not. -/
def opt {α : Type} (b : Bool) (z : α) (f : Nat × Int → α × Nat × Int) (s : Nat × Int) : α × Nat × Int := if b = true then f s else (z, s)
/-- The request that a content says. -/
def rdRq (bs : List Nat) : Option Rq :=
  let r1 := rFix bs 1 (0, 0)
  let r2 := rFix bs 8 r1.2
  let k : Int := (r1.1 : Int)
  let r3 := opt (cKey k) [] (rBlk bs 1024) r2.2
  let r4 := opt (cBody k) [] (rBlk bs 1048576) r3.2
  let r5 := opt (cAfter k) [] (rBlk bs 1024) r4.2
  let r6 := opt (cOff k) 0 (rNum bs) r5.2
  let r7 := opt (cDelim k) 0 (rNum bs) r6.2
  let r8 := opt (cNum k) 0 (rNum bs) r7.2
  if 1 ≤ k ∧ k ≤ 8 ∧ endF bs.length r8.2.1 r8.2.2 = 0 then some ⟨k, r2.1, bstr r3.1, bstr r5.1, unz (r6.1 : Int), unz (r8.1 : Int), unz (r7.1 : Int), r4.1⟩ else none
def qBody (k c : Int) : Bool := decide (c = 0 ∧ (k = 2 ∨ k = 3))
def qGen (k c : Int) : Bool := decide (c = 0 ∧ k = 4)
def qKeys (k c : Int) : Bool := decide (c = 0 ∧ (k = 6 ∨ k = 7))
def qPage (k c : Int) : Bool := decide (c = 0 ∧ k = 7)
def qMost (k : Int) : Int := if k = 6 then 65536 else 1000
/-- The answer that a content says. -/
def rdAn (bs : List Nat) : Option An :=
  let r1 := rFix bs 1 (0, 0)
  let r2 := rFix bs 8 r1.2
  let r3 := rNum bs r2.2
  let k : Int := (r1.1 : Int)
  let c : Int := (r3.1 : Int)
  let h1 := opt (decide (k = 8)) 0 (rNum bs) r3.2
  let h2 := opt (decide (k = 8)) 0 (rNum bs) h1.2
  let h3 := opt (decide (k = 8)) 0 (rNum bs) h2.2
  let h4 := opt (decide (k = 8)) 0 (rNum bs) h3.2
  let b := opt (qBody k c) [] (rBlk bs 1048576) h4.2
  let g1 := opt (qGen k c) 0 (rNum bs) b.2
  let g2 := opt (qGen k c) 0 (rNum bs) g1.2
  let g3 := opt (qGen k c) 0 (rNum bs) g2.2
  let ks := opt (qKeys k c) [] (rTxt bs (qMost k) 255) g3.2
  let gs := opt (qPage k c) [] (rTxt bs 1000 255) ks.2
  let nx := opt (qPage k c) [] (rBlk bs 255) gs.2
  let mo := opt (qPage k c) 0 (rFix bs 1) nx.2
  if 1 ≤ k ∧ k ≤ 8 ∧ c ≤ 2147483647 ∧ mo.1 ≤ 1 ∧ endF bs.length mo.2.1 mo.2.2 = 0 then
    some ⟨k, r2.1, c, b.1, ks.1.map bstr, gs.1.map bstr, bstr nx.1, decide (mo.1 = 1), unz (g1.1 : Int), unz (g2.1 : Int), unz (g3.1 : Int), unz (h1.1 : Int), unz (h2.1 : Int), unz (h3.1 : Int), unz (h4.1 : Int)⟩
  else none
theorem sb_bstr (l : List Nat) (h : ∀ x ∈ l, x < 256) : sb (bstr l) = l := by
  unfold sb
  rw [bstr_data, List.map_map]
  conv => rhs; rw [← List.map_id l]
  exact List.map_congr_left fun x hx => by have := h x hx; simp [Function.comp]; omega
theorem bstr_sb (s : ByteArray) : bstr (sb s) = s := by
  have h : (bstr (sb s)).data.toList = s.data.toList := by
    rw [bstr_data]; unfold sb; rw [List.map_map]
    conv => rhs; rw [← List.map_id s.data.toList]
    exact List.map_congr_left fun x _ => by simp [Function.comp]
  have h2 := Array.toList_inj.1 h
  obtain ⟨t, ht⟩ : ∃ t, bstr (sb s) = t := ⟨_, rfl⟩
  rw [ht] at h2 ⊢
  cases s
  cases t
  simp only at h2
  rw [h2]
theorem bstr_nil : bstr [] = emS := rfl
theorem bstr_size (l : List Nat) : (bstr l).size = l.length := by
  rw [← sb_len]; unfold sb; rw [bstr_data, List.length_map, List.length_map]
theorem us_bstr (l : List Nat) (h : ∀ x ∈ l, x < 256) : us (bstr l) = blk l := by unfold us blk; rw [sb_bstr l h, bstr_size]
theorem us_blk (s : ByteArray) : us s = blk (sb s) := by unfold us blk; rw [sb_len]
/-! What is put is read. -/
section
variable (pre r : List Nat)
theorem rFix_put (k v : Nat) (hv : v < 256 ^ k) : rFix (pre ++ fx k v ++ r) k (pre.length, 0) = (v, (pre ++ fx k v).length, 0) := by
  unfold rFix redo; simp only; rw [fixF_put pre r k v hv, List.length_append]; rfl
theorem rNum_put (v : Nat) (hv : v < 2 ^ 64) : rNum (pre ++ uv v ++ r) (pre.length, 0) = (v, (pre ++ uv v).length, 0) := by
  unfold rNum redo; simp only; rw [numF_put pre r v hv, List.length_append]; rfl
theorem rBlk_put (p : List Nat) (most : Nat) (hp : p.length ≤ most) (h64 : p.length < 2 ^ 64) : rBlk (pre ++ blk p ++ r) (most : Int) (pre.length, 0) = (p, (pre ++ blk p).length, 0) := by
  have e : blkF (pre ++ blk p ++ r) pre.length (most : Int) = blockF (pre ++ blk p ++ r) pre.length most := by unfold blkF; rw [if_neg (by omega), Int.toNat_natCast]
  unfold rBlk redo; simp only; rw [e, blockF_put pre r p most hp h64, List.length_append]; rfl
theorem rTxt_put (ts : List (List Nat)) (most : Int) (h0 : ts.length ≤ most.toNat) (hm : 0 ≤ most) (h : ∀ t ∈ ts, t.length ≤ 255) (h64 : ts.length < 2 ^ 64) : rTxt (pre ++ txts ts ++ r) most 255 (pre.length, 0) = (ts, (pre ++ txts ts).length, 0) := by
  unfold rTxt redo; simp only
  rw [textsF_put pre r ts most 255 h0 hm (by omega) (fun t ht => ⟨h t ht, by have := h t ht; omega⟩) h64, List.length_append]; rfl
end
theorem uz_put (pre r : List Nat) (v : Int) (h1 : -9223372036854775808 ≤ v) (h2 : v ≤ 9223372036854775807) : rNum (pre ++ uz v ++ r) (pre.length, 0) = ((zig v).toNat, (pre ++ uz v).length, 0) := rNum_put pre r _ (zig_nat v h1 h2).2
theorem unz_put (v : Int) (h1 : -9223372036854775808 ≤ v) (h2 : v ≤ 9223372036854775807) : unz (((zig v).toNat : Nat) : Int) = v := by rw [← (zig_nat v h1 h2).1, unz_zig]
theorem endF_0 (n : Nat) : endF n n 0 = 0 := by unfold endF; simp
/-- A reading stands ahead of 'rest'. -/
def At (bs : List Nat) (s : Nat × Int) (rest : List Nat) : Prop := ∃ pre, bs = pre ++ rest ∧ s = (pre.length, 0)
section
variable {bs r : List Nat} {s : Nat × Int}
theorem At.fix {k v : Nat} (h : At bs s (fx k v ++ r)) (hv : v < 256 ^ k) : ∃ s', rFix bs k s = (v, s') ∧ At bs s' r := by
  obtain ⟨pre, hb, rfl⟩ := h
  rw [← List.append_assoc] at hb
  exact ⟨_, by rw [hb]; exact rFix_put pre r k v hv, pre ++ fx k v, hb, rfl⟩
theorem At.num {v : Nat} (h : At bs s (uv v ++ r)) (hv : v < 2 ^ 64) : ∃ s', rNum bs s = (v, s') ∧ At bs s' r := by
  obtain ⟨pre, hb, rfl⟩ := h
  rw [← List.append_assoc] at hb
  exact ⟨_, by rw [hb]; exact rNum_put pre r v hv, pre ++ uv v, hb, rfl⟩
theorem At.blk {p : List Nat} {most : Nat} (h : At bs s (blk p ++ r)) (hp : p.length ≤ most) (h64 : p.length < 2 ^ 64) : ∃ s', rBlk bs (most : Int) s = (p, s') ∧ At bs s' r := by
  obtain ⟨pre, hb, rfl⟩ := h
  rw [← List.append_assoc] at hb
  exact ⟨_, by rw [hb]; exact rBlk_put pre r p most hp h64, pre ++ Go.Proofs.YtbcmjjcbjojakaaDoor.blk p, hb, rfl⟩
theorem At.txt {ts : List (List Nat)} {most : Int} (h : At bs s (txts ts ++ r)) (h0 : ts.length ≤ most.toNat) (hm : 0 ≤ most) (h1 : ∀ t ∈ ts, t.length ≤ 255) (h64 : ts.length < 2 ^ 64) : ∃ s', rTxt bs most 255 s = (ts, s') ∧ At bs s' r := by
  obtain ⟨pre, hb, rfl⟩ := h
  rw [← List.append_assoc] at hb
  exact ⟨_, by rw [hb]; exact rTxt_put pre r ts most h0 hm h1 h64, pre ++ txts ts, hb, rfl⟩
theorem At.opt {α : Type} {b : Bool} {z v : α} {f : Nat × Int → α × Nat × Int} {enc : List Nat} (h : At bs s ((if b = true then enc else []) ++ r)) (hf : b = true → At bs s (enc ++ r) → ∃ s', f s = (v, s') ∧ At bs s' r) : ∃ s', opt b z f s = (if b = true then v else z, s') ∧ At bs s' r := by
  unfold Go.Proofs.YtbcmjjcbjojakaaDoor.opt
  cases b
  · exact ⟨s, by simp, by simpa using h⟩
  · simp only [if_true] at h ⊢; exact hf rfl h
end
theorem At.z {bs r : List Nat} {s : Nat × Int} {v : Int} (h : At bs s (uz v ++ r)) (h1 : -9223372036854775808 ≤ v) (h2 : v ≤ 9223372036854775807) : ∃ s', rNum bs s = ((zig v).toNat, s') ∧ At bs s' r := At.num h (zig_nat v h1 h2).2
theorem rqC_flat (R : Rq) : rqC R = fx 1 R.kind.toNat ++ (fx 8 R.tag ++ ((if cKey R.kind = true then blk (sb R.key) else []) ++ ((if cBody R.kind = true then blk R.body else []) ++ ((if cAfter R.kind = true then blk (sb R.after) else []) ++ ((if cOff R.kind = true then uz R.off else []) ++ ((if cDelim R.kind = true then uz R.delim else []) ++ (if cNum R.kind = true then uz R.num else []))))))) := by
  unfold rqC
  simp only [List.append_assoc, us_blk]
  rfl
/-- A request's content is read as it was. -/
theorem rdRq_put (R : Rq) (hok : rqOk R) (hfit : rqFit R) (hb : RqB R) : rdRq (rqC R) = some R := by
  obtain ⟨bs, hbs⟩ : ∃ bs, rqC R = bs := ⟨_, rfl⟩
  have hk : ((R.kind.toNat : Nat) : Int) = R.kind := by have := hok.1; omega
  obtain ⟨k1, k8, d1, d2, d3, d4, d5, d6⟩ := hok
  obtain ⟨f1, f2, f3⟩ := hfit
  have h0 : At bs (0, 0) (rqC R) := ⟨[], by rw [hbs]; rfl, rfl⟩
  rw [rqC_flat] at h0
  rw [hbs]
  obtain ⟨s1, e1, h1⟩ := h0.fix (k := 1) (by omega)
  obtain ⟨s2, e2, h2⟩ := h1.fix (k := 8) (by have := hb.tag; omega)
  obtain ⟨s3, e3, h3⟩ := h2.opt (z := []) (f := rBlk bs 1024) fun _ h => h.blk (most := 1024) (by rw [sb_len]; exact f1) (by rw [sb_len]; omega)
  obtain ⟨s4, e4, h4⟩ := h3.opt (z := []) (f := rBlk bs 1048576) fun _ h => h.blk (most := 1048576) f3 (by omega)
  obtain ⟨s5, e5, h5⟩ := h4.opt (z := []) (f := rBlk bs 1024) fun _ h => h.blk (most := 1024) (by rw [sb_len]; exact f2) (by rw [sb_len]; omega)
  obtain ⟨s6, e6, h6⟩ := h5.opt (z := 0) (f := rNum bs) fun _ h => h.z hb.o1 hb.o2
  obtain ⟨s7, e7, h7⟩ := h6.opt (z := 0) (f := rNum bs) fun _ h => h.z hb.d1 hb.d2
  rw [← List.append_nil (if cNum R.kind = true then uz R.num else [])] at h7
  obtain ⟨s8, e8, h8⟩ := h7.opt (z := 0) (f := rNum bs) fun _ h => h.z hb.n1 hb.n2
  obtain ⟨pre, hp, rfl⟩ := h8
  rw [List.append_nil] at hp
  subst hp
  unfold rdRq
  simp only [e1, e2, hk, e3, e4, e5, e6, e7, e8]
  rw [if_pos ⟨k1, k8, endF_0 _⟩]
  have z0 : unz ((0 : Nat) : Int) = 0 := by decide
  have m1 : bstr (if cKey R.kind = true then sb R.key else []) = R.key := by
    split
    · exact bstr_sb _
    · rename_i h; rw [bstr_nil, d1 (by simpa using h)]
  have m2 : bstr (if cAfter R.kind = true then sb R.after else []) = R.after := by
    split
    · exact bstr_sb _
    · rename_i h; rw [bstr_nil, d3 (by simpa using h)]
  have m3 : unz (((if cOff R.kind = true then (zig R.off).toNat else 0 : Nat) : Nat) : Int) = R.off := by
    split
    · exact unz_put R.off hb.o1 hb.o2
    · rename_i h; rw [d4 (by simpa using h)]; exact z0
  have m4 : unz (((if cDelim R.kind = true then (zig R.delim).toNat else 0 : Nat) : Nat) : Int) = R.delim := by
    split
    · exact unz_put R.delim hb.d1 hb.d2
    · rename_i h; rw [d6 (by simpa using h)]; exact z0
  have m5 : unz (((if cNum R.kind = true then (zig R.num).toNat else 0 : Nat) : Nat) : Int) = R.num := by
    split
    · exact unz_put R.num hb.n1 hb.n2
    · rename_i h; rw [d5 (by simpa using h)]; exact z0
  have m6 : (if cBody R.kind = true then R.body else []) = R.body := by
    split
    · rfl
    · rename_i h; rw [d2 (by simpa using h)]
  rw [m1, m2, m3, m4, m5, m6]
end Go.Proofs.YtbcmjjcbjojakaaDoor
end
