/- Put together of: AskdA TriP ArgRq ArgAn Weigh ArgTurn. -/
import Derived.Test.YtbcmjjcbjojakaaPk15
import Derived.Test.YtbcmjjcbjojakaaAskdW
import Derived.Test.YtbcmjjcbjojakaaAskdR
import Derived.Test.YtbcmjjcbjojakaaAskdS
import Derived.Test.YtbcmjjcbjojakaaAskd0
import Derived.Deep.MidRow
import Derived.Test.YtbcmjjcbjojakaaPk5
import Derived.Test.YtbcmjjcbjojakaaPk1
import Derived.Test.YtbcmjjcbjojakaaPk6
import Derived.Test.YtbcmjjcbjojakaaPk3
import Derived.SliceStrings
import Derived.Deep.Slices
import Derived.Test.YtbcmjjcbjojakaaProg
import Derived.KernelRfl
section
namespace Go.Proofs.Ytbcmjjcbjojakaa
open Go.RowKit
set_option linter.unusedVariables false
/-- What any call comes to. -/
def AskAny {T : Type} (Z : Kd T) (base : Nat) (w : World) (g : Nat) (X : List Nat) (Hs : Nat → Prop) (st : List Nat) (n : Nat) (e : Ending) (w' : World) : Prop :=
 ∃ (V' : Array Value) (fl' : Int) (st' X' : List Nat), e = .returned (.tuple #[.agg V', .bool true]) ∧ Chg X w w' ∧ PairAt Z base w' g X' (fun k => Hs k ∨ w.heap.size ≤ k) V' fl' st' ∧ (∀ x ∈ X', x ∈ X ∨ w.heap.size ≤ x) ∧ st'.length ≤ st.length + n
theorem AsDone.any {T : Type} {Z : Kd T} {base : Nat} {w w' : World} {g : Nat} {vl vc vq : Value} {ws : List Wm} {vs vm : Value} {st : List Nat} {wm : List Wm} {n k : Nat} {Hs : Nat → Prop} {e : Ending} (hH : ∀ k, PrH ws vs vm wm k → Hs k) (hk : k ≤ n) (h : AsDone Z base w g vl vc vq ws vs vm st wm k e w') : AskAny Z base w g (rdX g vl vc vq) Hs st n e w' := by
 obtain ⟨vl', vc', vq', L', m', C', fl', ws', xs', vs', vm', st', wm', xm', hd', he, hP, hC, hX, hH', hl⟩ := h
 exact ⟨_, fl', st', rdX g vl' vc' vq', he, hC, ⟨vl', vc', vq', L', m', C', ws', xs', vs', vm', wm', xm', hd', hP, rfl, fun k hk => (hH' k hk).imp (hH k) id, rfl⟩, hX, by omega⟩
/-- What is wanted of the calls of Request and Answer. -/
def Law12 {T : Type} (Z : Kd T) : Prop := ∀ (d : Int), d = 1 ∨ d = 2 → ∀ (base : Nat) (w : World) (g : Nat) (vl vc vq : Value) (L : List Nat) (m : Mid) (C : Nat) (fl : Int) (ws : List Wm) (xs : List T) (vs vm : Value) (st : List Nat) (wm : List Wm) (xm : List T) (hd : Nat), PrS Z base w g vl vc vq L m C fl ws xs vs vm st wm xm hd → st.length ≤ 67108864 → ∀ (who : Int) (A : Option Addr) (n c : Nat),
  Calls Try.prog 28 #[.pointer (some ⟨g, 0, none⟩), .agg (thC Z.ans vs hd vm fl ((go Z.rd mid0 st).held : Int)), .agg #[.int .i64 who, .int .i64 d, .slice A n c]] w (AsDone Z base w g vl vc vq ws vs vm st wm 0)
theorem PrS.spent {T : Type} {Z : Kd T} {base : Nat} {w : World} {g : Nat} {vl vc vq : Value} {L : List Nat} {m : Mid} {C : Nat} {fl : Int} {ws : List Wm} {xs : List T} {vs vm : Value} {st : List Nat} {wm : List Wm} {xm : List T} {hd : Nat} (h : PrS Z base w g vl vc vq L m C fl ws xs vs vm st wm xm hd) (hlt : ¬ hd < xm.length) :
  (∃ Aq cq, vq = .slice Aq 0 cq) ∧ ∃ A3 c3, vm = .slice A3 wm.length c3 ∧ wm.length ≤ hd := by
 have hx : xs = [] := by rw [h.ex]; exact List.drop_eq_nil_of_le (by omega)
 have hl := h.rd.is.len
 rw [hx] at hl
 have hws : ws = [] := List.length_eq_zero_iff.1 hl
 obtain ⟨Aq, cq, hq, _⟩ := h.rd.qu.form
 rw [hws] at hq
 obtain ⟨A3, c3, h3, _⟩ := h.md.th.qu.form
 have hm := h.md.th.is.len
 exact ⟨⟨Aq, cq, hq⟩, A3, c3, h3, by omega⟩
theorem law12_ask : Law12 askK := by
 intro d h12 base w g vl vc vq L m C fl ws xs vs vm st wm xm hd h hst who A n c
 rcases h12 with rfl | rfl
 ·by_cases hlt : hd < xm.length
  ·exact asked_req_some base w g vl vc vq L m C fl ws xs vs vm st wm xm hd h hst who A n c hlt
  ·obtain ⟨⟨Aq, cq, hq⟩, A3, c3, h3, hn⟩ := h.spent hlt
   have d8 := h.rd.at_ 8 (v := vq) rfl
   exact asked_req_none askK base w g vl vc vq L m C fl ws xs vs vm st wm xm hd h hst who A n c Aq cq (d8.trans (by rw [hq])) A3 _ c3 h3 hn
 ·exact asked_ans_none askK base w g vl vc vq L m C fl ws xs vs vm st wm xm hd h hst who A n c none 0 (h.rd.at_ 9 rfl) none 0 0 rfl (Nat.zero_le _)
theorem law12_tel : Law12 telK := by
 intro d h12 base w g vl vc vq L m C fl ws xs vs vm st wm xm hd h hst who A n c
 rcases h12 with rfl | rfl
 ·exact asked_req_none telK base w g vl vc vq L m C fl ws xs vs vm st wm xm hd h hst who A n c none 0 (h.rd.at_ 8 rfl) none 0 0 rfl (Nat.zero_le _)
 ·by_cases hlt : hd < xm.length
  ·exact asked_ans_some base w g vl vc vq L m C fl ws xs vs vm st wm xm hd h hst who A n c hlt
  ·obtain ⟨⟨Aq, cq, hq⟩, A3, c3, h3, hn⟩ := h.spent hlt
   have d9 := h.rd.at_ 9 (v := vq) rfl
   exact asked_ans_none telK base w g vl vc vq L m C fl ws xs vs vm st wm xm hd h hst who A n c Aq cq (d9.trans (by rw [hq])) A3 _ c3 h3 hn
/-- What is wanted of a kind. -/
structure PairLaw {T : Type} (Z : Kd T) : Prop where
 t : ThruLaw Z
 m : MsgLaw Z
 q : Law12 Z
theorem asked_any {T : Type} {Z : Kd T} (HL : PairLaw Z) {base : Nat} {w : World} {g : Nat} {X : List Nat} {Hs : Nat → Prop} {V : Array Value} {fl : Int} {st : List Nat} (h : PairAt Z base w g X Hs V fl st) (who d : Int) (A : Option Addr) (n c : Nat) (bs : List Nat) (hr : Rd w base A n (cb bs)) (hb : ∀ x ∈ bs, x < 256) (hnc : n ≤ c) (hst : st.length + n ≤ 67108864) :
  Calls Try.prog 28 #[.pointer (some ⟨g, 0, none⟩), .agg V, .agg #[.int .i64 who, .int .i64 d, .slice A n c]] w (AskAny Z base w g X Hs st n) := by
 obtain ⟨vl, vc, vq, L, m, C, ws, xs, vs, vm, wm, xm, hd, h1, h2, h3, h4⟩ := h
 subst h2 h4
 have hs : st.length ≤ 67108864 := by omega
 by_cases d0 : d = 0
 ·subst d0
  exact (asked_push Z HL.t HL.m base w g vl vc vq L m C fl ws xs vs vm st wm xm hd h1 who A n c bs hr hb hnc hst).mono fun e w' k => k.any h3 (Nat.le_refl _)
 by_cases d12 : d = 1 ∨ d = 2
 ·exact (HL.q d d12 base w g vl vc vq L m C fl ws xs vs vm st wm xm hd h1 hs who A n c).mono fun e w' k => k.any h3 (Nat.zero_le _)
 by_cases d3 : d = 3
 ·subst d3
  exact (asked_held Z base w g vl vc vq L m C fl ws xs vs vm st wm xm hd h1 hs who A n c).mono fun e w' k => k.any h3 (Nat.zero_le _)
 by_cases d4 : d = 4
 ·subst d4
  exact (asked_fault Z base w g vl vc vq L m C fl ws xs vs vm st wm xm hd h1 hs who A n c).mono fun e w' k => k.any h3 (Nat.zero_le _)
 exact (asked_else Z base w g vl vc vq L m C fl ws xs vs vm st wm xm hd h1 hs who A n c d (by omega)).mono fun e w' k => k.any h3 (Nat.zero_le _)
end Go.Proofs.Ytbcmjjcbjojakaa
end
section
namespace Go.Proofs.Ytbcmjjcbjojakaa
open Go.RowKit
set_option linter.unusedVariables false
theorem size_setR (g : Nat) : ∀ (vs : List Value) (o : Nat) (w : World), (w.setCells g o vs).heap.size = w.heap.size
 | [], _, _ => rfl
 | v :: vs, o, w => by rw [World.setCells, size_setR g vs (o + 1)]; simp
theorem chg_setCells (g : Nat) : ∀ (vs : List Value) (o : Nat) (w0 w : World), Chg [g] w0 w → Chg [g] w0 (w.setCells g o vs)
 | [], _, _, _, h => h
 | v :: vs, o, w0, w, h => by rw [World.setCells]; exact chg_setCells g vs (o + 1) w0 _ (h.setCell (by simp) v)
section
variable {T : Type} {Z : Kd T} {base base' : Nat} {w w' : World} {g : Nat} {Y : List Nat}
theorem range_chg {o : Nat} {cs : List Value} (h : w.rangeAt g o cs) (hg : g < w.heap.size) (b : Chg Y w w') (hY : g ∉ Y) : w'.rangeAt g o cs := fun j v hv => (b.cell (p := ⟨g, o + j, none⟩) hg hY).trans (h j v hv)
theorem there_chg {o n : Nat} (h : w.there g o n) (hg : g < w.heap.size) (b : Chg Y w w') (hY : g ∉ Y) : w'.there g o n := fun j hj => by
 have h1 := h j hj
 refine ⟨by rw [b.cell (p := ⟨g, o + j, none⟩) hg hY]; exact h1.1, ?_⟩
 rw [World.frozen?_of_block (a := ⟨g, o + j, none⟩) (b.block g hg hY)]; exact h1.2
theorem RdS.low {vl vc vq : Value} {L c : List Nat} {S C k p : Nat} {fl : Int} {ws : List Wm} {xs : List T} (h : RdS Z base w g vl vc vq L c S C k p fl ws xs) (hb : base' ≤ base) : RdS Z base' w g vl vc vq L c S C k p fl ws xs :=
 { h with lo := own_base h.lo hb, co := own_base h.co hb, qu := h.qu.lower hb, bg := Nat.le_trans hb h.bg, ok := fun W hW => (h.ok W hW).lower hb }
/-- A pair at its beginning. -/
theorem PairAt.start (Hs : Nat → Prop) {C : Nat} (h : RdS Z base w g (.slice none 0 0) (.slice none 0 0) (.slice none 0 0) [] mid0.c mid0.s C mid0.k mid0.p 0 [] []) : PairAt Z base w g [g] Hs (thC Z.ans (.slice none 0 0) 0 (.slice none 0 0) 0 0) 0 [] := by
 have hg : go Z.rd mid0 [] = ⟨[], 0, mid0, []⟩ := go_wait (ck_short (by simp))
 refine ⟨_, _, _, [], mid0, C, [], [], .slice none 0 0, .slice none 0 0, [], [], 0, ⟨h, ⟨ThS.nil Z base w, by rw [hg]⟩, by rw [hg], rfl, Nat.le_refl _, fun _ => ⟨by rw [hg], by rw [hg], MidOk.zero⟩, fun _ => rfl, fun k hk => ?_⟩, rfl, fun k hk => ?_, by rw [hg]; rfl⟩
 ·rcases hk with hk | hk | ⟨W, hW, _⟩
  ·cases hk
  ·cases hk
  ·cases hW
 ·rcases hk with hk | ⟨W, hW, _⟩
  ·rcases hk with hk | hk | ⟨W, hW, _⟩
   ·cases hk
   ·cases hk
   ·cases hW
  ·cases hW
end
/-- Pair number j: the second is one of answers. -/
def PairJ (j : Nat) (base : Nat) (w : World) (g : Nat) (X : List Nat) (Hs : Nat → Prop) (V : Array Value) (fl : Int) (st : List Nat) : Prop :=
 (j = 1 → PairAt telK base w g X Hs V fl st) ∧ (j ≠ 1 → PairAt askK base w g X Hs V fl st)
section
variable {j base : Nat} {w w' w1 : World} {g : Nat} {X Y : List Nat} {Hs Hs' : Nat → Prop} {V : Array Value} {fl : Int} {st : List Nat}
theorem PairJ.keep (h : PairJ j base w g X Hs V fl st) (b : Chg Y w w1) (hX : ∀ x ∈ X, x ∉ Y) (hH : ∀ k, Hs k → k ∉ Y) : PairJ j base w1 g X Hs V fl st := ⟨fun e => (h.1 e).keep b hX hH, fun e => (h.2 e).keep b hX hH⟩
theorem PairJ.new (h : PairJ j base w g X Hs V fl st) (b : Chg [] w w1) : PairJ j base w1 g X Hs V fl st := ⟨fun e => (h.1 e).new b, fun e => (h.2 e).new b⟩
theorem PairJ.more (h : PairJ j base w g X Hs V fl st) (hH : ∀ k, k < w.heap.size → Hs k → Hs' k) : PairJ j base w g X Hs' V fl st := ⟨fun e => (h.1 e).more hH, fun e => (h.2 e).more hH⟩
theorem PairJ.lt (h : PairJ j base w g X Hs V fl st) {x : Nat} (hx : x ∈ X) : base ≤ x ∧ x < w.heap.size := by
 by_cases e : j = 1
 ·exact (h.1 e).lt hx
 ·exact (h.2 e).lt hx
theorem PairJ.vals (h : PairJ j base w g X Hs V fl st) : V.size = 7 ∧ V.all (·.oneCell') = true := by
 by_cases e : j = 1
 ·exact ⟨(h.1 e).vals.1, (h.1 e).vals.2.1⟩
 ·exact ⟨(h.2 e).vals.1, (h.2 e).vals.2.1⟩
def AskJ (j base : Nat) (w : World) (g : Nat) (X : List Nat) (Hs : Nat → Prop) (st : List Nat) (n : Nat) (e : Ending) (w' : World) : Prop :=
 ∃ (V' : Array Value) (fl' : Int) (st' X' : List Nat), e = .returned (.tuple #[.agg V', .bool true]) ∧ Chg X w w' ∧ PairJ j base w' g X' (fun k => Hs k ∨ w.heap.size ≤ k) V' fl' st' ∧ (∀ x ∈ X', x ∈ X ∨ w.heap.size ≤ x) ∧ st'.length ≤ st.length + n
theorem PairJ.call (HA : PairLaw askK) (HT : PairLaw telK) (h : PairJ j base w g X Hs V fl st) (who d : Int) (A : Option Addr) (n c : Nat) (bs : List Nat) (hr : Rd w base A n (cb bs)) (hb : ∀ x ∈ bs, x < 256) (hnc : n ≤ c) (hst : st.length + n ≤ 67108864) :
  Calls Try.prog 28 #[.pointer (some ⟨g, 0, none⟩), .agg V, .agg #[.int .i64 who, .int .i64 d, .slice A n c]] w (AskJ j base w g X Hs st n) := by
 by_cases e : j = 1
 ·refine (asked_any HT (h.1 e) who d A n c bs hr hb hnc hst).mono fun e1 w' ⟨V', fl', st', X', he, hc, hp, hx, hl⟩ => ⟨V', fl', st', X', he, hc, ⟨fun _ => hp, fun k => absurd e k⟩, hx, hl⟩
 ·refine (asked_any HA (h.2 e) who d A n c bs hr hb hnc hst).mono fun e1 w' ⟨V', fl', st', X', he, hc, hp, hx, hl⟩ => ⟨V', fl', st', X', he, hc, ⟨fun k => absurd k e, fun _ => hp⟩, hx, hl⟩
end
/-- Three pairs beside one another; col says whose a block is. -/
structure Tri (w0 w : World) (gR gM tot : Nat) (g : Nat → Nat) (col : Nat → Nat) (X : Nat → List Nat) (V : Nat → Array Value) (fl : Nat → Int) (st : Nat → List Nat) : Prop where
 p : ∀ j, j < 3 → PairJ j w0.heap.size w (g j) (X j) (fun k => col k = j) (V j) (fl j) (st j)
 c : ∀ j, j < 3 → ∀ x ∈ X j, col x = j
 s : ∀ j, j < 3 → (st j).length ≤ tot
 cR : col gR = 3
 cM : col gM = 3
 ne : gR ≠ gM
 lR : gR < w.heap.size
 lM : gM < w.heap.size
 bM : w0.heap.size ≤ gM
 hR : ∀ j, j < 3 → w.cell? ⟨gR, j, none⟩ = some (.pointer (some ⟨g j, 0, none⟩))
 hN : w.cell? ⟨gR, 3, none⟩ = some (.pointer none)
 th : ∀ j, j < 3 → w.there gM (j * 7) 7
 r : ∀ j, j < 3 → w.rangeAt gM (j * 7) (V j).toList
 ch : Chg [] w0 w
def Inv (w0 w : World) (gR gM tot : Nat) : Prop := ∃ g col X V fl st, Tri w0 w gR gM tot g col X V fl st
section
variable {w0 w w' : World} {gR gM tot : Nat} {g : Nat → Nat} {col : Nat → Nat} {X : Nat → List Nat} {V : Nat → Array Value} {fl : Nat → Int} {st : Nat → List Nat}
theorem Tri.new (h : Tri w0 w gR gM tot g col X V fl st) (b : Chg [] w w') : Tri w0 w' gR gM tot g col X V fl st where
 p := fun j hj => (h.p j hj).new b
 c := h.c
 s := h.s
 cR := h.cR
 cM := h.cM
 ne := h.ne
 lR := Nat.lt_of_lt_of_le h.lR b.size
 lM := Nat.lt_of_lt_of_le h.lM b.size
 bM := h.bM
 hR := fun j hj => (b.cell (p := ⟨gR, j, none⟩) h.lR List.not_mem_nil).trans (h.hR j hj)
 hN := (b.cell (p := ⟨gR, 3, none⟩) h.lR List.not_mem_nil).trans h.hN
 th := fun j hj => there_chg (h.th j hj) h.lM b List.not_mem_nil
 r := fun j hj => range_chg (h.r j hj) h.lM b List.not_mem_nil
 ch := h.ch.trans b
theorem Inv.new (h : Inv w0 w gR gM tot) (b : Chg [] w w') : Inv w0 w' gR gM tot := by
 obtain ⟨g, col, X, V, fl, st, h⟩ := h
 exact ⟨g, col, X, V, fl, st, h.new b⟩
theorem Inv.le {tot' : Nat} (h : Inv w0 w gR gM tot) (hl : tot ≤ tot') : Inv w0 w gR gM tot' := by
 obtain ⟨g, col, X, V, fl, st, h⟩ := h
 exact ⟨g, col, X, V, fl, st, { h with s := fun j hj => Nat.le_trans (h.s j hj) hl }⟩
/-- New blocks belong to none of them. -/
theorem Tri.col3 (h : Tri w0 w gR gM tot g col X V fl st) (b : Chg [] w w') : Tri w0 w' gR gM tot g (fun k => if k < w.heap.size then col k else 3) X V fl st :=
 { h.new b with
  p := fun j hj => ((h.p j hj).more fun k hk h1 => by rw [if_pos hk]; exact h1).new b
  c := fun j hj x hx => by rw [if_pos ((h.p j hj).lt hx).2]; exact h.c j hj x hx
  cR := by rw [if_pos h.lR]; exact h.cR
  cM := by rw [if_pos h.lM]; exact h.cM }
/-- What a call of one of them comes to: the answer is put back into its place, then all stands. -/
def TriDone (w0 w : World) (gR gM tot n j : Nat) (col : Nat → Nat) (XJ : List Nat) (e : Ending) (w' : World) : Prop :=
 ∃ V' : Array Value, e = .returned (.tuple #[.agg V', .bool true]) ∧ V'.size = 7 ∧ V'.all (·.oneCell') = true ∧ Chg XJ w w' ∧
  ∀ Y w1, Chg Y w' w1 → (∀ y ∈ Y, col y = 3 ∧ y < w.heap.size ∧ y ≠ gR ∧ y ≠ gM ∧ w0.heap.size ≤ y) → w1.there gM (j * 7) 7 ∧ Inv w0 (w1.setCells gM (j * 7) V'.toList) gR gM (tot + n)
theorem Tri.call (HA : PairLaw askK) (HT : PairLaw telK) (h : Tri w0 w gR gM tot g col X V fl st) {j : Nat} (hj : j < 3) (who d : Int) (A : Option Addr) (n c : Nat) (bs : List Nat) (hr : Rd w w0.heap.size A n (cb bs)) (hb : ∀ x ∈ bs, x < 256) (hnc : n ≤ c) (hst : tot + n ≤ 67108864) :
  Calls Try.prog 28 #[.pointer (some ⟨g j, 0, none⟩), .agg (V j), .agg #[.int .i64 who, .int .i64 d, .slice A n c]] w (TriDone w0 w gR gM tot n j col (X j)) := by
 refine ((h.p j hj).call HA HT who d A n c bs hr hb hnc (by have := h.s j hj; omega)).mono ?_
 rintro e w' ⟨V', fl', st', X', rfl, hc, hp, hX, hl⟩
 have hv := hp.vals
 refine ⟨V', rfl, hv.1, hv.2, hc, fun Y w1 b1 hY => ?_⟩
 have hYM : gM ∉ Y := fun hm => (hY gM hm).2.2.2.1 rfl
 have hYR : gR ∉ Y := fun hm => (hY gR hm).2.2.1 rfl
 have hMX : gM ∉ X j := fun hm => by have := h.c j hj gM hm; have := h.cM; omega
 have hRX : gR ∉ X j := fun hm => by have := h.c j hj gR hm; have := h.cR; omega
 have hth : ∀ i, i < 3 → w1.there gM (i * 7) 7 := fun i hi => there_chg (there_chg (h.th i hi) h.lM hc hMX) (Nat.lt_of_lt_of_le h.lM hc.size) b1 hYM
 refine ⟨hth j hj, ?_⟩
 have hs1 := hc.size
 have hs2 := b1.size
 have bs' : Chg [gM] w1 (w1.setCells gM (j * 7) V'.toList) := chg_setCells gM _ _ _ _ (Chg.refl _ _)
 have hvl : V'.toList.length = 7 := by rw [Array.length_toList]; exact hv.1
 have hcol : ∀ k, k < w.heap.size → (if k < w.heap.size then col k else j) = col k := fun k hk => if_pos hk
 refine ⟨g, fun k => if k < w.heap.size then col k else j, fun i => if i = j then X' else X i, fun i => if i = j then V' else V i, fun i => if i = j then fl' else fl i, fun i => if i = j then st' else st i, ?_, ?_, ?_, ?_, ?_, h.ne, ?_, ?_, h.bM, ?_, ?_, ?_, ?_, ?_⟩
 ·intro i hi
  by_cases e : i = j
  ·subst e
   simp only [if_true]
   refine ((hp.keep b1 (fun x hx hm => by (have h1 := hY x hm; rcases hX x hx with h2 | h2; have h3 := h.c i hi x h2; omega; omega)) (fun k hk hm => by (have h1 := hY k hm; rcases hk with h2 | h2 <;> omega))).more (Hs' := fun k => (if k < w.heap.size then col k else i) = i) fun k _ hk => ?_).keep bs' (fun x hx hm => ?_) fun k hk hm => ?_
   ·by_cases hs : k < w.heap.size
    ·rw [if_pos hs]; exact hk.elim id fun h2 => by omega
    ·rw [if_neg hs]
   ·rw [List.mem_singleton.1 hm] at hx
    rcases hX gM hx with h1 | h1
    ·exact hMX h1
    ·have := h.lM; omega
   ·rw [List.mem_singleton.1 hm] at hk
    rw [if_pos h.lM, h.cM] at hk; omega
  ·simp only [if_neg e]
   refine (((((h.p i hi).more (Hs' := fun k => (if k < w.heap.size then col k else j) = i) fun k hk h1 => by rw [if_pos hk]; exact h1).keep hc (fun x hx hm => ?_) fun k hk hm => ?_).keep b1 (fun x hx hm => ?_) fun k hk hm => ?_).keep bs' (fun x hx hm => ?_) fun k hk hm => ?_)
   ·have h1 := h.c i hi x hx; have h2 := h.c j hj x hm; omega
   ·have h2 := h.c j hj k hm
    rw [if_pos ((h.p j hj).lt hm).2] at hk; omega
   ·have h1 := h.c i hi x hx; have h2 := hY x hm; omega
   ·have h2 := hY k hm
    rw [if_pos h2.2.1] at hk; omega
   ·rw [List.mem_singleton.1 hm] at hx
    have h1 := h.c i hi gM hx; have := h.cM; omega
   ·rw [List.mem_singleton.1 hm] at hk
    rw [if_pos h.lM, h.cM] at hk; omega
 ·intro i hi x hx
  by_cases e : i = j
  ·subst e
   simp only [if_true] at hx
   by_cases hs : x < w.heap.size
   ·rw [if_pos hs]
    exact (hX x hx).elim (h.c i hi x) fun h2 => by omega
   ·rw [if_neg hs]
  ·simp only [if_neg e] at hx
   rw [if_pos ((h.p i hi).lt hx).2]; exact h.c i hi x hx
 ·intro i hi
  by_cases e : i = j
  ·subst e
   simp only [if_true]
   have := h.s i hi; omega
  ·simp only [if_neg e]
   have := h.s i hi; omega
 ·simp only [if_pos h.lR]; exact h.cR
 ·simp only [if_pos h.lM]; exact h.cM
 ·rw [size_setR]; have := h.lR; omega
 ·rw [size_setR]; have := h.lM; omega
 ·intro i hi
  refine (bs'.cell (p := ⟨gR, i, none⟩) (by have := h.lR; show gR < _; omega) (by simp; exact h.ne)).trans ((b1.cell (p := ⟨gR, i, none⟩) (by have := h.lR; show gR < _; omega) hYR).trans ((hc.cell (p := ⟨gR, i, none⟩) h.lR hRX).trans (h.hR i hi)))
 ·refine (bs'.cell (p := ⟨gR, 3, none⟩) (by have := h.lR; show gR < _; omega) (by simp; exact h.ne)).trans ((b1.cell (p := ⟨gR, 3, none⟩) (by have := h.lR; show gR < _; omega) hYR).trans ((hc.cell (p := ⟨gR, 3, none⟩) h.lR hRX).trans h.hN))
 ·intro i hi
  exact World.there_setCells (hth i hi) _ _ _
 ·intro i hi
  by_cases e : i = j
  ·subst e
   simp only [if_true]
   exact World.rangeAt_setCells_same _ _ _ _ (by rw [hvl]; exact hth i hi)
  ·simp only [if_neg e]
   refine World.rangeAt_setCells_apart (range_chg (range_chg (h.r i hi) h.lM hc hMX) (Nat.lt_of_lt_of_le h.lM hc.size) b1 hYM) _ _ _ (.inr ?_)
   have := (h.p i hi).vals.1
   rw [Array.length_toList, hvl]; omega
 ·have k1 : Chg [] w0 w' := h.ch.newer hc fun y hy => .inr ((h.p j hj).lt hy).1
  exact (k1.newer b1 fun y hy => .inr (hY y hy).2.2.2.2).newer bs' fun y hy => .inr (by rw [List.mem_singleton.1 hy]; exact h.bM)
/-- Three readers at their beginning. -/
def zR (b : Bool) : List Value := [.bool b, .slice none 0 0, .int .i64 0, .slice none 0 0, .slice none 0 0, .int .i64 0, .int .i64 0]
theorem Tri.start {g0 g1 g2 : Nat} {C0 C1 C2 : Nat} (h0 : RdS askK w0.heap.size w g0 (.slice none 0 0) (.slice none 0 0) (.slice none 0 0) [] mid0.c mid0.s C0 mid0.k mid0.p 0 [] []) (h1 : RdS telK w0.heap.size w g1 (.slice none 0 0) (.slice none 0 0) (.slice none 0 0) [] mid0.c mid0.s C1 mid0.k mid0.p 0 [] [])
  (h2 : RdS askK w0.heap.size w g2 (.slice none 0 0) (.slice none 0 0) (.slice none 0 0) [] mid0.c mid0.s C2 mid0.k mid0.p 0 [] []) (d01 : g0 ≠ g1) (d02 : g0 ≠ g2) (d12 : g1 ≠ g2) (dR : gR ≠ g0 ∧ gR ≠ g1 ∧ gR ≠ g2) (dM : gM ≠ g0 ∧ gM ≠ g1 ∧ gM ≠ g2) (dRM : gR ≠ gM) {t t2 : TypeId}
  (hR : w.heap[gR]? = some (.cells #[.pointer (some ⟨g0, 0, none⟩), .pointer (some ⟨g1, 0, none⟩), .pointer (some ⟨g2, 0, none⟩), .pointer none] t (0, 0))) (hM : w.heap[gM]? = some (.cells (zR false ++ (zR true ++ zR false)).toArray t2 (0, 0))) (hb : w0.heap.size ≤ gM) (ch : Chg [] w0 w) : Inv w0 w gR gM 0 := by
 refine ⟨fun j => if j = 0 then g0 else if j = 1 then g1 else g2, fun k => if k = g0 then 0 else if k = g1 then 1 else if k = g2 then 2 else 3, fun j => [if j = 0 then g0 else if j = 1 then g1 else g2], fun j => if j = 1 then (zR true).toArray else (zR false).toArray, fun _ => 0, fun _ => [], ?_, ?_, ?_, ?_, ?_, dRM, (Array.getElem?_eq_some_iff.1 hR).1, (Array.getElem?_eq_some_iff.1 hM).1, hb, ?_, ?_, ?_, ?_, ch⟩
 ·intro j hj
  have hh : j = 0 ∨ j = 1 ∨ j = 2 := by omega
  rcases hh with rfl | rfl | rfl
  ·exact ⟨fun e => absurd e (by decide), fun _ => PairAt.start _ h0⟩
  ·exact ⟨fun _ => PairAt.start _ h1, fun e => absurd rfl e⟩
  ·exact ⟨fun e => absurd e (by decide), fun _ => PairAt.start _ h2⟩
 ·intro j hj x hx
  have hh : j = 0 ∨ j = 1 ∨ j = 2 := by omega
  rw [List.mem_singleton.1 hx]
  rcases hh with rfl | rfl | rfl
  ·simp
  ·simp [d01.symm]
  ·simp [d02.symm, d12.symm]
 ·intro j hj; exact Nat.zero_le _
 ·simp [dR.1, dR.2.1, dR.2.2]
 ·simp [dM.1, dM.2.1, dM.2.2]
 ·intro j hj
  rw [cell_of_row w gR j _ _ (0, 0) hR]
  have hh : j = 0 ∨ j = 1 ∨ j = 2 := by omega
  rcases hh with rfl | rfl | rfl <;> rfl
 ·rw [cell_of_row w gR 3 _ _ (0, 0) hR]; rfl
 ·intro j hj i hi
  refine ⟨?_, by simp [World.frozen?, hM]⟩
  rw [cell_of_row w gM (j * 7 + i) _ _ (0, 0) hM]
  exact Option.isSome_iff_exists.2 ⟨_, Array.getElem?_eq_getElem (by simp [zR]; omega)⟩
 ·intro j hj i v hv
  rw [cell_of_row w gM (j * 7 + i) _ _ (0, 0) hM]
  have hh : j = 0 ∨ j = 1 ∨ j = 2 := by omega
  have hi : i < 7 := by
   have := (List.getElem?_eq_some_iff.1 hv).1
   rcases hh with rfl | rfl | rfl <;> simpa [zR] using this
  rw [← hv]
  have hk : i = 0 ∨ i = 1 ∨ i = 2 ∨ i = 3 ∨ i = 4 ∨ i = 5 ∨ i = 6 := by omega
  rcases hh with rfl | rfl | rfl <;> rcases hk with rfl | rfl | rfl | rfl | rfl | rfl | rfl <;> rfl
/-- Behind a call: its answer lies in a box. -/
structure TPost (w0 wx : World) (g7 gR gM gm j tot : Nat) (TC V' : Array Value) : Prop where
 b : wx.heap[gm]? = some (.cells V' 65 (0, 0))
 s : V'.size = 7
 o : V'.all (·.oneCell') = true
 t : wx.heap[g7]? = some (.cells TC 68 (0, 0))
 th : wx.there gM (j * 7) 7
 inv : Inv w0 (wx.setCells gM (j * 7) V'.toList) gR gM tot
theorem take_sum {α : Type} (f : α → Nat) : ∀ (l : List α) (i : Nat) (x : α), l[i]? = some x → ((l.take (i + 1)).map f).sum = ((l.take i).map f).sum + f x
 | [], i, x, h => by simp at h
 | y :: l, 0, x, h => by simp at h; subst h; simp
 | y :: l, i + 1, x, h => by
  have := take_sum f l i x (by simpa using h)
  simp only [List.take_succ_cons, List.map_cons, List.sum_cons] at this ⊢
  omega
theorem take_le {α : Type} (f : α → Nat) : ∀ (l : List α) (i : Nat), ((l.take i).map f).sum ≤ (l.map f).sum
 | [], i => by simp
 | y :: l, 0 => by simp
 | y :: l, i + 1 => by
  have := take_le f l i
  simp only [List.take_succ_cons, List.map_cons, List.sum_cons]
  omega
end
end Go.Proofs.Ytbcmjjcbjojakaa
end
section
namespace Go.Proofs.Ytbcmjjcbjojakaa
open Go.ChangeShapes Go.WideShapes Go.ChangeAt Go.RowKit
set_option linter.unusedVariables false
section
variable {H : Type} {enc : TypeId × Value → H} {w : World} {base : Nat} {held : Bool}
theorem part_of {P : Program} {t : TypeId} {fuel : Nat} {cs cs2 : List Value} {xs : List (DataW H × List MemPlace)} {i : Nat} {y : DataW H × List MemPlace} (h : DataW.trod enc P w base (fun _ => true) held fuel t cs = xs[i]?) (e : cs = cs2) (hy : xs[i]? = some y) :
  DataW.trod enc P w base (fun _ => true) held fuel t cs2 = some y := by rw [← e, h, hy]
theorem fld {P : Program} {m : Nat} {cs : List Value} {fs : Array Field} {xs : List (DataW H × List MemPlace)} (hf : ∀ (i : Nat) (f : Field), fs[i]? = some f → DataW.trod enc P w base (fun _ => true) held m f.type ((cs.drop f.offset).take (P.cellsOf f.type)) = xs[i]?) (i t o : Nat) {f : Field} (h : fs[i]? = some f) (ht : f.type = t) (ho : f.offset = o) :
  DataW.trod enc P w base (fun _ => true) held m t ((cs.drop o).take (P.cellsOf t)) = xs[i]? := by subst ht ho; exact hf i f h
theorem open_num {fuel : Nat} {v : Value} {k : IntKind} {t : TypeId} {x : DataW H × List MemPlace} (ht : Try.prog.underlying t = some (.int k)) (h : DataW.trod enc Try.prog w base (fun _ => true) held fuel t [v] = some x) : ∃ z : Int, v = .int k z ∧ (Lit.int k z).wf = true := by
 obtain ⟨z, e, _, hw⟩ := DataW.trod_int ht h
 exact ⟨z, (List.cons.inj e).1, hw⟩
theorem get_some {α : Type} (l : List α) (n i : Nat) (h : l.length = n) (hi : i < n) : ∃ y, l[i]? = some y := ⟨_, List.getElem?_eq_getElem (by omega)⟩
theorem cells_u8 : Try.prog.cellsOf 5 = 1 := by kernel_rfl
theorem cells_int : Try.prog.cellsOf 3 = 1 := by kernel_rfl
theorem cells_bytes : Try.prog.cellsOf 26 = 1 := by kernel_rfl
/-- A slice of bytes that came in. -/
theorem open_bytes {fuel : Nat} {v : Value} {x : DataW H × List MemPlace} (h : DataW.trod enc Try.prog w base (fun _ => true) held fuel 26 [v] = some x) (hw : ∀ m ∈ x.1.weights Try.prog 26, m ≤ 140737488351232) :
  ∃ (A : Option Addr) (n c : Nat) (bs : List Nat), v = .slice A n c ∧ Rd w w.heap.size A n (cb bs) ∧ (∀ y ∈ bs, y < 256) ∧ n ≤ 140737488351232 := by
 rcases open_ints Try.underlying26 Try.underlying5 cells_u8 h with ⟨hcs, _⟩ | ⟨x3, l, c, zs, hcs, _, hl', hm, hz, hx, hcell, hwz⟩
 ·obtain rfl := (List.cons.inj hcs).1
  exact ⟨none, 0, 0, [], rfl, Rd.nil, (fun y hy => absurd hy List.not_mem_nil), by omega⟩
 ·obtain rfl := (List.cons.inj hcs).1
  have hrow : IsRow .u8 w (some x3) l c zs := .inr ⟨_, rfl, hl', hm, by simpa using hz, hcell, hwz⟩
  obtain ⟨bs, hr, hb, hbl, hlc⟩ := hrow.bytes
  refine ⟨some x3, l, c, bs.take l, rfl, by rw [show cb (bs.take l) = (cb bs).take l by unfold cb; rw [List.map_take]]; exact hr.take hlc, fun y hy => hb y (List.mem_of_mem_take hy), ?_⟩
  have h8 := hw (c * 1) (by
   rw [hx]
   simp only [DataW.weights, Try.underlying26, List.mem_cons]
   left
   rw [show Try.prog.bytesOf 5 = 1 by kernel_rfl]
   have : zs.length = c := by simpa using hz
   have e : (lits (H := H) .u8 (zs.take l)).length + (lits (H := H) .u8 (zs.drop l)).length = c := by simp only [lits, List.length_map, List.length_take, List.length_drop]; omega
   rw [e])
  omega
end
end Go.Proofs.Ytbcmjjcbjojakaa
end
section
namespace Go.Proofs.Ytbcmjjcbjojakaa
open Go.ChangeShapes Go.WideShapes Go.ChangeAt Go.RowKit
set_option linter.unusedVariables false
instance : Inhabited Rq := ⟨⟨0, 0, emS, emS, 0, 0, 0, []⟩⟩
instance : Inhabited An := ⟨⟨0, 0, 0, [], [], [], emS, false, 0, 0, 0, 0, 0, 0, 0⟩⟩
def J64 (x : Int) : Prop := -9223372036854775808 ≤ x ∧ x ≤ 9223372036854775807
theorem wfj {z : Int} (h : (Lit.int .i64 z).wf = true) : J64 z := by unfold J64; simpa [Lit.wf, IntKind.min, IntKind.max, IntKind.signed, IntKind.bits] using h
/-- The cells of a request that came in. -/
def RqA (w : World) (B : Nat) (cells : List Value) (R : Rq) : Prop :=
 ∃ A n c, cells = [.int .i64 R.kind, .int .u64 (R.tag : Int), .string R.key, .string R.after, .int .i64 R.off, .int .i64 R.num, .int .i64 R.delim, .slice A n c] ∧ Rd w B A n (cb R.body) ∧ n ≤ c ∧ RqB R ∧ J64 R.kind ∧ R.key.size ≤ 140737488351232 ∧ R.after.size ≤ 140737488351232 ∧ n ≤ 140737488351232
/-- The cells of an answer that came in. -/
def AnA (w : World) (B : Nat) (cells : List Value) (a : An) : Prop :=
 ∃ A n c A2 n2 c2 A3 n3 c3, cells = [.int .i64 a.kind, .int .u64 (a.tag : Int), .int .i64 a.code, .slice A n c, .slice A2 n2 c2, .slice A3 n3 c3, .string a.next, .bool a.more, .int .i64 a.ge, .int .i64 a.gc, .int .i64 a.size, .int .i64 a.h1, .int .i64 a.h2, .int .i64 a.h3, .int .i64 a.h4] ∧
  Rd w B A n (cb a.body) ∧ Rd w B A2 n2 (cs a.keys) ∧ Rd w B A3 n3 (cs a.groups) ∧ n ≤ c ∧ n ≤ 140737488351232 ∧ n2 ≤ c2 ∧ n2 ≤ 8796093022000 ∧ n3 ≤ c3 ∧ n3 ≤ 8796093022000 ∧ AnB a ∧ J64 a.kind ∧ J64 a.code ∧ a.next.size ≤ 140737488351232 ∧ (∀ t ∈ a.keys, t.size ≤ 140737488351232) ∧ ∀ t ∈ a.groups, t.size ≤ 140737488351232
/-- A list of messages that came in. -/
def Lst {M : Type} (Q : World → Nat → List Value → M → Prop) (w : World) (B size : Nat) (A : Option Addr) (n : Nat) (ms : List M) : Prop :=
 ms.length = n ∧ ∀ (i : Nat) (x : M), ms[i]? = some x → ∃ g off cells, A = some ⟨g, off, none⟩ ∧ g < B ∧ w.rangeAt g (off + i * size) cells ∧ cells.length = size ∧ Q w B cells x
theorem Lst.at_ {M : Type} {Q : World → Nat → List Value → M → Prop} {w w' : World} {B size n i : Nat} {A : Option Addr} {ms : List M} {x : M} (h : Lst Q w B size A n ms) (hQ : ∀ l x, Q w B l x → Q w' B l x) (b : Below B w w') (hx : ms[i]? = some x) :
  ∃ g off cells, A = some ⟨g, off, none⟩ ∧ g < B ∧ w'.rangeAt g (off + i * size) cells ∧ cells.length = size ∧ Q w' B cells x := by
 obtain ⟨g, off, l, e, hg, hr, hl, hq⟩ := h.2 i x hx
 exact ⟨g, off, l, e, hg, fun j v hv => (b.cell (p := ⟨g, _, none⟩) hg).trans (hr j v hv), hl, hQ l x hq⟩
theorem mem_allW {H : Type} {P : Program} {e : TypeId} : ∀ (l : List (DataW H)) (d : DataW H), d ∈ l → ∀ m ∈ d.weights P e, m ∈ DataW.weightsAll P e l
 | [], d, h, m, hm => by cases h
 | y :: r, d, h, m, hm => by
  rw [DataW.weightsAll, List.mem_append]
  rcases List.mem_cons.1 h with rfl | h
  ·exact .inl hm
  ·exact .inr (mem_allW r d h m hm)
section
variable {H : Type} {enc : TypeId × Value → H} {w : World} {base : Nat} {held : Bool}
theorem open_bytes2 {fuel : Nat} {v : Value} {x : DataW H × List MemPlace} (h : DataW.trod enc Try.prog w base (fun _ => true) held fuel 26 [v] = some x) (hw : ∀ m ∈ x.1.weights Try.prog 26, m ≤ 140737488351232) :
  ∃ (A : Option Addr) (n c : Nat) (bs : List Nat), v = .slice A n c ∧ Rd w w.heap.size A n (cb bs) ∧ (∀ y ∈ bs, y < 256) ∧ n ≤ c ∧ n ≤ 140737488351232 := by
 obtain ⟨A, n, c, bs, e, h1, h2, h3⟩ := open_bytes h hw
 refine ⟨A, n, c, bs, e, h1, h2, ?_, h3⟩
 rcases open_ints Try.underlying26 Try.underlying5 cells_u8 h with ⟨hcs, _⟩ | ⟨x3, l, c', zs, hcs, _, hl', _⟩
 ·rw [e] at hcs
  have := (List.cons.inj hcs).1
  injection this with _ e1 e2; omega
 ·rw [e] at hcs
  have := (List.cons.inj hcs).1
  injection this with _ e1 e2; omega
end
end Go.Proofs.Ytbcmjjcbjojakaa
end
section
namespace Go.Proofs.Ytbcmjjcbjojakaa
open Go.ChangeShapes Go.WideShapes Go.ChangeAt Go.RowKit
set_option linter.unusedVariables false
/-- From a type of the table only types of the table are reached, and none is greater than K bytes. -/
def stepOk (P : Program) (K : Nat) (t : TypeId) : Bool :=
 match P.underlying t with
 | some (.pointer e) => decide (e < P.types.size)
 | some (.slice e) => decide (e < P.types.size) && decide (P.bytesOf e ≤ K)
 | some (.struct fs) => fs.all fun f => decide (f.type < P.types.size)
 | some (.array _ e) => decide (e < P.types.size)
 | some (.map k e) => decide (e < P.types.size) && decide (P.bytesOf k + P.bytesOf e ≤ 2 * K)
 | _ => true
section
variable {H : Type} {P : Program} {K : Nat}
theorem bulk_lenE : ∀ (l : List (Lit × DataW H)), l.length ≤ Rows.uptoBulkEntries l
 | [] => by simp [Rows.uptoBulkEntries]
 | x :: r => by
  have h := bulk_lenE r
  have hp : 1 ≤ Rows.uptoBulkEntry x := by
   obtain ⟨k, d⟩ := x
   cases k <;> simp [Rows.uptoBulkEntry]
  simp only [Rows.uptoBulkEntries, List.length_cons]; omega
mutual
theorem weigh (hK : ∀ t, t < P.types.size → stepOk P K t = true) : ∀ (d : DataW H) (t : TypeId) (m : Nat), t < P.types.size → m ∈ d.weights P t → m ≤ Rows.uptoBulk d * (2 * K + 1)
 | .lit (.string bytes), t, m, ht, h => by
  simp only [DataW.weights, List.mem_singleton] at h
  simp only [Rows.uptoBulk]
  subst h
  rw [Nat.mul_add, Nat.mul_one]; omega
 | .lit (.bool _), t, m, ht, h => by simp [DataW.weights] at h
 | .lit (.int _ _), t, m, ht, h => by simp [DataW.weights] at h
 | .lit (.float _ _), t, m, ht, h => by simp [DataW.weights] at h
 | .nil, t, m, ht, h => by simp [DataW.weights] at h
 | .held _, t, m, ht, h => by simp [DataW.weights] at h
 | .iface _ _, t, m, ht, h => by simp [DataW.weights] at h
 | .ptr d, t, m, ht, h => by
  simp only [DataW.weights] at h
  split at h
  ·rename_i e he
   have hs := hK t ht
   unfold stepOk at hs
   rw [he] at hs
   have := weigh hK d _ m (of_decide_eq_true hs) h
   simp only [Rows.uptoBulk]
   exact Nat.le_trans this (Nat.mul_le_mul_right _ (Nat.le_succ _))
  ·simp at h
 | .slice elems spare, t, m, ht, h => by
  simp only [DataW.weights] at h
  simp only [Rows.uptoBulk]
  split at h
  ·rename_i e he
   have hs := hK t ht
   unfold stepOk at hs
   rw [he] at hs
   simp only [Bool.and_eq_true, decide_eq_true_eq] at hs
   rcases List.mem_cons.1 h with h1 | h1
   ·have l1 := bulk_len elems
    have l2 := bulk_len spare
    subst h1
    have a : (elems.length + spare.length) * P.bytesOf e ≤ (elems.length + spare.length) * (2 * K + 1) := Nat.mul_le_mul_left _ (by have := hs.2; omega)
    exact Nat.le_trans a (Nat.mul_le_mul_right _ (by omega))
   ·rcases List.mem_append.1 h1 with h2 | h2
    ·exact Nat.le_trans (weighAll hK elems _ m hs.1 h2) (Nat.mul_le_mul_right _ (by omega))
    ·exact Nat.le_trans (weighAll hK spare _ m hs.1 h2) (Nat.mul_le_mul_right _ (by omega))
  ·simp at h
 | .agg parts, t, m, ht, h => by
  simp only [DataW.weights] at h
  simp only [Rows.uptoBulk]
  split at h
  ·rename_i fs he
   have hs := hK t ht
   unfold stepOk at hs
   rw [he] at hs
   refine Nat.le_trans (weighEach hK parts _ m (fun u hu => ?_) h) (Nat.mul_le_mul_right _ (by omega))
   obtain ⟨f, hf, rfl⟩ := List.mem_map.1 hu
   exact of_decide_eq_true (Array.all_eq_true'.1 hs f (by simpa using hf))
  ·rename_i e he
   have hs := hK t ht
   unfold stepOk at hs
   rw [he] at hs
   exact Nat.le_trans (weighAll hK parts _ m (of_decide_eq_true hs) h) (Nat.mul_le_mul_right _ (by omega))
  ·simp at h
 | .map entries, t, m, ht, h => by
  simp only [DataW.weights] at h
  simp only [Rows.uptoBulk]
  split at h
  ·rename_i k e he
   have hs := hK t ht
   unfold stepOk at hs
   rw [he] at hs
   simp only [Bool.and_eq_true, decide_eq_true_eq] at hs
   rcases List.mem_cons.1 h with h1 | h1
   ·have l1 := bulk_lenE entries
    subst h1
    have a : entries.length * (P.bytesOf k + P.bytesOf e) ≤ entries.length * (2 * K + 1) := Nat.mul_le_mul_left _ (by have := hs.2; omega)
    exact Nat.le_trans a (Nat.mul_le_mul_right _ (by omega))
   ·exact Nat.le_trans (weighEntries hK entries _ m hs.1 h1) (Nat.mul_le_mul_right _ (by omega))
  ·simp at h
theorem weighAll (hK : ∀ t, t < P.types.size → stepOk P K t = true) : ∀ (l : List (DataW H)) (e : TypeId) (m : Nat), e < P.types.size → m ∈ DataW.weightsAll P e l → m ≤ Rows.uptoBulkAll l * (2 * K + 1)
 | [], e, m, ht, h => by simp [DataW.weightsAll] at h
 | d :: r, e, m, ht, h => by
  simp only [DataW.weightsAll, List.mem_append] at h
  simp only [Rows.uptoBulkAll]
  rcases h with h1 | h1
  ·exact Nat.le_trans (weigh hK d e m ht h1) (Nat.mul_le_mul_right _ (by omega))
  ·exact Nat.le_trans (weighAll hK r e m ht h1) (Nat.mul_le_mul_right _ (by omega))
theorem weighEach (hK : ∀ t, t < P.types.size → stepOk P K t = true) : ∀ (l : List (DataW H)) (ts : List TypeId) (m : Nat), (∀ t ∈ ts, t < P.types.size) → m ∈ DataW.weightsEach P ts l → m ≤ Rows.uptoBulkAll l * (2 * K + 1)
 | [], ts, m, ht, h => by cases ts <;> simp [DataW.weightsEach] at h
 | d :: r, [], m, ht, h => by simp [DataW.weightsEach] at h
 | d :: r, t :: ts, m, ht, h => by
  simp only [DataW.weightsEach, List.mem_append] at h
  simp only [Rows.uptoBulkAll]
  rcases h with h1 | h1
  ·exact Nat.le_trans (weigh hK d t m (ht t (List.mem_cons_self ..)) h1) (Nat.mul_le_mul_right _ (by omega))
  ·exact Nat.le_trans (weighEach hK r ts m (fun u hu => ht u (List.mem_cons_of_mem _ hu)) h1) (Nat.mul_le_mul_right _ (by omega))
theorem weighEntries (hK : ∀ t, t < P.types.size → stepOk P K t = true) : ∀ (l : List (Lit × DataW H)) (e : TypeId) (m : Nat), e < P.types.size → m ∈ DataW.weightsEntries P e l → m ≤ Rows.uptoBulkEntries l * (2 * K + 1)
 | [], e, m, ht, h => by simp [DataW.weightsEntries] at h
 | x :: r, e, m, ht, h => by
  simp only [DataW.weightsEntries, List.mem_append] at h
  simp only [Rows.uptoBulkEntries]
  rcases h with h1 | h1
  ·exact Nat.le_trans (weighEntry hK x e m ht h1) (Nat.mul_le_mul_right _ (by omega))
  ·exact Nat.le_trans (weighEntries hK r e m ht h1) (Nat.mul_le_mul_right _ (by omega))
theorem weighEntry (hK : ∀ t, t < P.types.size → stepOk P K t = true) : ∀ (x : Lit × DataW H) (e : TypeId) (m : Nat), e < P.types.size → m ∈ DataW.weightsEntry P e x → m ≤ Rows.uptoBulkEntry x * (2 * K + 1)
 | (.string bytes, d), e, m, ht, h => by
  simp only [DataW.weightsEntry, List.mem_cons] at h
  simp only [Rows.uptoBulkEntry]
  rcases h with h1 | h1
  ·subst h1
   refine Nat.le_trans ?_ (Nat.mul_le_mul_right (2 * K + 1) (show bytes.length ≤ bytes.length + Rows.uptoBulk d + 1 by omega))
   exact Nat.le_mul_of_pos_right _ (by omega)
  ·exact Nat.le_trans (weigh hK d e m ht h1) (Nat.mul_le_mul_right _ (by omega))
 | (.bool _, d), e, m, ht, h => by
  simp only [DataW.weightsEntry] at h
  simp only [Rows.uptoBulkEntry]
  exact Nat.le_trans (weigh hK d e m ht h) (Nat.mul_le_mul_right _ (by omega))
 | (.int _ _, d), e, m, ht, h => by
  simp only [DataW.weightsEntry] at h
  simp only [Rows.uptoBulkEntry]
  exact Nat.le_trans (weigh hK d e m ht h) (Nat.mul_le_mul_right _ (by omega))
 | (.nil, d), e, m, ht, h => by
  simp only [DataW.weightsEntry] at h
  simp only [Rows.uptoBulkEntry]
  exact Nat.le_trans (weigh hK d e m ht h) (Nat.mul_le_mul_right _ (by omega))
 | (.float _ _, d), e, m, ht, h => by
  simp only [DataW.weightsEntry] at h
  simp only [Rows.uptoBulkEntry]
  exact Nat.le_trans (weigh hK d e m ht h) (Nat.mul_le_mul_right _ (by omega))
end
end
set_option maxRecDepth 100000 in
theorem steps_all : (List.range Try.prog.types.size).all (fun t => stepOk Try.prog 1024 t) = true := by kernel_rfl
theorem steps_ok (t : TypeId) (h : t < Try.prog.types.size) : stepOk Try.prog 1024 t = true := List.all_eq_true.1 steps_all t (List.mem_range.2 h)
/-- What weighs at the second form. -/
theorem weigh_upto {H : Type} {ds : List (DataW H)} {i : Nat} {d : DataW H} {t : TypeId} (ht : t < Try.prog.types.size) (hk : Rows.uptoSmall H ds = true) (hd : ds[i]? = some d) : ∀ m ∈ d.weights Try.prog t, m ≤ 140737488351232 := fun m hm => by
 have hb : Rows.uptoBulkAll ds ≤ 1048576 := of_decide_eq_true hk
 have h1 := bulk_part hd
 have h2 := weigh steps_ok d t m ht hm
 have h3 : Rows.uptoBulk d * (2 * 1024 + 1) ≤ 1048576 * (2 * 1024 + 1) := Nat.mul_le_mul_right _ (by omega)
 omega
end Go.Proofs.Ytbcmjjcbjojakaa
end
section
namespace Go.Proofs.Ytbcmjjcbjojakaa
open Go.ChangeShapes Go.WideShapes Go.ChangeAt Go.RowKit
set_option linter.unusedVariables false
/-- A call. -/
structure Tu where
 who : Int
 d : Int
 bs : List Nat
instance : Inhabited Tu := ⟨⟨0, 0, []⟩⟩
/-- The cells of a call that came in. -/
def TuA (w : World) (B : Nat) (cells : List Value) (t : Tu) : Prop :=
 ∃ A n c, cells = [.int .i64 t.who, .int .i64 t.d, .slice A n c] ∧ Rd w B A n (cb t.bs) ∧ n ≤ c ∧ (∀ x ∈ t.bs, x < 256) ∧ J64 t.who ∧ J64 t.d
theorem TuA.below {w w' : World} {B : Nat} {l : List Value} {t : Tu} (h : TuA w B l t) (b : Below B w w') : TuA w' B l t := by
 obtain ⟨A, n, c, e, hr, h⟩ := h; exact ⟨A, n, c, e, hr.below b, h⟩
section
variable {H : Type} {enc : TypeId × Value → H} {w : World} {base : Nat} {held : Bool}
theorem cells_turn : Try.prog.cellsOf 68 = 3 := by kernel_rfl
theorem open_bulk {fuel n c : Nat} {A : Option Addr} {x : DataW H × List MemPlace} (h : DataW.trod enc Try.prog w base (fun _ => true) held fuel 26 [.slice A n c] = some x) : n ≤ Rows.uptoBulk x.1 := by
 rcases open_ints Try.underlying26 Try.underlying5 cells_u8 h with ⟨hcs, _⟩ | ⟨x3, l, c', zs, hcs, _, hl', hm, hz, hx, _⟩
 ·have := (List.cons.inj hcs).1
  injection this with _ e1 e2; omega
 ·have := (List.cons.inj hcs).1
  injection this with _ e1 e2
  rw [hx]
  simp only [Rows.uptoBulk]
  have hb := bulk_len (lits (H := H) .u8 (zs.take l))
  have hzz : zs.length = c' := by simpa using hz
  have e : (lits (H := H) .u8 (zs.take l)).length = l := by simp only [lits, List.length_map, List.length_take]; omega
  omega
set_option maxRecDepth 8000 in
theorem open_tuA (fuel : Nat) (l : List Value) (y : DataW H × List MemPlace) (h : DataW.trod enc Try.prog w base (fun _ => true) held fuel 68 l = some y) (hw : ∀ m ∈ y.1.weights Try.prog 68, m ≤ 140737488351232) : l.length = 3 ∧ ∃ t, TuA w w.heap.size l t ∧ t.bs.length ≤ Rows.uptoBulk y.1 := by
 obtain ⟨xs, m, rfl, hxe, hlen, hl, hf⟩ := DataW.trod_struct Try.underlying68 h
 rw [cells_turn] at hlen
 refine ⟨hlen, ?_⟩
 obtain ⟨v0, v1, v2, rfl⟩ : ∃ v0 v1 v2, l = [v0, v1, v2] := by
  match l, hlen with
  | [a, b, c], _ => exact ⟨a, b, c, rfl⟩
 obtain ⟨y0, h0⟩ := get_some xs 3 0 hl (by omega)
 obtain ⟨y1, h1⟩ := get_some xs 3 1 hl (by omega)
 obtain ⟨y2, h2⟩ := get_some xs 3 2 hl (by omega)
 have g0 := fld hf 0 3 0 rfl rfl rfl
 have g1 := fld hf 1 3 1 rfl rfl rfl
 have g2 := fld hf 2 26 2 rfl rfl rfl
 rw [cells_int] at g0 g1
 rw [cells_bytes] at g2
 obtain ⟨k, rfl, wk⟩ := open_num Try.underlying3 (part_of g0 (cs2 := [v0]) rfl h0)
 obtain ⟨d, rfl, wd⟩ := open_num Try.underlying3 (part_of g1 (cs2 := [v1]) rfl h1)
 have g2' := part_of g2 (cs2 := [v2]) rfl h2
 obtain ⟨A, n, c, bs, rfl, hr, hb, hnc, hn⟩ := open_bytes2 g2' (fun m hm => by
  refine hw m ?_
  rw [hxe]
  simp only [DataW.weights, Try.underlying68]
  exact DataW.weights_mem_each (j := 2) (t := 26) (d := y2.1) rfl (by rw [List.getElem?_map, h2]; rfl) m hm)
 have hB := open_bulk g2'
 refine ⟨⟨k, d, bs⟩, ⟨A, n, c, rfl, hr, hnc, hb, wfj wk, wfj wd⟩, ?_⟩
 have hbl : bs.length = n := by have := hr.1; rwa [cb_length] at this
 have hp : Rows.uptoBulk y2.1 ≤ Rows.uptoBulkAll (xs.map (·.1)) := bulk_part (i := 2) (by rw [List.getElem?_map, h2]; rfl)
 rw [hxe]
 simp only [Rows.uptoBulk]
 omega
theorem bulk_sum (D : Nat → DataW H) (f : Nat → Nat) : ∀ (l : List Nat), (∀ r ∈ l, f r ≤ Rows.uptoBulk (D r)) → (l.map f).sum ≤ Rows.uptoBulkAll (l.map D)
 | [], _ => by simp
 | r :: l, h => by
  have h1 := h r (List.mem_cons_self ..)
  have h2 := bulk_sum D f l fun x hx => h x (List.mem_cons_of_mem _ hx)
  simp only [List.map_cons, List.sum_cons, Rows.uptoBulkAll]; omega
theorem open_listS {M : Type} [Inhabited M] {Q : World → Nat → List Value → M → Prop} {f : M → Nat} {t e size fuel : Nat} {cs : List Value} {x : DataW H × List MemPlace} (ht : Try.prog.underlying t = some (.slice e)) (ce : Try.prog.cellsOf e = size) (hs : 0 < size)
  (op : ∀ (fuel : Nat) (l : List Value) (y : DataW H × List MemPlace), DataW.trod enc Try.prog w base (fun _ => true) held fuel e l = some y → (∀ m ∈ y.1.weights Try.prog e, m ≤ 140737488351232) → l.length = size ∧ ∃ z : M, Q w w.heap.size l z ∧ f z ≤ Rows.uptoBulk y.1)
  (h : DataW.trod enc Try.prog w base (fun _ => true) held fuel t cs = some x) (hw : ∀ m ∈ x.1.weights Try.prog t, m ≤ 140737488351232) :
  ∃ A len cap ms, cs = [.slice A len cap] ∧ len ≤ cap ∧ Lst Q w w.heap.size size A len ms ∧ cap * Try.prog.bytesOf e ≤ 140737488351232 ∧ (ms.map f).sum ≤ Rows.uptoBulk x.1 := by
 rcases Go.Deep.open_slice ht h with ⟨rfl, _⟩ | ⟨a, len, cap, m, n, D, Pl, rfl, _, hl, hm, hmm, hxe, hx⟩
 ·exact ⟨none, 0, 0, [], rfl, Nat.le_refl _, ⟨rfl, fun i x hx => by cases hx⟩, by omega, by simp⟩
 simp only [if_true] at hmm
 subst hmm
 rw [ce] at hx
 have each : ∀ r, r < len → ∃ y : List Value × M, ((∀ j v, y.1[j]? = some v → w.cell? ((a.add (r * size)).add j) = some v) ∧ y.1.length = size ∧ Q w w.heap.size y.1 y.2) ∧ f y.2 ≤ Rows.uptoBulk (D r) := fun r hr => by
  obtain ⟨cs', hcs, htr⟩ := hx r (by omega)
  have hcell := (World.cells?_some hcs).2.2
  obtain ⟨hlen, z, hz, hfz⟩ := op _ cs' _ htr fun k hk => hw k (by
   rw [hxe]
   simp only [DataW.weights, ht, List.mem_cons, List.mem_append]
   right; left
   refine mem_allW _ (D r) ?_ k hk
   exact List.mem_map.2 ⟨r, List.mem_range.2 hr, rfl⟩)
  refine ⟨⟨cs', z⟩, ⟨fun j v hv => ?_, hlen, hz⟩, hfz⟩
  have hj : j < size := by have := (List.getElem?_eq_some_iff.1 hv).1; simp only at this; omega
  exact (hcell j hj).trans (by simp only at hv; rw [hv])
 obtain ⟨y, hy⟩ := Go.Deep.choose_lt each
 refine ⟨some a, len, m, (List.range len).map fun r => (y r).2, rfl, hl, ⟨by simp, fun i z hz => ?_⟩, ?_, ?_⟩
 ·have hi : i < len := by have := (List.getElem?_eq_some_iff.1 hz).1; simpa using this
  have hzz : (y i).2 = z := by
   rw [List.getElem?_map, List.getElem?_range hi] at hz
   simpa using hz
  obtain ⟨⟨hc, hlen, hq⟩, _⟩ := hy i hi
  obtain ⟨⟨hc0, hlen0, _⟩, _⟩ := hy 0 (by omega)
  obtain ⟨g, off, spot⟩ := a
  obtain ⟨v0, hv0⟩ : ∃ v, (y 0).1[0]? = some v := ⟨_, List.getElem?_eq_getElem (by omega)⟩
  have hs : spot = none := by simpa [Addr.add] using World.cell?_spot (hc0 0 v0 hv0)
  subst hs
  obtain ⟨v1, hv1⟩ : ∃ v, (y i).1[0]? = some v := ⟨_, List.getElem?_eq_getElem (by omega)⟩
  have h0 := hc 0 v1 hv1
  simp only [Addr.add_mid] at hc h0
  exact ⟨g, off, (y i).1, rfl, by have := World.block_lt_of_cell? w _ h0; simpa using this, hc, hlen, hzz ▸ hq⟩
 ·have := hw (m * Try.prog.bytesOf e) (by
   rw [hxe]
   simp only [DataW.weights, ht, List.mem_cons, List.length_map, List.length_range]
   left
   generalize Try.prog.bytesOf e = q
   exact congrArg (· * q) (Nat.add_sub_cancel' hl).symm)
  exact this
 ·have h1 := bulk_sum D (fun r => f (y r).2) (List.range len) fun r hr => (hy r (List.mem_range.1 hr)).2
  rw [List.map_map]
  rw [hxe]
  simp only [Rows.uptoBulk]
  refine Nat.le_trans ?_ (Nat.le_trans h1 ?_)
  ·exact Nat.le_refl _
  ·omega
end
end Go.Proofs.Ytbcmjjcbjojakaa
end
