/- Put together of: PairP PairQ PairT FtS OnlyR. -/
import Derived.Test.YtbcmjjcbjojakaaDreW
import Derived.Test.YtbcmjjcbjojakaaPk14
import Derived.Test.YtbcmjjcbjojakaaPk12
import Derived.Test.YtbcmjjcbjojakaaPk7
import Derived.Test.YtbcmjjcbjojakaaPk3
section
namespace Go.Proofs.Ytbcmjjcbjojakaa
open Go.RowKit
set_option linter.unusedVariables false
structure PrS {T : Type} (Z : Kd T) (base : Nat) (w : World) (g : Nat) (vl vc vq : Value) (L : List Nat) (m : Mid) (C : Nat) (fl : Int) (ws : List Wm) (xs : List T) (vs vm : Value) (st : List Nat) (wm : List Wm) (xm : List T) (hd : Nat) : Prop where
 rd : RdS Z base w g vl vc vq L m.c m.s C m.k m.p fl ws xs
 md : ThA Z base w vs vm st wm xm
 ef : (go Z.rd mid0 st).fl = fl
 ex : xs = xm.drop hd
 eh : hd ≤ xm.length
 e0 : fl = 0 → m = (go Z.rd mid0 st).mid ∧ L = (go Z.rd mid0 st).rest ∧ MidOk m
 e1 : fl ≠ 0 → L = []
 sep : ∀ k, thB vs vm wm k → k ∉ rdX g vl vc vq
/-- The blocks that a pair wants left alone, beside those that the reader writes. -/
def PrH (ws : List Wm) (vs vm : Value) (wm : List Wm) (k : Nat) : Prop := thB vs vm wm k ∨ ∃ W ∈ ws, ∃ r ∈ W.rows, r.2.1.ownBlock = some k
/-- What a call comes to. -/
def AsDone {T : Type} (Z : Kd T) (base : Nat) (w : World) (g : Nat) (vl vc vq : Value) (ws : List Wm) (vs vm : Value) (st : List Nat) (wm : List Wm) (n : Nat) (e : Ending) (w' : World) : Prop :=
 ∃ (vl' vc' vq' : Value) (L' : List Nat) (m' : Mid) (C' : Nat) (fl' : Int) (ws' : List Wm) (xs' : List T) (vs' vm' : Value) (st' : List Nat) (wm' : List Wm) (xm' : List T) (hd' : Nat),
  e = .returned (.tuple #[.agg (thC Z.ans vs' hd' vm' fl' ((go Z.rd mid0 st').held : Int)), .bool true]) ∧ PrS Z base w' g vl' vc' vq' L' m' C' fl' ws' xs' vs' vm' st' wm' xm' hd' ∧ Chg (rdX g vl vc vq) w w' ∧ (∀ x ∈ rdX g vl' vc' vq', x ∈ rdX g vl vc vq ∨ w.heap.size ≤ x) ∧
  (∀ k, PrH ws' vs' vm' wm' k → PrH ws vs vm wm k ∨ w.heap.size ≤ k) ∧ st'.length ≤ st.length + n
theorem Chg.fresh {Y : List Nat} {w w' : World} (b : Chg Y w w') (hY : ∀ y ∈ Y, w.heap.size ≤ y) : Chg [] w w' := ⟨b.os, b.tape, b.output, b.size, fun k hk _ => b.block k hk fun hm => by have := hY k hm; omega⟩
section
variable {T : Type} {Z : Kd T} {base : Nat} {w w' : World} {g : Nat} {vl vc vq : Value} {L : List Nat} {m : Mid} {C : Nat} {fl : Int} {ws : List Wm} {xs : List T} {vs vm : Value} {st : List Nat} {wm : List Wm} {xm : List T} {hd : Nat}
theorem ThA.new (h : ThA Z base w vs vm st wm xm) (b : Chg [] w w') : ThA Z base w' vs vm st wm xm := ⟨h.th.new b, h.is⟩
theorem PrS.new (h : PrS Z base w g vl vc vq L m C fl ws xs vs vm st wm xm hd) (b : Chg [] w w') : PrS Z base w' g vl vc vq L m C fl ws xs vs vm st wm xm hd :=
 { h with rd := h.rd.new b, md := h.md.new b }
theorem PrS.held (h : PrS Z base w g vl vc vq L m C fl ws xs vs vm st wm xm hd) : (if fl = 0 then m.p + L.length else 0) = (go Z.rd mid0 st).held := by
 unfold Out.held
 rw [h.ef]
 by_cases h0 : fl = 0
 ·obtain ⟨e1, e2, _⟩ := h.e0 h0
  rw [if_pos h0, if_pos h0, e1, e2]
 ·rw [if_neg h0, if_neg h0]
theorem PrS.short (h : PrS Z base w g vl vc vq L m C fl ws xs vs vm st wm xm hd) (hs : st.length ≤ 67108864) : Hd (fl = 0 → m.p ≤ 1099511627776) ∧ L.length ≤ 1099511627776 := by
 refine ⟨⟨fun h0 => ?_⟩, ?_⟩
 ·have := (h.e0 h0).2.2; unfold MidOk at this; omega
 ·by_cases h0 : fl = 0
  ·have h1 := go_len (rd := Z.rd) mid0 st
   rw [(h.e0 h0).2.1]; omega
  ·rw [h.e1 h0]; simp
/-- Nothing of the pair has turned. -/
theorem PrS.same (h : PrS Z base w g vl vc vq L m C fl ws xs vs vm st wm xm hd) (b : Chg [] w w') (n : Nat) {e : Ending} (he : e = .returned (.tuple #[.agg (thC Z.ans vs hd vm fl ((go Z.rd mid0 st).held : Int)), .bool true])) : AsDone Z base w g vl vc vq ws vs vm st wm n e w' :=
 ⟨vl, vc, vq, L, m, C, fl, ws, xs, vs, vm, st, wm, xm, hd, he, h.new b, b.mono (by simp), fun x hx => .inl hx, fun k hk => .inl hk, by omega⟩
end
end Go.Proofs.Ytbcmjjcbjojakaa
end
section
namespace Go.Proofs.Ytbcmjjcbjojakaa
open Go.RowKit
set_option linter.unusedVariables false
section
variable {T : Type} {Z : Kd T} {base : Nat} {w w1 w2 : World} {g : Nat} {vl vc vq : Value} {L : List Nat} {m : Mid} {C : Nat} {fl : Int} {ws : List Wm} {xs : List T} {vs vm vs' vm' : Value} {st bs : List Nat} {wm wm' : List Wm} {xm xm' : List T} {hd : Nat}
theorem PrS.goes (h : PrS Z base w g vl vc vq L m C 0 ws xs vs vm st wm xm hd) (bs : List Nat) : go Z.rd mid0 (st ++ bs) = ⟨(go Z.rd mid0 st).ms ++ (go Z.rd m (L ++ bs)).ms, (go Z.rd m (L ++ bs)).fl, (go Z.rd m (L ++ bs)).mid, (go Z.rd m (L ++ bs)).rest⟩ := by
 obtain ⟨e1, e2, _⟩ := h.e0 rfl
 have := (go_app (rd := Z.rd) bs mid0 st).1 h.ef
 rw [e1, e2]; exact this
end
end Go.Proofs.Ytbcmjjcbjojakaa
end
section
namespace Go.Proofs.Ytbcmjjcbjojakaa
open Go.RowKit
set_option linter.unusedVariables false
/-- A reader and the document's, as a call is told of them: the blocks that the reader writes, those that must stay, the document's value. -/
def PairAt {T : Type} (Z : Kd T) (base : Nat) (w : World) (g : Nat) (X : List Nat) (Hs : Nat → Prop) (V : Array Value) (fl : Int) (st : List Nat) : Prop :=
 ∃ (vl vc vq : Value) (L : List Nat) (m : Mid) (C : Nat) (ws : List Wm) (xs : List T) (vs vm : Value) (wm : List Wm) (xm : List T) (hd : Nat), PrS Z base w g vl vc vq L m C fl ws xs vs vm st wm xm hd ∧ X = rdX g vl vc vq ∧ (∀ k, PrH ws vs vm wm k → Hs k) ∧ V = thC Z.ans vs hd vm fl ((go Z.rd mid0 st).held : Int)
section
variable {T : Type} {Z : Kd T} {base b0 : Nat} {w w1 w2 : World} {g : Nat} {vl vc vq : Value} {L : List Nat} {m : Mid} {C : Nat} {fl : Int} {ws : List Wm} {xs : List T} {vs vm vs' vm' : Value} {st bs : List Nat} {wm wm' : List Wm} {xm xm' : List T} {hd : Nat} {X Y : List Nat} {Hs Hs' : Nat → Prop} {V : Array Value}
theorem PrS.keep (h : PrS Z base w g vl vc vq L m C fl ws xs vs vm st wm xm hd) (b : Chg Y w w1) (hX : ∀ x ∈ rdX g vl vc vq, x ∉ Y) (hH : ∀ k, PrH ws vs vm wm k → k ∉ Y) : PrS Z base w1 g vl vc vq L m C fl ws xs vs vm st wm xm hd :=
 { h with rd := h.rd.keep b hX fun W hW r hr k hk => hH k (.inr ⟨W, hW, r, hr, hk⟩), md := ⟨h.md.th.chg b fun k hk => hH k (.inl hk), h.md.is⟩ }
theorem PrS.ltH (h : PrS Z base w g vl vc vq L m C fl ws xs vs vm st wm xm hd) {k : Nat} (hk : PrH ws vs vm wm k) : k < w.heap.size := by
 rcases hk with hk | ⟨W, hW, r, hr, hk⟩
 ·exact (h.md.th.lt hk).2
 ·exact ((h.rd.ok W hW).lt hr hk).2
theorem PrS.push2 (h : PrS Z base w1 g vl vc vq L m C 0 ws xs vs vm st wm xm hd) (hA : ThA Z b0 w1 vs' vm' (st ++ bs) wm' xm') (hb0 : base ≤ b0) (hmod : ∀ k, thB vs' vm' wm' k → k ∉ rdX g vl vc vq) {e : Ending} (hp : PushDone Z base w1 g vl vc vq (go Z.rd m (L ++ bs)) ws xs e w2) :
  ∃ (vl' vc' vq' : Value) (L' : List Nat) (m' : Mid) (C' : Nat) (nw : List Wm) (ns : List T), e = .returned (.int .i64 (go Z.rd mid0 (st ++ bs)).fl) ∧ PrS Z base w2 g vl' vc' vq' L' m' C' (go Z.rd mid0 (st ++ bs)).fl (ws ++ nw) (xs ++ ns) vs' vm' (st ++ bs) wm' xm' hd ∧ Chg (rdX g vl vc vq) w1 w2 ∧
   (∀ x ∈ rdX g vl' vc' vq', x ∈ rdX g vl vc vq ∨ w1.heap.size ≤ x) ∧ (∀ W ∈ nw, W.ok w2 w1.heap.size) := by
 obtain ⟨vl', vc', vq', L', m', C', nw, he, hr, h0, h1, hc, hx, hn⟩ := hp
 have hg := h.goes bs
 have hfl : (go Z.rd mid0 (st ++ bs)).fl = (go Z.rd m (L ++ bs)).fl := by rw [hg]
 refine ⟨vl', vc', vq', L', m', C', nw, (go Z.rd m (L ++ bs)).ms, by rw [hfl]; exact he, ⟨?_, ⟨(hA.th.chg hc hmod).lower hb0, hA.is⟩, rfl, ?_, ?_, ?_, ?_, fun k hk hm => ?_⟩, hc, hx, hn⟩
 ·rw [hfl]; exact hr
 ·rw [hA.is, hg]
  have e1 := h.ex
  have e2 := h.eh
  rw [h.md.is] at e1 e2
  simp only
  rw [List.drop_append_of_le_length e2, ← e1]
 ·rw [hA.is, hg]
  have e2 := h.eh
  rw [h.md.is] at e2
  simp only [List.length_append]; omega
 ·intro hz
  rw [hfl] at hz
  rw [hg]
  exact h0 hz
 ·intro hz
  rw [hfl] at hz
  exact h1 hz
 ·have hk2 := hA.th.lt hk
  rcases hx k hm with h2 | h2
  ·exact hmod k hk h2
  ·omega
theorem PairAt.new (h : PairAt Z base w g X Hs V fl st) (b : Chg [] w w1) : PairAt Z base w1 g X Hs V fl st := by
 obtain ⟨vl, vc, vq, L, m, C, ws, xs, vs, vm, wm, xm, hd, h1, h2⟩ := h
 exact ⟨vl, vc, vq, L, m, C, ws, xs, vs, vm, wm, xm, hd, h1.new b, h2⟩
theorem PairAt.keep (h : PairAt Z base w g X Hs V fl st) (b : Chg Y w w1) (hX : ∀ x ∈ X, x ∉ Y) (hH : ∀ k, Hs k → k ∉ Y) : PairAt Z base w1 g X Hs V fl st := by
 obtain ⟨vl, vc, vq, L, m, C, ws, xs, vs, vm, wm, xm, hd, h1, h2, h3, h4⟩ := h
 exact ⟨vl, vc, vq, L, m, C, ws, xs, vs, vm, wm, xm, hd, h1.keep b (h2 ▸ hX) (fun k hk => hH k (h3 k hk)), h2, h3, h4⟩
theorem PairAt.more (h : PairAt Z base w g X Hs V fl st) (hH : ∀ k, k < w.heap.size → Hs k → Hs' k) : PairAt Z base w g X Hs' V fl st := by
 obtain ⟨vl, vc, vq, L, m, C, ws, xs, vs, vm, wm, xm, hd, h1, h2, h3, h4⟩ := h
 exact ⟨vl, vc, vq, L, m, C, ws, xs, vs, vm, wm, xm, hd, h1, h2, fun k hk => hH k (h1.ltH hk) (h3 k hk), h4⟩
theorem PairAt.lt (h : PairAt Z base w g X Hs V fl st) {x : Nat} (hx : x ∈ X) : base ≤ x ∧ x < w.heap.size := by
 obtain ⟨vl, vc, vq, L, m, C, ws, xs, vs, vm, wm, xm, hd, h1, h2, h3, h4⟩ := h
 exact h1.rd.ltX (h2 ▸ hx)
theorem PairAt.vals (h : PairAt Z base w g X Hs V fl st) : V.size = 7 ∧ V.all (·.oneCell') = true ∧ V[5]? = some (.int .i64 fl) := by
 obtain ⟨vl, vc, vq, L, m, C, ws, xs, vs, vm, wm, xm, hd, h1, h2, h3, rfl⟩ := h
 obtain ⟨As, cs, hvs, _, _⟩ := own_form h1.md.th.so
 have hq := que_one h1.md.th.qu
 refine ⟨rfl, ?_, rfl⟩
 exact one7 rfl (by rw [hvs]; rfl) rfl (by split <;> first | rfl | exact hq) (by split <;> first | rfl | exact hq) rfl rfl
end
/-- What the document's push of some bytes comes to, and what the reader's push of them then comes to. -/
def PushM {T : Type} (Z : Kd T) (base : Nat) (w : World) (g : Nat) (X : List Nat) (Hs : Nat → Prop) (st bs : List Nat) (e : Ending) (w' : World) : Prop :=
 ∃ (V' : Array Value) (fl' : Int) (st' : List Nat), e = .returned (.tuple #[.agg V', .int .i64 fl']) ∧ Chg [] w w' ∧ (V'.size = 7 ∧ V'.all (·.oneCell') = true) ∧ st'.length ≤ st.length + bs.length ∧
  ∀ (Y : List Nat) (w1 : World), Chg Y w' w1 → (∀ x ∈ X, x ∉ Y) → (∀ k, Hs k → k ∉ Y) → (∀ y ∈ Y, y < w.heap.size) → ∀ (A : Option Addr) (n cp : Nat), Rd w1 w1.heap.size A n (cb bs) →
   Calls Try.prog 35 #[.pointer (some ⟨g, 0, none⟩), .slice A n cp] w1 fun e w2 => e = .returned (.int .i64 fl') ∧ Chg X w1 w2 ∧ ∃ X', PairAt Z base w2 g X' (fun k => Hs k ∨ w.heap.size ≤ k) V' fl' st' ∧ ∀ x ∈ X', x ∈ X ∨ w.heap.size ≤ x
theorem pair_push {T : Type} (Z : Kd T) (HTL : ThruLaw Z) (HMS : MsgLaw Z) (base : Nat) (w : World) (g : Nat) (X : List Nat) (Hs : Nat → Prop) (V : Array Value) (fl : Int) (st : List Nat) (h : PairAt Z base w g X Hs V fl st) (A : Option Addr) (n cp : Nat) (bs : List Nat) (hr : Rd w w.heap.size A n (cb bs)) (hb : ∀ x ∈ bs, x < 256) (hn : st.length + n ≤ 67108864) :
  Calls Try.prog 71 #[.agg V, .slice A n cp] w (PushM Z base w g X Hs st bs) := by
 have hv := h.vals
 have hbl : bs.length = n := by have := hr.1; rwa [cb_length] at this
 obtain ⟨vl, vc, vq, L, m, C, ws, xs, vs, vm, wm, xm, hd, h1, h2, h3, h4⟩ := h
 have hbs : base ≤ w.heap.size := by have := h1.rd.bg; have := h1.rd.lt; omega
 have hq := que_one h1.md.th.qu
 have hq0 : (if Z.ans then .slice none 0 0 else vm : Value).oneCell' = true := by split <;> first | rfl | exact hq
 have hq1 : (if Z.ans then vm else .slice none 0 0 : Value).oneCell' = true := by split <;> first | rfl | exact hq
 by_cases h0 : fl = 0
 ·subst h0
  have hcall := dpush_any Z HTL w base vs _ _ hd ((go Z.rd mid0 st).held : Int) st h1.md.th.so h1.md.th.lb A n cp bs hr hb hn hq0 hq1
  rw [h4]
  refine hcall.mono ?_
  rintro e w' ⟨vs', vm', wm', xm', rfl, hA, hc⟩
  have hA1 : ∀ (w1 : World) (Y : List Nat), Chg Y w' w1 → (∀ y ∈ Y, y < w.heap.size) → ThA Z w.heap.size w1 vs' vm' (st ++ bs) wm' xm' := fun w1 Y b hY => ⟨hA.th.chg b fun k hk hm => by have := (hA.th.lt hk).1; have := hY k hm; omega, hA.is⟩
  refine ⟨_, _, st ++ bs, rfl, hc, ⟨rfl, ?_⟩, by rw [List.length_append]; exact Nat.le_refl _, fun Y w1 b hX hH hY A1 n1 c1 hr1 => ?_⟩
  ·obtain ⟨As, cs, hvs, _, _⟩ := own_form hA.th.so
   have hq' := que_one hA.th.qu
   exact one7 rfl (by rw [hvs]; rfl) rfl (by split <;> first | rfl | exact hq') (by split <;> first | rfl | exact hq') rfl rfl
  ·have hw1 : Chg Y w w1 := (hc.mono (by simp)).trans b
   have hp1 := h1.keep hw1 (h2 ▸ hX) (fun k hk => hH k (h3 k hk))
   have hl1 : bs.length = n1 := by have := hr1.1; rwa [cb_length] at this
   have hmo := (h1.e0 rfl).2.2
   have hlen : ws.length + L.length + n1 ≤ 137438953472 := by
    have k1 := go_len (rd := Z.rd) mid0 st
    have k2 := h1.rd.is.len
    have k3 := h1.ex
    have k4 := h1.md.is
    have k5 : xs.length ≤ xm.length := by rw [k3, List.length_drop]; omega
    have k6 : xm.length = (go Z.rd mid0 st).ms.length := by rw [k4]
    have k7 : L.length = (go Z.rd mid0 st).rest.length := by rw [(h1.e0 rfl).2.1]
    omega
   refine (push_any Z HMS base w1 g vl vc vq L m C ws xs hp1.rd A1 n1 c1 bs hr1 hb hmo hlen).mono ?_
   intro e w2 hp
   have hmod : ∀ k, thB vs' vm' wm' k → k ∉ rdX g vl vc vq := fun k hk hm => by
    have k1 := ((hA1 w1 Y b hY).th.lt hk).1
    have k2 := (h1.rd.ltX hm).2
    omega
   obtain ⟨vl', vc', vq', L', m', C', nw, ns, he, hS, hC, hx, hN⟩ := hp1.push2 (hA1 w1 Y b hY) hbs hmod hp
   have hs1 := hw1.size
   refine ⟨he, h2 ▸ hC, _, ⟨vl', vc', vq', L', m', C', _, _, vs', vm', wm', xm', hd, hS, rfl, fun k hk => ?_, rfl⟩, fun x hx' => ?_⟩
   ·rcases hk with hk | ⟨W, hW, r, hr', hk⟩
    ·exact .inr ((hA1 w1 Y b hY).th.lt hk).1
    ·rcases List.mem_append.1 hW with hW | hW
     ·exact .inl (h3 k (.inr ⟨W, hW, r, hr', hk⟩))
     ·have := ((hN W hW).lt hr' hk).1
      exact .inr (by omega)
   ·rcases hx x hx' with hx2 | hx2
    ·exact .inl (h2 ▸ hx2)
    ·exact .inr (by omega)
 ·obtain ⟨As, cs, hvs, _, _⟩ := own_form h1.md.th.so
  have hcall := dpush_fault w Z.ans vs _ _ (hd : Int) fl ((go Z.rd mid0 st).held : Int) h0 (by rw [hvs]; rfl) hq0 hq1 A n cp
  have hV : V = #[.bool Z.ans, vs, .int .i64 (hd : Int), (if Z.ans then .slice none 0 0 else vm), (if Z.ans then vm else .slice none 0 0), .int .i64 fl, .int .i64 ((go Z.rd mid0 st).held : Int)] := h4
  rw [hV]
  refine hcall.mono ?_
  rintro e w' ⟨rfl, hc⟩
  refine ⟨_, fl, st, rfl, hc, by rw [← hV]; exact ⟨hv.1, hv.2.1⟩, by omega, fun Y w1 b hX hH hY A1 n1 c1 hr1 => ?_⟩
  have hw1 : Chg Y w w1 := (hc.mono (by simp)).trans b
  have hp1 := h1.keep hw1 (h2 ▸ hX) (fun k hk => hH k (h3 k hk))
  refine (push_fault Z base w1 g vl vc vq L m.c m.s C m.k m.p fl ws xs hp1.rd h0 A1 n1 c1).mono ?_
  rintro e w2 ⟨rfl, rfl⟩
  exact ⟨rfl, Chg.refl _ _, X, ⟨vl, vc, vq, L, m, C, ws, xs, vs, vm, wm, xm, hd, hp1, h2, fun k hk => .inl (h3 k hk), rfl⟩, fun x hx => .inl hx⟩
end Go.Proofs.Ytbcmjjcbjojakaa
end
section
namespace Go.Proofs.Ytbcmjjcbjojakaa
open Go.RowKit
set_option linter.unusedVariables false
set_option linter.unusedSimpArgs false
/-- Where fit stands: the box of what came in, the result's, the new message's. -/
structure Gt (w W : World) (t g1 gx gq : Nat) (c1 : List Value) (zs : Array Value) (M : Wm) : Prop where
 b1 : W.heap[g1]? = some (.cells c1.toArray t)
 res : W.heap[gx]? = some (.cells zs t)
 box : W.heap[gq]? = some (.cells M.cells.toArray t)
 be : Below w.heap.size w W
 ok : M.ok W (gq + 1)
 l1 : w.heap.size ≤ g1
 l2 : g1 < gx
 l3 : gx < gq
/-- Ahead of the new message. -/
structure Ga (w W : World) (t g1 gx : Nat) (c1 : List Value) (zs : Array Value) : Prop where
 b1 : W.heap[g1]? = some (.cells c1.toArray t)
 res : W.heap[gx]? = some (.cells zs t)
 be : Below w.heap.size w W
 l1 : w.heap.size ≤ g1
 l2 : g1 < gx
section
variable {w W W' : World} {t g1 gx gq : Nat} {c1 : List Value} {zs : Array Value} {M M' : Wm}
end
def anZT : Array Value := #[.int .i64 0, .int .u64 0, .int .i64 0, .slice none 0 0, .slice none 0 0, .slice none 0 0, .string emS, .bool false, .int .i64 0, .int .i64 0, .int .i64 0, .int .i64 0, .int .i64 0, .int .i64 0, .int .i64 0]
def setLT : List Value → Nat → List Value → List Value
 | l, _, [] => l
 | l, o, v :: r => setLT (l.set o v) (o + 1) r
end Go.Proofs.Ytbcmjjcbjojakaa
end
section
namespace Go.Proofs.Ytbcmjjcbjojakaa
open Go.RowKit
set_option linter.unusedVariables false
set_option linter.unusedSimpArgs false
/-- The answer with its counting fields alone. -/
def onlyAn (a : An) : An :=
 {kind := a.kind, tag := a.tag, code := a.code,
  body := if a.code = 0 ∧ (a.kind = 2 ∨ a.kind = 3) then a.body else [],
  keys := if a.code = 0 ∧ (a.kind = 6 ∨ a.kind = 7) then a.keys else [],
  groups := if a.code = 0 ∧ a.kind = 7 then a.groups else [],
  next := if a.code = 0 ∧ a.kind = 7 then a.next else emS,
  more := if a.code = 0 ∧ a.kind = 7 then a.more else false,
  ge := if a.code = 0 ∧ a.kind = 4 then a.ge else 0, gc := if a.code = 0 ∧ a.kind = 4 then a.gc else 0, size := if a.code = 0 ∧ a.kind = 4 then a.size else 0,
  h1 := if a.kind = 8 then a.h1 else 0, h2 := if a.kind = 8 then a.h2 else 0, h3 := if a.kind = 8 then a.h3 else 0, h4 := if a.kind = 8 then a.h4 else 0 }
/-- What onlyAnswer answers: the slices are those that came in, or none. -/
def OnlyAnPost (w : World) (a : An) (A A2 A3 : Option Addr) (n c n2 c2 n3 c3 : Nat) (e : Ending) (w' : World) : Prop :=
 ∃ (B B2 B3 : Option Addr) (m d m2 d2 m3 d3 : Nat), e = .returned (anV (onlyAn a).kind (onlyAn a).code (onlyAn a).tag B B2 B3 m d m2 d2 m3 d3 (onlyAn a).next (onlyAn a).more (onlyAn a).ge (onlyAn a).gc (onlyAn a).size (onlyAn a).h1 (onlyAn a).h2 (onlyAn a).h3 (onlyAn a).h4) ∧
  (((onlyAn a).body = a.body ∧ B = A ∧ m = n ∧ d = c) ∨ ((onlyAn a).body = [] ∧ B = none ∧ m = 0 ∧ d = 0)) ∧ (((onlyAn a).keys = a.keys ∧ B2 = A2 ∧ m2 = n2 ∧ d2 = c2) ∨ ((onlyAn a).keys = [] ∧ B2 = none ∧ m2 = 0 ∧ d2 = 0)) ∧ (((onlyAn a).groups = a.groups ∧ B3 = A3 ∧ m3 = n3 ∧ d3 = c3) ∨ ((onlyAn a).groups = [] ∧ B3 = none ∧ m3 = 0 ∧ d3 = 0)) ∧ Below w.heap.size w w'
end Go.Proofs.Ytbcmjjcbjojakaa
end
