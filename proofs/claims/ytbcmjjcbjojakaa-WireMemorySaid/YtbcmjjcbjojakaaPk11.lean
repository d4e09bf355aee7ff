/- Put together of: DrainW HearP CopyA HearW AwakeW EqualW CutsWalk FormWalk FitP VastW. -/
import Derived.Test.YtbcmjjcbjojakaaPk10
import Derived.Test.YtbcmjjcbjojakaaPk7
import Derived.Test.YtbcmjjcbjojakaaPk6
import Derived.Test.YtbcmjjcbjojakaaPk2
import Derived.Test.YtbcmjjcbjojakaaTellC
import Derived.Test.YtbcmjjcbjojakaaPk8
import Derived.Test.YtbcmjjcbjojakaaPk9
import Derived.Test.YtbcmjjcbjojakaaRqW
import Derived.Deep.Cut
import Derived.Deep.CutRange
section
namespace Go.Proofs.Ytbcmjjcbjojakaa
open Go.RowKit
set_option linter.unusedVariables false
set_option linter.unusedSimpArgs false
/-- The cells of what was heard. -/
def hdC (ans : Bool) (vh : Value) (fl held : Int) : Array Value := #[(if ans then .slice none 0 0 else vh), (if ans then vh else .slice none 0 0), .int .i64 fl, .int .i64 held]
/-- What drain answers. -/
def DrainDone {T : Type} (Z : Kd T) (base : Nat) (w : World) (o0 : List Nat) (g : Nat) (vl vc vq : Value) (L c : List Nat) (S C k p : Nat) (fl : Int) (ws : List Wm) (xs : List T) (hs : List Wm) (ys : List T) (e : Ending) (w' : World) : Prop :=
 ∃ (vq' vh' : Value), e = .returned (.agg (hdC Z.ans vh' fl ((if fl = 0 then p + L.length else 0 : Nat) : Int))) ∧ DrS Z base w' g vl vc vq' L c S C k p fl [] [] vh' (hs ++ ws) (ys ++ xs) ∧ Chg (g :: o0) w w' ∧ vq'.ownBlock = vq.ownBlock ∧ (∀ y, vh'.ownBlock = some y → y ∈ o0 ∨ w.heap.size ≤ y)
/-- Where drain stands. -/
structure DnS {T : Type} (Z : Kd T) (base : Nat) (w W : World) (o0 : List Nat) (q0 : Value) (g6 g8 : Nat) (g : Nat) (vl vc vq : Value) (L c : List Nat) (S C k p : Nat) (fl : Int) (ws : List Wm) (xs : List T) (vh : Value) (hs : List Wm) (ys : List T) (fx hx : Int) : Prop where
 dr : DrS Z base W g vl vc vq L c S C k p fl ws xs vh hs ys
 b6 : W.heap[g6]? = some (.cells (hdC Z.ans vh fx hx) 75)
 b8 : W.heap[g8]? = some (.cells #[.slice none 0 0, .slice none 0 0, .int .i64 0, .int .i64 0] 75)
 ch : Chg (g :: o0) w W
 hv : ∀ y, vh.ownBlock = some y → y ∈ o0 ∨ g8 < y
 h0 : ∀ y ∈ o0, base ≤ y ∧ y < w.heap.size
 hq : vq.ownBlock = q0.ownBlock
 hX : ∀ y ∈ rdX g vl vc vq, y < w.heap.size
 hM : ∀ V ∈ ws, ∀ r ∈ V.rows, ∀ y, r.2.1.ownBlock = some y → y < w.heap.size
 hH : ∀ V ∈ hs, ∀ r ∈ V.rows, ∀ y, r.2.1.ownBlock = some y → y < w.heap.size
 l6 : w.heap.size ≤ g6
 l8 : g6 < g8
section
variable {T : Type} {Z : Kd T} {base : Nat} {w W W' : World} {o0 : List Nat} {q0 : Value} {g6 g8 g : Nat} {vl vc vq vh vq' : Value} {L c : List Nat} {S C k p : Nat} {fl : Int} {ws hs : List Wm} {xs ys : List T} {fx hx : Int} {V0 : Wm} {x0 : T}
end
end Go.Proofs.Ytbcmjjcbjojakaa
end
section
namespace Go.Proofs.Ytbcmjjcbjojakaa
open Go.RowKit
set_option linter.unusedVariables false
def heard0 : Array Value := #[.slice none 0 0, .slice none 0 0, .int .i64 0, .int .i64 0]
/-- How many bytes are held behind some bytes. -/
def heldN {T : Type} (o : Out T) : Nat := if o.fl = 0 then o.mid.p + o.rest.length else 0
/-- What hear answers. -/
def HearDone {T : Type} (Z : Kd T) (w : World) (bs : List Nat) (e : Ending) (w' : World) : Prop :=
 ∃ (vh : Value) (hs : List Wm), e = .returned (.tuple #[.agg (hdC Z.ans vh (go Z.rd mid0 bs).fl ((heldN (go Z.rd mid0 bs) : Nat) : Int)), .bool true]) ∧ Que w' w.heap.size Z.e Z.m vh hs ∧ (∀ V ∈ hs, V.ok w' w.heap.size) ∧ Alike Z.is hs (go Z.rd mid0 bs).ms ∧ Below w.heap.size w w'
def DrainLaw {T : Type} (Z : Kd T) : Prop := ∀ (base : Nat) (w : World) (g : Nat) (vl vc vq : Value) (L c : List Nat) (S C k p : Nat) (fl : Int) (ws : List Wm) (xs : List T) (vh : Value) (hs : List Wm) (ys : List T), DrS Z base w g vl vc vq L c S C k p fl ws xs vh hs ys →
 ∀ (o0 : List Nat), vh.ownBlock.toList = o0 → ∀ (f0 h0 : Int) (most : Nat), ws.length ≤ most + 1 → most ≤ 274877906944 → hs.length ≤ 137438953472 → Hd (fl = 0 → p ≤ 1099511627776) → L.length ≤ 1099511627776 →
  Calls Try.prog 75 #[.pointer (some ⟨g, 0, none⟩), .bool Z.ans, .agg (hdC Z.ans vh f0 h0), .int .i64 (most : Int)] w (DrainDone Z base w o0 g vl vc vq L c S C k p fl ws xs hs ys)
/-- The cells of a new reader. -/
def rd0 (ans : Bool) : Array Value := #[.bool ans, .slice none 0 0, .slice none 0 0, .int .u32 0, .int .u64 0, .int .i64 0, .int .i64 0, .int .i64 0, .slice none 0 0, .slice none 0 0]
def ReaderLaw {T : Type} (Z : Kd T) : Prop := ∀ w : World, Calls Try.prog 74 #[.bool Z.ans] w fun e w' => e = .returned (.pointer (some ⟨w.heap.size, 0, none⟩)) ∧ w'.heap[w.heap.size]? = some (.cells (rd0 Z.ans) 58) ∧ Below w.heap.size w w'
/-- Where hear stands. -/
structure HeS {T : Type} (Z : Kd T) (w W : World) (g8 g11 g : Nat) (bs : List Nat) (a : Nat) (vl vc vq vh : Value) (L : List Nat) (m : Mid) (C : Nat) (fl : Int) (ws : List Wm) (xs : List T) (hs : List Wm) (ys : List T) (fx hx : Int) : Prop where
 dr : DrS Z w.heap.size W g vl vc vq L m.c m.s C m.k m.p fl ws xs vh hs ys
 b8 : W.heap[g8]? = some (.cells heard0 75)
 b11 : W.heap[g11]? = some (.cells (hdC Z.ans vh fx hx) 75)
 be : Below w.heap.size w W
 l8 : w.heap.size ≤ g8
 l11 : w.heap.size ≤ g11
 n89 : g8 ≠ g11
 nX : ∀ y ∈ [g8, g11], y ∉ rdX g vl vc vq
 nv : ∀ y ∈ [g8, g11], vh.ownBlock ≠ some y
 nM : ∀ V ∈ ws, V.off [g8, g11]
 nH : ∀ V ∈ hs, V.off [g8, g11]
 efl : fl = (go Z.rd mid0 (bs.take a)).fl
 ems : ys ++ xs = (go Z.rd mid0 (bs.take a)).ms
 eok : fl = 0 → m = (go Z.rd mid0 (bs.take a)).mid ∧ L = (go Z.rd mid0 (bs.take a)).rest ∧ MidOk m
 bad : fl ≠ 0 → L = []
section
variable {T : Type} {Z : Kd T} {w W W1 W2 : World} {g8 g11 g : Nat} {bs : List Nat} {a a2 : Nat} {vl vc vq vh : Value} {L : List Nat} {m : Mid} {C : Nat} {fl : Int} {ws hs : List Wm} {xs ys : List T} {fx hx : Int} {e : Ending}
end
end Go.Proofs.Ytbcmjjcbjojakaa
end
section
namespace Go.Proofs.Ytbcmjjcbjojakaa
open Go.RowKit
set_option linter.unusedVariables false
theorem copyB_any (w : World) (A : Option Addr) (n c B : Nat) (bs : List Nat) (hr : Rd w B A n (cb bs)) (hn : n ≤ 140737488355328) : Calls Try.prog 17 #[.slice A n c] w fun e w' => ∃ A' c', e = .returned (.slice A' n c') ∧ w'.ownsRow w.heap.size 5 1 (.slice A' n c') n (cb bs) ∧ n ≤ c' ∧ Below w.heap.size w w' := by
 have HH := Hd.mk hr
 have h63 : Hd (0 + n ≤ maxLen) := ⟨by unfold maxLen; omega⟩
 have hby : Hd ((0 + n) * 1 ≤ 140737488355328) := ⟨by omega⟩
 clear hr
 go_enter Try.func17, Try.ntmps17
 go_wp2_with (at_builtin; refine wpList_app elB rfl (.const (.slice none 0 0)) (.tmp 3) rfl w.heap.size (.slice none 0 0) 0 [] rfl (World.ownsRow_nil ..) B A n c (cb bs) rfl HH.out (cb_one bs) h63.out hby.out (Nat.le_refl _) ?_; intro v1 w1 hO1; have H1 : Hd (Onto w w1 w.heap.size 5 (.slice none 0 0) v1 n (cb bs)) := ⟨by simpa using hO1⟩; clear hO1)
 go_ret
 obtain ⟨A', c', rfl, hc, _⟩ := own_form H1.out.own
 exact ⟨A', c', rfl, H1.out.own, hc, H1.out.below (fun k hk => by cases hk) (Nat.le_refl _)⟩
end Go.Proofs.Ytbcmjjcbjojakaa
end
section
namespace Go.Proofs.Ytbcmjjcbjojakaa
open Go.RowKit
set_option linter.unusedVariables false
set_option linter.unusedSimpArgs false
def I64 (k : Int) : Prop := -9223372036854775808 ≤ k ∧ k ≤ 9223372036854775807
set_option maxHeartbeats 400000 in
theorem pick_any (w : World) (k n : Int) (hk : I64 k) (h0 : 0 < n) (h1 : n ≤ 4611686018427387904) :
  Calls Try.prog 44 #[.int .i64 k, .int .i64 n] w fun e w' => e = .returned (.int .i64 (k % n)) ∧ w = w' := by
 obtain ⟨k1, k2⟩ := hk
 have e1 := Int.emod_nonneg k (b := n) (by omega)
 have e2 := Int.emod_lt_of_pos k h0
 have e3 : k.tmod n = if 0 ≤ k ∨ k % n = 0 then k % n else k % n - n := by
  rw [Int.tmod_eq_emod]
  by_cases hh : 0 ≤ k ∨ n ∣ k
  ·rw [if_pos hh, if_pos (by rcases hh with h | h; exact .inl h; exact .inr (Int.emod_eq_zero_of_dvd h))]; omega
  ·rw [if_neg hh, if_neg (fun h => hh (by rcases h with h | h; exact .inl h; exact .inr (Int.dvd_of_emod_eq_zero h)))]
   have : (n.natAbs : Int) = n := by omega
   rw [this]
 have hne : n ≠ 0 := by omega
 have hne' : (n == 0) = false := by simp; omega
 have HQ : Hd (k.tmod n = if 0 ≤ k ∨ k % n = 0 then k % n else k % n - n) := ⟨e3⟩
 have t1 : -9223372036854775808 ≤ k.tmod n := by rw [e3]; split <;> omega
 have t2 : k.tmod n ≤ 9223372036854775807 := by rw [e3]; split <;> omega
 have hw : wrap64 (k.tmod n) = k.tmod n := by unfold wrap64; omega
 by_cases hneg : k.tmod n < 0
 ·have t3 : -9223372036854775808 ≤ k.tmod n + n := by omega
  have t4 : k.tmod n + n ≤ 9223372036854775807 := by omega
  clear e3
  go_enter Try.func44, Try.ntmps44
  go_wp2_with fail
  go_ret
  refine ⟨ret_int ?_, rfl⟩
  have := HQ.out
  split at this <;> omega
 ·clear e3
  go_enter Try.func44, Try.ntmps44
  go_wp2_with fail
  go_ret
  refine ⟨ret_int ?_, rfl⟩
  have := HQ.out
  split at this <;> omega
end Go.Proofs.Ytbcmjjcbjojakaa
end
section
namespace Go.Proofs.Ytbcmjjcbjojakaa
open Go.RowKit
set_option linter.unusedVariables false
set_option linter.unusedSimpArgs false
def aw8 : Rq := ⟨8, 5, emS, emS, 0, 0, 0, []⟩
def aw19 : List Nat := [2, 9, 0, 184, 170, 189, 161, 8, 5, 0, 0, 0, 0, 0, 0, 0, 126, 101, 183]
def aw20 : List Nat := [2, 9, 0, 184, 170, 189, 161, 8, 5, 0, 0, 0, 0, 0, 0, 0, 126, 101, 183, 107]
theorem aw8_c : rqC aw8 = [8, 5, 0, 0, 0, 0, 0, 0, 0] := by kernel_rfl
theorem aw8_form : formP (rqC aw8) = aw20 := by kernel_rfl
theorem aw8_ok : rqOk aw8 := by unfold rqOk aw8; refine ⟨by decide, by decide, fun _ => rfl, fun _ => rfl, fun _ => rfl, fun _ => rfl, fun _ => rfl, fun _ => rfl⟩
theorem aw8_fit : rqFit aw8 := by unfold rqFit aw8; refine ⟨by decide, by decide, by decide⟩
theorem aw8_b : RqB aw8 := ⟨by decide, by decide, by decide, by decide, by decide, by decide, by decide, by intro x hx; cases hx⟩
theorem aw8_ask : askP aw8 = (aw20, 0) := by unfold askP; rw [if_pos aw8_ok, if_pos aw8_fit, aw8_form]
theorem aw19_ck : ckP mid0.s mid0.k aw19 = .wait := by kernel_rfl
theorem aw20_ck : ckP mid0.s mid0.k aw20 = .ok true 9 := by kernel_rfl
theorem aw19_go : go askK.rd mid0 ([] ++ aw19) = ⟨[], 0, mid0, aw19⟩ := go_wait aw19_ck
theorem aw20_go : go askK.rd mid0 (aw19 ++ [107]) = ⟨[aw8], 0, mid0, []⟩ := by
 have e : aw19 ++ [107] = aw20 := rfl
 rw [e, go_some (x := aw8) aw20_ck ?_]
 ·rw [show aw20.drop (9 + 11) = [] from rfl, go_wait (ckP_nil _ _)]; rfl
 ·rw [show (mid0.next aw20 9).c = rqC aw8 from by rw [aw8_c]; rfl]
  exact rdRq_put aw8 aw8_ok aw8_fit aw8_b
set_option maxRecDepth 20000 in
set_option maxHeartbeats 4000000 in
theorem awake_any (w : World) : Calls Try.prog 29 #[] w fun e w' => e = .returned (.bool true) ∧ Below w.heap.size w w' := by
 go_enter Try.func29, Try.ntmps29
 go_wp2_with fail
 refine (ask_any w aw8 none 0 0 Rd.nil aw8_b (by omega)).mono ?_
 rintro e w1 ⟨v1, rfl, hO⟩
 rw [aw8_ask] at hO ⊢
 simp only at hO
 rw [show aw20.length = 20 from rfl] at hO
 have hbel : Below w.heap.size w w1 := hO.below (fun k h => by cases h) (Nat.le_refl _)
 obtain ⟨g1, c1, hv1, hcp⟩ : ∃ g1 c1, v1 = .slice (some ⟨g1, 0, none⟩) 20 c1 ∧ 20 ≤ c1 := by
  rcases hO.own.2 with h2 | ⟨g, cap, cur, hv, hb, hg, hn, _⟩
  ·omega
  ·exact ⟨g, cap, hv, hn⟩
 subst hv1
 have hrd := Rd.of_own hO.own
 have H1 : Hd (Below w.heap.size w w1 ∧ Rd w1 w1.heap.size (some ⟨g1, 0, none⟩) 20 (cb aw20) ∧ 20 ≤ c1) := ⟨hbel, hrd, hcp⟩
 obtain ⟨gg, off, he, hlt, hcell⟩ := hrd.2 (by omega)
 injection he with he; injection he with he1 he2
 subst he1 he2
 have x0 : w1.cell? ⟨g1, 0, none⟩ = some (.int .u8 2) := by have := hcell 0 (by omega); simpa [cb, bv, aw20] using this
 have x1 : w1.cell? ⟨g1, 1, none⟩ = some (.int .u8 9) := by have := hcell 1 (by omega); simpa [cb, bv, aw20] using this
 have x7 : w1.cell? ⟨g1, 7, none⟩ = some (.int .u8 8) := by have := hcell 7 (by omega); simpa [cb, bv, aw20] using this
 have x8 : w1.cell? ⟨g1, 8, none⟩ = some (.int .u8 5) := by have := hcell 8 (by omega); simpa [cb, bv, aw20] using this
 clear hO hbel hcp hrd hcell hlt
 go_wp2_with fail
 refine (asks_new w1).mono ?_
 rintro e w2 ⟨rfl, hr2, hb2⟩
 have H2 := Hd.mk (And.intro hr2 (And.intro hb2 (H1.out.2.1.below (hb2.mono (Nat.le_refl _)))))
 clear hr2 hb2 x0 x1 x7 x8
 obtain ⟨gr, hgr⟩ : ∃ q, w1.heap.size = q := ⟨_, rfl⟩
 have HGR := Hd.mk hgr
 rw [hgr] at H2 ⊢
 clear hgr
 have s1 : (Instr.slice 26 (.slice (some ⟨g1, 0, none⟩) 20 c1) none (some (.int .i64 19)) none).run Try.prog w2 = .ok (.slice (some ⟨g1, 0, none⟩) 19 c1) w2 := run_cut_to elB _ 20 c1 19 (by have := H1.out.2.2; omega)
 have hrd19 : Hd (Rd w2 w2.heap.size (some ⟨g1, 0, none⟩) 19 (cb aw19)) := ⟨by
  have h1 := H2.out.2.2
  have h2 := H2.out.2.1.size
  have h3 := HGR.out
  refine ⟨rfl, fun _ => ?_⟩
  obtain ⟨gg, off, he, hlt, hcell⟩ := h1.2 (by omega)
  refine ⟨gg, off, he, by omega, fun i hi => ?_⟩
  rw [hcell i (by omega)]
  have : cb aw20 = cb aw19 ++ cb [107] := rfl
  rw [this, List.getElem?_append_left (by rw [show (cb aw19).length = 19 from rfl]; exact hi)]⟩
 go_wp2_with fail
 refine (push_any askK msgLaw_ask gr w2 gr (.slice none 0 0) (.slice none 0 0) (.slice none 0 0) [] mid0 0 [] [] H2.out.1 (some ⟨g1, 0, none⟩) 19 c1 aw19 hrd19.out (by decide) MidOk.zero (by simp)).mono ?_
 intro e w3 hp
 rw [aw19_go] at hp
 obtain ⟨vl3, vc3, vq3, L3, m3, C3, nw3, rfl, hr3, hm3, _, hc3, _⟩ := hp
 have hm3' : m3 = mid0 ∧ L3 = aw19 ∧ MidOk m3 := hm3 rfl
 obtain ⟨rfl, rfl, _⟩ := hm3'
 have hr3' : RdS askK gr w3 gr vl3 vc3 vq3 aw19 mid0.c mid0.s C3 mid0.k mid0.p 0 nw3 [] := hr3
 have hn3 : nw3 = [] := List.eq_nil_of_length_eq_zero hr3'.is.len
 subst hn3
 have hb3 : Below gr w2 w3 := hc3.below (by have := H2.out.1.lt; omega) fun y hy => (H2.out.1.ltX hy).1
 have H3 := Hd.mk (And.intro hr3' (And.intro hb3 (H2.out.2.2.below hb3)))
 clear hm3 hr3 hr3' hc3 hb3 hrd19 s1
 go_wp2_with fail
 refine (held_any askK gr w3 gr vl3 vc3 vq3 aw19 mid0.c mid0.s C3 mid0.k mid0.p 0 [] [] H3.out.1 ⟨fun _ => by decide⟩ (by decide)).mono ?_
 rintro e w4 ⟨rfl, hb4⟩
 rw [show (((if (0 : Int) = 0 then mid0.p + aw19.length else 0 : Nat)) : Int) = 19 from rfl]
 have hlt4 : gr ≤ w3.heap.size := by have := H3.out.1.lt; omega
 have H4 := Hd.mk (And.intro (H3.out.1.below hb4) (And.intro (H3.out.2.1.trans (hb4.mono hlt4)) (H3.out.2.2.below (hb4.mono hlt4))))
 have s2 : (Instr.slice 26 (.slice (some ⟨g1, 0, none⟩) 20 c1) (some (.int .i64 19)) none none).run Try.prog w4 = .ok (.slice (cutA (some ⟨g1, 0, none⟩) c1 19) 1 (c1 - 19)) w4 := run_cut_from elB _ 20 c1 19 (by omega)
 have hrd1 : Hd (Rd w4 w4.heap.size (cutA (some ⟨g1, 0, none⟩) c1 19) 1 (cb [107])) := ⟨(H4.out.2.2.cut (l := 19) (h := 20) (by omega) (by omega) H1.out.2.2).more (by have := H4.out.1.lt; omega)⟩
 clear hb4 hlt4 H3
 go_wp2_with fail
 refine (push_any askK msgLaw_ask gr w4 gr vl3 vc3 vq3 aw19 mid0 C3 [] [] H4.out.1 (cutA (some ⟨g1, 0, none⟩) c1 19) 1 (c1 - 19) [107] hrd1.out (by decide) MidOk.zero (by decide)).mono ?_
 intro e w5 hp
 rw [aw20_go] at hp
 obtain ⟨vl5, vc5, vq5, L5, m5, C5, nw5, rfl, hr5, hm5, _, hc5, _⟩ := hp
 have hm5' : m5 = mid0 ∧ L5 = [] ∧ MidOk m5 := hm5 rfl
 obtain ⟨rfl, rfl, _⟩ := hm5'
 have hr5' : RdS askK gr w5 gr vl5 vc5 vq5 [] mid0.c mid0.s C5 mid0.k mid0.p 0 nw5 [aw8] := hr5
 obtain ⟨vb, hn5⟩ : ∃ vb, nw5 = [rqW aw8 vb] := by
  have hl := hr5'.is.len
  have hi := hr5'.is
  rcases nw5 with _ | ⟨V, _ | ⟨V2, t⟩⟩
  ·simp at hl
  ·obtain ⟨vb, rfl⟩ : rqIs V aw8 := hi.1
   exact ⟨vb, rfl⟩
  ·simp at hl
 subst hn5
 have hvb := (hr5'.ok (rqW aw8 vb) (by simp)) _ (List.mem_singleton.2 rfl)
 obtain ⟨Ab, cb5, hvb1, _⟩ := own_form hvb
 have hvb2 : vb = .slice Ab 0 cb5 := hvb1
 subst hvb2
 have hb5 : Below gr w4 w5 := hc5.below (by have := H4.out.1.lt; omega) fun y hy => (H4.out.1.ltX hy).1
 have H5 := Hd.mk (And.intro hr5' (H4.out.2.1.trans hb5))
 clear hm5 hr5 hr5' hc5 hb5 hrd1 s2 hvb hvb1 H4
 go_wp2_with fail
 refine (some_ask gr w5 gr vl5 vc5 vq5 [] mid0.c mid0.s C5 mid0.k mid0.p 0 (rqW aw8 (.slice Ab 0 cb5)) [] aw8 [] H5.out.1).mono ?_
 rintro e w6 ⟨rfl, vq6, hr6, hc6, _⟩
 have hcl : (rqW aw8 (.slice Ab 0 cb5)).cells.toArray = #[.int .i64 8, .int .u64 5, .string emS, .string emS, .int .i64 0, .int .i64 0, .int .i64 0, .slice Ab 0 cb5] := rfl
 rw [hcl]
 have hb6 : Below gr w5 w6 := hc6.below (by have := H5.out.1.lt; omega) fun y hy => by rw [List.mem_singleton.1 hy]; exact Nat.le_refl _
 have H6 : Hd (Below w.heap.size w w6) := ⟨by
  have h0 := H1.out.1.size
  have h1 := HGR.out
  exact ((H1.out.1.trans (H2.out.2.1.mono (by omega))).trans (H5.out.2.mono (by omega))).trans (hb6.mono (by omega))⟩
 clear hcl hb6 hr6 hc6 H5 H2 H1 HGR
 go_upto_region 8 with (refine at_store (x := .tmp 4) ?_; refine wpList_boxed rfl 28 (.tmp 4) (.tmp 67) rfl w6.heap.size rfl #[.int .i64 8, .int .u64 5, .string emS, .string emS, .int .i64 0, .int .i64 0, .int .i64 0, .slice Ab 0 cb5] rfl rfl infoRq8 rfl (by simp [Value.oneCell']) ?_; intro w7 hB7)
 obtain ⟨gb, hgb⟩ : ∃ q, w6.heap.size = q := ⟨_, rfl⟩
 have HB7 : Hd (w7.heap[gb]? = some (.cells #[.int .i64 8, .int .u64 5, .string emS, .string emS, .int .i64 0, .int .i64 0, .int .i64 0, .slice Ab 0 cb5] 28) ∧ Below w.heap.size w w7) := ⟨by rw [← hgb]; exact hB7.out.1, H6.out.trans (hB7.out.2.1.mono H6.out.size)⟩
 rw [hgb]
 have y0 : w7.cell? ⟨gb, 0, none⟩ = some (.int .i64 8) := by rw [cell_of_row _ gb 0 _ _ (0, 0) HB7.out.1]; rfl
 have y1 : w7.cell? ⟨gb, 1, none⟩ = some (.int .u64 5) := by rw [cell_of_row _ gb 1 _ _ (0, 0) HB7.out.1]; rfl
 clear hgb hB7 H6
 go_wp2_with fail
 go_ret
 exact ⟨rfl, HB7.out.2⟩
end Go.Proofs.Ytbcmjjcbjojakaa
end
section
namespace Go.Proofs.Ytbcmjjcbjojakaa
open Go.RowKit
set_option linter.unusedVariables false
set_option linter.unusedSimpArgs false
set_option maxRecDepth 20000 in
set_option maxHeartbeats 4000000 in
theorem equal_any (w : World) (k : Int) (tag : Nat) (key after : ByteArray) (off num delim : Int) (body : List Nat) (A A' : Option Addr) (n n' c c' B : Nat) (h1 : Rd w B A n (cb body)) (h2 : Rd w B A' n' (cb body)) (hB : B ≤ w.heap.size) :
  Calls Try.prog 31 #[.agg #[.int .i64 k, .int .u64 (tag : Int), .string key, .string after, .int .i64 off, .int .i64 num, .int .i64 delim, .slice A n c], .agg #[.int .i64 k, .int .u64 (tag : Int), .string key, .string after, .int .i64 off, .int .i64 num, .int .i64 delim, .slice A' n' c']] w fun e w' => e = .returned (.bool true) ∧ Below w.heap.size w w' := by
 obtain ⟨S, hS⟩ : ∃ S, bstr body = S := ⟨_, rfl⟩
 have HH := Hd.mk (And.intro h1 (And.intro h2 (And.intro hB hS)))
 clear h1 h2 hB hS
 go_enter Try.func31, Try.ntmps31
 go_upto_region 1 with fail
 obtain ⟨W, hW⟩ : ∃ W, (w.alloc (.cells #[.int .i64 k, .int .u64 (tag : Int), .string key, .string after, .int .i64 off, .int .i64 num, .int .i64 delim, .slice A n c] 28)).alloc (.cells #[.int .i64 k, .int .u64 (tag : Int), .string key, .string after, .int .i64 off, .int .i64 num, .int .i64 delim, .slice A' n' c'] 28) = W := ⟨_, rfl⟩
 obtain ⟨g, hg⟩ : ∃ g, w.heap.size = g := ⟨_, rfl⟩
 have hb : Below w.heap.size w W := by rw [← hW]; exact ((Below.refl _ w).alloc (Nat.le_refl _) _).alloc (by simp) _
 have hg1 : W.heap[g]? = some (.cells #[.int .i64 k, .int .u64 (tag : Int), .string key, .string after, .int .i64 off, .int .i64 num, .int .i64 delim, .slice A n c] 28) := by rw [← hW, ← hg, heap_alloc_old _ _ (by simp)]; exact heap_alloc_new w _
 have hg2 : W.heap[g + 1]? = some (.cells #[.int .i64 k, .int .u64 (tag : Int), .string key, .string after, .int .i64 off, .int .i64 num, .int .i64 delim, .slice A' n' c'] 28) := by rw [← hW, ← hg]; have h := heap_alloc_new (w.alloc (.cells #[.int .i64 k, .int .u64 (tag : Int), .string key, .string after, .int .i64 off, .int .i64 num, .int .i64 delim, .slice A n c] 28)) (.cells #[.int .i64 k, .int .u64 (tag : Int), .string key, .string after, .int .i64 off, .int .i64 num, .int .i64 delim, .slice A' n' c'] 28); simpa using h
 rw [hW]
 (try rw [hg])
 have f1 : (convert 26 9 (.slice A n c)).run Try.prog W = .ok (.string S) W := by rw [← HH.out.2.2.2]; exact conv_any (HH.out.1.below (hb.mono HH.out.2.2.1))
 have f2 : (convert 26 9 (.slice A' n' c')).run Try.prog W = .ok (.string S) W := by rw [← HH.out.2.2.2]; exact conv_any (HH.out.2.1.below (hb.mono HH.out.2.2.1))
 have c0 : W.cell? ⟨g, 0, none⟩ = some (.int .i64 k) := by rw [cell_of_row W g 0 _ _ (0, 0) hg1]; rfl
 have c1 : W.cell? ⟨g, 1, none⟩ = some (.int .u64 (tag : Int)) := by rw [cell_of_row W g 1 _ _ (0, 0) hg1]; rfl
 have c2 : W.cell? ⟨g, 2, none⟩ = some (.string key) := by rw [cell_of_row W g 2 _ _ (0, 0) hg1]; rfl
 have c3 : W.cell? ⟨g, 3, none⟩ = some (.string after) := by rw [cell_of_row W g 3 _ _ (0, 0) hg1]; rfl
 have c4 : W.cell? ⟨g, 4, none⟩ = some (.int .i64 off) := by rw [cell_of_row W g 4 _ _ (0, 0) hg1]; rfl
 have c5 : W.cell? ⟨g, 5, none⟩ = some (.int .i64 num) := by rw [cell_of_row W g 5 _ _ (0, 0) hg1]; rfl
 have c6 : W.cell? ⟨g, 6, none⟩ = some (.int .i64 delim) := by rw [cell_of_row W g 6 _ _ (0, 0) hg1]; rfl
 have c7 : W.cell? ⟨g, 7, none⟩ = some (.slice A n c) := by rw [cell_of_row W g 7 _ _ (0, 0) hg1]; rfl
 have d0 : W.cell? ⟨g + 1, 0, none⟩ = some (.int .i64 k) := by rw [cell_of_row W (g + 1) 0 _ _ (0, 0) hg2]; rfl
 have d1 : W.cell? ⟨g + 1, 1, none⟩ = some (.int .u64 (tag : Int)) := by rw [cell_of_row W (g + 1) 1 _ _ (0, 0) hg2]; rfl
 have d2 : W.cell? ⟨g + 1, 2, none⟩ = some (.string key) := by rw [cell_of_row W (g + 1) 2 _ _ (0, 0) hg2]; rfl
 have d3 : W.cell? ⟨g + 1, 3, none⟩ = some (.string after) := by rw [cell_of_row W (g + 1) 3 _ _ (0, 0) hg2]; rfl
 have d4 : W.cell? ⟨g + 1, 4, none⟩ = some (.int .i64 off) := by rw [cell_of_row W (g + 1) 4 _ _ (0, 0) hg2]; rfl
 have d5 : W.cell? ⟨g + 1, 5, none⟩ = some (.int .i64 num) := by rw [cell_of_row W (g + 1) 5 _ _ (0, 0) hg2]; rfl
 have d6 : W.cell? ⟨g + 1, 6, none⟩ = some (.int .i64 delim) := by rw [cell_of_row W (g + 1) 6 _ _ (0, 0) hg2]; rfl
 have d7 : W.cell? ⟨g + 1, 7, none⟩ = some (.slice A' n' c') := by rw [cell_of_row W (g + 1) 7 _ _ (0, 0) hg2]; rfl
 have HB := Hd.mk hb
 clear hW hg hb hg1 hg2 HH
 go_wp2_with fail
 all_goals
  go_ret
  clear f1 f2
  refine ⟨ret_bool ?_, HB.out⟩
  first | rfl | (simp; done)
set_option maxRecDepth 20000 in
set_option maxHeartbeats 8000000 in
theorem equalAn_any (w : World) (k : Int) (tag : Nat) (code : Int) (next : ByteArray) (more : Bool) (ge gc size h1 h2 h3 h4 : Int) (body : List Nat) (keys groups : List ByteArray) (A1 B1 A2 B2 A3 B3 : Option Addr) (n1 m1 c1 d1 n2 c2 d2 n3 c3 d3 B : Nat) (q1 : Rd w B A1 n1 (cb body)) (q2 : Rd w B B1 m1 (cb body)) (q3 : Rd w B A2 n2 (cs keys)) (q4 : Rd w B B2 n2 (cs keys)) (q5 : Rd w B A3 n3 (cs groups)) (q6 : Rd w B B3 n3 (cs groups)) (hB : B ≤ w.heap.size) (k1 : n2 ≤ 8796093022000) (k2 : n3 ≤ 8796093022000) :
  Calls Try.prog 32 #[.agg #[.int .i64 k, .int .u64 (tag : Int), .int .i64 code, .slice A1 n1 c1, .slice A2 n2 c2, .slice A3 n3 c3, .string next, .bool more, .int .i64 ge, .int .i64 gc, .int .i64 size, .int .i64 h1, .int .i64 h2, .int .i64 h3, .int .i64 h4], .agg #[.int .i64 k, .int .u64 (tag : Int), .int .i64 code, .slice B1 m1 d1, .slice B2 n2 d2, .slice B3 n3 d3, .string next, .bool more, .int .i64 ge, .int .i64 gc, .int .i64 size, .int .i64 h1, .int .i64 h2, .int .i64 h3, .int .i64 h4]] w fun e w' => e = .returned (.bool true) ∧ Below w.heap.size w w' := by
 obtain ⟨S, hS⟩ : ∃ S, bstr body = S := ⟨_, rfl⟩
 have HH := Hd.mk (And.intro q1 (And.intro q2 (And.intro q3 (And.intro q4 (And.intro q5 (And.intro q6 (And.intro hB hS)))))))
 clear q1 q2 q3 q4 q5 q6 hB hS
 obtain ⟨W, hW⟩ : ∃ W, (w.alloc (.cells #[.int .i64 k, .int .u64 (tag : Int), .int .i64 code, .slice A1 n1 c1, .slice A2 n2 c2, .slice A3 n3 c3, .string next, .bool more, .int .i64 ge, .int .i64 gc, .int .i64 size, .int .i64 h1, .int .i64 h2, .int .i64 h3, .int .i64 h4] 43)).alloc (.cells #[.int .i64 k, .int .u64 (tag : Int), .int .i64 code, .slice B1 m1 d1, .slice B2 n2 d2, .slice B3 n3 d3, .string next, .bool more, .int .i64 ge, .int .i64 gc, .int .i64 size, .int .i64 h1, .int .i64 h2, .int .i64 h3, .int .i64 h4] 43) = W := ⟨_, rfl⟩
 obtain ⟨g, hg⟩ : ∃ g, w.heap.size = g := ⟨_, rfl⟩
 have hb : Below w.heap.size w W := by rw [← hW]; exact ((Below.refl _ w).alloc (Nat.le_refl _) _).alloc (by simp) _
 have hg1 : W.heap[g]? = some (.cells #[.int .i64 k, .int .u64 (tag : Int), .int .i64 code, .slice A1 n1 c1, .slice A2 n2 c2, .slice A3 n3 c3, .string next, .bool more, .int .i64 ge, .int .i64 gc, .int .i64 size, .int .i64 h1, .int .i64 h2, .int .i64 h3, .int .i64 h4] 43) := by rw [← hW, ← hg, heap_alloc_old _ _ (by simp)]; exact heap_alloc_new w _
 have hg2 : W.heap[g + 1]? = some (.cells #[.int .i64 k, .int .u64 (tag : Int), .int .i64 code, .slice B1 m1 d1, .slice B2 n2 d2, .slice B3 n3 d3, .string next, .bool more, .int .i64 ge, .int .i64 gc, .int .i64 size, .int .i64 h1, .int .i64 h2, .int .i64 h3, .int .i64 h4] 43) := by rw [← hW, ← hg]; have h := heap_alloc_new (w.alloc (.cells #[.int .i64 k, .int .u64 (tag : Int), .int .i64 code, .slice A1 n1 c1, .slice A2 n2 c2, .slice A3 n3 c3, .string next, .bool more, .int .i64 ge, .int .i64 gc, .int .i64 size, .int .i64 h1, .int .i64 h2, .int .i64 h3, .int .i64 h4] 43)) (.cells #[.int .i64 k, .int .u64 (tag : Int), .int .i64 code, .slice B1 m1 d1, .slice B2 n2 d2, .slice B3 n3 d3, .string next, .bool more, .int .i64 ge, .int .i64 gc, .int .i64 size, .int .i64 h1, .int .i64 h2, .int .i64 h3, .int .i64 h4] 43); simpa using h
 have HG := Hd.mk (And.intro hg1 (And.intro hg2 hb))
 clear hg1 hg2 hb
 go_enter Try.func32, Try.ntmps32
 go_upto_region 1 with fail
 (try rw [hW])
 (try rw [hg])
 clear hW hg
 have f1 : (convert 26 9 (.slice A1 n1 c1)).run Try.prog W = .ok (.string S) W := by rw [← HH.out.2.2.2.2.2.2.2]; exact conv_any (HH.out.1.below (HG.out.2.2.mono HH.out.2.2.2.2.2.2.1))
 have f2 : (convert 26 9 (.slice B1 m1 d1)).run Try.prog W = .ok (.string S) W := by rw [← HH.out.2.2.2.2.2.2.2]; exact conv_any (HH.out.2.1.below (HG.out.2.2.mono HH.out.2.2.2.2.2.2.1))
 have ca0 : W.cell? ⟨g, 0, none⟩ = some (.int .i64 k) := by rw [cell_of_row W g 0 _ _ (0, 0) HG.out.1]; rfl
 have ca1 : W.cell? ⟨g, 1, none⟩ = some (.int .u64 (tag : Int)) := by rw [cell_of_row W g 1 _ _ (0, 0) HG.out.1]; rfl
 have ca2 : W.cell? ⟨g, 2, none⟩ = some (.int .i64 code) := by rw [cell_of_row W g 2 _ _ (0, 0) HG.out.1]; rfl
 have ca3 : W.cell? ⟨g, 3, none⟩ = some (.slice A1 n1 c1) := by rw [cell_of_row W g 3 _ _ (0, 0) HG.out.1]; rfl
 have ca4 : W.cell? ⟨g, 4, none⟩ = some (.slice A2 n2 c2) := by rw [cell_of_row W g 4 _ _ (0, 0) HG.out.1]; rfl
 have ca5 : W.cell? ⟨g, 5, none⟩ = some (.slice A3 n3 c3) := by rw [cell_of_row W g 5 _ _ (0, 0) HG.out.1]; rfl
 have ca6 : W.cell? ⟨g, 6, none⟩ = some (.string next) := by rw [cell_of_row W g 6 _ _ (0, 0) HG.out.1]; rfl
 have ca7 : W.cell? ⟨g, 7, none⟩ = some (.bool more) := by rw [cell_of_row W g 7 _ _ (0, 0) HG.out.1]; rfl
 have ca8 : W.cell? ⟨g, 8, none⟩ = some (.int .i64 ge) := by rw [cell_of_row W g 8 _ _ (0, 0) HG.out.1]; rfl
 have ca9 : W.cell? ⟨g, 9, none⟩ = some (.int .i64 gc) := by rw [cell_of_row W g 9 _ _ (0, 0) HG.out.1]; rfl
 have ca10 : W.cell? ⟨g, 10, none⟩ = some (.int .i64 size) := by rw [cell_of_row W g 10 _ _ (0, 0) HG.out.1]; rfl
 have ca11 : W.cell? ⟨g, 11, none⟩ = some (.int .i64 h1) := by rw [cell_of_row W g 11 _ _ (0, 0) HG.out.1]; rfl
 have ca12 : W.cell? ⟨g, 12, none⟩ = some (.int .i64 h2) := by rw [cell_of_row W g 12 _ _ (0, 0) HG.out.1]; rfl
 have ca13 : W.cell? ⟨g, 13, none⟩ = some (.int .i64 h3) := by rw [cell_of_row W g 13 _ _ (0, 0) HG.out.1]; rfl
 have ca14 : W.cell? ⟨g, 14, none⟩ = some (.int .i64 h4) := by rw [cell_of_row W g 14 _ _ (0, 0) HG.out.1]; rfl
 have da0 : W.cell? ⟨g + 1, 0, none⟩ = some (.int .i64 k) := by rw [cell_of_row W (g + 1) 0 _ _ (0, 0) HG.out.2.1]; rfl
 have da1 : W.cell? ⟨g + 1, 1, none⟩ = some (.int .u64 (tag : Int)) := by rw [cell_of_row W (g + 1) 1 _ _ (0, 0) HG.out.2.1]; rfl
 have da2 : W.cell? ⟨g + 1, 2, none⟩ = some (.int .i64 code) := by rw [cell_of_row W (g + 1) 2 _ _ (0, 0) HG.out.2.1]; rfl
 have da3 : W.cell? ⟨g + 1, 3, none⟩ = some (.slice B1 m1 d1) := by rw [cell_of_row W (g + 1) 3 _ _ (0, 0) HG.out.2.1]; rfl
 have da4 : W.cell? ⟨g + 1, 4, none⟩ = some (.slice B2 n2 d2) := by rw [cell_of_row W (g + 1) 4 _ _ (0, 0) HG.out.2.1]; rfl
 have da5 : W.cell? ⟨g + 1, 5, none⟩ = some (.slice B3 n3 d3) := by rw [cell_of_row W (g + 1) 5 _ _ (0, 0) HG.out.2.1]; rfl
 have da6 : W.cell? ⟨g + 1, 6, none⟩ = some (.string next) := by rw [cell_of_row W (g + 1) 6 _ _ (0, 0) HG.out.2.1]; rfl
 have da7 : W.cell? ⟨g + 1, 7, none⟩ = some (.bool more) := by rw [cell_of_row W (g + 1) 7 _ _ (0, 0) HG.out.2.1]; rfl
 have da8 : W.cell? ⟨g + 1, 8, none⟩ = some (.int .i64 ge) := by rw [cell_of_row W (g + 1) 8 _ _ (0, 0) HG.out.2.1]; rfl
 have da9 : W.cell? ⟨g + 1, 9, none⟩ = some (.int .i64 gc) := by rw [cell_of_row W (g + 1) 9 _ _ (0, 0) HG.out.2.1]; rfl
 have da10 : W.cell? ⟨g + 1, 10, none⟩ = some (.int .i64 size) := by rw [cell_of_row W (g + 1) 10 _ _ (0, 0) HG.out.2.1]; rfl
 have da11 : W.cell? ⟨g + 1, 11, none⟩ = some (.int .i64 h1) := by rw [cell_of_row W (g + 1) 11 _ _ (0, 0) HG.out.2.1]; rfl
 have da12 : W.cell? ⟨g + 1, 12, none⟩ = some (.int .i64 h2) := by rw [cell_of_row W (g + 1) 12 _ _ (0, 0) HG.out.2.1]; rfl
 have da13 : W.cell? ⟨g + 1, 13, none⟩ = some (.int .i64 h3) := by rw [cell_of_row W (g + 1) 13 _ _ (0, 0) HG.out.2.1]; rfl
 have da14 : W.cell? ⟨g + 1, 14, none⟩ = some (.int .i64 h4) := by rw [cell_of_row W (g + 1) 14 _ _ (0, 0) HG.out.2.1]; rfl
 go_wp2_with fail
 refine (sameTexts_any W A2 B2 n2 c2 d2 B keys (HH.out.2.2.1.below (HG.out.2.2.mono HH.out.2.2.2.2.2.2.1)) (HH.out.2.2.2.1.below (HG.out.2.2.mono HH.out.2.2.2.2.2.2.1)) k1).mono ?_
 rintro e W1 ⟨rfl, hb1⟩
 have lt2 : g + 1 < W.heap.size := (Array.getElem?_eq_some_iff.1 HG.out.2.1).1
 have HG' : Hd (W1.heap[g]? = some (.cells #[.int .i64 k, .int .u64 (tag : Int), .int .i64 code, .slice A1 n1 c1, .slice A2 n2 c2, .slice A3 n3 c3, .string next, .bool more, .int .i64 ge, .int .i64 gc, .int .i64 size, .int .i64 h1, .int .i64 h2, .int .i64 h3, .int .i64 h4] 43) ∧ W1.heap[g + 1]? = some (.cells #[.int .i64 k, .int .u64 (tag : Int), .int .i64 code, .slice B1 m1 d1, .slice B2 n2 d2, .slice B3 n3 d3, .string next, .bool more, .int .i64 ge, .int .i64 gc, .int .i64 size, .int .i64 h1, .int .i64 h2, .int .i64 h3, .int .i64 h4] 43) ∧ Below w.heap.size w W1) := ⟨by rw [hb1.block g (by omega)]; exact HG.out.1, by rw [hb1.block (g + 1) lt2]; exact HG.out.2.1, HG.out.2.2.trans (hb1.mono HG.out.2.2.size)⟩
 clear HG hb1 lt2 f1 f2 ca0 da0 ca1 da1 ca2 da2 ca3 da3 ca4 da4 ca5 da5 ca6 da6 ca7 da7 ca8 da8 ca9 da9 ca10 da10 ca11 da11 ca12 da12 ca13 da13 ca14 da14
 have HG := HG'
 clear HG'
 have ca0 : W1.cell? ⟨g, 0, none⟩ = some (.int .i64 k) := by rw [cell_of_row W1 g 0 _ _ (0, 0) HG.out.1]; rfl
 have ca1 : W1.cell? ⟨g, 1, none⟩ = some (.int .u64 (tag : Int)) := by rw [cell_of_row W1 g 1 _ _ (0, 0) HG.out.1]; rfl
 have ca2 : W1.cell? ⟨g, 2, none⟩ = some (.int .i64 code) := by rw [cell_of_row W1 g 2 _ _ (0, 0) HG.out.1]; rfl
 have ca3 : W1.cell? ⟨g, 3, none⟩ = some (.slice A1 n1 c1) := by rw [cell_of_row W1 g 3 _ _ (0, 0) HG.out.1]; rfl
 have ca4 : W1.cell? ⟨g, 4, none⟩ = some (.slice A2 n2 c2) := by rw [cell_of_row W1 g 4 _ _ (0, 0) HG.out.1]; rfl
 have ca5 : W1.cell? ⟨g, 5, none⟩ = some (.slice A3 n3 c3) := by rw [cell_of_row W1 g 5 _ _ (0, 0) HG.out.1]; rfl
 have ca6 : W1.cell? ⟨g, 6, none⟩ = some (.string next) := by rw [cell_of_row W1 g 6 _ _ (0, 0) HG.out.1]; rfl
 have ca7 : W1.cell? ⟨g, 7, none⟩ = some (.bool more) := by rw [cell_of_row W1 g 7 _ _ (0, 0) HG.out.1]; rfl
 have ca8 : W1.cell? ⟨g, 8, none⟩ = some (.int .i64 ge) := by rw [cell_of_row W1 g 8 _ _ (0, 0) HG.out.1]; rfl
 have ca9 : W1.cell? ⟨g, 9, none⟩ = some (.int .i64 gc) := by rw [cell_of_row W1 g 9 _ _ (0, 0) HG.out.1]; rfl
 have ca10 : W1.cell? ⟨g, 10, none⟩ = some (.int .i64 size) := by rw [cell_of_row W1 g 10 _ _ (0, 0) HG.out.1]; rfl
 have ca11 : W1.cell? ⟨g, 11, none⟩ = some (.int .i64 h1) := by rw [cell_of_row W1 g 11 _ _ (0, 0) HG.out.1]; rfl
 have ca12 : W1.cell? ⟨g, 12, none⟩ = some (.int .i64 h2) := by rw [cell_of_row W1 g 12 _ _ (0, 0) HG.out.1]; rfl
 have ca13 : W1.cell? ⟨g, 13, none⟩ = some (.int .i64 h3) := by rw [cell_of_row W1 g 13 _ _ (0, 0) HG.out.1]; rfl
 have ca14 : W1.cell? ⟨g, 14, none⟩ = some (.int .i64 h4) := by rw [cell_of_row W1 g 14 _ _ (0, 0) HG.out.1]; rfl
 have da0 : W1.cell? ⟨g + 1, 0, none⟩ = some (.int .i64 k) := by rw [cell_of_row W1 (g + 1) 0 _ _ (0, 0) HG.out.2.1]; rfl
 have da1 : W1.cell? ⟨g + 1, 1, none⟩ = some (.int .u64 (tag : Int)) := by rw [cell_of_row W1 (g + 1) 1 _ _ (0, 0) HG.out.2.1]; rfl
 have da2 : W1.cell? ⟨g + 1, 2, none⟩ = some (.int .i64 code) := by rw [cell_of_row W1 (g + 1) 2 _ _ (0, 0) HG.out.2.1]; rfl
 have da3 : W1.cell? ⟨g + 1, 3, none⟩ = some (.slice B1 m1 d1) := by rw [cell_of_row W1 (g + 1) 3 _ _ (0, 0) HG.out.2.1]; rfl
 have da4 : W1.cell? ⟨g + 1, 4, none⟩ = some (.slice B2 n2 d2) := by rw [cell_of_row W1 (g + 1) 4 _ _ (0, 0) HG.out.2.1]; rfl
 have da5 : W1.cell? ⟨g + 1, 5, none⟩ = some (.slice B3 n3 d3) := by rw [cell_of_row W1 (g + 1) 5 _ _ (0, 0) HG.out.2.1]; rfl
 have da6 : W1.cell? ⟨g + 1, 6, none⟩ = some (.string next) := by rw [cell_of_row W1 (g + 1) 6 _ _ (0, 0) HG.out.2.1]; rfl
 have da7 : W1.cell? ⟨g + 1, 7, none⟩ = some (.bool more) := by rw [cell_of_row W1 (g + 1) 7 _ _ (0, 0) HG.out.2.1]; rfl
 have da8 : W1.cell? ⟨g + 1, 8, none⟩ = some (.int .i64 ge) := by rw [cell_of_row W1 (g + 1) 8 _ _ (0, 0) HG.out.2.1]; rfl
 have da9 : W1.cell? ⟨g + 1, 9, none⟩ = some (.int .i64 gc) := by rw [cell_of_row W1 (g + 1) 9 _ _ (0, 0) HG.out.2.1]; rfl
 have da10 : W1.cell? ⟨g + 1, 10, none⟩ = some (.int .i64 size) := by rw [cell_of_row W1 (g + 1) 10 _ _ (0, 0) HG.out.2.1]; rfl
 have da11 : W1.cell? ⟨g + 1, 11, none⟩ = some (.int .i64 h1) := by rw [cell_of_row W1 (g + 1) 11 _ _ (0, 0) HG.out.2.1]; rfl
 have da12 : W1.cell? ⟨g + 1, 12, none⟩ = some (.int .i64 h2) := by rw [cell_of_row W1 (g + 1) 12 _ _ (0, 0) HG.out.2.1]; rfl
 have da13 : W1.cell? ⟨g + 1, 13, none⟩ = some (.int .i64 h3) := by rw [cell_of_row W1 (g + 1) 13 _ _ (0, 0) HG.out.2.1]; rfl
 have da14 : W1.cell? ⟨g + 1, 14, none⟩ = some (.int .i64 h4) := by rw [cell_of_row W1 (g + 1) 14 _ _ (0, 0) HG.out.2.1]; rfl
 go_wp2_with fail
 refine (sameTexts_any W1 A3 B3 n3 c3 d3 B groups (HH.out.2.2.2.2.1.below (HG.out.2.2.mono HH.out.2.2.2.2.2.2.1)) (HH.out.2.2.2.2.2.1.below (HG.out.2.2.mono HH.out.2.2.2.2.2.2.1)) k2).mono ?_
 rintro e W2 ⟨rfl, hb1⟩
 have lt2 : g + 1 < W1.heap.size := (Array.getElem?_eq_some_iff.1 HG.out.2.1).1
 have HG' : Hd (W2.heap[g]? = some (.cells #[.int .i64 k, .int .u64 (tag : Int), .int .i64 code, .slice A1 n1 c1, .slice A2 n2 c2, .slice A3 n3 c3, .string next, .bool more, .int .i64 ge, .int .i64 gc, .int .i64 size, .int .i64 h1, .int .i64 h2, .int .i64 h3, .int .i64 h4] 43) ∧ W2.heap[g + 1]? = some (.cells #[.int .i64 k, .int .u64 (tag : Int), .int .i64 code, .slice B1 m1 d1, .slice B2 n2 d2, .slice B3 n3 d3, .string next, .bool more, .int .i64 ge, .int .i64 gc, .int .i64 size, .int .i64 h1, .int .i64 h2, .int .i64 h3, .int .i64 h4] 43) ∧ Below w.heap.size w W2) := ⟨by rw [hb1.block g (by omega)]; exact HG.out.1, by rw [hb1.block (g + 1) lt2]; exact HG.out.2.1, HG.out.2.2.trans (hb1.mono HG.out.2.2.size)⟩
 clear HG hb1 lt2 ca0 da0 ca1 da1 ca2 da2 ca3 da3 ca4 da4 ca5 da5 ca6 da6 ca7 da7 ca8 da8 ca9 da9 ca10 da10 ca11 da11 ca12 da12 ca13 da13 ca14 da14
 have HG := HG'
 clear HG'
 have ca0 : W2.cell? ⟨g, 0, none⟩ = some (.int .i64 k) := by rw [cell_of_row W2 g 0 _ _ (0, 0) HG.out.1]; rfl
 have ca1 : W2.cell? ⟨g, 1, none⟩ = some (.int .u64 (tag : Int)) := by rw [cell_of_row W2 g 1 _ _ (0, 0) HG.out.1]; rfl
 have ca2 : W2.cell? ⟨g, 2, none⟩ = some (.int .i64 code) := by rw [cell_of_row W2 g 2 _ _ (0, 0) HG.out.1]; rfl
 have ca3 : W2.cell? ⟨g, 3, none⟩ = some (.slice A1 n1 c1) := by rw [cell_of_row W2 g 3 _ _ (0, 0) HG.out.1]; rfl
 have ca4 : W2.cell? ⟨g, 4, none⟩ = some (.slice A2 n2 c2) := by rw [cell_of_row W2 g 4 _ _ (0, 0) HG.out.1]; rfl
 have ca5 : W2.cell? ⟨g, 5, none⟩ = some (.slice A3 n3 c3) := by rw [cell_of_row W2 g 5 _ _ (0, 0) HG.out.1]; rfl
 have ca6 : W2.cell? ⟨g, 6, none⟩ = some (.string next) := by rw [cell_of_row W2 g 6 _ _ (0, 0) HG.out.1]; rfl
 have ca7 : W2.cell? ⟨g, 7, none⟩ = some (.bool more) := by rw [cell_of_row W2 g 7 _ _ (0, 0) HG.out.1]; rfl
 have ca8 : W2.cell? ⟨g, 8, none⟩ = some (.int .i64 ge) := by rw [cell_of_row W2 g 8 _ _ (0, 0) HG.out.1]; rfl
 have ca9 : W2.cell? ⟨g, 9, none⟩ = some (.int .i64 gc) := by rw [cell_of_row W2 g 9 _ _ (0, 0) HG.out.1]; rfl
 have ca10 : W2.cell? ⟨g, 10, none⟩ = some (.int .i64 size) := by rw [cell_of_row W2 g 10 _ _ (0, 0) HG.out.1]; rfl
 have ca11 : W2.cell? ⟨g, 11, none⟩ = some (.int .i64 h1) := by rw [cell_of_row W2 g 11 _ _ (0, 0) HG.out.1]; rfl
 have ca12 : W2.cell? ⟨g, 12, none⟩ = some (.int .i64 h2) := by rw [cell_of_row W2 g 12 _ _ (0, 0) HG.out.1]; rfl
 have ca13 : W2.cell? ⟨g, 13, none⟩ = some (.int .i64 h3) := by rw [cell_of_row W2 g 13 _ _ (0, 0) HG.out.1]; rfl
 have ca14 : W2.cell? ⟨g, 14, none⟩ = some (.int .i64 h4) := by rw [cell_of_row W2 g 14 _ _ (0, 0) HG.out.1]; rfl
 have da0 : W2.cell? ⟨g + 1, 0, none⟩ = some (.int .i64 k) := by rw [cell_of_row W2 (g + 1) 0 _ _ (0, 0) HG.out.2.1]; rfl
 have da1 : W2.cell? ⟨g + 1, 1, none⟩ = some (.int .u64 (tag : Int)) := by rw [cell_of_row W2 (g + 1) 1 _ _ (0, 0) HG.out.2.1]; rfl
 have da2 : W2.cell? ⟨g + 1, 2, none⟩ = some (.int .i64 code) := by rw [cell_of_row W2 (g + 1) 2 _ _ (0, 0) HG.out.2.1]; rfl
 have da3 : W2.cell? ⟨g + 1, 3, none⟩ = some (.slice B1 m1 d1) := by rw [cell_of_row W2 (g + 1) 3 _ _ (0, 0) HG.out.2.1]; rfl
 have da4 : W2.cell? ⟨g + 1, 4, none⟩ = some (.slice B2 n2 d2) := by rw [cell_of_row W2 (g + 1) 4 _ _ (0, 0) HG.out.2.1]; rfl
 have da5 : W2.cell? ⟨g + 1, 5, none⟩ = some (.slice B3 n3 d3) := by rw [cell_of_row W2 (g + 1) 5 _ _ (0, 0) HG.out.2.1]; rfl
 have da6 : W2.cell? ⟨g + 1, 6, none⟩ = some (.string next) := by rw [cell_of_row W2 (g + 1) 6 _ _ (0, 0) HG.out.2.1]; rfl
 have da7 : W2.cell? ⟨g + 1, 7, none⟩ = some (.bool more) := by rw [cell_of_row W2 (g + 1) 7 _ _ (0, 0) HG.out.2.1]; rfl
 have da8 : W2.cell? ⟨g + 1, 8, none⟩ = some (.int .i64 ge) := by rw [cell_of_row W2 (g + 1) 8 _ _ (0, 0) HG.out.2.1]; rfl
 have da9 : W2.cell? ⟨g + 1, 9, none⟩ = some (.int .i64 gc) := by rw [cell_of_row W2 (g + 1) 9 _ _ (0, 0) HG.out.2.1]; rfl
 have da10 : W2.cell? ⟨g + 1, 10, none⟩ = some (.int .i64 size) := by rw [cell_of_row W2 (g + 1) 10 _ _ (0, 0) HG.out.2.1]; rfl
 have da11 : W2.cell? ⟨g + 1, 11, none⟩ = some (.int .i64 h1) := by rw [cell_of_row W2 (g + 1) 11 _ _ (0, 0) HG.out.2.1]; rfl
 have da12 : W2.cell? ⟨g + 1, 12, none⟩ = some (.int .i64 h2) := by rw [cell_of_row W2 (g + 1) 12 _ _ (0, 0) HG.out.2.1]; rfl
 have da13 : W2.cell? ⟨g + 1, 13, none⟩ = some (.int .i64 h3) := by rw [cell_of_row W2 (g + 1) 13 _ _ (0, 0) HG.out.2.1]; rfl
 have da14 : W2.cell? ⟨g + 1, 14, none⟩ = some (.int .i64 h4) := by rw [cell_of_row W2 (g + 1) 14 _ _ (0, 0) HG.out.2.1]; rfl
 go_wp2_with fail
 all_goals
  go_ret
  refine ⟨ret_bool ?_, HG.out.2.2⟩
  first | rfl | (simp; done)
end Go.Proofs.Ytbcmjjcbjojakaa
end
section
namespace Go.Proofs.Ytbcmjjcbjojakaa
open Go.RowKit
set_option linter.unusedVariables false
set_option linter.unusedSimpArgs false
end Go.Proofs.Ytbcmjjcbjojakaa
end
section
namespace Go.Proofs.Ytbcmjjcbjojakaa
open Go.RowKit
set_option linter.unusedVariables false
set_option linter.unusedSimpArgs false
/-- The forms of the first so many messages. -/
def preF {M : Type} (cont : M → List Nat) (ms : List M) (i : Nat) : List Nat := (ms.take i).flatMap fun x => formP (cont x)
end Go.Proofs.Ytbcmjjcbjojakaa
end
section
namespace Go.Proofs.Ytbcmjjcbjojakaa
open Go.RowKit
set_option linter.unusedVariables false
def fitK (k : Int) : Int := if k < 1 ∨ 8 < k then 1 + k % 8 else k
theorem fitK_le (k : Int) : 1 ≤ fitK k ∧ fitK k ≤ 8 := by
 unfold fitK
 have h1 := Int.emod_nonneg k (b := 8) (by omega)
 have h2 := Int.emod_lt_of_pos k (b := 8) (by omega)
 split <;> omega
def fitP (R : Rq) : Rq :=
 ⟨fitK R.kind, R.tag, if fitK R.kind < 8 then cutP R.key 1024 else emS, if fitK R.kind = 7 then cutP R.after 1024 else emS, if fitK R.kind = 3 then R.off else 0, if fitK R.kind = 3 ∨ fitK R.kind = 7 then R.num else 0, if fitK R.kind = 7 then R.delim else 0, if fitK R.kind = 1 then R.body.take 1048576 else []⟩
theorem fitP_fit (R : Rq) : rqFit (fitP R) := by
 unfold rqFit fitP
 refine ⟨?_, ?_, ?_⟩ <;> simp only <;> split
 ·exact cutP_size _ _
 ·exact Nat.zero_le _
 ·exact cutP_size _ _
 ·exact Nat.zero_le _
 ·rw [List.length_take]; omega
 ·exact Nat.zero_le _
theorem fitP_b (R : Rq) (h : RqB R) : RqB (fitP R) := by
 obtain ⟨h1, h2, h3, h4, h5, h6, h7, h8⟩ := h
 unfold fitP
 refine ⟨h1, ?_, ?_, ?_, ?_, ?_, ?_, ?_⟩ <;> simp only <;> split <;> first | assumption | omega | (intro x hx; exact h8 x (List.mem_of_mem_take hx)) | (intro x hx; cases hx)
theorem fitP_ok (R : Rq) : rqOk (fitP R) := by
 have hk := fitK_le R.kind
 unfold rqOk fitP cKey cBody cAfter cOff cNum cDelim
 simp only [decide_eq_false_iff_not]
 refine ⟨hk.1, hk.2, fun h => if_neg (by omega), fun h => if_neg h, fun h => if_neg h, fun h => if_neg h, fun h => if_neg h, fun h => if_neg h⟩
/-- Its form is read as it. -/
theorem fitP_rd (R : Rq) (h : RqB R) : rdRq (rqC (fitP R)) = some (fitP R) := rdRq_put _ (fitP_ok R) (fitP_fit R) (fitP_b R h)
theorem fitP_ask (R : Rq) : askP (fitP R) = (formP (rqC (fitP R)), 0) := by unfold askP; rw [if_pos (fitP_ok R), if_pos (fitP_fit R)]
def fitC (c : Int) : Int := if c < 0 ∨ 2147483647 < c then c % 2147483648 else c
theorem fitC_le (c : Int) : 0 ≤ fitC c ∧ fitC c ≤ 2147483647 := by
 unfold fitC
 have h1 := Int.emod_nonneg c (b := 2147483648) (by omega)
 have h2 := Int.emod_lt_of_pos c (b := 2147483648) (by omega)
 split <;> omega
theorem textsP_short (ts : List ByteArray) (most : Nat) : shortL (textsP ts most) most := by
 unfold shortL textsP
 refine ⟨by rw [List.length_map, List.length_take]; omega, fun t ht => ?_⟩
 obtain ⟨s, _, rfl⟩ := List.mem_map.1 ht
 exact cutP_size s 255
def fitAnP (a : An) : An :=
 {kind := fitK a.kind, tag := a.tag, code := fitC a.code,
  body := if fitC a.code = 0 ∧ (fitK a.kind = 2 ∨ fitK a.kind = 3) then a.body.take 1048576 else [],
  keys := if fitC a.code = 0 ∧ fitK a.kind = 6 then textsP a.keys 65536 else if fitC a.code = 0 ∧ fitK a.kind = 7 then textsP a.keys 1000 else [],
  groups := if fitC a.code = 0 ∧ fitK a.kind = 7 then textsP a.groups 1000 else [],
  next := if fitC a.code = 0 ∧ fitK a.kind = 7 then cutP a.next 255 else emS,
  more := if fitC a.code = 0 ∧ fitK a.kind = 7 then a.more else false,
  ge := if fitC a.code = 0 ∧ fitK a.kind = 4 then a.ge else 0, gc := if fitC a.code = 0 ∧ fitK a.kind = 4 then a.gc else 0, size := if fitC a.code = 0 ∧ fitK a.kind = 4 then a.size else 0,
  h1 := if fitK a.kind = 8 then a.h1 else 0, h2 := if fitK a.kind = 8 then a.h2 else 0, h3 := if fitK a.kind = 8 then a.h3 else 0, h4 := if fitK a.kind = 8 then a.h4 else 0 }
theorem fitAnP_fit (a : An) : anFit (fitAnP a) := by
 unfold anFit fitAnP
 simp only
 refine ⟨?_, ?_, ?_, ?_⟩
 ·split
  ·rw [List.length_take]; omega
  ·exact Nat.zero_le _
 ·by_cases h6 : fitK a.kind = 6
  ·rw [if_pos h6]
   split
   ·exact textsP_short _ _
   ·rw [if_neg (by omega)]; exact ⟨Nat.zero_le _, fun t ht => by cases ht⟩
  ·rw [if_neg h6, if_neg (fun h => h6 h.2)]
   split
   ·exact textsP_short _ _
   ·exact ⟨Nat.zero_le _, fun t ht => by cases ht⟩
 ·split
  ·exact textsP_short _ _
  ·exact ⟨Nat.zero_le _, fun t ht => by cases ht⟩
 ·split
  ·exact cutP_size _ _
  ·exact Nat.zero_le _
theorem fitAnP_ok (a : An) : anOk (fitAnP a) := by
 have hk := fitK_le a.kind
 have hc := fitC_le a.code
 unfold anOk tBody tGen tKeys tPage fitAnP
 simp only
 refine ⟨hk.1, hk.2, hc.1, hc.2, fun h => if_neg h, fun h => ⟨if_neg h, if_neg h, if_neg h⟩, fun h => ?_, fun h => ⟨if_neg h, if_neg h, if_neg h⟩, fun h => ⟨if_neg h, if_neg h, if_neg h, if_neg h⟩⟩
 rw [if_neg (fun e => h ⟨e.1, .inl e.2⟩), if_neg (fun e => h ⟨e.1, .inr e.2⟩)]
theorem fitAnP_b (a : An) (h : AnB a) : AnB (fitAnP a) := by
 refine ⟨h.tag, ?_, ?_⟩
 ·unfold fitAnP
  simp only
  split
  ·intro x hx; exact h.b x (List.mem_of_mem_take hx)
  ·intro x hx; cases hx
 ·unfold fitAnP
  intro v hv
  simp only at hv
  rcases hv with rfl | rfl | rfl | rfl | rfl | rfl | rfl <;> split <;> first | (exact h.n _ (by simp)) | omega
theorem fitAnP_rd (a : An) (h : AnB a) : rdAn (anC (fitAnP a)) = some (fitAnP a) := rdAn_put _ (fitAnP_ok a) (fitAnP_fit a) (fitAnP_b a h)
theorem fitAnP_tell (a : An) : tellP (fitAnP a) = (formP (anC (fitAnP a)), 0) := by unfold tellP; rw [if_pos (fitAnP_ok a), if_pos (fitAnP_fit a)]
end Go.Proofs.Ytbcmjjcbjojakaa
end
section
namespace Go.Proofs.Ytbcmjjcbjojakaa
open Go.RowKit
set_option linter.unusedVariables false
set_option linter.unusedSimpArgs false
/-- How many bytes some texts have, and one more each. -/
def longP (ts : List ByteArray) : Nat := (ts.map fun t => t.size + 1).sum
def longQ : Nat → List ByteArray → Nat
 | v, [] => v
 | v, t :: ts => if v < 2147483648 then longQ (v + (t.size + 1)) ts else v
/-- How much a message counts. -/
def rqSz (R : Rq) : Nat := 64 + R.key.size + R.after.size + R.body.length
def anSz (a : An) : Nat := 64 + a.body.length + a.next.size + longP a.keys + longP a.groups
def vastQ {M : Type} (f : M → Nat) : Nat → List M → Nat
 | v, [] => v
 | v, x :: l => if v < 2147483648 then vastQ f (v + f x) l else v
def anSq (a : An) : Nat := 64 + a.body.length + a.next.size + longQ 0 a.keys + longQ 0 a.groups
/-- Where the loops of vast stand. -/
structure Va (w W : World) (g1 : Nat) (l : Array Value) : Prop where
 b1 : W.heap[g1]? = some (.cells l 95)
 be : Below w.heap.size w W
 l1 : w.heap.size ≤ g1
end Go.Proofs.Ytbcmjjcbjojakaa
end
