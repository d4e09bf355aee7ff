/- Put together of: MemX MemY FitV. -/
import Derived.Test.YtbcmjjcbjojakaaPk14
import Derived.Test.YtbcmjjcbjojakaaApartT
import Derived.Test.YtbcmjjcbjojakaaFitW
import Derived.Test.YtbcmjjcbjojakaaRqW
import Derived.Test.YtbcmjjcbjojakaaPk8
import Derived.Test.YtbcmjjcbjojakaaPk11
import Derived.Test.YtbcmjjcbjojakaaTellC
import Derived.Deep.Cut
section
namespace Go.Proofs.Ytbcmjjcbjojakaa
open Go.RowKit
set_option linter.unusedVariables false
structure Mr (w0 w : World) (RL : List Row) (X : List Nat) (BL : List (Nat × Array Value × Nat)) (ga gt : Nat) (XA XT : List Nat) (wa : List Wm) (xa : List Rq) (wt : List Wm) (xt : List An) : Prop where
 ms : Ms w0 w RL X BL
 ra : RdP askK ga w ga XA wa xa
 rt : RdP telK gt w gt XT wt xt
 nb : NoB BL ga gt
 lt : ga < gt ∧ gt < w.heap.size
 ia : ∀ x ∈ XA, x ∈ X
 it : ∀ x ∈ XT, x ∈ X
 dj : ∀ x ∈ XA, x ∉ XT
 sa : ∀ W ∈ wa, ∀ r ∈ W.rows, r ∈ RL
 st : ∀ W ∈ wt, ∀ r ∈ W.rows, r ∈ RL
section
variable {w0 w w' : World} {RL NR : List Row} {X XA XT : List Nat} {BL : List (Nat × Array Value × Nat)} {ga gt g : Nat} {wa wt : List Wm} {xa : List Rq} {xt : List An} {us : List Value} {I : List Nat}
theorem Mr.below (h : Mr w0 w RL X BL ga gt XA XT wa xa wt xt) (b : Below w.heap.size w w') : Mr w0 w' RL X BL ga gt XA XT wa xa wt xt :=
 ⟨h.ms.below b, h.ra.below b, h.rt.below b, h.nb, ⟨h.lt.1, Nat.lt_of_lt_of_le h.lt.2 b.size⟩, h.ia, h.it, h.dj, h.sa, h.st⟩
theorem Mr.rows (h : Mr w0 w RL X BL ga gt XA XT wa xa wt xt) (b : Below w.heap.size w w') (hN : ∀ r ∈ NR, w'.ownsRow w.heap.size r.1 1 r.2.1 r.2.2.length r.2.2) (hA : NR.Pairwise fun r s => Apart r.2.1 s.2.1) : Mr w0 w' (RL ++ NR) X BL ga gt XA XT wa xa wt xt :=
 ⟨h.ms.rows b hN hA, h.ra.below b, h.rt.below b, h.nb, ⟨h.lt.1, Nat.lt_of_lt_of_le h.lt.2 b.size⟩, h.ia, h.it, h.dj, fun W hW r hr => List.mem_append_left _ (h.sa W hW r hr), fun W hW r hr => List.mem_append_left _ (h.st W hW r hr)⟩
theorem Mr.box (h : Mr w0 w RL X BL ga gt XA XT wa xa wt xt) {c : Array Value} {t : Nat} (b : Below w.heap.size w w') (hg : w.heap.size = g) (hb : w'.heap[g]? = some (.cells c t)) : Mr w0 w' RL (X ++ [g]) (BL ++ [(g, c, t)]) ga gt XA XT wa xa wt xt :=
 ⟨h.ms.box b (by omega) hb, h.ra.below b, h.rt.below b, h.nb.more (by have := h.lt; omega) (by have := h.lt; omega), ⟨h.lt.1, Nat.lt_of_lt_of_le h.lt.2 b.size⟩, fun x hx => List.mem_append_left _ (h.ia x hx), fun x hx => List.mem_append_left _ (h.it x hx), h.dj, h.sa, h.st⟩
theorem Mr.pop {W : Wm} {x : Rq} (h : Mr w0 w RL X BL ga gt XA XT (W :: wa) (x :: xa) wt xt) :
  Calls Try.prog 36 #[.pointer (some ⟨ga, 0, none⟩)] w fun e w' => e = .returned (.tuple #[.agg W.cells.toArray, .bool true]) ∧ Mr w0 w' RL X BL ga gt XA XT wa xa wt xt := by
 refine h.ra.pop.mono ?_
 rintro e w' ⟨he, hr, hc⟩
 exact ⟨he, h.ms.took hc (h.ia ga h.ra.mem) fun p hp => (h.nb p hp).1, hr, h.rt.other h.ms hc (h.ia ga h.ra.mem) (h.dj ga h.ra.mem) h.st, h.nb, ⟨h.lt.1, Nat.lt_of_lt_of_le h.lt.2 hc.size⟩, h.ia, h.it, h.dj, fun V hV => h.sa V (List.mem_cons_of_mem _ hV), h.st⟩
theorem Mr.popA {W : Wm} {x : An} (h : Mr w0 w RL X BL ga gt XA XT wa xa (W :: wt) (x :: xt)) :
  Calls Try.prog 37 #[.pointer (some ⟨gt, 0, none⟩)] w fun e w' => e = .returned (.tuple #[.agg W.cells.toArray, .bool true]) ∧ Mr w0 w' RL X BL ga gt XA XT wa xa wt xt := by
 refine h.rt.popA.mono ?_
 rintro e w' ⟨he, hr, hc⟩
 exact ⟨he, h.ms.took hc (h.it gt h.rt.mem) fun p hp => (h.nb p hp).2, h.ra.other h.ms hc (h.it gt h.rt.mem) (fun hm => h.dj gt hm h.rt.mem) h.sa, hr, h.nb, ⟨h.lt.1, Nat.lt_of_lt_of_le h.lt.2 hc.size⟩, h.ia, h.it, h.dj, h.sa, fun V hV => h.st V (List.mem_cons_of_mem _ hV)⟩
theorem pick_mem {RL : List Row} {J : List Nat} {r : Row} (h : r ∈ pick RL J) : ∃ j, j ∈ J ∧ RL[j]? = some r := by
 unfold pick at h
 obtain ⟨j, hj, hr⟩ := List.mem_filterMap.1 h
 exact ⟨j, hj, hr⟩
theorem Mr.mark (h : Mr w0 w RL X BL ga gt XA XT wa xa wt xt) (J : List Nat) (c : Chg (ablk us) w w') (hus : I.map (fun i => RL[i]?.map (·.2.1)) = us.map some) (hJ : J.Nodup) (hIJ : ∀ j ∈ J, j ∉ I) (hs : (J.all fun j => RL[j]?.isSome) = true)
  (ha : ∀ W ∈ wa, ∀ r ∈ W.rows, r ∈ pick RL J) (ht : ∀ W ∈ wt, ∀ r ∈ W.rows, r ∈ pick RL J) : Mr w0 w' (pick RL J) X BL ga gt XA XT wa xa wt xt :=
 ⟨h.ms.mark J c hus hJ hIJ hs, h.ra.marked h.ms I c (us_mem hus) h.ia fun W hW r hr => (pick_mem (ha W hW r hr)).imp fun j ⟨h1, h2⟩ => ⟨hIJ j h1, h2⟩, h.rt.marked h.ms I c (us_mem hus) h.it fun W hW r hr => (pick_mem (ht W hW r hr)).imp fun j ⟨h1, h2⟩ => ⟨hIJ j h1, h2⟩,
  h.nb, ⟨h.lt.1, Nat.lt_of_lt_of_le h.lt.2 c.size⟩, h.ia, h.it, h.dj, ha, ht⟩
end
/-- The first reader has been pushed to. -/
structure Mp (w0 w : World) (RL : List Row) (B : List Nat) (BL : List (Nat × Array Value × Nat)) (ga gt : Nat) (XA : List Nat) (wa : List Wm) (xa : List Rq) : Prop where
 ms : Ms w0 w RL (B ++ XA ++ [gt]) BL
 ra : RdP askK ga w ga XA wa xa
 rt : RdP telK2 gt w gt [gt] [] []
 bx : ∀ p ∈ BL, p.1 ∈ B ∧ p.1 < ga
 lt : ga < gt ∧ gt < w.heap.size
 dj : ∀ x ∈ XA, x ≠ gt
 sa : ∀ W ∈ wa, ∀ r ∈ W.rows, r ∈ RL
theorem boxes_in {BL : List (Nat × Array Value × Nat)} {B : List Nat} {ga : Nat} (h : (BL.map (·.1)) = B) (hl : ∀ x ∈ B, x < ga) : ∀ p ∈ BL, p.1 ∈ B ∧ p.1 < ga := fun p hp => by
 have : p.1 ∈ B := by rw [← h]; exact List.mem_map.2 ⟨p, hp, rfl⟩
 exact ⟨this, hl _ this⟩
section
variable {w0 w w' : World} {RL : List Row} {B XA : List Nat} {BL : List (Nat × Array Value × Nat)} {ga gt : Nat} {wa : List Wm} {xa : List Rq}
theorem Mp.below (h : Mp w0 w RL B BL ga gt XA wa xa) (b : Below w.heap.size w w') : Mp w0 w' RL B BL ga gt XA wa xa :=
 ⟨h.ms.below b, h.ra.below b, h.rt.below b, h.bx, ⟨h.lt.1, Nat.lt_of_lt_of_le h.lt.2 b.size⟩, h.dj, h.sa⟩
theorem Mp.push {P : Rq} (h : Mp w0 w RL B BL ga gt [ga] [] []) {A : Option Addr} {n cp : Nat} {bs : List Nat} (hr : Rd w w.heap.size A n (cb bs)) (hl : ∀ x ∈ bs, x < 256) (hn : n ≤ 137438953472) (hgo : go rdRq mid0 bs = ⟨[P, P, P], 0, mid0, []⟩) :
  Calls Try.prog 35 #[.pointer (some ⟨ga, 0, none⟩), .slice A n cp] w fun e w' => e = .returned (.int .i64 0) ∧ ∃ XA A1 c1 A2 c2 A3 c3, Mp w0 w' (RL ++ [(5, .slice A1 P.body.length c1, cb P.body), (5, .slice A2 P.body.length c2, cb P.body), (5, .slice A3 P.body.length c3, cb P.body)]) B BL ga gt XA [rqW P (.slice A1 P.body.length c1), rqW P (.slice A2 P.body.length c2), rqW P (.slice A3 P.body.length c3)] [P, P, P] := by
 refine (RdP.push msgLaw_ask h.ra (bs := bs) (ms := [P, P, P]) hr hl hn hgo).mono ?_
 rintro e w' ⟨rfl, XA, ws, hrp, hch, hXn, hok, hpw, hal⟩
 obtain ⟨A1, c1, A2, c2, A3, c3, rfl⟩ := alike3 hal hok
 refine ⟨rfl, XA, A1, c1, A2, c2, A3, c3, ?_, hrp, ?_, h.bx, ⟨h.lt.1, Nat.lt_of_lt_of_le h.lt.2 hch.size⟩, fun x hx => ?_, fun W hW r hr => ?_⟩
 ·exact h.ms.told (X := B) (Y := [ga]) (X' := [gt]) hrp hch hXn (fun p hp => ⟨(h.bx p hp).1, fun hm => by have := (h.bx p hp).2; rw [List.mem_singleton.1 hm] at this; omega⟩) hok hpw fun W hW => by
   simp only [List.mem_cons, List.not_mem_nil, or_false] at hW
   rcases hW with rfl | rfl | rfl <;> exact rq_rap _ _
 ·exact h.rt.keep hch (fun x hx hm => by rw [List.mem_singleton.1 hx, List.mem_singleton] at hm; have := h.lt; omega) (fun W hW => absurd hW List.not_mem_nil)
 ·rcases hXn x hx with h1 | h1
  ·have := h.lt; rw [List.mem_singleton.1 h1]; omega
  ·have := h.lt; omega
 ·exact List.mem_append_right _ (List.mem_flatMap.2 ⟨W, hW, hr⟩)
theorem Mp.pushT {a g : An} (h : Mp w0 w RL B BL ga gt XA wa xa) (hk : g.keys = []) (hg : g.groups = []) {A : Option Addr} {n cp : Nat} {bs : List Nat} (hr : Rd w w.heap.size A n (cb bs)) (hl : ∀ x ∈ bs, x < 256) (hn : n ≤ 137438953472) (hgo : go rdAn mid0 bs = ⟨[a, g, a, g], 0, mid0, []⟩) :
  Calls Try.prog 35 #[.pointer (some ⟨gt, 0, none⟩), .slice A n cp] w fun e w' => e = .returned (.int .i64 0) ∧ ∃ XT A1 c1 A2 c2 A3 c3 B1 d1 B2 d2 B3 d3 C1 e1 C2 e2 C3 e3 D1 f1 D2 f2 D3 f3,
   Mr w0 w' (RL ++ ([(5, .slice A1 a.body.length c1, cb a.body), (9, .slice A2 a.keys.length c2, cs a.keys), (9, .slice A3 a.groups.length c3, cs a.groups), (5, .slice B1 g.body.length d1, cb g.body), (9, .slice B2 0 d2, cs g.keys), (9, .slice B3 0 d3, cs g.groups),
     (5, .slice C1 a.body.length e1, cb a.body), (9, .slice C2 a.keys.length e2, cs a.keys), (9, .slice C3 a.groups.length e3, cs a.groups), (5, .slice D1 g.body.length f1, cb g.body), (9, .slice D2 0 f2, cs g.keys), (9, .slice D3 0 f3, cs g.groups)] : List Row)) (B ++ XA ++ XT) BL ga gt XA XT wa xa
    [anW a (.slice A1 a.body.length c1) (.slice A2 a.keys.length c2) (.slice A3 a.groups.length c3), anW g (.slice B1 g.body.length d1) (.slice B2 0 d2) (.slice B3 0 d3), anW a (.slice C1 a.body.length e1) (.slice C2 a.keys.length e2) (.slice C3 a.groups.length e3), anW g (.slice D1 g.body.length f1) (.slice D2 0 f2) (.slice D3 0 f3)] [a, g, a, g] := by
 have hXA : ∀ x ∈ XA, x < w.heap.size := fun x hx => (h.ra.lt hx).2
 refine (RdP.push msgLaw_tel2 h.rt (bs := bs) (ms := [a, g, a, g]) hr hl hn hgo).mono ?_
 rintro e w' ⟨rfl, XT, ws, hrp, hch, hXn, hok, hpw, hal⟩
 obtain ⟨hrap, A1, c1, A2, c2, A3, c3, B1, d1, B2, d2, B3, d3, C1, e1, C2, e2, C3, e3, D1, f1, D2, f2, D3, f3, hws⟩ := alike4 hal hok
 have k0 : g.keys.length = 0 := by rw [hk]; rfl
 have g0 : g.groups.length = 0 := by rw [hg]; rfl
 rw [k0, g0] at hws
 subst hws
 have hno : ∀ p ∈ BL, p.1 ∉ [gt] := fun p hp hm => by have := (h.bx p hp).2; have := h.lt; rw [List.mem_singleton.1 hm] at *; omega
 refine ⟨rfl, XT, A1, c1, A2, c2, A3, c3, B1, d1, B2, d2, B3, d3, C1, e1, C2, e2, C3, e3, D1, f1, D2, f2, D3, f3, ?_, ?_, hrp.weak, fun p hp => ?_, ⟨h.lt.1, Nat.lt_of_lt_of_le h.lt.2 hch.size⟩, fun x hx => ?_, fun x hx => ?_, fun x hx hm => ?_, fun W hW r hr => List.mem_append_left _ (h.sa W hW r hr), fun W hW r hr => ?_⟩
 ·exact h.ms.toldT (X := B ++ XA) (Y := [gt]) hrp hch hXn (fun p hp => ⟨List.mem_append_left _ (h.bx p hp).1, hno p hp⟩) hok hpw hrap
 ·exact h.ra.other h.ms hch (List.mem_append_right _ (List.mem_singleton.2 rfl)) (fun hm => h.dj gt hm rfl) h.sa
 ·have := (h.bx p hp).2; have := h.lt; exact ⟨by omega, by omega⟩
 ·exact List.mem_append_left _ (List.mem_append_right _ hx)
 ·exact List.mem_append_right _ hx
 ·rcases hXn x hm with h1 | h1
  ·exact h.dj x hx (List.mem_singleton.1 h1)
  ·have := hXA x hx; omega
 ·exact List.mem_append_right _ (List.mem_flatMap.2 ⟨W, hW, hr⟩)
end
end Go.Proofs.Ytbcmjjcbjojakaa
end
section
namespace Go.Proofs.Ytbcmjjcbjojakaa
open Go.RowKit
set_option linter.unusedVariables false
theorem fitAn_g (HFL : FitLaw) {W : World} {a : An} {T : List Nat} (h : PAn a T) (hk : a.keys = []) (hg : a.groups = []) {A : Option Addr} {n c : Nat} (hr : Rd W W.heap.size A n (cb a.body)) (hnc : n ≤ c) :
  Calls Try.prog 34 #[.agg #[.int .i64 a.kind, .int .u64 (a.tag : Int), .int .i64 a.code, .slice A n c, .slice none 0 0, .slice none 0 0, .string a.next, .bool a.more, .int .i64 a.ge, .int .i64 a.gc, .int .i64 a.size, .int .i64 a.h1, .int .i64 a.h2, .int .i64 a.h3, .int .i64 a.h4]] W fun e w' =>
   ∃ B1 d1 B2 d2 B3 d3, e = .returned (.agg (anW a (.slice B1 a.body.length d1) (.slice B2 0 d2) (.slice B3 0 d3)).cells.toArray) ∧ (anW a (.slice B1 a.body.length d1) (.slice B2 0 d2) (.slice B3 0 d3)).ok w' W.heap.size ∧
    RAp (anW a (.slice B1 a.body.length d1) (.slice B2 0 d2) (.slice B3 0 d3)) ∧ a.body.length ≤ d1 ∧ Below W.heap.size W w' := by
 have k0 : a.keys.length = 0 := by rw [hk]; rfl
 have g0 : a.groups.length = 0 := by rw [hg]; rfl
 have := fitAn_s (W := W) HFL h (A2 := none) (A3 := none) (c2 := 0) (c3 := 0) hr (by rw [hk]; exact Rd.nil) (by rw [hg]; exact Rd.nil) hnc
 rwa [k0, g0] at this
section
variable {w0 w : World} {RL : List Row} {X XA XT : List Nat} {BL : List (Nat × Array Value × Nat)} {ga gt g : Nat} {wa wt : List Wm} {xa : List Rq} {xt : List An} {us : List Value} {I : List Nat}
theorem Mr.bytes (h : Mr w0 w RL X BL ga gt XA XT wa xa wt xt) (J : List Nat) (hI : I.Nodup) (hus : I.map (fun i => RL[i]?.map (·.2.1)) = us.map some) (he : I.map (fun i => RL[i]?.map (·.1)) = I.map fun _ => some 5) (hl : us.length ≤ 100) (hB : ∀ i ∈ I, ∀ x, RL[i]? = some x → x.2.2.length ≤ 140737488355000)
  (hJ : J.Nodup) (hIJ : ∀ j ∈ J, j ∉ I) (hs : (J.all fun j => RL[j]?.isSome) = true) (ha : ∀ W ∈ wa, ∀ r ∈ W.rows, r ∈ pick RL J) (ht : ∀ W ∈ wt, ∀ r ∈ W.rows, r ∈ pick RL J) :
  Calls Try.prog 38 #[.slice (some ⟨w.heap.size, 0, none⟩) us.length us.length] (w.alloc (.cells us.toArray 26)) fun e w' => e = .returned (.bool true) ∧ Mr w0 w' (pick RL J) X BL ga gt XA XT wa xa wt xt := by
 have hal : Below w.heap.size w (w.alloc (.cells us.toArray 26)) := (Below.refl _ _).alloc (Nat.le_refl _) _
 refine (bytesApart_any _ w0.heap.size us.length us.length _ us (nOf RL I) rfl (h.ms.fil hI hus he (by unfold maxLen; omega) _) hl (nOf_le hB) (Nat.le_trans h.ms.be.size hal.size)).mono ?_
 rintro e w' ⟨he, hc⟩
 exact ⟨he, (h.below hal).mark J hc hus hJ hIJ hs ha ht⟩
theorem Mr.texts (h : Mr w0 w RL X BL ga gt XA XT wa xa wt xt) (J : List Nat) (hI : I.Nodup) (hus : I.map (fun i => RL[i]?.map (·.2.1)) = us.map some) (he : I.map (fun i => RL[i]?.map (·.1)) = I.map fun _ => some 9) (hl : us.length ≤ 100) (hB : ∀ i ∈ I, ∀ x, RL[i]? = some x → x.2.2.length ≤ 8796093021000)
  (hJ : J.Nodup) (hIJ : ∀ j ∈ J, j ∉ I) (hs : (J.all fun j => RL[j]?.isSome) = true) (ha : ∀ W ∈ wa, ∀ r ∈ W.rows, r ∈ pick RL J) (ht : ∀ W ∈ wt, ∀ r ∈ W.rows, r ∈ pick RL J) :
  Calls Try.prog 39 #[.slice (some ⟨w.heap.size, 0, none⟩) us.length us.length] (w.alloc (.cells us.toArray 37)) fun e w' => e = .returned (.bool true) ∧ Mr w0 w' (pick RL J) X BL ga gt XA XT wa xa wt xt := by
 have hal : Below w.heap.size w (w.alloc (.cells us.toArray 37)) := (Below.refl _ _).alloc (Nat.le_refl _) _
 refine (textsApart_any _ w0.heap.size us.length us.length _ us (nOf RL I) rfl (h.ms.fil hI hus he (by unfold maxLen; omega) _) hl (nOf_le hB) (Nat.le_trans h.ms.be.size hal.size)).mono ?_
 rintro e w' ⟨he, hc⟩
 exact ⟨he, (h.below hal).mark J hc hus hJ hIJ hs ha ht⟩
theorem Mr.re {RL2 : List Row} (h : Mr w0 w RL X BL ga gt XA XT wa xa wt xt) (e : RL = RL2) : Mr w0 w RL2 X BL ga gt XA XT wa xa wt xt := by rw [← e]; exact h
theorem Mr.bytes2 {RL2 : List Row} (h : Mr w0 w RL X BL ga gt XA XT wa xa wt xt) (J : List Nat) (e2 : pick RL J = RL2) (hI : I.Nodup) (hus : I.map (fun i => RL[i]?.map (·.2.1)) = us.map some) (he : I.map (fun i => RL[i]?.map (·.1)) = I.map fun _ => some 5) (hl : us.length ≤ 100) (hB : ∀ i ∈ I, ∀ x, RL[i]? = some x → x.2.2.length ≤ 140737488355000)
  (hJ : J.Nodup) (hIJ : ∀ j ∈ J, j ∉ I) (hs : (J.all fun j => RL[j]?.isSome) = true) (ha : ∀ W ∈ wa, ∀ r ∈ W.rows, r ∈ RL2) (ht : ∀ W ∈ wt, ∀ r ∈ W.rows, r ∈ RL2) :
  Calls Try.prog 38 #[.slice (some ⟨w.heap.size, 0, none⟩) us.length us.length] (w.alloc (.cells us.toArray 26)) fun e w' => e = .returned (.bool true) ∧ Mr w0 w' RL2 X BL ga gt XA XT wa xa wt xt := by
 subst e2
 exact h.bytes J hI hus he hl hB hJ hIJ hs ha ht
theorem Mr.texts2 {RL2 : List Row} (h : Mr w0 w RL X BL ga gt XA XT wa xa wt xt) (J : List Nat) (e2 : pick RL J = RL2) (hI : I.Nodup) (hus : I.map (fun i => RL[i]?.map (·.2.1)) = us.map some) (he : I.map (fun i => RL[i]?.map (·.1)) = I.map fun _ => some 9) (hl : us.length ≤ 100) (hB : ∀ i ∈ I, ∀ x, RL[i]? = some x → x.2.2.length ≤ 8796093021000)
  (hJ : J.Nodup) (hIJ : ∀ j ∈ J, j ∉ I) (hs : (J.all fun j => RL[j]?.isSome) = true) (ha : ∀ W ∈ wa, ∀ r ∈ W.rows, r ∈ RL2) (ht : ∀ W ∈ wt, ∀ r ∈ W.rows, r ∈ RL2) :
  Calls Try.prog 39 #[.slice (some ⟨w.heap.size, 0, none⟩) us.length us.length] (w.alloc (.cells us.toArray 37)) fun e w' => e = .returned (.bool true) ∧ Mr w0 w' RL2 X BL ga gt XA XT wa xa wt xt := by
 subst e2
 exact h.texts J hI hus he hl hB hJ hIJ hs ha ht
/-- The last Push and what is held behind it. -/
theorem Mr.last {P : Rq} (h : Mr w0 w RL X BL ga gt XA XT [] [] wt xt) {A : Option Addr} {n cp : Nat} {bs : List Nat} (hr : Rd w w.heap.size A n (cb bs)) (hl : ∀ x ∈ bs, x < 256) (hn : n ≤ 137438953472) (hgo : go rdRq mid0 bs = ⟨[P], 0, mid0, []⟩) :
  Calls Try.prog 35 #[.pointer (some ⟨ga, 0, none⟩), .slice A n cp] w fun e w' => e = .returned (.int .i64 0) ∧ Below w0.heap.size w0 w' ∧ Calls Try.prog 40 #[.pointer (some ⟨ga, 0, none⟩)] w' fun e w2 => e = .returned (.int .i64 0) ∧ Below w0.heap.size w0 w2 := by
 refine (RdP.push msgLaw_ask h.ra (bs := bs) (ms := [P]) hr hl hn hgo).mono ?_
 rintro e w' ⟨rfl, XA', ws, hrp, hch, hXn, hok, hpw, hal⟩
 have b : Below w0.heap.size w0 w' := h.ms.be.trans (hch.below h.ms.be.size fun k hk => h.ms.ge k (h.ia k hk))
 exact ⟨rfl, b, hrp.held.mono fun e w2 ⟨he, hb⟩ => ⟨he, b.trans (hb.mono b.size)⟩⟩
end
end Go.Proofs.Ytbcmjjcbjojakaa
end
section
namespace Go.Proofs.Ytbcmjjcbjojakaa
open Go.RowKit
set_option linter.unusedVariables false
def anZ : Array Value := #[.int .i64 0, .int .u64 0, .int .i64 0, .slice none 0 0, .slice none 0 0, .slice none 0 0, .string emS, .bool false, .int .i64 0, .int .i64 0, .int .i64 0, .int .i64 0, .int .i64 0, .int .i64 0, .int .i64 0]
theorem infoGen2 : (Try.prog.info? 39).map (·.size) = some 2 := by kernel_rfl
theorem infoHealed4 : (Try.prog.info? 41).map (·.size) = some 4 := by kernel_rfl
theorem fitC_in {k : Int} (h : ¬ (k < 0 ∨ 2147483647 < k)) : fitC k = k := if_neg h
theorem fitC_out {k : Int} (h : k < 0 ∨ 2147483647 < k) : fitC k = k % 2147483648 := if_pos h
theorem anW_r {a : An} {w : World} {b : Nat} {v1 v2 v3 : Value} (h : (anW a v1 v2 v3).ok w b) : w.ownsRow b 5 1 v1 a.body.length (cb a.body) ∧ w.ownsRow b 9 1 v2 a.keys.length (cs a.keys) ∧ w.ownsRow b 9 1 v3 a.groups.length (cs a.groups) := by
 have q1 := h (5, v1, cb a.body) (by simp [anW])
 have q2 := h (9, v2, cs a.keys) (by simp [anW])
 have q3 := h (9, v3, cs a.groups) (by simp [anW])
 simp only [cb_length, cs_len] at q1 q2 q3
 exact ⟨q1, q2, q3⟩
def setL : List Value → Nat → List Value → List Value
 | l, _, [] => l
 | l, o, v :: r => setL (l.set o v) (o + 1) r
theorem Ft.sets0 {w : World} {t g1 gx gq : Nat} {c1 : List Value} {zs : Array Value} : ∀ (l : List Value) (o : Nat) (W : World) (M : Wm), Ft w W t g1 gx gq c1 zs M → Ft w (W.setCells gq o l) t g1 gx gq c1 zs ⟨setL M.cells o l, M.rows⟩
 | [], o, W, M, h => h
 | v :: r, o, W, M, h => by
  have h1 := h.set (M' := ⟨M.cells.set o v, M.rows⟩) o v rfl (fun q hq => h.ok q hq)
  exact Ft.sets0 r (o + 1) _ _ h1
theorem Ft.sets {w W : World} {t g1 gx gq : Nat} {c1 : List Value} {zs : Array Value} {M M' : Wm} (h : Ft w W t g1 gx gq c1 zs M) (o : Nat) (l : List Value) (hM : M' = ⟨setL M.cells o l, M.rows⟩) : Ft w (W.setCells gq o l) t g1 gx gq c1 zs M' := by
 rw [hM]; exact Ft.sets0 l o W M h
theorem Ft.range1o {w W : World} {t g1 gx gq : Nat} {c1 : List Value} {zs : Array Value} {M : Wm} (h : Ft w W t g1 gx gq c1 zs M) (o k : Nat) {l : List Value} (hl : (c1.drop o).take k = l) : W.rangeAt g1 o l := fun j v hj => by
 subst hl
 rw [List.getElem?_take] at hj
 split at hj
 ·rw [List.getElem?_drop] at hj; exact h.at1 (o + j) hj
 ·cases hj
end Go.Proofs.Ytbcmjjcbjojakaa
end
