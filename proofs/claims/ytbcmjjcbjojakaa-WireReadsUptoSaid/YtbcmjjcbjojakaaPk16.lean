/- Put together of: PairR ContR AskR Snap ApartP Bag ApartB AsksWalk CopyC AskdP AskdQ Build3N NothW. -/
import Derived.Test.YtbcmjjcbjojakaaPk15
import Derived.Test.YtbcmjjcbjojakaaPk6
import Derived.Test.YtbcmjjcbjojakaaSameAn
import Derived.Test.YtbcmjjcbjojakaaPk3
import Derived.Deep.Cut
import Derived.Test.YtbcmjjcbjojakaaPk7
import Derived.Test.YtbcmjjcbjojakaaPk5
import Derived.Maps.AppendAt
import Derived.Test.YtbcmjjcbjojakaaPk2
import Derived.Test.YtbcmjjcbjojakaaPk1
import Derived.Laws.CopyOwn
import Derived.Test.YtbcmjjcbjojakaaPk12
import Derived.Test.YtbcmjjcbjojakaaPk13
section
namespace Go.Proofs.Ytbcmjjcbjojakaa
open Go.RowKit
set_option linter.unusedVariables false
theorem sameB_selfR (R : Rq) : sameB R R = true := by rw [sameB_eq R R True ⟨fun _ => trivial, fun _ => rfl⟩]; exact decide_eq_true trivial
theorem sameAB_selfR (a : An) : sameAB a a = true := by unfold sameAB; simp
section
variable {T : Type} {Z : Kd T} {base : Nat} {w w1 w2 : World} {g : Nat} {vl vc vq vq' : Value} {L : List Nat} {m : Mid} {C : Nat} {fl : Int} {ws : List Wm} {xs : List T} {vs vm : Value} {st bs : List Nat} {wm : List Wm} {xm : List T} {hd : Nat} {W0 : Wm} {x0 : T}
/-- What is told of bytes is read of bytes. -/
theorem go_all (P : T → Prop) (hP : ∀ c x, (∀ y ∈ c, y < 256) → Z.rd c = some x → P x) (hb : ∀ y ∈ bs, y < 256) : ∀ x ∈ (go Z.rd mid0 bs).ms, P x := by
 have : ∀ (m : Mid) (b : List Nat), (∀ y ∈ m.c, y < 256) → (∀ y ∈ b, y < 256) → ∀ x ∈ (go Z.rd m b).ms, P x := by
  refine go_ind (rd := Z.rd) ?_ ?_ ?_ ?_ ?_
  ·intro m b h _ _ x hx; rw [go_wait h] at hx; cases hx
  ·intro m b e h _ _ x hx; rw [go_bad h] at hx; cases hx
  ·intro m b n h ih h1 h2 x hx
   rw [go_more h] at hx
   exact ih (fun y hy => (List.mem_append.1 hy).elim (h1 y) (seg_lt h2 7 n y)) (fun y hy => h2 y (List.mem_of_mem_drop hy)) x hx
  ·intro m b n h hr _ _ x hx; rw [go_none h hr] at hx; cases hx
  ·intro m b n z h hr ih h1 h2 x hx
   rw [go_some h hr] at hx
   rcases List.mem_cons.1 hx with e | e
   ·rw [e]; exact hP _ z (fun y hy => (List.mem_append.1 hy).elim (h1 y) (seg_lt h2 7 n y)) hr
   ·exact ih (by intro y hy; cases hy) (fun y hy => h2 y (List.mem_of_mem_drop hy)) x e
 exact this mid0 bs (by intro y hy; cases hy) hb
theorem PrS.front (h : PrS Z base w g vl vc vq L m C fl ws xs vs vm st wm xm hd) (hlt : hd < xm.length) :
  ∃ W1 ws' x xs' W2, ws = W1 :: ws' ∧ xs = x :: xs' ∧ Z.is W1 x ∧ wm[hd]? = some W2 ∧ Z.is W2 x ∧ xs' = xm.drop (hd + 1) ∧ x ∈ (go Z.rd mid0 st).ms := by
 have e1 : xs = xm[hd] :: xm.drop (hd + 1) := by rw [h.ex]; exact List.drop_eq_getElem_cons hlt
 have ha := h.rd.is
 rw [e1] at ha
 cases hw : ws with
 | nil => rw [hw] at ha; exact ha.elim
 | cons W1 ws' =>
  rw [hw] at ha
  have hm := h.md.th.is
  have hlm := hm.len
  have hg : wm[hd]? = some (wm[hd]'(by omega)) := List.getElem?_eq_getElem (by omega)
  obtain ⟨x, hx, hi⟩ := alike_nth hm hg
  have : x = xm[hd] := by rw [List.getElem?_eq_getElem hlt] at hx; injection hx with hx; exact hx.symm
  subst this
  exact ⟨W1, ws', _, _, _, rfl, e1, ha.1, hg, hi, rfl, by rw [← h.md.is]; exact List.getElem_mem hlt⟩
theorem PrS.pop (h : PrS Z base w g vl vc vq L m C fl (W0 :: ws) (x0 :: xs) vs vm st wm xm hd) (hlt : hd < xm.length) (hx : xs = xm.drop (hd + 1)) (hr : RdS Z base w2 g vl vc vq' L m.c m.s C m.k m.p fl ws xs) (b : Chg [g] w w2) (hb : vq'.ownBlock = vq.ownBlock) (n : Nat) {e : Ending}
  (he : e = .returned (.tuple #[.agg (thC Z.ans vs (hd + 1) vm fl ((go Z.rd mid0 st).held : Int)), .bool true])) : AsDone Z base w g vl vc vq (W0 :: ws) vs vm st wm n e w2 := by
 have hX : ∀ x, x ∈ rdX g vl vc vq' ↔ x ∈ rdX g vl vc vq := fun x => by rw [mem_X, mem_X, hb]
 have hg : g ∈ rdX g vl vc vq := mem_X.2 (.inr (.inl rfl))
 refine ⟨vl, vc, vq', L, m, C, fl, ws, xs, vs, vm, st, wm, xm, hd + 1, he, ⟨hr, ⟨h.md.th.chg b fun k hk hm => h.sep k hk (by rw [List.mem_singleton.1 hm]; exact hg), h.md.is⟩, h.ef, hx, hlt, h.e0, h.e1, fun k hk hm => h.sep k hk ((hX k).1 hm)⟩, b.mono (fun k hk _ => by rw [List.mem_singleton.1 hk]; exact hg), fun x hx => .inl ((hX x).1 hx), fun k hk => ?_, by omega⟩
 rcases hk with hk | ⟨W, hW, r, hr, hk⟩
 ·exact .inl (.inl hk)
 ·exact .inl (.inr ⟨W, List.mem_cons_of_mem _ hW, r, hr, hk⟩)
end
/-- The same request, twice in memory, is said to be the same. -/
theorem same_rq {w : World} {x : Rq} {v1 v2 : Value} {b1 b2 : Nat} (h1 : (rqW x v1).ok w b1) (h2 : (rqW x v2).ok w b2) (hb : RqB x) :
  Calls Try.prog 51 #[.agg (rqW x v1).cells.toArray, .agg (rqW x v2).cells.toArray] w fun e w' => e = .returned (.bool true) ∧ Below w.heap.size w w' := by
 have o1 := h1 _ (List.mem_singleton.2 rfl)
 have o2 := h2 _ (List.mem_singleton.2 rfl)
 obtain ⟨A1, c1, e1, _, _⟩ := own_form o1
 obtain ⟨A2, c2, e2, _, _⟩ := own_form o2
 simp only at e1 e2
 subst e1 e2
 cases x with
 | mk k tag key after off num delim body =>
  refine (sameRq_any w w.heap.size ⟨k, tag, key, after, off, num, delim, body⟩ ⟨k, tag, key, after, off, num, delim, body⟩ k k tag tag key key after after off off num num delim delim body body rfl rfl A1 A2 _ _ c1 c2 (Rd.of_own o1) (Rd.of_own o2) (Nat.le_refl _) hb.b hb.b).mono ?_
  rintro e w' ⟨rfl, hb'⟩
  exact ⟨by rw [sameB_selfR], hb'⟩
theorem same_an {w : World} {x : An} {v1 v2 v3 u1 u2 u3 : Value} {b1 b2 : Nat} (h1 : (anW x v1 v2 v3).ok w b1) (h2 : (anW x u1 u2 u3).ok w b2) (hb : AnB x) (hf : anFit x) :
  Calls Try.prog 61 #[.agg (anW x v1 v2 v3).cells.toArray, .agg (anW x u1 u2 u3).cells.toArray] w fun e w' => e = .returned (.bool true) ∧ Below w.heap.size w w' := by
 have o1 := h1 _ (List.mem_cons_self ..)
 have o2 := h1 _ (List.mem_cons_of_mem _ (List.mem_cons_self ..))
 have o3 := h1 _ (List.mem_cons_of_mem _ (List.mem_cons_of_mem _ (List.mem_cons_self ..)))
 have p1 := h2 _ (List.mem_cons_self ..)
 have p2 := h2 _ (List.mem_cons_of_mem _ (List.mem_cons_self ..))
 have p3 := h2 _ (List.mem_cons_of_mem _ (List.mem_cons_of_mem _ (List.mem_cons_self ..)))
 obtain ⟨A1, c1, e1, _, _⟩ := own_form o1
 obtain ⟨A2, c2, e2, _, _⟩ := own_form o2
 obtain ⟨A3, c3, e3, _, _⟩ := own_form o3
 obtain ⟨B1, d1, f1, _, _⟩ := own_form p1
 obtain ⟨B2, d2, f2, _, _⟩ := own_form p2
 obtain ⟨B3, d3, f3, _, _⟩ := own_form p3
 simp only at e1 e2 e3 f1 f2 f3
 subst e1 e2 e3 f1 f2 f3
 cases x with
 | mk k tag code body keys groups next more ge gc size h1' h2' h3' h4' =>
  have hf2 := hf
  unfold anFit shortL at hf2
  refine (sameAn_any0 w w.heap.size ⟨k, tag, code, body, keys, groups, next, more, ge, gc, size, h1', h2', h3', h4'⟩ ⟨k, tag, code, body, keys, groups, next, more, ge, gc, size, h1', h2', h3', h4'⟩ k code tag body body keys keys groups groups next next more more ge gc size h1' h2' h3' h4' ge gc size h1' h2' h3' h4' rfl rfl A1 B1 A2 B2 A3 B3 _ c1 _ d1 _ c2 _ d2 _ c3 _ d3 (Rd.of_own o1) (Rd.of_own p1) (Rd.of_own o2) (Rd.of_own p2) (Rd.of_own o3) (Rd.of_own p3) (Nat.le_refl _) hb.b hb.b ?_ ?_).mono ?_
  ·have h := hf2.2.1.1
   have e : (cs keys).length = keys.length := by simp [cs]
   show (cs keys).length ≤ _
   simp only at h; split at h <;> omega
  ·have h := hf2.2.2.1.1
   have e : (cs groups).length = groups.length := by simp [cs]
   show (cs groups).length ≤ _
   simp only at h; omega
  ·rintro e w' ⟨rfl, hb'⟩
   exact ⟨by rw [sameAB_selfR], hb'⟩
end Go.Proofs.Ytbcmjjcbjojakaa
end
section
namespace Go.Proofs.Ytbcmjjcbjojakaa
open Go.RowKit
set_option linter.unusedVariables false
set_option linter.unusedSimpArgs false
/-- Where content stands. -/
structure CS (w w' : World) (g : Nat) (xs : Array Value) : Prop where
 rq : w'.heap[g]? = some (.cells xs 28)
 bel : Below w.heap.size w w'
structure CB (w w' : World) (g : Nat) (xs : Array Value) (v : Value) (L : List Nat) : Prop where
 sta : CS w w' g xs
 rd : ∃ A c, v = .slice A L.length c ∧ L.length ≤ c ∧ Rd w' w'.heap.size A L.length (cb L)
 own : w'.ownsRow w.heap.size 5 1 v L.length (cb L)
section
variable {w w1 w2 : World} {g : Nat} {xs : Array Value} {v v' : Value} {L X : List Nat}
end
end Go.Proofs.Ytbcmjjcbjojakaa
end
section
namespace Go.Proofs.Ytbcmjjcbjojakaa
open Go.RowKit
set_option linter.unusedVariables false
set_option linter.unusedSimpArgs false
end Go.Proofs.Ytbcmjjcbjojakaa
end
section
namespace Go.Proofs.Ytbcmjjcbjojakaa
open Go.RowKit
set_option linter.unusedVariables false
/-- A row grown: in place, or in a block that is new (then no old block changed). -/
def OntoS (w w' : World) (base e : Nat) (s v' : Value) (n : Nat) (xs : List Value) : Prop :=
 w'.ownsRow base e 1 v' n xs ∧ w.grownBy w' s.ownBlock ∧ (v'.ownBlock = s.ownBlock ∨ (v'.ownBlock = some w.heap.size ∧ ∀ k, k < w.heap.size → w'.heap[k]? = w.heap[k]?))
section
variable {P : Program} {w w' : World} {base e : Nat} {s v' : Value} {n : Nat} {xs : List Value}
variable {t bytes : Nat} {z : Value}
/-- Elements of several cells: 'append(s, x)' where '[]T{x}' lies built; what else stands. -/
def OntoSN (w w' : World) (base e size : Nat) (s v' : Value) (n : Nat) (xs : List Value) : Prop :=
 w'.ownsRow base e size v' n xs ∧ w.grownBy w' s.ownBlock ∧ (v'.ownBlock = s.ownBlock ∨ (v'.ownBlock = some w.heap.size ∧ ∀ k, k < w.heap.size → w'.heap[k]? = w.heap[k]?))
end
end Go.Proofs.Ytbcmjjcbjojakaa
end
section
namespace Go.Proofs.Ytbcmjjcbjojakaa
open Go.RowKit
set_option linter.unusedVariables false
/-- The blocks of some rows. -/
def ablk (us : List Value) : List Nat := us.filterMap Value.ownBlock
/-- Lists, each in memory of its own, written over as far as D says. -/
structure Fil (w : World) (base E e : Nat) (v : Value) (us : List Value) (n : Nat → Nat) (F : Nat → Nat → Value) (D : Nat → Nat → Prop) : Prop where
 out : w.ownsRow base E 1 v us.length us
 row : ∀ (i : Nat) (u : Value), us[i]? = some u → ∃ xs, w.ownsRow base e 1 u (n i) xs ∧ ∀ t, t < n i → D i t → xs[t]? = some (F i t)
 apart : ∀ (i j : Nat) (u u' : Value), us[i]? = some u → us[j]? = some u' → i ≠ j → Apart u u'
 off : ∀ (i : Nat) (u : Value), us[i]? = some u → Apart v u
section
variable {w w' w0 : World} {base E e : Nat} {v : Value} {us : List Value} {n : Nat → Nat} {F : Nat → Nat → Value} {D D' : Nat → Nat → Prop}
end
/-- The first cells of what a row is grown to. -/
def cellsF (f : Nat → Value) (m : Nat) : List Value := (List.range m).map f
/-- A slice that reads as the first cells of a row. -/
def SnapOf (w : World) (F : Nat → Nat → Value) (x : Value × Nat × Nat) : Prop :=
 (∃ A c, x.1 = .slice A x.2.2 c ∧ ∀ t, t < x.2.2 → ∃ b, A = some ⟨b, 0, none⟩ ∧ b < w.heap.size ∧ w.cell? ⟨b, t, none⟩ = some (F x.2.1 t)) ∧ ∀ b, x.1.ownBlock = some b → b < w.heap.size
/-- Rows of the call's own beside the lists. -/
abbrev Outs := Nat → Value × Nat × List Value
/-- The lists from number i on stand as they are; the ones ahead were grown; what reads them stands. -/
structure Gro (w0 w : World) (base e : Nat) (O : Outs) (us : List Value) (n : Nat → Nat) (F : Nat → Nat → Value) (i : Nat) (S : List (Value × Nat × Nat)) : Prop where
 out : ∀ q, w.ownsRow base (O q).2.1 1 (O q).1 (O q).2.2.length (O q).2.2
 oo : ∀ q q', q ≠ q' → Apart (O q).1 (O q').1
 new : ∀ q, q ≠ 0 → ∀ b, (O q).1.ownBlock = some b → w0.heap.size ≤ b
 rest : ∀ k u, i ≤ k → us[k]? = some u → w.ownsRow base e 1 u (n k) (cellsF (F k) (n k))
 apart : ∀ k j u u', i ≤ k → i ≤ j → us[k]? = some u → us[j]? = some u' → k ≠ j → Apart u u'
 off : ∀ q k u, i ≤ k → us[k]? = some u → Apart (O q).1 u
 snap : ∀ x ∈ S, SnapOf w F x ∧ (∀ q, Apart (O q).1 x.1) ∧ ∀ k u, i ≤ k → us[k]? = some u → Apart x.1 u
 chg : Chg (ablk us) w0 w
/-- The list number i is being grown. -/
structure Cur (w0 w : World) (base e : Nat) (O : Outs) (us : List Value) (n : Nat → Nat) (F : Nat → Nat → Value) (i : Nat) (S : List (Value × Nat × Nat)) (g : Value) (p : Nat) (M : List (Value × Nat × Nat)) : Prop where
 gro : Gro w0 w base e O us n F (i + 1) S
 own : w.ownsRow base e 1 g p (cellsF (F i) p)
 old : ∀ b, g.ownBlock = some b → b ∈ ablk us ∨ w0.heap.size ≤ b
 go : ∀ q, Apart (O q).1 g
 gr : ∀ k u, i + 1 ≤ k → us[k]? = some u → Apart g u
 gs : ∀ x ∈ S, Apart x.1 g
 mine : ∀ x ∈ M, SnapOf w F x ∧ x.2.1 = i ∧ x.2.2 ≤ p ∧ (∀ q, Apart (O q).1 x.1) ∧ ∀ k u, i + 1 ≤ k → us[k]? = some u → Apart x.1 u
section
variable {w0 w w' : World} {base e i p : Nat} {O O' : Outs} {us : List Value} {n : Nat → Nat} {F : Nat → Nat → Value} {S M : List (Value × Nat × Nat)} {g g' u v' y : Value}
end
/-- The lists themselves, and one list of what was grown. -/
def O2 (v : Value) (E : Nat) (us : List Value) (vl : Value) (E2 : Nat) (ls : List Value) : Outs
 | 0 => (v, E, us)
 | 1 => (vl, E2, ls)
 | _ => (.slice none 0 0, 0, [])
end Go.Proofs.Ytbcmjjcbjojakaa
end
section
namespace Go.Proofs.Ytbcmjjcbjojakaa
open Go.RowKit
set_option linter.unusedVariables false
/-- Rows, no two in the same block, none in a block of X. -/
structure Bag (W : World) (base : Nat) (RL : List (Nat × Value × List Value)) (X : List Nat) : Prop where
 own : ∀ x ∈ RL, W.ownsRow base x.1 1 x.2.1 x.2.2.length x.2.2
 apart : ∀ (i j : Nat) (x y : Nat × Value × List Value), RL[i]? = some x → RL[j]? = some y → i ≠ j → Apart x.2.1 y.2.1
 off : ∀ x ∈ RL, ∀ k ∈ X, x.2.1.ownBlock ≠ some k
 ltX : ∀ k ∈ X, k < W.heap.size
section
variable {W W' : World} {base : Nat} {RL RL2 : List (Nat × Value × List Value)} {X : List Nat} {us : List Value}
end
end Go.Proofs.Ytbcmjjcbjojakaa
end
section
namespace Go.Proofs.Ytbcmjjcbjojakaa
open Go.RowKit
set_option linter.unusedVariables false
def fbB (n : Nat → Nat) (i t : Nat) : Value := if t < n i then .int .u8 (2 * (i : Int)) else .int .u8 (2 * (i : Int) + 1)
end Go.Proofs.Ytbcmjjcbjojakaa
end
section
namespace Go.Proofs.Ytbcmjjcbjojakaa
open Go.RowKit
set_option linter.unusedVariables false
set_option linter.unusedSimpArgs false
theorem copied_any (w : World) (A : Option Addr) (n c B : Nat) (bs : List Nat) (hr : Rd w B A n (cb bs)) (hn : n ≤ 140737488355328) : Calls Try.prog 17 #[.slice A n c] w fun e w' => ∃ A' c', e = .returned (.slice A' n c') ∧ w'.ownsRow w.heap.size 5 1 (.slice A' n c') n (cb bs) ∧ n ≤ c' ∧ Below w.heap.size w w' := by
 have HH := Hd.mk hr
 have h63 : Hd (0 + n ≤ maxLen) := ⟨by unfold maxLen; omega⟩
 have hby : Hd ((0 + n) * 1 ≤ 140737488355328) := ⟨by omega⟩
 clear hr
 go_enter Try.func17, Try.ntmps17
 go_wp2_with (at_builtin; refine wpList_app elB rfl (.const (.slice none 0 0)) (.tmp 3) rfl w.heap.size (.slice none 0 0) 0 [] rfl (World.ownsRow_nil ..) B A n c (cb bs) rfl HH.out (cb_one bs) h63.out hby.out (Nat.le_refl _) ?_; intro v1 w1 hO1; have H1 : Hd (Onto w w1 w.heap.size 5 (.slice none 0 0) v1 n (cb bs)) := ⟨by simpa using hO1⟩; clear hO1)
 go_ret
 obtain ⟨A', c', rfl, hc, _⟩ := own_form H1.out.own
 exact ⟨A', c', rfl, H1.out.own, hc, H1.out.below (fun k hk => by cases hk) (Nat.le_refl _)⟩
/-- Where WireAsks stands. -/
structure AW (w W : World) (g : Nat) (k : Int) (tag : Nat) (key after : ByteArray) (off num delim : Int) (V : Value) (RL : List (Nat × Value × List Value)) : Prop where
 box : W.heap[g]? = some (.cells #[.int .i64 k, .int .u64 (tag : Int), .string key, .string after, .int .i64 off, .int .i64 num, .int .i64 delim, V] 28)
 bag : Bag W (g + 1) RL []
 bel : Below g w W
section
variable {w W W' : World} {g : Nat} {k : Int} {tag : Nat} {key after : ByteArray} {off num delim : Int} {V V' : Value} {RL : List (Nat × Value × List Value)}
end
/-- The next bytes. -/
def turnB (b : Nat) (i : Nat) : Nat := (b * 3 + i + 1) % 256
end Go.Proofs.Ytbcmjjcbjojakaa
end
section
namespace Go.Proofs.Ytbcmjjcbjojakaa
open Go.RowKit
set_option linter.unusedVariables false
theorem at_copy {P : Program} {ops : Array Oper} {rest : List Oper} {a : Act} {w : World} {Q : Exit → Act → World → Prop} {d : Option Tmp} {ty : TypeId} {pos : String} {af : Array Edge} {gd : Option (Nat × Bool)} {xs : Array Operand} {ts : Array TypeId} (h : wpList P ops Q (⟨d, .call { callee := .builtin .copy, args := xs, argTypes := ts }, ty, pos, af, gd⟩ :: rest) a w) : wpList P ops Q (⟨d, .call { callee := .builtin .copy, args := xs, argTypes := ts }, ty, pos, af, gd⟩ :: rest) a w := h
theorem wpList_copyC {P : Program} {w : World} {ops : Array Oper} {rest : List Oper} {o : Oper} {a : Act} {Q : Exit → Act → World → Prop} (hgd : o.guard = none) (d s : Operand) (dT sT : TypeId)
  (ho : o.op = .call { callee := .builtin .copy, args := #[d, s], argTypes := #[dT, sT] }) (elem : TypeId) (hu : P.underlying dT = some (.slice elem)) (hsz : (P.info? elem).map (·.size) = some 1)
  (g n dCap : Nat) (sp : Option Addr) (sCap : Nat) (hd : a.eval d = .slice (some ⟨g, 0, none⟩) n dCap) (hs : a.eval s = .slice sp n sCap)
  (cur : List Value) (t : TypeId) (hg : w.heap[g]? = some (.cells cur.toArray t (0, 0))) (B : Nat) (cs : List Value) (hr : Rd w B sp n cs) (hfit : n ≤ cur.length) (h1 : ∀ v ∈ cs, v.oneCell' = true)
  (h : ∀ w', Hd (w'.heap[g]? = some (.cells (cs ++ cur.drop n).toArray t (0, 0)) ∧ Chg [g] w w') → wpList P ops Q rest (a.put o.dst (goInt n)) w') :
  wpList P ops Q (o :: rest) a w := by
 have hl := hr.1
 by_cases h0 : n = 0
 ·subst h0
  have : cs = [] := List.eq_nil_of_length_eq_zero hl
  subst this
  exact wpList_copy_nothing hgd d s dT sT ho elem hu hsz _ _ _ _ _ _ hd hs (by simp) (h w ⟨by simpa using hg, Chg.refl _ _⟩)
 ·obtain ⟨gs, os, rfl, _, hc⟩ := hr.2 (by omega)
  have := wpList_copy_own (rest := rest) (ops := ops) (Q := Q) (w := w) hgd d s dT sT ho elem hu hsz g 0 n dCap ⟨gs, os, none⟩ n sCap hd hs cur.toArray t hg cs (by simp [hl]) (fun j v hj => ?_) (by simp; omega) h1 ?_
  ·exact this
  ·have hj2 := (List.getElem?_eq_some_iff.1 hj).1
   rw [show (⟨gs, os, none⟩ : Addr).add j = ⟨gs, os + j, none⟩ by unfold Addr.add; split <;> simp_all]
   rw [hc j (by omega)]; exact hj
  ·rw [hl]
   refine h _ ⟨?_, ⟨rfl, rfl, rfl, by simp [World.setRow], fun k _ hk => setRow_other w g k _ (fun e => hk (by simp [e]))⟩⟩
   have := setRow_heap w g cur.toArray (cs ++ cur.drop n).toArray t _ hg
   simpa using this
/-- A lent row that is written over from its beginning. -/
theorem own_over {w w' : World} {base g n cap k : Nat} {e : Nat} {xs ys cs : List Value} {cur : List Value} (h : w.ownsRow base e 1 (.slice (some ⟨g, 0, none⟩) (n + k) cap) (n + k) (xs ++ ys)) (hx : xs.length = n) (hc : cs.length = n) (hg : w.heap[g]? = some (.cells cur.toArray e (0, 0)))
  (hg' : w'.heap[g]? = some (.cells (cs ++ cur.drop n).toArray e (0, 0))) (hp : 0 < n + k) : w'.ownsRow base e 1 (.slice (some ⟨g, 0, none⟩) (n + k) cap) (n + k) (cs ++ ys) := by
 have hl := h.1
 refine ⟨by simp only [List.length_append] at hl ⊢; omega, ?_⟩
 rcases h.2 with ⟨h0, _⟩ | ⟨g', cap', cur', hv, hb, hg2, hn, hm, hsz, ht⟩
 ·cases h0
 ·injection hv with e1 e2 e3
  injection e1 with e1
  injection e1 with e1
  subst e1 e3
  rw [hg] at hg2
  injection hg2 with hg2
  injection hg2 with e4
  subst e4
  refine .inr ⟨g, cap, _, rfl, hb, hg', hn, hm, ?_, ?_⟩
  ·simp only [List.size_toArray, List.length_append, List.length_drop] at hsz ⊢
   simp at hsz
   omega
  ·simp only [Nat.mul_one] at ht ⊢
   have e5 := congrArg (List.drop n) ht
   rw [List.drop_take, List.drop_left' hx, show n + k - n = k by omega] at e5
   rw [List.take_append, hc, List.take_of_length_le (by omega), show n + k - n = k by omega, e5]
theorem own_block {w : World} {base g n cap : Nat} {e : Nat} {xs : List Value} (h : w.ownsRow base e 1 (.slice (some ⟨g, 0, none⟩) n cap) n xs) : ∃ cur : List Value, w.heap[g]? = some (.cells cur.toArray e (0, 0)) ∧ n ≤ cur.length ∧ base ≤ g := by
 rcases h.2 with ⟨h0, _⟩ | ⟨g', cap', cur', hv, hb, hg2, hn, hm, hsz, ht⟩
 ·cases h0
 ·injection hv with e1 e2 e3
  injection e1 with e1
  injection e1 with e1
  subst e1
  refine ⟨cur'.toList, by simpa using hg2, by simp; omega, hb⟩
end Go.Proofs.Ytbcmjjcbjojakaa
end
section
namespace Go.Proofs.Ytbcmjjcbjojakaa
open Go.RowKit
set_option linter.unusedVariables false
def zRdr : Array Value := #[.bool false, .slice none 0 0, .int .i64 0, .slice none 0 0, .slice none 0 0, .int .i64 0, .int .i64 0]
structure A0 {T : Type} (Z : Kd T) (base : Nat) (w wl wr : World) (g g4 g5 g6 gl half cap : Nat) (TC : Array Value) (Hs : Nat → Prop) (X0 X : List Nat) (V : Array Value) (fl : Int) (st : List Nat) : Prop where
 b4 : wr.heap[g4]? = some (.cells V 65)
 b5 : wr.heap[g5]? = some (.cells TC 68)
 b6 : wr.heap[g6]? = some (.cells zRdr 65)
 lo : ∃ xs : List Nat, xs.length = half ∧ wr.ownsRow (g6 + 1) 5 1 (.slice (some ⟨gl, 0, none⟩) (half + 64) cap) (half + 64) (cb (xs ++ marks))
 pr : PairAt Z base wr g X (fun k => Hs k ∨ wl.heap.size ≤ k) V fl st
 hx : ∀ x ∈ X, x ∈ X0 ∨ wl.heap.size ≤ x
 ch : Chg X0 w wr
 sz : wl.heap.size ≤ wr.heap.size
 q4 : w.heap.size = g4
 q5 : g4 + 1 = g5
 q6 : g5 + 1 = g6
 ql : g6 < gl
 qz : gl < wl.heap.size
 x0 : ∀ x ∈ X0, x < g4
 h0 : ∀ k, Hs k → k < g4
section
variable {T : Type} {Z : Kd T} {base : Nat} {w wl wr w1 wc wd wg wh : World} {g g4 g5 g6 gl half cap n : Nat} {TC : Array Value} {Hs : Nat → Prop} {X0 X X' Y : List Nat} {V V' : Array Value} {fl fl' : Int} {st st' b1 : List Nat}
theorem A0.own (h : A0 Z base w wl wr g g4 g5 g6 gl half cap TC Hs X0 X V fl st) : g4 < wr.heap.size ∧ g5 < wr.heap.size ∧ g6 < wr.heap.size ∧ gl < wr.heap.size := by
 have := h.sz; have := h.qz; have := h.ql; have := h.q5; have := h.q6
 omega
theorem A0.xoff (h : A0 Z base w wl wr g g4 g5 g6 gl half cap TC Hs X0 X V fl st) : ∀ x ∈ X, x ∉ [g4, gl] := fun x hx hm => by
 have := h.qz; have := h.ql; have := h.q5; have := h.q6
 rcases h.hx x hx with h1 | h1
 ·have := h.x0 x h1; simp at hm; omega
 ·simp at hm; omega
theorem A0.hoff (h : A0 Z base w wl wr g g4 g5 g6 gl half cap TC Hs X0 X V fl st) : ∀ k, (Hs k ∨ wl.heap.size ≤ k) → k ∉ [g4, gl] := fun k hk hm => by
 have := h.qz; have := h.ql; have := h.q5; have := h.q6
 rcases hk with h1 | h1
 ·have := h.h0 k h1; simp at hm; omega
 ·simp at hm; omega
theorem A0.boxoff (h : A0 Z base w wl wr g g4 g5 g6 gl half cap TC Hs X0 X V fl st) : g4 ∉ X ∧ g5 ∉ X ∧ g6 ∉ X ∧ gl ∉ X := by
 have q1 := h.qz; have q2 := h.ql; have q3 := h.q5; have q4 := h.q6
 have hh : ∀ k, g4 ≤ k → k < wl.heap.size → k ∉ X := fun k h1 h2 hm => by
  rcases h.hx k hm with h3 | h3
  ·have := h.x0 k h3; omega
  ·omega
 exact ⟨hh _ (by omega) (by omega), hh _ (by omega) (by omega), hh _ (by omega) (by omega), hh _ (by omega) (by omega)⟩
theorem A0.new (h : A0 Z base w wl wr g g4 g5 g6 gl half cap TC Hs X0 X V fl st) (b : Chg [] wr w1) : A0 Z base w wl w1 g g4 g5 g6 gl half cap TC Hs X0 X V fl st := by
 obtain ⟨k4, k5, k6, kl⟩ := h.own
 obtain ⟨xs, hxs, ho⟩ := h.lo
 exact { h with
  b4 := (b.block g4 k4 List.not_mem_nil).trans h.b4
  b5 := (b.block g5 k5 List.not_mem_nil).trans h.b5
  b6 := (b.block g6 k6 List.not_mem_nil).trans h.b6
  lo := ⟨xs, hxs, b.own ho fun _ _ => List.not_mem_nil⟩
  pr := h.pr.new b
  ch := h.ch.newer b (by simp)
  sz := Nat.le_trans h.sz b.size }
/-- Both were pushed: the document's value stands in its box, the bytes in the lent row. -/
theorem A0.push (h : A0 Z base w wl wr g g4 g5 g6 gl half cap TC Hs X0 X V fl st) (bc : Chg [] wr wc) (bd : Chg [] wc wd) (bg : Chg [g4, gl] wd wg) (h4 : wg.heap[g4]? = some (.cells V' 65))
  (hl : wg.ownsRow (g6 + 1) 5 1 (.slice (some ⟨gl, 0, none⟩) (half + 64) cap) (half + 64) (cb (b1 ++ marks))) (hb1 : b1.length = half)
  (bh : Chg X wg wh) (hp : PairAt Z base wh g X' (fun k => (Hs k ∨ wl.heap.size ≤ k) ∨ wc.heap.size ≤ k) V' fl' st') (hx' : ∀ x ∈ X', x ∈ X ∨ wc.heap.size ≤ x) :
  A0 Z base w wl wh g g4 g5 g6 gl half cap TC Hs X0 X' V' fl' st' := by
 obtain ⟨k4, k5, k6, kl⟩ := h.own
 obtain ⟨o4, o5, o6, ol⟩ := h.boxoff
 have s1 := bc.size; have s2 := bd.size; have s3 := bg.size; have s4 := bh.size
 have q1 := h.qz; have q2 := h.ql; have q3 := h.q5; have q4 := h.q6; have q5 := h.sz
 have n5 : g5 ∉ [g4, gl] := by simp; omega
 have n6 : g6 ∉ [g4, gl] := by simp; omega
 exact { h with
  b4 := (bh.block g4 (by omega) o4).trans h4
  b5 := (bh.block g5 (by omega) o5).trans ((bg.block g5 (by omega) n5).trans ((bd.block g5 (by omega) List.not_mem_nil).trans ((bc.block g5 (by omega) List.not_mem_nil).trans h.b5)))
  b6 := (bh.block g6 (by omega) o6).trans ((bg.block g6 (by omega) n6).trans ((bd.block g6 (by omega) List.not_mem_nil).trans ((bc.block g6 (by omega) List.not_mem_nil).trans h.b6)))
  lo := ⟨b1, hb1, bh.own hl fun k hk hm => by simp only [Value.ownBlock, Option.some.injEq] at hk; subst hk; exact ol hm⟩
  pr := hp.more fun k _ hk => by rcases hk with hk | hk; exact hk; exact .inr (by omega)
  hx := fun x hx => by
   rcases hx' x hx with h1 | h1
   ·exact h.hx x h1
   ·exact .inr (by omega)
  ch := (((h.ch.newer bc (by simp)).newer bd (by simp)).newer bg (fun y hy => .inr (by have := h.q4; simp at hy; omega))).newer bh (fun y hy => by
   rcases h.hx y hy with h1 | h1
   ·exact .inl h1
   ·exact .inr (by have := h.q4; omega))
  sz := by omega }
end
end Go.Proofs.Ytbcmjjcbjojakaa
end
section
namespace Go.Proofs.Ytbcmjjcbjojakaa
open Go.RowKit
set_option linter.unusedVariables false
structure A1 {T : Type} (Z : Kd T) (base : Nat) (wr wx : World) (g g16 : Nat) (X : List Nat) (Hs : Nat → Prop) (st bs : List Nat) (V : Array Value) (fl : Int) (st2 : List Nat) : Prop where
 b : wx.heap[g16]? = some (.cells V 65)
 lo : wr.heap.size ≤ g16
 ch : Chg [] wr wx
 sz : V.size = 7 ∧ V.all (·.oneCell') = true
 len : st2.length ≤ st.length + bs.length
 law : ∀ (Y : List Nat) (w1 : World), Chg Y wx w1 → (∀ x ∈ X, x ∉ Y) → (∀ k, Hs k → k ∉ Y) → (∀ y ∈ Y, y < wr.heap.size) → ∀ (A : Option Addr) (n cp : Nat), Rd w1 w1.heap.size A n (cb bs) →
   Calls Try.prog 35 #[.pointer (some ⟨g, 0, none⟩), .slice A n cp] w1 fun e w2 => e = .returned (.int .i64 fl) ∧ Chg X w1 w2 ∧ ∃ X', PairAt Z base w2 g X' (fun k => Hs k ∨ wr.heap.size ≤ k) V fl st2 ∧ ∀ x ∈ X', x ∈ X ∨ wr.heap.size ≤ x
section
variable {T : Type} {Z : Kd T} {base : Nat} {wr wa w' wx : World} {g : Nat} {X : List Nat} {Hs : Nat → Prop} {st bs : List Nat} {e : Ending}
/-- Whatever stands between the call and the box, the box being made first or last. -/
theorem A1.of (hX : ∀ x ∈ X, x < wr.heap.size) (hH : ∀ k, Hs k → k < wr.heap.size) (ha : Chg [] wr wa) {V : Array Value} {fl : Int} {st2 : List Nat} {g16 : Nat} (hc : Chg [] wa w') (hs : V.size = 7 ∧ V.all (·.oneCell') = true) (hl : st2.length ≤ st.length + bs.length)
  (hlaw : ∀ (Y : List Nat) (w1 : World), Chg Y w' w1 → (∀ x ∈ X, x ∉ Y) → (∀ k, Hs k → k ∉ Y) → (∀ y ∈ Y, y < wa.heap.size) → ∀ (A : Option Addr) (n cp : Nat), Rd w1 w1.heap.size A n (cb bs) →
   Calls Try.prog 35 #[.pointer (some ⟨g, 0, none⟩), .slice A n cp] w1 fun e w2 => e = .returned (.int .i64 fl) ∧ Chg X w1 w2 ∧ ∃ X', PairAt Z base w2 g X' (fun k => Hs k ∨ wa.heap.size ≤ k) V fl st2 ∧ ∀ x ∈ X', x ∈ X ∨ wa.heap.size ≤ x)
  (hb : wx.heap[g16]? = some (.cells V 65)) (hg : wr.heap.size ≤ g16) (hx : Chg [g16] w' wx) (hq : g16 < wa.heap.size ∨ w'.heap.size ≤ g16) : A1 Z base wr wx g g16 X Hs st bs V fl st2 where
 b := hb
 lo := hg
 ch := (ha.trans hc).newer hx fun y hy => .inr (by rw [List.mem_singleton.1 hy]; exact hg)
 sz := hs
 len := hl
 law := fun Y w1 b hXY hHY hY A n cp hr => by
  have k1 := ha.size
  have key : ∃ Y', Chg Y' w' w1 ∧ (∀ x ∈ X, x ∉ Y') ∧ (∀ k, Hs k → k ∉ Y') ∧ (∀ y ∈ Y', y < wa.heap.size) := by
   rcases hq with hq | hq
   ·refine ⟨g16 :: Y, (hx.mono (by intro k hk _; simp at hk; simp [hk])).trans (b.mono (fun k hk _ => List.mem_cons_of_mem _ hk)), fun x hx2 hm => ?_, fun k hk hm => ?_, fun y hy => ?_⟩
    ·rcases List.mem_cons.1 hm with h1 | h1
     ·have := hX x hx2; omega
     ·exact hXY x hx2 h1
    ·rcases List.mem_cons.1 hm with h1 | h1
     ·have := hH k hk; omega
     ·exact hHY k hk h1
    ·rcases List.mem_cons.1 hy with h1 | h1
     ·omega
     ·have := hY y h1; omega
   ·exact ⟨Y, (hx.fresh (by intro y hy; rw [List.mem_singleton.1 hy]; exact hq)).mono (by simp) |>.trans b, hXY, hHY, fun y hy => by have := hY y hy; omega⟩
  obtain ⟨Y', h1, h2, h3, h4⟩ := key
  refine (hlaw Y' w1 h1 h2 h3 h4 A n cp hr).mono ?_
  rintro e w2 ⟨he, hc2, X', hp, hX'⟩
  exact ⟨he, hc2, X', hp.more fun k _ hk => hk.imp id fun h => by omega, fun x hx2 => (hX' x hx2).imp id fun h => by omega⟩
end
end Go.Proofs.Ytbcmjjcbjojakaa
end
section
namespace Go.Proofs.Ytbcmjjcbjojakaa
open Go.RowKit
set_option linter.unusedVariables false
theorem fill_foldO (cs : List Value) (off : Nat) : ∀ (k : Nat) (zs : Array Value) (i : Nat), (((cs.zipIdx k).foldl (fun (cs : Array Value) (x : Value × Nat) => cs.setIfInBounds (off + x.2) x.1) zs)[i]? = if off + k ≤ i ∧ i < off + k + cs.length ∧ i < zs.size then cs[i - (off + k)]? else zs[i]?) := by
 induction cs with
 | nil => intro k zs i; simp; intro h1 h2; omega
 | cons c r ih =>
  intro k zs i
  rw [List.zipIdx_cons, List.foldl_cons, ih]
  simp only [Array.size_setIfInBounds, List.length_cons]
  by_cases h1 : off + (k + 1) ≤ i ∧ i < off + (k + 1) + r.length ∧ i < zs.size
  ·rw [if_pos h1, if_pos (by omega), show i - (off + k) = (i - (off + (k + 1))) + 1 by omega, List.getElem?_cons_succ]
  ·rw [if_neg h1, Array.getElem?_setIfInBounds]
   by_cases h2 : off + k = i
   ·subst h2
    by_cases h3 : off + k < zs.size
    ·rw [if_pos rfl, if_pos h3, if_pos ⟨Nat.le_refl _, by omega, h3⟩]; simp
    ·rw [if_pos rfl, if_neg h3, if_neg (by omega), Array.getElem?_eq_none (by omega)]
   ·rw [if_neg h2, if_neg (by omega)]
theorem fold_size (f : Value × Nat → Nat) (l : List (Value × Nat)) : ∀ zs : Array Value, (l.foldl (fun (cs : Array Value) x => cs.setIfInBounds (f x) x.1) zs).size = zs.size := by
 induction l with
 | nil => intro zs; rfl
 | cons a l ih => intro zs; rw [List.foldl_cons, ih]; simp
theorem fill3 (s : Nat) (a b c : List Value) (ha : a.length = s) (hb : b.length = s) (hc : c.length = s) (zs : Array Value) (hz : zs.size = 3 * s) :
  Instr.fill (fun i => some (i * s, s)) zs [(0, .agg a.toArray), (1, .agg b.toArray), (2, .agg c.toArray)] = some (a ++ (b ++ c)).toArray := by
 have e : ∀ (xs : List Value) (off : Nat) (z : Array Value), (xs.toArray.zipIdx.foldl (fun (cs : Array Value) (x : Value × Nat) => cs.setIfInBounds (off + x.2) x.1) z) = ((xs.zipIdx 0).foldl (fun (cs : Array Value) (x : Value × Nat) => cs.setIfInBounds (off + x.2) x.1) z) := fun xs off z => by
  rw [← Array.foldl_toList, Array.toList_zipIdx]
 simp only [Instr.fill, Value.cells, List.size_toArray, ha, hb, hc]
 rw [if_neg (by simp; omega), e]
 rw [if_neg (by simp [fold_size]; omega), e]
 rw [if_neg (by simp [fold_size]; omega), e]
 congr 1
 apply Array.ext_getElem?
 intro i
 rw [fill_foldO, fill_foldO, fill_foldO]
 simp only [fold_size, hz, Nat.add_zero, ha, hb, hc, List.getElem?_toArray]
 by_cases h1 : i < s
 ·rw [if_neg (by omega), if_neg (by omega), if_pos (by omega), List.getElem?_append_left (by omega)]
  congr 1; omega
 ·by_cases h2 : i < 2 * s
  ·rw [if_neg (by omega), if_pos (by omega), List.getElem?_append_right (by omega), List.getElem?_append_left (by omega)]
   congr 1; omega
  ·by_cases h3 : i < 3 * s
   ·rw [if_pos (by omega), List.getElem?_append_right (by omega), List.getElem?_append_right (by omega)]
    congr 1; omega
   ·rw [if_neg (by omega), if_neg (by omega), if_neg (by omega), Array.getElem?_eq_none (by omega), List.getElem?_eq_none (by simp; omega)]
theorem wpList_build3 {P : Program} {t e size bytes : Nat} {ops : Array Oper} {rest : List Oper} {o : Oper} {a : Act} {w : World} {Q : Exit → Act → World → Prop} (E : ElN P t e size bytes) (hg : o.guard = none) (x y z : Operand) (ho : o.op = .buildSlice t 3 #[(0, x), (1, y), (2, z)])
  (d : Nat) (hd : o.dst = some d) (xs ys zs : List Value) (hx : a.eval x = .agg xs.toArray) (hy : a.eval y = .agg ys.toArray) (hz : a.eval z = .agg zs.toArray) (lx : xs.length = size) (ly : ys.length = size) (lz : zs.length = size)
  (h : ∀ w2, Hd (w2.heap[w.heap.size]? = some (.cells (xs ++ (ys ++ zs)).toArray e (0, 0)) ∧ Below w.heap.size w w2 ∧ w2.heap.size = w.heap.size + 1) → wpList P ops Q rest (a.put (some d) (.slice (some ⟨w.heap.size, 0, none⟩) 3 3)) w2) : wpList P ops Q (o :: rest) a w := by
 obtain ⟨i, v, hi, hv, hs, hb, hvs⟩ := E.hi
 have h2 := E.hs
 refine wpList_buildSlice hg t e 3 _ ho (xs ++ (ys ++ zs)).toArray i v E.ht hi hv (by rw [hs]; omega) (by rw [hs]; omega) ?_ ?_
 ·simp only [List.map_toArray, List.map_cons, List.map_nil, hx, hy, hz]
  rw [hs]
  exact fill3 size xs ys zs lx ly lz _ (by simp)
 ·rw [hd]
  exact h _ ⟨heap_alloc_new _ _, (Below.refl _ _).alloc (Nat.le_refl _) _, by simp⟩
end Go.Proofs.Ytbcmjjcbjojakaa
end
section
namespace Go.Proofs.Ytbcmjjcbjojakaa
open Go.RowKit
set_option linter.unusedVariables false
set_option linter.unusedSimpArgs false
set_option maxRecDepth 20000 in
set_option maxHeartbeats 4000000 in
theorem nothing_held (w : World) (who : Int) (A : Option Addr) (n c : Nat) :
  Calls Try.prog 27 #[.pointer none, .agg #[.int .i64 who, .int .i64 3, .slice A n c]] w fun e w' => e = .returned (.bool true) ∧ Below w.heap.size w w' := by
 obtain ⟨g3, hg3⟩ : ∃ q, w.heap.size = q := ⟨_, rfl⟩
 obtain ⟨w1, hw1⟩ : ∃ U, w.alloc (.cells #[.int .i64 who, .int .i64 3, .slice A n c] 68) = U := ⟨_, rfl⟩
 have HB : Hd (w1.heap[g3]? = some (.cells #[.int .i64 who, .int .i64 3, .slice A n c] 68) ∧ Below w.heap.size w w1 ∧ w.heap.size = g3) := ⟨by rw [← hw1, ← hg3]; exact heap_alloc_new w _, by rw [← hw1]; exact (Below.refl _ w).alloc (Nat.le_refl _) _, hg3⟩
 go_enter Try.func27, Try.ntmps27
 go_upto_region 1 with fail
 try rw [hw1]
 try rw [hg3]
 clear hw1 hg3
 have c1 : w1.cell? ⟨g3, 1, none⟩ = some (.int .i64 3) := by rw [cell_of_row w1 g3 1 _ _ (0, 0) HB.out.1]; rfl
 have c2 : w1.cell? ⟨g3, 2, none⟩ = some (.slice A n c) := by rw [cell_of_row w1 g3 2 _ _ (0, 0) HB.out.1]; rfl
 go_wp2_with fail
 refine (held_nil w1).mono ?_
 rintro e w2 ⟨rfl, hw2⟩
 subst hw2
 go_wp2_with fail
 go_ret
 exact ⟨rfl, HB.out.2.1⟩
set_option maxRecDepth 20000 in
set_option maxHeartbeats 4000000 in
theorem nothing_fault (w : World) (who : Int) (A : Option Addr) (n c : Nat) :
  Calls Try.prog 27 #[.pointer none, .agg #[.int .i64 who, .int .i64 4, .slice A n c]] w fun e w' => e = .returned (.bool true) ∧ Below w.heap.size w w' := by
 obtain ⟨g3, hg3⟩ : ∃ q, w.heap.size = q := ⟨_, rfl⟩
 obtain ⟨w1, hw1⟩ : ∃ U, w.alloc (.cells #[.int .i64 who, .int .i64 4, .slice A n c] 68) = U := ⟨_, rfl⟩
 have HB : Hd (w1.heap[g3]? = some (.cells #[.int .i64 who, .int .i64 4, .slice A n c] 68) ∧ Below w.heap.size w w1 ∧ w.heap.size = g3) := ⟨by rw [← hw1, ← hg3]; exact heap_alloc_new w _, by rw [← hw1]; exact (Below.refl _ w).alloc (Nat.le_refl _) _, hg3⟩
 go_enter Try.func27, Try.ntmps27
 go_upto_region 1 with fail
 try rw [hw1]
 try rw [hg3]
 clear hw1 hg3
 have c1 : w1.cell? ⟨g3, 1, none⟩ = some (.int .i64 4) := by rw [cell_of_row w1 g3 1 _ _ (0, 0) HB.out.1]; rfl
 have c2 : w1.cell? ⟨g3, 2, none⟩ = some (.slice A n c) := by rw [cell_of_row w1 g3 2 _ _ (0, 0) HB.out.1]; rfl
 go_wp2_with fail
 refine (rfault_nil w1).mono ?_
 rintro e w2 ⟨rfl, hw2⟩
 subst hw2
 go_wp2_with fail
 go_ret
 exact ⟨rfl, HB.out.2.1⟩
set_option maxRecDepth 20000 in
set_option maxHeartbeats 4000000 in
theorem nothing_push (w : World) (who : Int) (A : Option Addr) (n c : Nat) (bs : List Nat) (hr : Rd w w.heap.size A n (cb bs)) (hn : n ≤ 140737488355328) :
  Calls Try.prog 27 #[.pointer none, .agg #[.int .i64 who, .int .i64 0, .slice A n c]] w fun e w' => e = .returned (.bool true) ∧ Below w.heap.size w w' := by
 obtain ⟨g3, hg3⟩ : ∃ q, w.heap.size = q := ⟨_, rfl⟩
 obtain ⟨w1, hw1⟩ : ∃ U, w.alloc (.cells #[.int .i64 who, .int .i64 0, .slice A n c] 68) = U := ⟨_, rfl⟩
 have HB : Hd (w1.heap[g3]? = some (.cells #[.int .i64 who, .int .i64 0, .slice A n c] 68) ∧ Below w.heap.size w w1 ∧ w.heap.size = g3) := ⟨by rw [← hw1, ← hg3]; exact heap_alloc_new w _, by rw [← hw1]; exact (Below.refl _ w).alloc (Nat.le_refl _) _, hg3⟩
 go_enter Try.func27, Try.ntmps27
 go_upto_region 1 with fail
 try rw [hw1]
 try rw [hg3]
 clear hw1 hg3
 have c1 : w1.cell? ⟨g3, 1, none⟩ = some (.int .i64 0) := by rw [cell_of_row w1 g3 1 _ _ (0, 0) HB.out.1]; rfl
 have c2 : w1.cell? ⟨g3, 2, none⟩ = some (.slice A n c) := by rw [cell_of_row w1 g3 2 _ _ (0, 0) HB.out.1]; rfl
 go_wp2_with fail
 refine (copied_any w1 A n c w.heap.size bs (hr.below HB.out.2.1) hn).mono ?_
 rintro e w2 ⟨A2, c2', rfl, ho, _, hb⟩
 have HC : Hd (Below w1.heap.size w1 w2) := ⟨hb⟩
 clear hb
 go_wp2_with fail
 refine (push_nil w2 A2 n c2').mono ?_
 rintro e w3 ⟨rfl, hw3⟩
 subst hw3
 go_wp2_with fail
 go_ret
 exact ⟨rfl, HB.out.2.1.trans (HC.out.mono HB.out.2.1.size)⟩
set_option maxRecDepth 20000 in
set_option maxHeartbeats 4000000 in
theorem nothing_else (w : World) (who : Int) (A : Option Addr) (n c : Nat) (d : Int) (hd : ¬ (0 ≤ d ∧ d ≤ 4)) :
  Calls Try.prog 27 #[.pointer none, .agg #[.int .i64 who, .int .i64 d, .slice A n c]] w fun e w' => e = .returned (.bool true) ∧ Below w.heap.size w w' := by
 obtain ⟨g3, hg3⟩ : ∃ q, w.heap.size = q := ⟨_, rfl⟩
 obtain ⟨w1, hw1⟩ : ∃ U, w.alloc (.cells #[.int .i64 who, .int .i64 d, .slice A n c] 68) = U := ⟨_, rfl⟩
 have HB : Hd (w1.heap[g3]? = some (.cells #[.int .i64 who, .int .i64 d, .slice A n c] 68) ∧ Below w.heap.size w w1 ∧ w.heap.size = g3) := ⟨by rw [← hw1, ← hg3]; exact heap_alloc_new w _, by rw [← hw1]; exact (Below.refl _ w).alloc (Nat.le_refl _) _, hg3⟩
 go_enter Try.func27, Try.ntmps27
 go_upto_region 1 with fail
 try rw [hw1]
 try rw [hg3]
 clear hw1 hg3
 have c1 : w1.cell? ⟨g3, 1, none⟩ = some (.int .i64 d) := by rw [cell_of_row w1 g3 1 _ _ (0, 0) HB.out.1]; rfl
 have c2 : w1.cell? ⟨g3, 2, none⟩ = some (.slice A n c) := by rw [cell_of_row w1 g3 2 _ _ (0, 0) HB.out.1]; rfl
 have e0 : (d == 0) = false := beq_eq_false_iff_ne.2 (by omega)
 have e1 : (d == 1) = false := beq_eq_false_iff_ne.2 (by omega)
 have e2 : (d == 2) = false := beq_eq_false_iff_ne.2 (by omega)
 have e3 : (d == 3) = false := beq_eq_false_iff_ne.2 (by omega)
 have e4 : (d == 4) = false := beq_eq_false_iff_ne.2 (by omega)
 clear hd
 go_wp2_with fail
 go_ret
 exact ⟨rfl, HB.out.2.1⟩
end Go.Proofs.Ytbcmjjcbjojakaa
end
