/- Put together of: RdM StepS WNum. -/
import Derived.Test.YtbcmjjcbjojakaaDoorPk7
import Derived.Test.YtbcmjjcbjojakaaDoorPk8
import Derived.Test.YtbcmjjcbjojakaaDoorAnW
import Derived.Test.YtbcmjjcbjojakaaDoorPk4
section
namespace Go.Proofs.YtbcmjjcbjojakaaDoor
open Go.RowKit
set_option linter.unusedVariables false
/-- Element by element. -/
def Alike {α β : Type} (R : α → β → Prop) : List α → List β → Prop
  | [], [] => True
  | a :: l, b :: m => R a b ∧ Alike R l m
  | _, _ => False
theorem forall2_snoc {α β : Type} {R : α → β → Prop} : ∀ {l : List α} {m : List β} {a : α} {b : β}, Alike R l m → R a b → Alike R (l ++ [a]) (m ++ [b])
  | [], [], _, _, _, h => ⟨h, trivial⟩
  | [], _ :: _, _, _, h, _ => h.elim
  | _ :: _, [], _, _, h, _ => h.elim
  | _ :: _, _ :: _, _, _, h, h2 => ⟨h.1, forall2_snoc h.2 h2⟩
theorem Alike.len {α β : Type} {R : α → β → Prop} : ∀ {l : List α} {m : List β}, Alike R l m → l.length = m.length
  | [], [], _ => rfl
  | [], _ :: _, h => h.elim
  | _ :: _, [], h => h.elim
  | _ :: _, _ :: _, h => by simp only [List.length_cons]; rw [Alike.len h.2]
/-- A kind of messages. -/
structure Kd (T : Type) where
  ans : Bool
  rd : List Nat → Option T
  is : Wm → T → Prop
  e : Nat
  sl : Nat
  m : Nat
  by_ : Nat
def askK : Kd Rq := ⟨false, rdRq, rqIs, 34, 62, 8, 96⟩
def telK : Kd An := ⟨true, rdAn, anIs, 94, 63, 15, 176⟩
theorem infoRqF : (Tryd.prog.info? 34).map (fun i => (i.zero.map (·.cells.size), i.size, i.bytes)) = some (some 8, 8, 96) := by kernel_rfl
theorem infoAnF : (Tryd.prog.info? 94).map (fun i => (i.zero.map (·.cells.size), i.size, i.bytes)) = some (some 15, 15, 176) := by kernel_rfl
theorem info_partsN {P : Program} {e m by_ : Nat} (h : (P.info? e).map (fun i => (i.zero.map (·.cells.size), i.size, i.bytes)) = some (some m, m, by_)) : ∃ i z, P.info? e = some i ∧ i.zero = some z ∧ i.size = m ∧ i.bytes = by_ ∧ z.cells.size = m := by
  cases hi : P.info? e with
  | none => rw [hi] at h; cases h
  | some i =>
    rw [hi] at h
    simp only [Option.map_some, Option.some.injEq, Prod.mk.injEq] at h
    obtain ⟨h1, h2, h3⟩ := h
    cases hz : i.zero with
    | none => rw [hz] at h1; cases h1
    | some z => rw [hz] at h1; simp only [Option.map_some, Option.some.injEq] at h1; exact ⟨i, z, rfl, hz, h2, h3, h1⟩
theorem elRq : ElN Tryd.prog 62 34 8 96 := ⟨Tryd.underlying62, info_partsN infoRqF, by omega⟩
theorem elAn : ElN Tryd.prog 63 94 15 176 := ⟨Tryd.underlying63, info_partsN infoAnF, by omega⟩
/-- The cells of a reader. -/
def rdC (ans : Bool) (vl vc : Value) (S C k p : Nat) (fl : Int) (vq : Value) : Array Value :=
  #[.bool ans, vl, vc, .int .u32 (S : Int), .int .u64 (C : Int), .int .i64 (k : Int), .int .i64 (p : Int), .int .i64 fl, (if ans then .slice none 0 0 else vq), (if ans then vq else .slice none 0 0)]
/-- The blocks that a reader writes beside its loose bytes' one. -/
def rdY (g : Nat) (vc vq : Value) : List Nat := g :: (vc.ownBlock.toList ++ vq.ownBlock.toList)
def rdX (g : Nat) (vl vc vq : Value) : List Nat := vl.ownBlock.toList ++ rdY g vc vq
theorem mem_Y {g k : Nat} {vc vq : Value} : k ∈ rdY g vc vq ↔ k = g ∨ vc.ownBlock = some k ∨ vq.ownBlock = some k := by
  unfold rdY; simp only [List.mem_cons, List.mem_append, Option.mem_toList]
theorem mem_X {g k : Nat} {vl vc vq : Value} : k ∈ rdX g vl vc vq ↔ vl.ownBlock = some k ∨ k = g ∨ vc.ownBlock = some k ∨ vq.ownBlock = some k := by
  unfold rdX; rw [List.mem_append, mem_Y, Option.mem_toList]
/-- A reader in memory. -/
structure RdS {T : Type} (Z : Kd T) (base : Nat) (w : World) (g : Nat) (vl vc vq : Value) (L c : List Nat) (S C k p : Nat) (fl : Int) (ws : List Wm) (xs : List T) : Prop where
  box : w.heap[g]? = some (.cells (rdC Z.ans vl vc S C k p fl vq) 65)
  lo : w.ownsRow base 5 1 vl L.length (cb L)
  co : w.ownsRow base 5 1 vc c.length (cb c)
  qu : Que w base Z.e Z.m vq ws
  alc : Apart vl vc
  alq : Apart vl vq
  acq : Apart vc vq
  gl : vl.ownBlock ≠ some g
  gc : vc.ownBlock ≠ some g
  gq : vq.ownBlock ≠ some g
  bg : base ≤ g
  ok : ∀ W ∈ ws, W.ok w base
  off : ∀ W ∈ ws, W.off (rdX g vl vc vq)
  is : Alike Z.is ws xs
  s : S < 4294967296
  c64 : C < 18446744073709551616
  lb : ∀ x ∈ L, x < 256
  cb_ : ∀ x ∈ c, x < 256
section
variable {T : Type} {Z : Kd T} {base : Nat} {w w' : World} {g : Nat} {vl vc vq : Value} {L c : List Nat} {S C k p : Nat} {fl : Int} {ws : List Wm} {xs : List T}
theorem RdS.lt (h : RdS Z base w g vl vc vq L c S C k p fl ws xs) : g < w.heap.size := (Array.getElem?_eq_some_iff.1 h.box).1
theorem RdS.ltX (h : RdS Z base w g vl vc vq L c S C k p fl ws xs) {x : Nat} (hx : x ∈ rdX g vl vc vq) : base ≤ x ∧ x < w.heap.size := by
  rcases mem_X.1 hx with h1 | rfl | h1 | h1
  · exact h.lo.lt x h1
  · exact ⟨h.bg, h.lt⟩
  · exact h.co.lt x h1
  · exact h.qu.lt h1
theorem RdS.at_ (h : RdS Z base w g vl vc vq L c S C k p fl ws xs) (i : Nat) {v : Value} (hv : (rdC Z.ans vl vc S C k p fl vq)[i]? = some v) : w.cell? ⟨g, i, none⟩ = some v := by
  rw [cell_of_row w g i _ _ (0, 0) h.box]; exact hv
theorem RdS.z (h : RdS Z base w g vl vc vq L c S C k p fl ws xs) (i : Nat) : w.frozen? ⟨g, i, none⟩ = false := by simp [World.frozen?, h.box]
theorem RdS.strm (h : RdS Z base w g vl vc vq L c S C k p fl ws xs) : Strm w g 3 (rdC Z.ans vl vc S C k p fl vq) 65 S C := ⟨h.box, rfl, rfl, h.s, h.c64⟩
/-- What leaves the reader's blocks and its messages' ones alone. -/
theorem RdS.keep {Y : List Nat} (h : RdS Z base w g vl vc vq L c S C k p fl ws xs) (b : Chg Y w w') (hX : ∀ x ∈ rdX g vl vc vq, x ∉ Y) (hm : ∀ W ∈ ws, W.off Y) : RdS Z base w' g vl vc vq L c S C k p fl ws xs where
  box := by rw [b.block g h.lt (hX g (mem_X.2 (.inr (.inl rfl))))]; exact h.box
  lo := b.own h.lo fun x hx => hX x (mem_X.2 (.inl hx))
  co := b.own h.co fun x hx => hX x (mem_X.2 (.inr (.inr (.inl hx))))
  qu := h.qu.chg b fun x hx => hX x (mem_X.2 (.inr (.inr (.inr hx))))
  alc := h.alc
  alq := h.alq
  acq := h.acq
  gl := h.gl
  gc := h.gc
  gq := h.gq
  bg := h.bg
  ok := fun W hW => (h.ok W hW).chg b (hm W hW)
  off := h.off
  is := h.is
  s := h.s
  c64 := h.c64
  lb := h.lb
  cb_ := h.cb_
theorem RdS.new (h : RdS Z base w g vl vc vq L c S C k p fl ws xs) (b : Chg [] w w') : RdS Z base w' g vl vc vq L c S C k p fl ws xs :=
  h.keep b (fun x _ => List.not_mem_nil) fun W _ r _ k _ hm => absurd hm List.not_mem_nil
theorem RdS.below (h : RdS Z base w g vl vc vq L c S C k p fl ws xs) (b : Below w.heap.size w w') : RdS Z base w' g vl vc vq L c S C k p fl ws xs := h.new (Chg.of_below b)
theorem RdS.drew (h : RdS Z base w g vl vc vq L c S C k p fl ws xs) : RdS Z base w.drew g vl vc vq L c S C k p fl ws xs := h.new (Chg.refl [] w).drew
/-- The box alone has been written: numbers have turned. -/
theorem RdS.turn (h : RdS Z base w g vl vc vq L c S C k p fl ws xs) {S' C' k' p' : Nat} {fl' : Int} (hb : w'.heap[g]? = some (.cells (rdC Z.ans vl vc S' C' k' p' fl' vq) 65)) (b : Chg [g] w w') (hS : S' < 4294967296) (hC : C' < 18446744073709551616) : RdS Z base w' g vl vc vq L c S' C' k' p' fl' ws xs where
  box := hb
  lo := b.own h.lo fun x hx he => h.gl (by rw [hx, List.mem_singleton.1 he])
  co := b.own h.co fun x hx he => h.gc (by rw [hx, List.mem_singleton.1 he])
  qu := h.qu.chg b fun x hx he => h.gq (by rw [hx, List.mem_singleton.1 he])
  alc := h.alc
  alq := h.alq
  acq := h.acq
  gl := h.gl
  gc := h.gc
  gq := h.gq
  bg := h.bg
  ok := fun W hW => (h.ok W hW).chg b ((h.off W hW).mono fun x hx => by rw [List.mem_singleton.1 hx]; exact mem_X.2 (.inr (.inl rfl)))
  off := h.off
  is := h.is
  s := hS
  c64 := hC
  lb := h.lb
  cb_ := h.cb_
theorem RdS.put (h : RdS Z base w g vl vc vq L c S C k p fl ws xs) (i : Nat) (u : Value) {k' p' : Nat} {fl' : Int} (hb : (rdC Z.ans vl vc S C k p fl vq).setIfInBounds i u = rdC Z.ans vl vc S C k' p' fl' vq) : RdS Z base (w.setCell ⟨g, i, none⟩ u) g vl vc vq L c S C k' p' fl' ws xs :=
  h.turn (by rw [heap_set w g i u _ _ h.box, hb]) ((Chg.refl [g] w).setCell (by simp) u) h.s h.c64
theorem RdS.crc (h : RdS Z base w g vl vc vq L c S C k p fl ws xs) {S' C' : Nat} (hs : Strm w' g 3 (put2 (rdC Z.ans vl vc S C k p fl vq) 3 S' C') 65 S' C') (hg : w.grownBy w' (some g)) : RdS Z base w' g vl vc vq L c S' C' k p fl ws xs :=
  h.turn (by rw [hs.heap]; rfl) ⟨hg.os, hg.tape, hg.output, hg.size, fun x hx hm => hg.block x hx (by simpa using hm)⟩ hs.s hs.c
/-- The content's row has been put anew. -/
theorem RdS.cont (h : RdS Z base w g vl vc vq L c S C k p fl ws xs) {w1 : World} {vc' : Value} {c' : List Nat} {Y : List Nat} (b : Chg Y w w1) (hY : ∀ x ∈ Y, vc.ownBlock = some x) (o : w1.ownsRow base 5 1 vc' c'.length (cb c'))
    (hn : ∀ x, vc'.ownBlock = some x → vc.ownBlock = some x ∨ w.heap.size ≤ x) (hc : ∀ x ∈ c', x < 256) : RdS Z base (w1.setCell ⟨g, 2, none⟩ vc') g vl vc' vq L c' S C k p fl ws xs := by
  have hg : g ∉ Y := fun hm => h.gc (hY g hm)
  have b2 : Chg (g :: Y) w (w1.setCell ⟨g, 2, none⟩ vc') := (b.mono (fun x hx _ => List.mem_cons_of_mem _ hx)).setCell (by simp) vc'
  have hnew : ∀ {x : Nat}, x < w.heap.size → vc'.ownBlock = some x → vc.ownBlock = some x := fun hx hv => (hn _ hv).resolve_right (by omega)
  have gc' : vc'.ownBlock ≠ some g := fun e => h.gc (hnew h.lt e)
  refine ⟨?_, ?_, ?_, ?_, ?_, h.alq, ?_, h.gl, gc', h.gq, h.bg, fun W hW => ?_, fun W hW => ?_, h.is, h.s, h.c64, h.lb, hc⟩
  · rw [heap_set w1 g 2 vc' _ _ (by rw [b.block g h.lt hg]; exact h.box)]; rfl
  · refine b2.own h.lo fun x hx hm => ?_
    rcases List.mem_cons.1 hm with rfl | hm
    · exact h.gl hx
    · exact h.alc x hx (hY x hm)
  · exact (Chg.setCell (L := [g]) (Chg.refl _ w1) (p := ⟨g, 2, none⟩) (by simp) vc').own o fun x hx hm => gc' (by rw [hx, List.mem_singleton.1 hm])
  · refine h.qu.chg b2 fun x hx hm => ?_
    rcases List.mem_cons.1 hm with rfl | hm
    · exact h.gq hx
    · exact h.acq x (hY x hm) hx
  · exact fun x hx hv => h.alc x hx (hnew (h.lo.lt x hx).2 hv)
  · exact fun x hv hx => h.acq x (hnew (h.qu.lt hx).2 hv) hx
  · refine (h.ok W hW).chg b2 ((h.off W hW).mono fun x hx => ?_)
    rcases List.mem_cons.1 hx with rfl | hx
    · exact mem_X.2 (.inr (.inl rfl))
    · exact mem_X.2 (.inr (.inr (.inl (hY x hx))))
  · refine (h.off W hW).new (h.ok W hW) fun x hx => ?_
    rcases mem_X.1 hx with h1 | h1 | h1 | h1
    · exact .inl (mem_X.2 (.inl h1))
    · exact .inl (mem_X.2 (.inr (.inl h1)))
    · rcases hn x h1 with h2 | h2
      · exact .inl (mem_X.2 (.inr (.inr (.inl h2))))
      · exact .inr h2
    · exact .inl (mem_X.2 (.inr (.inr (.inr h1))))
/-- The loose bytes' row has been put anew. -/
theorem RdS.loose (h : RdS Z base w g vl vc vq L c S C k p fl ws xs) {w1 : World} {vl' : Value} {L' : List Nat} {Y : List Nat} (b : Chg Y w w1) (hY : ∀ x ∈ Y, vl.ownBlock = some x) (o : w1.ownsRow base 5 1 vl' L'.length (cb L'))
    (hn : ∀ x, vl'.ownBlock = some x → vl.ownBlock = some x ∨ w.heap.size ≤ x) (hl : ∀ x ∈ L', x < 256) : RdS Z base (w1.setCell ⟨g, 1, none⟩ vl') g vl' vc vq L' c S C k p fl ws xs := by
  have hg : g ∉ Y := fun hm => h.gl (hY g hm)
  have b2 : Chg (g :: Y) w (w1.setCell ⟨g, 1, none⟩ vl') := (b.mono (fun x hx _ => List.mem_cons_of_mem _ hx)).setCell (by simp) vl'
  have hnew : ∀ {x : Nat}, x < w.heap.size → vl'.ownBlock = some x → vl.ownBlock = some x := fun hx hv => (hn _ hv).resolve_right (by omega)
  have gl' : vl'.ownBlock ≠ some g := fun e => h.gl (hnew h.lt e)
  refine ⟨?_, ?_, ?_, ?_, ?_, ?_, h.acq, gl', h.gc, h.gq, h.bg, fun W hW => ?_, fun W hW => ?_, h.is, h.s, h.c64, hl, h.cb_⟩
  · rw [heap_set w1 g 1 vl' _ _ (by rw [b.block g h.lt hg]; exact h.box)]; rfl
  · exact (Chg.setCell (L := [g]) (Chg.refl _ w1) (p := ⟨g, 1, none⟩) (by simp) vl').own o fun x hx hm => gl' (by rw [hx, List.mem_singleton.1 hm])
  · refine b2.own h.co fun x hx hm => ?_
    rcases List.mem_cons.1 hm with rfl | hm
    · exact h.gc hx
    · exact h.alc x (hY x hm) hx
  · refine h.qu.chg b2 fun x hx hm => ?_
    rcases List.mem_cons.1 hm with rfl | hm
    · exact h.gq hx
    · exact h.alq x (hY x hm) hx
  · exact fun x hv hx => h.alc x (hnew (h.co.lt x hx).2 hv) hx
  · exact fun x hv hx => h.alq x (hnew (h.qu.lt hx).2 hv) hx
  · refine (h.ok W hW).chg b2 ((h.off W hW).mono fun x hx => ?_)
    rcases List.mem_cons.1 hx with rfl | hx
    · exact mem_X.2 (.inr (.inl rfl))
    · exact mem_X.2 (.inl (hY x hx))
  · refine (h.off W hW).new (h.ok W hW) fun x hx => ?_
    rcases mem_X.1 hx with h1 | h1 | h1 | h1
    · rcases hn x h1 with h2 | h2
      · exact .inl (mem_X.2 (.inl h2))
      · exact .inr h2
    · exact .inl (mem_X.2 (.inr (.inl h1)))
    · exact .inl (mem_X.2 (.inr (.inr (.inl h1))))
    · exact .inl (mem_X.2 (.inr (.inr (.inr h1))))
/-- A message more in the queue. -/
theorem RdS.more (h : RdS Z base w g vl vc vq L c S C k p fl ws xs) {w1 : World} {vq' : Value} {W : Wm} {x0 : T} {N : Nat} (b : Chg [] w w1) {w2 : World} (hq : Que w2 base Z.e Z.m vq' (ws ++ [W])) (hgr : w1.grownBy w2 vq.ownBlock)
    (hn : vq'.ownBlock = vq.ownBlock ∨ ∃ x, vq'.ownBlock = some x ∧ w.heap.size ≤ x) (hW : W.ok w1 N) (hX : ∀ x ∈ rdX g vl vc vq, x < N) (hbN : base ≤ N) (hWq : ∀ r ∈ W.rows, ∀ x, r.2.1.ownBlock = some x → vq'.ownBlock ≠ some x) (hI : Z.is W x0) :
    RdS Z base (w2.setCell ⟨g, (if Z.ans then 9 else 8), none⟩ vq') g vl vc vq' L c S C k p fl (ws ++ [W]) (xs ++ [x0]) := by
  have hc : Chg vq.ownBlock.toList w w2 := (b.mono (fun x hx _ => absurd hx List.not_mem_nil)).trans ⟨hgr.os, hgr.tape, hgr.output, hgr.size, fun x hx hm => hgr.block x hx fun e => hm (by rw [Option.mem_toList]; exact e.symm)⟩
  have hg : g ∉ vq.ownBlock.toList := fun hm => h.gq (by rwa [Option.mem_toList] at hm)
  have b2 : Chg (g :: vq.ownBlock.toList) w (w2.setCell ⟨g, (if Z.ans then 9 else 8), none⟩ vq') := (hc.mono (fun x hx _ => List.mem_cons_of_mem _ hx)).setCell (by simp) vq'
  have hnew : ∀ {x : Nat}, x < w.heap.size → vq'.ownBlock = some x → vq.ownBlock = some x := fun {x} hx hv => by
    rcases hn with e | ⟨y, e, hy⟩
    · rw [← e]; exact hv
    · rw [e] at hv; injection hv; omega
  have gq' : vq'.ownBlock ≠ some g := fun e => h.gq (hnew h.lt e)
  have own2 : ∀ {e n : Nat} {v : Value} {ys : List Value}, w.ownsRow base e 1 v n ys → v.ownBlock ≠ some g → Apart v vq → (w2.setCell ⟨g, (if Z.ans then 9 else 8), none⟩ vq').ownsRow base e 1 v n ys := fun o ho ha => b2.own o fun x hx hm => by
    rcases List.mem_cons.1 hm with rfl | hm
    · exact ho hx
    · exact ha x hx (by rwa [Option.mem_toList] at hm)
  have hset : Chg [g] w2 (w2.setCell ⟨g, (if Z.ans then 9 else 8), none⟩ vq') := (Chg.refl _ w2).setCell (by simp) vq'
  have hWo : W.off (rdX g vl vc vq') := fun r hr x hx hm => by
    have h1 := (hW.lt hr hx).1
    rcases mem_X.1 hm with h2 | h2 | h2 | h2
    · have := hX x (mem_X.2 (.inl h2)); omega
    · have := hX x (mem_X.2 (.inr (.inl h2))); omega
    · have := hX x (mem_X.2 (.inr (.inr (.inl h2)))); omega
    · exact hWq r hr x hx h2
  have hWo' : ∀ r ∈ W.rows, ∀ x, r.2.1.ownBlock = some x → some x ≠ vq.ownBlock := fun r hr x hx e => by
    have h1 := (hW.lt hr hx).1
    have := hX x (mem_X.2 (.inr (.inr (.inr e.symm)))); omega
  refine ⟨?_, own2 h.lo h.gl h.alq, own2 h.co h.gc h.acq, ?_, h.alc, ?_, ?_, h.gl, h.gc, gq', h.bg, fun V hV => ?_, fun V hV => ?_, ?_, h.s, h.c64, h.lb, h.cb_⟩
  · rw [heap_set w2 g _ vq' _ _ (by rw [hc.block g h.lt hg]; exact h.box)]
    congr 2
    unfold rdC
    cases Z.ans <;> rfl
  · exact hq.chg hset fun x hx hm => gq' (by rw [hx, List.mem_singleton.1 hm])
  · exact fun x hx hv => h.alq x hx (hnew (h.lo.lt x hx).2 hv)
  · exact fun x hx hv => h.acq x hx (hnew (h.co.lt x hx).2 hv)
  · rcases List.mem_append.1 hV with h1 | h1
    · refine (h.ok V h1).chg b2 ((h.off V h1).mono fun x hx => ?_)
      rcases List.mem_cons.1 hx with rfl | hx
      · exact mem_X.2 (.inr (.inl rfl))
      · exact mem_X.2 (.inr (.inr (.inr (by rwa [Option.mem_toList] at hx))))
    · rw [List.mem_singleton.1 h1]
      have h3 : W.ok w2 N := fun r hr => (hW r hr).kept hgr (by
        cases hv : r.2.1.ownBlock with
        | none => exact .inl rfl
        | some x => exact .inr (hWo' r hr x hv))
      refine (h3.chg hset fun r hr x hx hm => ?_).lower hbN
      have := (hW.lt hr hx).1; have := hX g (mem_X.2 (.inr (.inl rfl))); rw [List.mem_singleton.1 hm] at *; omega
  · rcases List.mem_append.1 hV with h1 | h1
    · refine (h.off V h1).new (h.ok V h1) fun x hx => ?_
      rcases mem_X.1 hx with h2 | h2 | h2 | h2
      · exact .inl (mem_X.2 (.inl h2))
      · exact .inl (mem_X.2 (.inr (.inl h2)))
      · exact .inl (mem_X.2 (.inr (.inr (.inl h2))))
      · by_cases hx : x < w.heap.size
        · exact .inl (mem_X.2 (.inr (.inr (.inr (hnew hx h2)))))
        · exact .inr (by omega)
    · rw [List.mem_singleton.1 h1]; exact hWo
  · exact forall2_snoc h.is hI
end
end Go.Proofs.YtbcmjjcbjojakaaDoor
end
section
namespace Go.Proofs.YtbcmjjcbjojakaaDoor
open Go.RowKit
set_option linter.unusedVariables false
section
variable {P : Program} {ops : Array Oper} {o : Oper} {a : Act} {w : World} {K : Act → World → Prop} {Q : Exit → Act → World → Prop} {Z : Prop}
theorem run_storeVar_1 (g i : Nat) (ty : TypeId) (v : Value) (hv : v.cells = #[v]) (h1 : v.oneCell' = true) (old : Value) (hc : w.cell? ⟨g, i, none⟩ = some old) (hz : w.frozen? ⟨g, i, none⟩ = false) (hi : (P.info? ty).map (·.size) = some 1) :
    (storeVar ty ⟨g, i, none⟩ v).run P w = .ok () (w.setCell ⟨g, i, none⟩ v) := by
  have := run_storeCells_cells (P := P) g i [v] 0 w (fun j hj => by
      have : j = 0 := by simpa using hj
      subst this; simp [hc]) (fun j hj => by
      have : j = 0 := by simpa using hj
      subst this; simpa using hz) (fun x hx => by rw [List.mem_singleton.1 hx]; exact h1)
  cases hq : P.info? ty with
  | none => simp [hq] at hi
  | some t =>
    have hs : t.size = 1 := by simp [hq] at hi; omega
    simp only [Nat.add_zero] at this
    simp [storeVar, sizeOf, typeInfo, hq, hv, hs, this, World.setCells]
theorem step_set (hgd : o.guard = none) (ty : TypeId) (x y : Operand) (ho : o.op = .store ty x y) (g i : Nat) (v : Value) (hx : a.eval x = .pointer (some ⟨g, i, none⟩)) (hy : a.eval y = v) (hv : v.cells = #[v]) (h1 : v.oneCell' = true)
    (old : Value) (hc : w.cell? ⟨g, i, none⟩ = some old) (hz : w.frozen? ⟨g, i, none⟩ = false) (hi : (P.info? ty).map (·.size) = some 1) (h : K (a.put o.dst undef) (w.setCell ⟨g, i, none⟩ v)) : if Region.wanted o (yielded ops a.tmps) = true then Oper.wp P o a w K Q else Z := by
  have hw : Region.wanted o (yielded ops a.tmps) = true := by simp [Region.wanted, hgd]
  rw [if_pos hw]
  unfold Oper.wp execOp
  simp only [ho, hx, hy, Instr.storeAt, Instr.sureAddr, Sem.run_bind, Sem.run_pure, Result.andThen_ok, run_storeVar_1 g i ty v hv h1 old hc hz hi]
  exact h
theorem step_build1 {t e size bytes : Nat} (E : ElN P t e size bytes) (hgd : o.guard = none) (x : Operand) (ho : o.op = .buildSlice t 1 #[(0, x)]) (cells : Array Value) (hx : a.eval x = .agg cells) (h1 : cells.size = size)
    (h : K (a.put o.dst (.slice (some ⟨w.heap.size, 0, none⟩) 1 1)) (w.alloc (.cells cells e))) : if Region.wanted o (yielded ops a.tmps) = true then Oper.wp P o a w K Q else Z := by
  have hw : Region.wanted o (yielded ops a.tmps) = true := by simp [Region.wanted, hgd]
  rw [if_pos hw]
  have hb1 := run_build1N (w := w) E cells h1
  unfold Oper.wp execOp
  simp only [ho, List.map_toArray, List.map_cons, List.map_nil, hx, Sem.run_bind, Sem.run_pure, Result.andThen_ok, hb1, Oper.upon]
  exact h
theorem step_qpush {t e size bytes base : Nat} (E : ElN P t e size bytes) (hgd : o.guard = none) (s x : Operand) (ho : o.op = .call { callee := .builtin .append, args := #[s, x], argTypes := #[t, t] })
    (v : Value) (ws : List Wm) (W : Wm) (hs : a.eval s = v) (hq : Que w base e size v ws) (hW : W.cells.length = size ∧ ∀ u ∈ W.cells, u.oneCell' = true) (ad : Addr) (c : Nat) (hx : a.eval x = .slice (some ad) 1 c)
    (ha : ∀ j u, W.cells[j]? = some u → w.cell? (ad.add j) = some u) (h63 : ws.length + 1 ≤ 1000000000000) (hbytes : (ws.length + 1) * bytes ≤ 140737488355328) (hbase : base ≤ w.heap.size)
    (h : ∀ v' w', Que w' base e size v' (ws ++ [W]) → w.grownBy w' v.ownBlock → (v'.ownBlock = v.ownBlock ∨ v'.ownBlock = some w.heap.size) → K (a.put o.dst v') w') :
    if Region.wanted o (yielded ops a.tmps) = true then Oper.wp P o a w K Q else Z := by
  have hw : Region.wanted o (yielded ops a.tmps) = true := by simp [Region.wanted, hgd]
  rw [if_pos hw]
  obtain ⟨v', w', hrun, h2, h3, h4⟩ := hq.push (P := P) (ty := o.type) E hW ad c ha h63 hbytes hbase
  unfold Oper.wp execOp
  simp only [ho, resolve, invoke, builtin, Sem.run_bind, Sem.run_pure, Result.andThen_ok, List.map_toArray, List.map_cons, List.map_nil, hs, hx, hrun]
  exact h v' w' h2 h3 h4
end
theorem infoSlB : (Tryd.prog.info? 28).map (·.size) = some 1 := by kernel_rfl
theorem infoSlR : (Tryd.prog.info? 62).map (·.size) = some 1 := by kernel_rfl
theorem infoSlA : (Tryd.prog.info? 63).map (·.size) = some 1 := by kernel_rfl
end Go.Proofs.YtbcmjjcbjojakaaDoor
end
section
namespace Go.Proofs.YtbcmjjcbjojakaaDoor
open Go.RowKit
set_option linter.unusedVariables false
set_option linter.unusedSimpArgs false
theorem wnum_step (v b : Nat) (hv : v < 16777216) (hb : b < 256) : bits .or .u32 ((v * 256 : Nat) : Int) (b : Int) = ((b + 256 * v : Nat) : Int) := by
  rw [u32_or_nat _ _ (by omega) (by omega), nat_join 8 (v * 256) b (by omega) (by omega)]
  omega
theorem wnum_any (w : World) (A : Option Addr) (n c B : Nat) (bs : List Nat) (hr : Rd w B A n (cb bs)) (hl : ∀ x ∈ bs, x < 256) (hn : n ≤ 4) :
    Calls Tryd.prog 46 #[.slice A n c] w fun e w' => e = .returned (.int .u32 ((le256 bs : Nat) : Int)) ∧ w = w' := by
  have hbl : bs.length = n := by have := hr.1; rwa [cb_length] at this
  have HH : Hd (Rd w B A n (cb bs) ∧ (∀ x ∈ bs, x < 256) ∧ bs.length = n) := ⟨hr, hl, hbl⟩
  have HLT : Hd (∀ k, 1 ≤ k → k ≤ n → le256 (bs.drop k) < 16777216) := ⟨fun k h1 h2 => by
    have h3 := le256_lt (bs.drop k) fun x hx => hl x (List.mem_of_mem_drop hx)
    have h4 : (bs.drop k).length ≤ 3 := by rw [List.length_drop]; omega
    exact Nat.lt_of_lt_of_le h3 (Nat.le_trans (Nat.pow_le_pow_right (by omega) h4) (by decide))⟩
  clear hr hl hbl
  go_enter Tryd.func46, Tryd.ntmps46
  go_wp2_with fail
  go_loop [3, 4] (fun u3 u4 => ∃ k : Nat, k ≤ n ∧ u4 = .int .i64 ((k : Int) - 1) ∧ u3 = .int .u32 ((le256 (bs.drop k) : Nat) : Int)) (fun _ u4 => (intOf u4 + 1).toNat)
  case atStart =>
    refine ⟨n, by omega, ?_, ?_⟩
    · first | rfl | go_num | (simp; omega)
    · rw [List.drop_of_length_le (by have := HH.out.2.2; omega)]; rfl
  case round =>
    obtain ⟨k, hk, rfl, rfl⟩ := hrel
    by_cases h0 : 0 < k
    · obtain ⟨j, rfl⟩ : ∃ j, k = j + 1 := ⟨k - 1, by omega⟩
      obtain ⟨g, off, u, hA, _, hx, hc⟩ := HH.out.1.at_ (k := j) (by omega)
      rw [cb_get _ _ (by have := HH.out.2.2; omega)] at hx
      injection hx with hx
      subst hx hA
      have hb : bs.getD j 0 < 256 := by
        have := HH.out.2.2
        rw [List.getD_eq_getElem?_getD, List.getElem?_eq_getElem (by omega)]; exact HH.out.2.1 _ (List.getElem_mem _)
      have hv := HLT.out (j + 1) (by omega) hk
      have HE : Hd (le256 (bs.drop j) = bs.getD j 0 + 256 * le256 (bs.drop (j + 1))) := ⟨by rw [drop_cons bs j (by have := HH.out.2.2; omega)]; rfl⟩
      obtain ⟨b, hbb⟩ : ∃ b, bs.getD j 0 = b := ⟨_, rfl⟩
      obtain ⟨v, hvv⟩ : ∃ v, le256 (bs.drop (j + 1)) = v := ⟨_, rfl⟩
      rw [hbb] at hc hb HE
      rw [hvv] at hv HE ⊢
      clear hbb hvv
      have hji : (((j + 1 : Nat) : Int) - 1) = (j : Int) := by omega
      rw [hji]
      have hsh : IntKind.u32.wrap ((v : Int) * 256) = ((v * 256 : Nat) : Int) := by rw [IntKind.wrap_u32]; omega
      have hor := wnum_step v b hv hb
      go_wp2_with fail
      go_round
      case rel => exact ⟨j, by omega, by first | rfl | go_num, by rw [HE.out]; first | rfl | exact congrArg (Value.int .u32) hor | (congr 1; rw [← hor]; congr 1; omega)⟩
      case measure => simp [intOf]
    · have hk0 : k = 0 := by omega
      subst hk0
      go_wp2_with fail
      go_ret
      exact ⟨rfl, rfl⟩
end Go.Proofs.YtbcmjjcbjojakaaDoor
end
