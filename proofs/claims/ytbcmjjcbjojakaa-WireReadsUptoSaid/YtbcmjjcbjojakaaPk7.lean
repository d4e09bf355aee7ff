/- Put together of: MsgW Que StrmP AskW. -/
import Derived.Test.YtbcmjjcbjojakaaPk6
import Derived.Test.YtbcmjjcbjojakaaPk5
import Derived.Test.YtbcmjjcbjojakaaPk3
import Derived.Test.YtbcmjjcbjojakaaPk4
import Derived.Deep.Cut
import Derived.Deep.Light
import Derived.Deep.CutRange
import Derived.Deep.RegionHeld3
section
namespace Go.Proofs.Ytbcmjjcbjojakaa
open Go.RowKit
set_option linter.unusedVariables false
/-- A message as it lies in memory: its cells, and the rows that it owns. -/
structure Wm where
  cells : List Value
  rows : List (Nat × Value × List Value)
/-- Its rows stand, from block 'base' on. -/
def Wm.ok (w : World) (base : Nat) (W : Wm) : Prop := ∀ r ∈ W.rows, w.ownsRow base r.1 1 r.2.1 r.2.2.length r.2.2
/-- No row of it lies in a block of X. -/
def Wm.off (X : List Nat) (W : Wm) : Prop := ∀ r ∈ W.rows, ∀ k, r.2.1.ownBlock = some k → k ∉ X
def rqW (R : Rq) (vb : Value) : Wm := ⟨[.int .i64 R.kind, .int .u64 (R.tag : Int), .string R.key, .string R.after, .int .i64 R.off, .int .i64 R.num, .int .i64 R.delim, vb], [(5, vb, cb R.body)]⟩
def anW (a : An) (v1 v2 v3 : Value) : Wm :=
  ⟨[.int .i64 a.kind, .int .u64 (a.tag : Int), .int .i64 a.code, v1, v2, v3, .string a.next, .bool a.more, .int .i64 a.ge, .int .i64 a.gc, .int .i64 a.size, .int .i64 a.h1, .int .i64 a.h2, .int .i64 a.h3, .int .i64 a.h4],
   [(5, v1, cb a.body), (9, v2, cs a.keys), (9, v3, cs a.groups)]⟩
def rqIs (W : Wm) (R : Rq) : Prop := ∃ vb, W = rqW R vb
def anIs (W : Wm) (a : An) : Prop := ∃ v1 v2 v3, W = anW a v1 v2 v3
section
variable {w w1 : World} {base base' : Nat} {W : Wm} {X : List Nat}
theorem Wm.ok.below (h : W.ok w base) (b : Below w.heap.size w w1) : W.ok w1 base := fun r hr => own_below' (h r hr) b
theorem Wm.ok.lower (h : W.ok w base) (hb : base' ≤ base) : W.ok w base' := fun r hr => own_base (h r hr) hb
theorem Wm.ok.chg (h : W.ok w base) (c : Chg X w w1) (ho : W.off X) : W.ok w1 base := fun r hr => c.own (h r hr) (ho r hr)
theorem Wm.ok.lt (h : W.ok w base) {r : Nat × Value × List Value} (hr : r ∈ W.rows) {k : Nat} (hk : r.2.1.ownBlock = some k) : base ≤ k ∧ k < w.heap.size := (h r hr).lt k hk
theorem Wm.off.mono {Y : List Nat} (h : W.off X) (hY : ∀ k ∈ Y, k ∈ X) : W.off Y := fun r hr k hk hm => h r hr k hk (hY k hm)
/-- New blocks may be written too. -/
theorem Wm.off.new {Y : List Nat} (h : W.off X) (ho : W.ok w base) (hY : ∀ k ∈ Y, k ∈ X ∨ w.heap.size ≤ k) : W.off Y := fun r hr k hk hm => by
  rcases hY k hm with h1 | h1
  · exact h r hr k hk h1
  · have := (ho.lt hr hk).2; omega
end
theorem own_one {w : World} {base e n : Nat} {v : Value} {xs : List Value} (h : w.ownsRow base e 1 v n xs) : v.oneCell' = true := by
  obtain ⟨A, c, rfl, _⟩ := own_form h; rfl
theorem rqW_one {w : World} {base : Nat} {R : Rq} {vb : Value} (h : (rqW R vb).ok w base) : (rqW R vb).cells.length = 8 ∧ (rqW R vb).cells.toArray.all (·.oneCell') = true := by
  have hv : vb.oneCell' = true := own_one (h _ (List.mem_singleton.2 rfl))
  exact ⟨rfl, by simp [rqW, hv]; simp [Value.oneCell']⟩
theorem anW_one {w : World} {base : Nat} {a : An} {v1 v2 v3 : Value} (h : (anW a v1 v2 v3).ok w base) : (anW a v1 v2 v3).cells.length = 15 ∧ (anW a v1 v2 v3).cells.toArray.all (·.oneCell') = true := by
  have h1 : v1.oneCell' = true := own_one (h _ (List.mem_cons_self ..))
  have h2 : v2.oneCell' = true := own_one (h _ (List.mem_cons_of_mem _ (List.mem_cons_self ..)))
  have h3 : v3.oneCell' = true := own_one (h _ (List.mem_cons_of_mem _ (List.mem_cons_of_mem _ (List.mem_cons_self ..))))
  exact ⟨rfl, by simp [anW, h1, h2, h3]; simp [Value.oneCell']⟩
/-! The steps of a codec reader. -/
theorem redo_val {α : Type} {P : α → Prop} {o : Except Int (α × Nat)} {z : α} {a : Nat} {f : Int} (hz : P z) (h : ∀ v a', o = .ok (v, a') → P v) : P (redo o z a f).1 := by
  unfold redo
  split
  · rcases ho : o with e | ⟨v, a'⟩
    · exact hz
    · exact h v a' ho
  · exact hz
section
variable {w : World} {gr n c : Nat} {A : Option Addr} {s : Nat × Int} {bs : List Nat}
theorem cFix1 (R : Rr w gr A n c s.1 s.2 bs) : Calls Try.prog 126 #[.pointer (some ⟨gr, 0, none⟩)] w fun e w' => ∃ v s', rFix bs 1 s = (v, s') ∧ e = .returned (.int .u8 (v : Int)) ∧ v < 256 ∧ Chg [gr] w w' ∧ Rr w' gr A n c s'.1 s'.2 bs := by
  refine (take_uint8_any w gr n c s.1 s.2 A bs R).mono ?_
  rintro e w' ⟨v, rfl, hc, hk, hR⟩
  unfold KT at hk
  subst hk
  refine ⟨_, _, rfl, rfl, ?_, hc, hR⟩
  refine redo_val (P := fun v => v < 256) (by omega) fun v a' h => ?_
  unfold fixF at h
  split at h
  · rename_i l a2 ht
    cases h
    obtain ⟨e1, e2, e3, e4⟩ := takeF_form _ _ _ _ _ ht
    have := le256_lt l fun x hx => R.lb x (by rw [e1] at hx; exact List.mem_of_mem_drop (List.mem_of_mem_take hx))
    rw [e4] at this; omega
  · cases h
theorem cFix8 (R : Rr w gr A n c s.1 s.2 bs) : Calls Try.prog 127 #[.pointer (some ⟨gr, 0, none⟩)] w fun e w' => ∃ v s', rFix bs 8 s = (v, s') ∧ e = .returned (.int .u64 (v : Int)) ∧ v < 18446744073709551616 ∧ Chg [gr] w w' ∧ Rr w' gr A n c s'.1 s'.2 bs := by
  refine (take_uint64_any w gr n c s.1 s.2 A bs R).mono ?_
  rintro e w' ⟨v, rfl, hc, hk, hR⟩
  unfold KT at hk
  subst hk
  refine ⟨_, _, rfl, rfl, ?_, hc, hR⟩
  refine redo_val (P := fun v => v < 18446744073709551616) (by omega) fun v a' h => ?_
  unfold fixF at h
  split at h
  · rename_i l a2 ht
    cases h
    obtain ⟨e1, e2, e3, e4⟩ := takeF_form _ _ _ _ _ ht
    have := le256_lt l fun x hx => R.lb x (by rw [e1] at hx; exact List.mem_of_mem_drop (List.mem_of_mem_take hx))
    rw [e4] at this; omega
  · cases h
theorem rNum_bd (R : Rr w gr A n c s.1 s.2 bs) : (rNum bs s).1 < 18446744073709551616 := by
  refine redo_val (P := fun v => v < 18446744073709551616) (by omega) fun v a' h => ?_
  have := (numF_hi bs s.1 v a' R.lb h).1
  omega
theorem cNumU (R : Rr w gr A n c s.1 s.2 bs) : Calls Try.prog 128 #[.pointer (some ⟨gr, 0, none⟩)] w fun e w' => ∃ v s', rNum bs s = (v, s') ∧ e = .returned (.int .u64 (v : Int)) ∧ v < 18446744073709551616 ∧ Chg [gr] w w' ∧ Rr w' gr A n c s'.1 s'.2 bs := by
  refine (uvarint_any w gr n c s.1 s.2 A bs R).mono ?_
  rintro e w' ⟨v, rfl, hc, hk, hR⟩
  unfold KNum at hk
  subst hk
  exact ⟨_, _, rfl, rfl, rNum_bd R, hc, hR⟩
theorem cNumV (R : Rr w gr A n c s.1 s.2 bs) : Calls Try.prog 129 #[.pointer (some ⟨gr, 0, none⟩)] w fun e w' => ∃ v s', rNum bs s = (v, s') ∧ e = .returned (.int .i64 (unz (v : Int))) ∧ (-9223372036854775808 ≤ unz (v : Int) ∧ unz (v : Int) ≤ 9223372036854775807) ∧ Chg [gr] w w' ∧ Rr w' gr A n c s'.1 s'.2 bs := by
  refine (varint_any w gr n c s.1 s.2 A bs R).mono ?_
  rintro e w' ⟨v, rfl, hc, hk, hR⟩
  unfold KZag at hk
  subst hk
  have h5 : ∀ v : Nat, v < 18446744073709551616 → -9223372036854775808 ≤ unz (v : Int) ∧ unz (v : Int) ≤ 9223372036854775807 := fun v hv => unz_bd _ (by omega) (by omega)
  exact ⟨_, _, rfl, rfl, h5 _ (rNum_bd R), hc, hR⟩
theorem cBlk (most : Nat) (hm : most ≤ 1048576) (R : Rr w gr A n c s.1 s.2 bs) : Calls Try.prog 131 #[.pointer (some ⟨gr, 0, none⟩), .int .i64 (most : Int)] w fun e w' => ∃ l s' vb cp, rBlk bs (most : Int) s = (l, s') ∧ e = .returned (.slice vb l.length cp) ∧ w'.ownsRow w.heap.size 5 1 (.slice vb l.length cp) l.length (cb l) ∧ Chg [gr] w w' ∧ Rr w' gr A n c s'.1 s'.2 bs := by
  refine (blk_any w gr n c s.1 s.2 A bs (most : Int) (by omega) R).mono ?_
  rintro e w' ⟨v, rfl, hc, hk, hR⟩
  obtain ⟨A', c', rfl, _, _⟩ := own_form hk
  exact ⟨_, _, A', c', rfl, rfl, hk, hc, hR⟩
theorem cTxt (most each : Nat) (hm : most ≤ 1048576) (he : each ≤ 1048576) (R : Rr w gr A n c s.1 s.2 bs) : Calls Try.prog 132 #[.pointer (some ⟨gr, 0, none⟩), .int .i64 (most : Int), .int .i64 (each : Int)] w fun e w' => ∃ l s' vb cp, rTxt bs (most : Int) (each : Int) s = (l, s') ∧ e = .returned (.slice vb l.length cp) ∧ w'.ownsRow w.heap.size 9 1 (.slice vb l.length cp) l.length (cs (l.map bstr)) ∧ Chg [gr] w w' ∧ Rr w' gr A n c s'.1 s'.2 bs := by
  refine (texts_any w gr n c s.1 s.2 A bs (most : Int) (each : Int) (by omega) (by omega) R).mono ?_
  rintro e w' ⟨v, rfl, hc, hk, hR⟩
  unfold KTxt at hk
  obtain ⟨A', c', rfl, _, _⟩ := own_form hk
  exact ⟨_, _, A', c', rfl, rfl, hk, hc, hR⟩
end
theorem infoRq8 : (Try.prog.info? 28).map (·.size) = some 8 := by kernel_rfl
theorem infoAn15 : (Try.prog.info? 43).map (·.size) = some 15 := by kernel_rfl
/-- Where a reading of a message stands: the box of the result, the message's own, the codec's reader. -/
structure QS (w W : World) (t gx gq gr : Nat) (A : Option Addr) (n c : Nat) (s : Nat × Int) (bs : List Nat) (zs : Array Value) (M : Wm) : Prop where
  box : W.heap[gq]? = some (.cells M.cells.toArray t)
  res : W.heap[gx]? = some (.cells zs t)
  rdr : Rr W gr A n c s.1 s.2 bs
  ch : Chg [gr] w W
  ok : M.ok W (gq + 1)
  l1 : gr < w.heap.size
  l2 : w.heap.size ≤ gx
  l3 : gx < gq
section
variable {w W W' : World} {t gx gq gr n c : Nat} {A : Option Addr} {s s' : Nat × Int} {bs : List Nat} {zs : Array Value} {M M' : Wm}
theorem QS.lt (h : QS w W t gx gq gr A n c s bs zs M) : gq < W.heap.size := (Array.getElem?_eq_some_iff.1 h.box).1
/-- A call of the codec's reader. -/
theorem QS.call (h : QS w W t gx gq gr A n c s bs zs M) (hc : Chg [gr] W W') (hR : Rr W' gr A n c s'.1 s'.2 bs) : QS w W' t gx gq gr A n c s' bs zs M where
  box := by rw [hc.block gq h.lt (by have := h.l1; have := h.l2; have := h.l3; simp; omega)]; exact h.box
  res := by rw [hc.block gx (by have := h.lt; have := h.l3; omega) (by have := h.l1; have := h.l2; simp; omega)]; exact h.res
  rdr := hR
  ch := h.ch.trans hc
  ok := h.ok.chg hc fun r hr k hk => by have := (h.ok.lt hr hk).1; have := h.l1; have := h.l2; have := h.l3; simp; omega
  l1 := h.l1
  l2 := h.l2
  l3 := h.l3
theorem QS.below (h : QS w W t gx gq gr A n c s bs zs M) (hb : Chg [] W W') : QS w W' t gx gq gr A n c s bs zs M :=
  h.call (hb.mono (by simp)) (h.rdr.keep hb (by simp) (by simp))
/-- A field is written; a row more may be owned. -/
theorem QS.set (h : QS w W t gx gq gr A n c s bs zs M) (i : Nat) (u : Value) (hM : M'.cells = M.cells.set i u) (hok : M'.ok W (gq + 1)) : QS w (W.setCell ⟨gq, i, none⟩ u) t gx gq gr A n c s bs zs M' where
  box := by rw [heap_set W gq i u _ _ h.box, hM]; simp
  res := by rw [Below.heap_setCell _ _ _ _ (by show gx ≠ gq; have := h.l3; omega)]; exact h.res
  rdr := h.rdr.keep' ((Chg.refl [gq] W).setCell (by simp) u) (by simp; have := h.l1; have := h.l2; have := h.l3; omega)
  ch := h.ch.setNew (by show w.heap.size ≤ gq; have := h.l2; have := h.l3; omega) u
  ok := hok.chg ((Chg.refl [gq] W).setCell (by simp) u) fun r hr k hk => by have := (hok.lt hr hk).1; simp; omega
  l1 := h.l1
  l2 := h.l2
  l3 := h.l3
theorem QS.at_ (h : QS w W t gx gq gr A n c s bs zs M) (i : Nat) {v : Value} (hv : M.cells[i]? = some v) : W.cell? ⟨gq, i, none⟩ = some v := by rw [cell_of_row W gq i _ _ (0, 0) h.box]; simpa using hv
theorem QS.range (h : QS w W t gx gq gr A n c s bs zs M) : W.rangeAt gq 0 M.cells := fun j v hj => by rw [Nat.zero_add]; exact h.at_ j hj
theorem QS.stored (h : QS w W t gx gq gr A n c s bs zs M) {cells : Array Value} (hs : W'.heap[gx]? = some (.cells cells t)) (hg : W.grownBy W' (some gx)) : QS w W' t gx gq gr A n c s bs cells M where
  box := by rw [hg.block gq h.lt (by have := h.l3; intro e; injection e; omega)]; exact h.box
  res := hs
  rdr := h.rdr.keep' (L := [gx]) ⟨hg.os, hg.tape, hg.output, hg.size, fun k hk hm => hg.block k hk (by simpa using hm)⟩ (by simp; have := h.l1; have := h.l2; omega)
  ch := ⟨hg.os.trans h.ch.os, hg.tape.trans h.ch.tape, hg.output.trans h.ch.output, Nat.le_trans h.ch.size hg.size, fun k hk hm => (hg.block k (Nat.lt_of_lt_of_le hk h.ch.size) (by have := h.l2; intro e; injection e; omega)).trans (h.ch.block k hk hm)⟩
  ok := h.ok.chg (X := [gx]) ⟨hg.os, hg.tape, hg.output, hg.size, fun k hk hm => hg.block k hk (by simpa using hm)⟩ fun r hr k hk => by have := (h.ok.lt hr hk).1; have := h.l3; simp; omega
  l1 := h.l1
  l2 := h.l2
  l3 := h.l3
theorem QS.z (h : QS w W t gx gq gr A n c s bs zs M) (i : Nat) : W.frozen? ⟨gq, i, none⟩ = false := by simp [World.frozen?, h.box]
end
/-- A whole value laid into a box, as a step of a region that draws its order. -/
theorem step_store {P : Program} {ops : Array Oper} {o : Oper} {a : Act} {w : World} {K : Act → World → Prop} {Q : Exit → Act → World → Prop} {Z : Prop} (hgd : o.guard = none) (ty : TypeId) (x y : Operand) (ho : o.op = .store ty x y)
    (g : Nat) (cells : Array Value) (hx : a.eval x = .pointer (some ⟨g, 0, none⟩)) (hy : a.eval y = .agg cells) (t : TypeId) (old : Array Value) (hg : w.heap[g]? = some (.cells old t (0, 0))) (hi : (P.info? ty).map (·.size) = some cells.size)
    (hold : old.size = cells.size) (h1 : cells.all (·.oneCell') = true)
    (h : ∀ w2, w2.heap[g]? = some (.cells cells t (0, 0)) → w.grownBy w2 (some g) → K (a.put o.dst undef) w2) : if Region.wanted o (yielded ops a.tmps) = true then Oper.wp P o a w K Q else Z := by
  have hw : Region.wanted o (yielded ops a.tmps) = true := by simp [Region.wanted, hgd]
  rw [if_pos hw]
  exact wp_store_row ty x y ho g cells hx hy t old hg hi hold h1 (h _ (setRow_heap _ _ _ _ _ _ hg) ⟨rfl, rfl, rfl, by simp [World.setRow], fun k _ hk => setRow_other w g k cells (fun e => hk (by rw [e]))⟩)
/-- What a reading of a message answers. -/
def MsgPost (T : Type) (rd : List Nat → Option T) (is : Wm → T → Prop) (m : Nat) (w : World) (gr : Nat) (bs : List Nat) (e : Ending) (w' : World) : Prop :=
  ∃ (W : Wm) (ok : Bool), e = .returned (.tuple #[.agg W.cells.toArray, .bool ok]) ∧ Chg [gr] w w' ∧ W.cells.length = m ∧ W.cells.toArray.all (·.oneCell') = true ∧ ((∃ x, ok = true ∧ rd bs = some x ∧ is W x ∧ W.ok w' w.heap.size) ∨ (ok = false ∧ rd bs = none))
end Go.Proofs.Ytbcmjjcbjojakaa
end
section
namespace Go.Proofs.Ytbcmjjcbjojakaa
open Go.RowKit
set_option linter.unusedVariables false
def Wms (ws : List Wm) : List Value := ws.flatMap Wm.cells
/-- The slice v is a queue of these messages. -/
def Que (w : World) (base e size : Nat) (v : Value) (ws : List Wm) : Prop :=
 (∀ W ∈ ws, W.cells.length = size ∧ ∀ u ∈ W.cells, u.oneCell' = true) ∧
 ((v = .slice none 0 0 ∧ ws = []) ∨
 ∃ (g off cap : Nat) (cur : Array Value), v = .slice (some ⟨g, off, none⟩) ws.length cap ∧ base ≤ g ∧ w.heap[g]? = some (.cells cur e (0, 0)) ∧ ws.length ≤ cap ∧ cap ≤ maxLen ∧ off + cap * size ≤ cur.size ∧ (cur.toList.drop off).take (ws.length * size) = Wms ws)
theorem Wms_len {ws : List Wm} {size : Nat} (h : ∀ W ∈ ws, W.cells.length = size ∧ ∀ u ∈ W.cells, u.oneCell' = true) : (Wms ws).length = ws.length * size := by
 induction ws with
 | nil => simp [Wms]
 | cons W ws ih =>
  have h1 := (h W (by simp)).1
  have h2 := ih fun x hx => h x (by simp [hx])
  unfold Wms at h2 ⊢
  rw [List.flatMap_cons, List.length_append, h1, h2, List.length_cons, Nat.add_mul]; omega
section
variable {w w' : World} {base e size : Nat} {v v' : Value} {ws : List Wm} {W : Wm}
theorem Que.nil (w : World) (base e size : Nat) : Que w base e size (.slice none 0 0) [] := ⟨fun _ h => absurd h List.not_mem_nil, .inl ⟨rfl, rfl⟩⟩
theorem Que.form (h : Que w base e size v ws) : ∃ A c, v = .slice A ws.length c ∧ ws.length ≤ c := by
 rcases h.2 with ⟨rfl, rfl⟩ | ⟨g, off, cap, cur, rfl, _, _, hn, _⟩
 ·exact ⟨none, 0, rfl, Nat.le_refl _⟩
 ·exact ⟨_, cap, rfl, hn⟩
theorem Que.lt (h : Que w base e size v ws) {k : Nat} (hk : v.ownBlock = some k) : base ≤ k ∧ k < w.heap.size := by
 rcases h.2 with ⟨rfl, rfl⟩ | ⟨g, off, cap, cur, rfl, hb, hg, _⟩
 ·cases hk
 ·simp only [Value.ownBlock, Option.some.injEq] at hk
  subst hk
  exact ⟨hb, (Array.getElem?_eq_some_iff.1 hg).1⟩
theorem Que.block (h : Que w base e size v ws) (hb : ∀ k, v.ownBlock = some k → w'.heap[k]? = w.heap[k]?) : Que w' base e size v ws := by
 refine ⟨h.1, ?_⟩
 rcases h.2 with ⟨rfl, rfl⟩ | ⟨g, off, cap, cur, rfl, h1, hg, h2⟩
 ·exact .inl ⟨rfl, rfl⟩
 ·exact .inr ⟨g, off, cap, cur, rfl, h1, by rw [hb g (by simp [Value.ownBlock])]; exact hg, h2⟩
theorem Que.chg {X : List Nat} (h : Que w base e size v ws) (c : Chg X w w') (hX : ∀ k, v.ownBlock = some k → k ∉ X) : Que w' base e size v ws :=
 h.block fun k hk => c.block k (h.lt hk).2 (hX k hk)
/-- The first message lies at the slice's beginning. -/
theorem Que.first (h : Que w base e size v (W :: ws)) (hs : 0 < size) : ∃ g off cap, v = .slice (some ⟨g, off, none⟩) (ws.length + 1) cap ∧ base ≤ g ∧ g < w.heap.size ∧ w.rangeAt g off W.cells := by
 rcases h.2 with ⟨_, h0⟩ | ⟨g, off, cap, cur, rfl, hb, hg, h1, h2, h3, h4⟩
 ·cases h0
 ·refine ⟨g, off, cap, rfl, hb, (Array.getElem?_eq_some_iff.1 hg).1, fun j u hj => ?_⟩
  have hl := (h.1 W (by simp)).1
  have hjl := (List.getElem?_eq_some_iff.1 hj).1
  rw [cell_of_row w g (off + j) cur e (0, 0) hg]
  have e1 : (Wms (W :: ws))[j]? = some u := by unfold Wms; rw [List.flatMap_cons, List.getElem?_append_left hjl]; exact hj
  rw [← h4, List.getElem?_take, if_pos (by simp only [List.length_cons, Nat.add_mul, Nat.one_mul]; omega), List.getElem?_drop] at e1
  simpa using e1
theorem run_cut_fromN {P : Program} {w : World} {t e size bytes : Nat} (E : ElN P t e size bytes) (A : Option Addr) (n c l : Nat) (hl : l ≤ n) :
  (Instr.slice t (.slice A n c) (some (.int .i64 (l : Int))) none none).run P w = .ok (.slice (if c = l then A else A.map (·.add (l * size))) (n - l) (c - l)) w := by
 obtain ⟨i, z, hi, hz, hs, hb, hzs⟩ := E.hi
 simp [Instr.slice, run_underlying E.ht, Instr.sliceBounds, run_sliceBound, sizeOf, typeInfo, hi, hs, hl, Int.ofNat_le]
/-- Cut from the front. -/
theorem Que.pop (h : Que w base e size v (W :: ws)) {P : Program} {t bytes : Nat} (E : ElN P t e size bytes) : ∃ v', (Instr.slice t v (some (.int .i64 1)) none none).run P w = .ok v' w ∧ Que w base e size v' ws ∧ v'.ownBlock = v.ownBlock := by
 obtain ⟨i, z, hi, hz, hs, hb, hzs⟩ := E.hi
 rcases h.2 with ⟨_, h0⟩ | ⟨g, off, cap, cur, rfl, hb', hg, h1, h2, h3, h4⟩
 ·cases h0
 have hl := (h.1 W (by simp)).1
 simp only [List.length_cons] at h1 h4 ⊢
 have hrun := run_cut_fromN (w := w) E (some ⟨g, off, none⟩) (ws.length + 1) cap 1 (by omega)
 refine ⟨_, hrun, ⟨fun x hx => h.1 x (by simp [hx]), ?_⟩, ?_⟩
 ·by_cases hc : cap = 1
  ·have : ws = [] := List.eq_nil_of_length_eq_zero (by omega)
   subst this hc
   exact .inr ⟨g, off, 0, cur, by simp, hb', hg, by simp, by omega, by omega, by simp [Wms]⟩
  ·refine .inr ⟨g, off + size, cap - 1, cur, ?_, hb', hg, by omega, by omega, ?_, ?_⟩
   ·rw [if_neg hc]; simp only [Option.map_some, Nat.one_mul, Nat.add_sub_cancel]
    congr 2
    unfold Addr.add; split
    ·rename_i h0; subst h0; rfl
    ·rfl
   ·have : cap = (cap - 1) + 1 := by omega
    rw [this, Nat.add_mul, Nat.one_mul] at h3; omega
   ·have e1 : Wms (W :: ws) = W.cells ++ Wms ws := by unfold Wms; rw [List.flatMap_cons]
    rw [e1] at h4
    have e2 := congrArg (List.drop size) h4
    rw [List.drop_left' hl, List.drop_take, List.drop_drop] at e2
    rw [← e2]
    congr 1
    rw [Nat.add_mul, Nat.one_mul]; omega
 ·by_cases hc : cap = 1
  ·rw [if_pos hc]; rfl
  ·rw [if_neg hc]
   simp only [Option.map_some, Value.ownBlock]
   unfold Addr.add; split <;> rfl
/-- 'append' behind an offset, where there is room. -/
theorem run_append_roomO {P : Program} (w : World) (t ty e : TypeId) (i : TypeInfo) (ht : P.underlying t = some (.slice e)) (hi : P.info? e = some i)
  (g off sLen sCap : Nat) (cur : Array Value) (hg : w.heap[g]? = some (.cells cur e (0, 0)))
  (a : Addr) (m c : Nat) (news : List Value) (hl : news.length = m * i.size) (hnews : ∀ j u, news[j]? = some u → w.cell? (a.add j) = some u) (h1 : ∀ u ∈ news, u.oneCell' = true)
  (hroom : sLen + m ≤ sCap) (hfit : off + sLen * i.size + news.length ≤ cur.size) :
  (Builtin.append_ #[t, t] ty #[.slice (some ⟨g, off, none⟩) sLen sCap, .slice (some a) m c]).run P w =
   .ok (.slice (some ⟨g, off, none⟩) (sLen + m) sCap) (w.setRow g (cur.toList.take (off + sLen * i.size) ++ news ++ cur.toList.drop (off + sLen * i.size + news.length)).toArray) := by
 have hf := run_firstCells_some (P := P) w i.size m a m c news hl hnews
 have hst := run_storeCells_at P g (off + sLen * i.size) e news 0 cur w hg (by simpa using hfit) h1
 simp only [Nat.add_zero] at hst
 have ha : (⟨g, off, none⟩ : Addr).add (sLen * i.size) = ⟨g, off + sLen * i.size, none⟩ := by unfold Addr.add; split <;> simp_all
 simp [Builtin.append_, run_underlying ht, sizeOf, typeInfo, hi, Builtin.lenOf, hroom, hf, ha, hst]
/-- A message more. -/
theorem Que.push (h : Que w base e size v ws) {P : Program} {t ty bytes : Nat} (E : ElN P t e size bytes) (hW : W.cells.length = size ∧ ∀ u ∈ W.cells, u.oneCell' = true)
  (a : Addr) (c : Nat) (ha : ∀ j u, W.cells[j]? = some u → w.cell? (a.add j) = some u) (h63 : ws.length + 1 ≤ 1000000000000) (hbytes : (ws.length + 1) * bytes ≤ 140737488355328) (hbase : base ≤ w.heap.size) :
  ∃ v' w', (Builtin.append_ #[t, t] ty #[v, .slice (some a) 1 c]).run P w = .ok v' w' ∧ Que w' base e size v' (ws ++ [W]) ∧ w.grownBy w' v.ownBlock ∧ (v'.ownBlock = v.ownBlock ∨ v'.ownBlock = some w.heap.size) := by
 obtain ⟨i, z, hi, hz, hs, hb, hzs⟩ := E.hi
 have hall : ∀ x ∈ ws ++ [W], x.cells.length = size ∧ ∀ u ∈ x.cells, u.oneCell' = true := fun x hx => by
  rcases List.mem_append.1 hx with h1 | h1
  ·exact h.1 x h1
  ·rw [List.mem_singleton.1 h1]; exact hW
 have e1 : Wms (ws ++ [W]) = Wms ws ++ W.cells := by unfold Wms; rw [List.flatMap_append]; simp
 have hwl := Wms_len h.1
 rcases h.2 with ⟨rfl, rfl⟩ | ⟨g, off, cap, cur, rfl, hb', hg, h1, h2, h3, h4⟩
 ·obtain ⟨v', w', hr, h2, h3, _, h5⟩ := run_append_own_at (P := P) w base t ty e i z size bytes E.ht hi hz hs hb hzs E.hs.1 (.slice none 0 0) 0 [] (World.ownsRow_nil ..) a 1 c W.cells (by rw [hW.1]; omega) ha hW.2 (by unfold maxLen; omega) (by simpa using hbytes) hbase
  refine ⟨v', w', hr, ⟨hall, ?_⟩, h3, h5⟩
  rcases h2.2 with ⟨_, h0⟩ | ⟨g, cap, cur, rfl, hb', hg, hn, hm, hcs, ht⟩
  ·omega
  ·exact .inr ⟨g, 0, cap, cur, by simp, hb', hg, by simpa using hn, hm, by omega, by simpa [Wms] using ht⟩
 ·by_cases hroom : ws.length + 1 ≤ cap
  ·have hfit : off + ws.length * i.size + W.cells.length ≤ cur.size := by
    rw [hs, hW.1]
    have : (ws.length + 1) * size ≤ cap * size := Nat.mul_le_mul_right _ hroom
    rw [Nat.add_mul, Nat.one_mul] at this; omega
   have hr := run_append_roomO (P := P) w t ty e i E.ht hi g off ws.length cap cur hg a 1 c W.cells (by rw [hW.1, hs]; omega) ha hW.2 hroom hfit
   refine ⟨_, _, hr, ⟨hall, .inr ⟨g, off, cap, _, by simp, hb', setRow_heap w g cur _ e _ hg, by simpa using hroom, h2, ?_, ?_⟩⟩, ⟨rfl, rfl, rfl, by simp [World.setRow], fun k _ hk => setRow_other w g k _ (fun e => hk (by simp [Value.ownBlock, e]))⟩, .inl rfl⟩
   ·simp only [List.size_toArray, List.length_append, List.length_take, List.length_drop, Array.length_toList]; omega
   ·rw [e1, ← h4, hs]
    simp only [List.length_append, List.length_cons, List.length_nil]
    have hlo : (cur.toList.take (off + ws.length * size)).length = off + ws.length * size := by rw [List.length_take, Array.length_toList]; have hf2 := hfit; rw [hs] at hf2; exact Nat.min_eq_left (Nat.le_trans (Nat.le_add_right _ _) hf2)
    rw [List.append_assoc, List.drop_append_of_le_length (by rw [hlo]; omega), List.drop_take, show off + ws.length * size - off = ws.length * size by omega]
    rw [Nat.add_mul, Nat.one_mul]
    have hlx : ((cur.toList.drop off).take (ws.length * size)).length = ws.length * size := by rw [h4]; exact hwl
    rw [← List.append_assoc, List.take_append_of_le_length (by rw [List.length_append, hlx, hW.1]; simp), List.take_of_length_le (by rw [List.length_append, hlx, hW.1]; simp)]
  ·have hcell : ∀ j u, (Wms ws)[j]? = some u → w.cell? ((⟨g, off, none⟩ : Addr).add j) = some u := fun j u hj => by
    have hjl := (List.getElem?_eq_some_iff.1 hj).1
    rw [hwl] at hjl
    rw [show (⟨g, off, none⟩ : Addr).add j = ⟨g, off + j, none⟩ by unfold Addr.add; split <;> simp_all, cell_of_row w g (off + j) cur e (0, 0) hg]
    rw [← h4, List.getElem?_take, if_pos hjl, List.getElem?_drop] at hj
    simpa using hj
   have hr := run_append_grow (P := P) w t ty e i z E.ht hi hz ⟨g, off, none⟩ ws.length cap (Wms ws) (by rw [hs]; exact hwl) hcell a 1 c W.cells (by rw [hs, hW.1]; omega) ha (by omega) (by omega) (growslice_fits (by omega) (by rw [hb]; exact hbytes))
   have hge := grownCap_ge w (ws.length + 1) cap e
   have hcm : grownCap w (ws.length + 1) cap e ≤ maxLen := grownCap_le_maxLen w (ws.length + 1) cap e (by unfold maxLen; omega)
   refine ⟨_, _, hr, ⟨hall, .inr ⟨w.heap.size, 0, _, _, by simp, hbase, heap_alloc_new w.drew _, by simpa using hge, hcm, ?_, ?_⟩⟩, ⟨rfl, rfl, rfl, by simp, fun k hk _ => heap_alloc_old w.drew _ hk⟩, .inr rfl⟩
   ·simp only [Array.size_append, List.size_toArray, size_zeroCells, hzs, hwl, hW.1, Nat.zero_add]
    obtain ⟨q, hq⟩ : ∃ q, grownCap w (ws.length + 1) cap e = ws.length + 1 + q := ⟨grownCap w (ws.length + 1) cap e - (ws.length + 1), by omega⟩
    rw [hq, Nat.add_sub_cancel_left, Nat.add_mul, Nat.add_mul, Nat.one_mul]; omega
   ·rw [e1]
    simp only [Array.toList_append, List.drop_zero, List.length_append, List.length_cons, List.length_nil]
    rw [List.take_append_of_le_length (by simp only [List.length_append, hwl, hW.1]; rw [Nat.add_mul]; omega), List.take_of_length_le (by simp only [List.length_append, hwl, hW.1]; rw [Nat.add_mul]; omega)]
end
end Go.Proofs.Ytbcmjjcbjojakaa
end
section
namespace Go.Proofs.Ytbcmjjcbjojakaa
open Go.RowKit
set_option linter.unusedVariables false
/-- What the head of some bytes says. -/
inductive Ck where
 | wait
 | bad (e : Int)
 | ok (last : Bool) (n : Nat)
def seg (b : List Nat) (i n : Nat) : List Nat := (b.drop i).take n
/-- How many bytes the chunk has. -/
def ckN (b : List Nat) : Nat := b.getD 1 0 + 256 * b.getD 2 0
/-- Is the chunk's head odd? -/
def ckOdd (k : Nat) (b : List Nat) : Prop := (b.getD 0 0 ≠ 1 ∧ b.getD 0 0 ≠ 2) ∨ ckN b = 0 ∨ 16384 < ckN b ∨ (b.getD 0 0 = 1 ∧ (ckN b ≠ 16384 ∨ k = 2047))
instance (k : Nat) (b : List Nat) : Decidable (ckOdd k b) := by unfold ckOdd; infer_instance
def ckP (s k : Nat) (b : List Nat) : Ck :=
 if b.length < 7 then .wait
 else if Crc.more 0 (b.take 3) ≠ le256 (seg b 3 4) then .bad 302
 else if ckOdd k b then .bad 301
 else if b.length < ckN b + 11 then .wait
 else if Crc.more s (seg b 7 (ckN b)) ≠ le256 (seg b (7 + ckN b) 4) then .bad 302
 else .ok (decide (b.getD 0 0 = 2)) (ckN b)
theorem seg_app {a : List Nat} {i n : Nat} (b : List Nat) (h : i + n ≤ a.length) : seg (a ++ b) i n = seg a i n := by
 unfold seg; rw [List.drop_append_of_le_length (by omega), List.take_append_of_le_length (by rw [List.length_drop]; omega)]
theorem getD_app {a : List Nat} {i : Nat} (b : List Nat) (h : i < a.length) : (a ++ b).getD i 0 = a.getD i 0 := by
 rw [List.getD_eq_getElem?_getD, List.getD_eq_getElem?_getD, List.getElem?_append_left h]
theorem ckN_app {a : List Nat} (b : List Nat) (h : 7 ≤ a.length) : ckN (a ++ b) = ckN a := by
 unfold ckN; rw [getD_app b (by omega), getD_app b (by omega)]
theorem ckOdd_app {a : List Nat} (k : Nat) (b : List Nat) (h : 7 ≤ a.length) : ckOdd k (a ++ b) ↔ ckOdd k a := by
 unfold ckOdd; rw [ckN_app b h, getD_app b (by omega)]
/-- What was decided stays decided. -/
theorem ckP_app {s k : Nat} {a : List Nat} (b : List Nat) (h : ckP s k a ≠ .wait) : ckP s k (a ++ b) = ckP s k a := by
 unfold ckP at h ⊢
 by_cases h7 : a.length < 7
 ·rw [if_pos h7] at h; exact absurd rfl h
 rw [if_neg h7] at h ⊢
 rw [if_neg (by rw [List.length_append]; omega), List.take_append_of_le_length (by omega), seg_app b (by omega), ckN_app b (by omega), getD_app b (by omega)]
 simp only [ckOdd_app k b (show 7 ≤ a.length by omega)]
 split
 ·rfl
 rename_i h1
 rw [if_neg h1] at h
 split
 ·rfl
 rename_i h2
 rw [if_neg h2] at h
 by_cases h3 : a.length < ckN a + 11
 ·rw [if_pos h3] at h; exact absurd rfl h
 rw [if_neg h3, if_neg (by rw [List.length_append]; omega), seg_app b (by omega), seg_app b (by omega)]
theorem ckP_ok {s k : Nat} {a : List Nat} {l : Bool} {n : Nat} (h : ckP s k a = .ok l n) : n + 11 ≤ a.length ∧ 0 < n ∧ n ≤ 16384 ∧ n = ckN a ∧ ckOdd k a = False ∧ l = decide (a.getD 0 0 = 2) ∧
  Crc.more 0 (a.take 3) = le256 (seg a 3 4) ∧ Crc.more s (seg a 7 n) = le256 (seg a (7 + n) 4) ∧ (l = false → a.getD 0 0 = 1 ∧ n = 16384 ∧ k ≠ 2047) := by
 unfold ckP at h
 split at h
 ·cases h
 split at h
 ·cases h
 rename_i h1
 split at h
 ·cases h
 rename_i h2
 split at h
 ·cases h
 rename_i h3
 split at h
 ·cases h
 rename_i h4
 injection h with e1 e2
 subst e2
 have h5 := h2
 unfold ckOdd at h5
 refine ⟨by omega, by omega, by omega, rfl, eq_false h2, e1.symm, by omega, by omega, fun hl => ?_⟩
 subst hl
 have := of_decide_eq_false e1
 omega
/-- A message under way: its content, the sum, its chunks, how many bytes. -/
structure Mid where
 c : List Nat
 s : Nat
 k : Nat
 p : Nat
def mid0 : Mid := ⟨[], 0, 0, 0⟩
def Mid.next (m : Mid) (b : List Nat) (n : Nat) : Mid := ⟨m.c ++ seg b 7 n, Crc.more m.s (seg b 7 n), m.k + 1, m.p + (n + 11)⟩
structure Out (M : Type) where
 ms : List M
 fl : Int
 mid : Mid
 rest : List Nat
def Out.pre {M : Type} (x : M) (o : Out M) : Out M := ⟨x :: o.ms, o.fl, o.mid, o.rest⟩
def goF {M : Type} (rd : List Nat → Option M) : Nat → Mid → List Nat → Out M
 | 0, m, b => ⟨[], 0, m, b⟩
 | f + 1, m, b =>
  match ckP m.s m.k b with
  | .wait => ⟨[], 0, m, b⟩
  | .bad e => ⟨[], e, m, b⟩
  | .ok false n => goF rd f (m.next b n) (b.drop (n + 11))
  | .ok true n =>
   match rd (m.next b n).c with
   | none => ⟨[], 300, mid0, b.drop (n + 11)⟩
   | some x => (goF rd f mid0 (b.drop (n + 11))).pre x
/-- The bytes gone through. -/
def go {M : Type} (rd : List Nat → Option M) (m : Mid) (b : List Nat) : Out M := goF rd b.length m b
section
variable {M : Type} {rd : List Nat → Option M}
theorem ckP_nil (s k : Nat) : ckP s k [] = .wait := by unfold ckP; rw [if_pos (by simp)]
theorem goF_len : ∀ (f g : Nat) (m : Mid) (b : List Nat), b.length ≤ f → b.length ≤ g → goF rd f m b = goF rd g m b
 | 0, 0, m, b, _, _ => rfl
 | 0, g + 1, m, b, h1, h2 => by
  have : b = [] := List.eq_nil_of_length_eq_zero (by omega)
  subst this
  unfold goF; rw [ckP_nil]
 | f + 1, 0, m, b, h1, h2 => by
  have : b = [] := List.eq_nil_of_length_eq_zero (by omega)
  subst this
  unfold goF; rw [ckP_nil]
 | f + 1, g + 1, m, b, h1, h2 => by
  unfold goF
  split
  ·rfl
  ·rfl
  ·rename_i n hc
   have := (ckP_ok hc).1
   exact goF_len f g _ _ (by rw [List.length_drop]; omega) (by rw [List.length_drop]; omega)
  ·rename_i n hc
   have := (ckP_ok hc).1
   split
   ·rfl
   ·rw [goF_len f g _ _ (by rw [List.length_drop]; omega) (by rw [List.length_drop]; omega)]
theorem go_wait {m : Mid} {b : List Nat} (h : ckP m.s m.k b = .wait) : go rd m b = ⟨[], 0, m, b⟩ := by
 unfold go
 cases hb : b.length with
 | zero => rfl
 | succ f => unfold goF; rw [h]
theorem len_pos {m : Mid} {b : List Nat} (h : ckP m.s m.k b ≠ .wait) : ∃ f, b.length = f + 1 := by
 cases hb : b.length with
 | zero => have : b = [] := List.eq_nil_of_length_eq_zero hb; subst this; exact absurd (ckP_nil _ _) h
 | succ f => exact ⟨f, rfl⟩
theorem go_bad {m : Mid} {b : List Nat} {e : Int} (h : ckP m.s m.k b = .bad e) : go rd m b = ⟨[], e, m, b⟩ := by
 obtain ⟨f, hf⟩ := len_pos (m := m) (b := b) (by rw [h]; exact fun h => by cases h)
 unfold go; rw [hf]; unfold goF; rw [h]
theorem go_more {m : Mid} {b : List Nat} {n : Nat} (h : ckP m.s m.k b = .ok false n) : go rd m b = go rd (m.next b n) (b.drop (n + 11)) := by
 obtain ⟨f, hf⟩ := len_pos (m := m) (b := b) (by rw [h]; exact fun h => by cases h)
 have := (ckP_ok h).1
 unfold go; rw [hf]; conv => lhs; unfold goF
 rw [h]
 exact goF_len _ _ _ _ (by rw [List.length_drop]; omega) (by rw [List.length_drop]; omega)
theorem go_none {m : Mid} {b : List Nat} {n : Nat} (h : ckP m.s m.k b = .ok true n) (hr : rd (m.next b n).c = none) : go rd m b = ⟨[], 300, mid0, b.drop (n + 11)⟩ := by
 obtain ⟨f, hf⟩ := len_pos (m := m) (b := b) (by rw [h]; exact fun h => by cases h)
 unfold go; rw [hf]; unfold goF; rw [h]; simp only; rw [hr]
theorem go_some {m : Mid} {b : List Nat} {n : Nat} {x : M} (h : ckP m.s m.k b = .ok true n) (hr : rd (m.next b n).c = some x) : go rd m b = (go rd mid0 (b.drop (n + 11))).pre x := by
 obtain ⟨f, hf⟩ := len_pos (m := m) (b := b) (by rw [h]; exact fun h => by cases h)
 have := (ckP_ok h).1
 unfold go; rw [hf]; conv => lhs; unfold goF
 rw [h]; simp only; rw [hr]; simp only
 rw [goF_len f (b.drop (n + 11)).length _ _ (by rw [List.length_drop]; omega) (Nat.le_refl _)]
theorem ckP_bad {s k : Nat} {a : List Nat} {e : Int} (h : ckP s k a = .bad e) : e = 302 ∨ e = 301 := by
 unfold ckP at h
 split at h
 ·cases h
 split at h
 ·injection h with h; exact .inl h.symm
 split at h
 ·injection h with h; exact .inr h.symm
 split at h
 ·cases h
 split at h
 ·injection h with h; exact .inl h.symm
 ·cases h
/-- How a walk over the bytes goes. -/
theorem go_ind {P : Mid → List Nat → Prop}
  (wait : ∀ m b, ckP m.s m.k b = .wait → P m b) (bad : ∀ m b e, ckP m.s m.k b = .bad e → P m b)
  (more : ∀ m b n, ckP m.s m.k b = .ok false n → P (m.next b n) (b.drop (n + 11)) → P m b)
  (none_ : ∀ m b n, ckP m.s m.k b = .ok true n → rd (m.next b n).c = none → P m b)
  (some_ : ∀ m b n x, ckP m.s m.k b = .ok true n → rd (m.next b n).c = some x → P mid0 (b.drop (n + 11)) → P m b) : ∀ m b, P m b := by
 have : ∀ (f : Nat) (m : Mid) (b : List Nat), b.length ≤ f → P m b := by
  intro f
  induction f with
  | zero =>
   intro m b hb
   have : b = [] := List.eq_nil_of_length_eq_zero (by omega)
   subst this
   exact wait m [] (ckP_nil _ _)
  | succ f ih =>
   intro m b hb
   cases h : ckP m.s m.k b with
   | wait => exact wait m b h
   | bad e => exact bad m b e h
   | ok l n =>
    have h11 := (ckP_ok h).1
    cases l with
    | false => exact more m b n h (ih _ _ (by rw [List.length_drop]; omega))
    | true =>
     cases hr : rd (m.next b n).c with
     | none => exact none_ m b n h hr
     | some x => exact some_ m b n x h hr (ih _ _ (by rw [List.length_drop]; omega))
 exact fun m b => this b.length m b (Nat.le_refl _)
theorem next_app {m : Mid} {a : List Nat} {n : Nat} (b : List Nat) (h : n + 11 ≤ a.length) : m.next (a ++ b) n = m.next a n := by
 unfold Mid.next; rw [seg_app b (by omega)]
/-- Bytes that come in two pieces. -/
theorem go_app (b : List Nat) : ∀ (m : Mid) (a : List Nat),
  ((go rd m a).fl = 0 → go rd m (a ++ b) = ⟨(go rd m a).ms ++ (go rd (go rd m a).mid ((go rd m a).rest ++ b)).ms, (go rd (go rd m a).mid ((go rd m a).rest ++ b)).fl, (go rd (go rd m a).mid ((go rd m a).rest ++ b)).mid, (go rd (go rd m a).mid ((go rd m a).rest ++ b)).rest⟩) ∧
  ((go rd m a).fl ≠ 0 → (go rd m (a ++ b)).ms = (go rd m a).ms ∧ (go rd m (a ++ b)).fl = (go rd m a).fl) := by
 refine go_ind (rd := rd) ?_ ?_ ?_ ?_ ?_
 ·intro m a h
  rw [go_wait h]
  exact ⟨fun _ => by simp, fun h0 => absurd rfl h0⟩
 ·intro m a e h
  have he := ckP_bad h
  rw [go_bad h, go_bad (b := a ++ b) (e := e) (by rw [ckP_app b (by rw [h]; exact fun h => by cases h), h])]
  exact ⟨fun h0 => absurd h0 (by simp only; omega), fun _ => ⟨rfl, rfl⟩⟩
 ·intro m a n h ih
  have h1 : ckP m.s m.k (a ++ b) = .ok false n := by rw [ckP_app b (by rw [h]; exact fun h => by cases h), h]
  have h2 := (ckP_ok h).1
  rw [go_more h, go_more h1, next_app b h2, List.drop_append_of_le_length h2]
  exact ih
 ·intro m a n h hr
  have h1 : ckP m.s m.k (a ++ b) = .ok true n := by rw [ckP_app b (by rw [h]; exact fun h => by cases h), h]
  have h2 := (ckP_ok h).1
  rw [go_none h hr, go_none h1 (by rw [next_app b h2]; exact hr)]
  exact ⟨fun h0 => absurd h0 (by simp only; omega), fun _ => ⟨rfl, rfl⟩⟩
 ·intro m a n x h hr ih
  have h1 : ckP m.s m.k (a ++ b) = .ok true n := by rw [ckP_app b (by rw [h]; exact fun h => by cases h), h]
  have h2 := (ckP_ok h).1
  rw [go_some h hr, go_some h1 (by rw [next_app b h2]; exact hr), List.drop_append_of_le_length h2]
  unfold Out.pre
  simp only
  refine ⟨fun h0 => ?_, fun h0 => ?_⟩
  ·rw [ih.1 h0]; rfl
  ·exact ⟨by rw [(ih.2 h0).1], (ih.2 h0).2⟩
/-- Each message took twenty bytes at least, and what is not gone through is short. -/
theorem go_len : ∀ (m : Mid) (b : List Nat), (go rd m b).ms.length * 12 + (go rd m b).rest.length ≤ b.length := by
 refine go_ind (rd := rd) ?_ ?_ ?_ ?_ ?_
 ·intro m b h; rw [go_wait h]; simp
 ·intro m b e h; rw [go_bad h]; simp
 ·intro m b n h ih
  rw [go_more h]
  have := (ckP_ok h).1
  rw [List.length_drop] at ih; omega
 ·intro m b n h hr
  rw [go_none h hr]
  have := (ckP_ok h).1
  simp only [List.length_drop, List.length_nil]; omega
 ·intro m b n x h hr ih
  rw [go_some h hr]
  have := (ckP_ok h).1
  have := (ckP_ok h).2.1
  unfold Out.pre
  simp only [List.length_cons]
  rw [List.length_drop] at ih; omega
/-- How many bytes are held. -/
def Out.held (o : Out M) : Nat := if o.fl = 0 then o.mid.p + o.rest.length else 0
end
end Go.Proofs.Ytbcmjjcbjojakaa
end
section
namespace Go.Proofs.Ytbcmjjcbjojakaa
open Go.RowKit
set_option linter.unusedVariables false
set_option linter.unusedSimpArgs false
/-- Is a request refused at once? -/
noncomputable def badB (R : Rq) : Bool := @decide (¬ rqOk R) (Classical.propDecidable _)
theorem counts_to (w : World) (k : Int) (g : Nat) (b1 b2 b3 b4 b5 b6 b7 : Bool) (h : cKey k = b1 ∧ cBody k = b2 ∧ cAfter k = b3 ∧ cOff k = b4 ∧ cNum k = b5 ∧ cDelim k = b6 ∧ decide (1 ≤ k ∧ k ≤ 8) = b7) :
  Calls Try.prog 55 #[.int .i64 k] w fun e w' => e = .returned (.tuple #[.agg #[.bool b1, .bool b2, .bool b3, .bool b4, .bool b5, .bool b6], .bool b7]) ∧ Below w.heap.size w w' := by
 obtain ⟨rfl, rfl, rfl, rfl, rfl, rfl, rfl⟩ := h
 exact counts_any w k
end Go.Proofs.Ytbcmjjcbjojakaa
end
