/- Put together of: StepS WNum ArgRq ArgAn. -/
import Derived.Test.YtbcmjjcbjojakaaPk8
import Derived.Test.YtbcmjjcbjojakaaPk7
import Derived.Test.YtbcmjjcbjojakaaPk4
import Derived.Test.YtbcmjjcbjojakaaPk2
import Derived.Test.YtbcmjjcbjojakaaPk3
import Derived.SliceStrings
import Derived.Deep.Slices
import Derived.Deep.MidRow
section
namespace Go.Proofs.Ytbcmjjcbjojakaa
open Go.RowKit
set_option linter.unusedVariables false
section
variable {P : Program} {ops : Array Oper} {o : Oper} {a : Act} {w : World} {K : Act → World → Prop} {Q : Exit → Act → World → Prop} {Z : Prop}
theorem run_storeVar_1 (g i : Nat) (ty : TypeId) (v : Value) (hv : v.cells = #[v]) (h1 : v.oneCell' = true) (old : Value) (hc : w.cell? ⟨g, i, none⟩ = some old) (hz : w.frozen? ⟨g, i, none⟩ = false) (hi : (P.info? ty).map (·.size) = some 1) :
  (storeVar ty ⟨g, i, none⟩ v).run P w = .ok () (w.setCell ⟨g, i, none⟩ v) := by
 have := run_storeCells_cells (P := P) g i [v] 0 w (fun j hj => by
   have : j = 0 := by simpa using hj
   subst this; simp [hc]) (fun j hj => by
   have : j = 0 := by simpa using hj
   subst this; simpa using hz) (fun x hx => by rw [List.mem_singleton.1 hx]; exact h1)
 cases hq : P.info? ty with
 | none => simp [hq] at hi
 | some t =>
  have hs : t.size = 1 := by simp [hq] at hi; omega
  simp only [Nat.add_zero] at this
  simp [storeVar, sizeOf, typeInfo, hq, hv, hs, this, World.setCells]
theorem step_set (hgd : o.guard = none) (ty : TypeId) (x y : Operand) (ho : o.op = .store ty x y) (g i : Nat) (v : Value) (hx : a.eval x = .pointer (some ⟨g, i, none⟩)) (hy : a.eval y = v) (hv : v.cells = #[v]) (h1 : v.oneCell' = true)
  (old : Value) (hc : w.cell? ⟨g, i, none⟩ = some old) (hz : w.frozen? ⟨g, i, none⟩ = false) (hi : (P.info? ty).map (·.size) = some 1) (h : K (a.put o.dst undef) (w.setCell ⟨g, i, none⟩ v)) : if Region.wanted o (yielded ops a.tmps) = true then Oper.wp P o a w K Q else Z := by
 have hw : Region.wanted o (yielded ops a.tmps) = true := by simp [Region.wanted, hgd]
 rw [if_pos hw]
 unfold Oper.wp execOp
 simp only [ho, hx, hy, Instr.storeAt, Instr.sureAddr, Sem.run_bind, Sem.run_pure, Result.andThen_ok, run_storeVar_1 g i ty v hv h1 old hc hz hi]
 exact h
theorem step_build1 {t e size bytes : Nat} (E : ElN P t e size bytes) (hgd : o.guard = none) (x : Operand) (ho : o.op = .buildSlice t 1 #[(0, x)]) (cells : Array Value) (hx : a.eval x = .agg cells) (h1 : cells.size = size)
  (h : K (a.put o.dst (.slice (some ⟨w.heap.size, 0, none⟩) 1 1)) (w.alloc (.cells cells e))) : if Region.wanted o (yielded ops a.tmps) = true then Oper.wp P o a w K Q else Z := by
 have hw : Region.wanted o (yielded ops a.tmps) = true := by simp [Region.wanted, hgd]
 rw [if_pos hw]
 have hb1 := run_build1N (w := w) E cells h1
 unfold Oper.wp execOp
 simp only [ho, List.map_toArray, List.map_cons, List.map_nil, hx, Sem.run_bind, Sem.run_pure, Result.andThen_ok, hb1, Oper.upon]
 exact h
theorem step_qpush {t e size bytes base : Nat} (E : ElN P t e size bytes) (hgd : o.guard = none) (s x : Operand) (ho : o.op = .call { callee := .builtin .append, args := #[s, x], argTypes := #[t, t] })
  (v : Value) (ws : List Wm) (W : Wm) (hs : a.eval s = v) (hq : Que w base e size v ws) (hW : W.cells.length = size ∧ ∀ u ∈ W.cells, u.oneCell' = true) (ad : Addr) (c : Nat) (hx : a.eval x = .slice (some ad) 1 c)
  (ha : ∀ j u, W.cells[j]? = some u → w.cell? (ad.add j) = some u) (h63 : ws.length + 1 ≤ 1000000000000) (hbytes : (ws.length + 1) * bytes ≤ 140737488355328) (hbase : base ≤ w.heap.size)
  (h : ∀ v' w', Que w' base e size v' (ws ++ [W]) → w.grownBy w' v.ownBlock → (v'.ownBlock = v.ownBlock ∨ v'.ownBlock = some w.heap.size) → K (a.put o.dst v') w') :
  if Region.wanted o (yielded ops a.tmps) = true then Oper.wp P o a w K Q else Z := by
 have hw : Region.wanted o (yielded ops a.tmps) = true := by simp [Region.wanted, hgd]
 rw [if_pos hw]
 obtain ⟨v', w', hrun, h2, h3, h4⟩ := hq.push (P := P) (ty := o.type) E hW ad c ha h63 hbytes hbase
 unfold Oper.wp execOp
 simp only [ho, resolve, invoke, builtin, Sem.run_bind, Sem.run_pure, Result.andThen_ok, List.map_toArray, List.map_cons, List.map_nil, hs, hx, hrun]
 exact h v' w' h2 h3 h4
end
theorem infoSlB : (Try.prog.info? 26).map (·.size) = some 1 := by kernel_rfl
theorem infoSlR : (Try.prog.info? 55).map (·.size) = some 1 := by kernel_rfl
theorem infoSlA : (Try.prog.info? 56).map (·.size) = some 1 := by kernel_rfl
end Go.Proofs.Ytbcmjjcbjojakaa
end
section
namespace Go.Proofs.Ytbcmjjcbjojakaa
open Go.RowKit
set_option linter.unusedVariables false
set_option linter.unusedSimpArgs false
theorem wnum_step (v b : Nat) (hv : v < 16777216) (hb : b < 256) : bits .or .u32 ((v * 256 : Nat) : Int) (b : Int) = ((b + 256 * v : Nat) : Int) := by
 rw [u32_or_nat _ _ (by omega) (by omega), nat_join 8 (v * 256) b (by omega) (by omega)]
 omega
theorem wnum_any (w : World) (A : Option Addr) (n c B : Nat) (bs : List Nat) (hr : Rd w B A n (cb bs)) (hl : ∀ x ∈ bs, x < 256) (hn : n ≤ 4) :
  Calls Try.prog 101 #[.slice A n c] w fun e w' => e = .returned (.int .u32 ((le256 bs : Nat) : Int)) ∧ w = w' := by
 have hbl : bs.length = n := by have := hr.1; rwa [cb_length] at this
 have HH : Hd (Rd w B A n (cb bs) ∧ (∀ x ∈ bs, x < 256) ∧ bs.length = n) := ⟨hr, hl, hbl⟩
 have HLT : Hd (∀ k, 1 ≤ k → k ≤ n → le256 (bs.drop k) < 16777216) := ⟨fun k h1 h2 => by
  have h3 := le256_lt (bs.drop k) fun x hx => hl x (List.mem_of_mem_drop hx)
  have h4 : (bs.drop k).length ≤ 3 := by rw [List.length_drop]; omega
  exact Nat.lt_of_lt_of_le h3 (Nat.le_trans (Nat.pow_le_pow_right (by omega) h4) (by decide))⟩
 clear hr hl hbl
 go_enter Try.func101, Try.ntmps101
 go_wp2_with fail
 go_loop [3, 4] (fun u3 u4 => ∃ k : Nat, k ≤ n ∧ u4 = .int .i64 ((k : Int) - 1) ∧ u3 = .int .u32 ((le256 (bs.drop k) : Nat) : Int)) (fun _ u4 => (intOf u4 + 1).toNat)
 case atStart =>
  refine ⟨n, by omega, ?_, ?_⟩
  ·first | rfl | go_num | (simp; omega)
  ·rw [List.drop_of_length_le (by have := HH.out.2.2; omega)]; rfl
 case round =>
  obtain ⟨k, hk, rfl, rfl⟩ := hrel
  by_cases h0 : 0 < k
  ·obtain ⟨j, rfl⟩ : ∃ j, k = j + 1 := ⟨k - 1, by omega⟩
   obtain ⟨g, off, u, hA, _, hx, hc⟩ := HH.out.1.at_ (k := j) (by omega)
   rw [cb_get _ _ (by have := HH.out.2.2; omega)] at hx
   injection hx with hx
   subst hx hA
   have hb : bs.getD j 0 < 256 := by
    have := HH.out.2.2
    rw [List.getD_eq_getElem?_getD, List.getElem?_eq_getElem (by omega)]; exact HH.out.2.1 _ (List.getElem_mem _)
   have hv := HLT.out (j + 1) (by omega) hk
   have HE : Hd (le256 (bs.drop j) = bs.getD j 0 + 256 * le256 (bs.drop (j + 1))) := ⟨by rw [drop_cons bs j (by have := HH.out.2.2; omega)]; rfl⟩
   obtain ⟨b, hbb⟩ : ∃ b, bs.getD j 0 = b := ⟨_, rfl⟩
   obtain ⟨v, hvv⟩ : ∃ v, le256 (bs.drop (j + 1)) = v := ⟨_, rfl⟩
   rw [hbb] at hc hb HE
   rw [hvv] at hv HE ⊢
   clear hbb hvv
   have hji : (((j + 1 : Nat) : Int) - 1) = (j : Int) := by omega
   rw [hji]
   have hsh : IntKind.u32.wrap ((v : Int) * 256) = ((v * 256 : Nat) : Int) := by rw [IntKind.wrap_u32]; omega
   have hor := wnum_step v b hv hb
   go_wp2_with fail
   go_round
   case rel => exact ⟨j, by omega, by first | rfl | go_num, by rw [HE.out]; first | rfl | exact congrArg (Value.int .u32) hor | (congr 1; rw [← hor]; congr 1; omega)⟩
   case measure => simp [intOf]
  ·have hk0 : k = 0 := by omega
   subst hk0
   go_wp2_with fail
   go_ret
   exact ⟨rfl, rfl⟩
end Go.Proofs.Ytbcmjjcbjojakaa
end
section
namespace Go.Proofs.Ytbcmjjcbjojakaa
open Go.ChangeShapes Go.WideShapes Go.ChangeAt Go.RowKit
set_option linter.unusedVariables false
section
variable {H : Type} {enc : TypeId × Value → H} {w : World} {base : Nat} {held : Bool}
theorem part_of {P : Program} {t : TypeId} {fuel : Nat} {cs cs2 : List Value} {xs : List (DataW H × List MemPlace)} {i : Nat} {y : DataW H × List MemPlace} (h : DataW.trod enc P w base (fun _ => true) held fuel t cs = xs[i]?) (e : cs = cs2) (hy : xs[i]? = some y) :
  DataW.trod enc P w base (fun _ => true) held fuel t cs2 = some y := by rw [← e, h, hy]
theorem fld {P : Program} {m : Nat} {cs : List Value} {fs : Array Field} {xs : List (DataW H × List MemPlace)} (hf : ∀ (i : Nat) (f : Field), fs[i]? = some f → DataW.trod enc P w base (fun _ => true) held m f.type ((cs.drop f.offset).take (P.cellsOf f.type)) = xs[i]?) (i t o : Nat) {f : Field} (h : fs[i]? = some f) (ht : f.type = t) (ho : f.offset = o) :
  DataW.trod enc P w base (fun _ => true) held m t ((cs.drop o).take (P.cellsOf t)) = xs[i]? := by subst ht ho; exact hf i f h
theorem open_num {fuel : Nat} {v : Value} {k : IntKind} {t : TypeId} {x : DataW H × List MemPlace} (ht : Try.prog.underlying t = some (.int k)) (h : DataW.trod enc Try.prog w base (fun _ => true) held fuel t [v] = some x) : ∃ z : Int, v = .int k z ∧ (Lit.int k z).wf = true := by
 obtain ⟨z, e, _, hw⟩ := DataW.trod_int ht h
 exact ⟨z, (List.cons.inj e).1, hw⟩
theorem open_txt {fuel : Nat} {v : Value} {t : TypeId} {x : DataW H × List MemPlace} (ht : Try.prog.underlying t = some .string) (h : DataW.trod enc Try.prog w base (fun _ => true) held fuel t [v] = some x) : ∃ s : ByteArray, v = .string s ∧ s.size ≤ maxLen := by
 obtain ⟨z, e, _, hw⟩ := DataW.trod_string ht h
 exact ⟨z, (List.cons.inj e).1, hw⟩
theorem get_some {α : Type} (l : List α) (n i : Nat) (h : l.length = n) (hi : i < n) : ∃ y, l[i]? = some y := ⟨_, List.getElem?_eq_getElem (by omega)⟩
theorem cells_rq : Try.prog.cellsOf 28 = 8 := by kernel_rfl
theorem cells_u8 : Try.prog.cellsOf 5 = 1 := by kernel_rfl
theorem cells_u64 : Try.prog.cellsOf 25 = 1 := by kernel_rfl
theorem cells_int : Try.prog.cellsOf 3 = 1 := by kernel_rfl
theorem cells_str : Try.prog.cellsOf 9 = 1 := by kernel_rfl
theorem cells_bytes : Try.prog.cellsOf 26 = 1 := by kernel_rfl
/-- A slice of bytes that came in. -/
theorem open_bytes {fuel : Nat} {v : Value} {x : DataW H × List MemPlace} (h : DataW.trod enc Try.prog w base (fun _ => true) held fuel 26 [v] = some x) (hw : ∀ m ∈ x.1.weights Try.prog 26, m ≤ 140737488351232) :
  ∃ (A : Option Addr) (n c : Nat) (bs : List Nat), v = .slice A n c ∧ Rd w w.heap.size A n (cb bs) ∧ (∀ y ∈ bs, y < 256) ∧ n ≤ 140737488351232 := by
 rcases open_ints Try.underlying26 Try.underlying5 cells_u8 h with ⟨hcs, _⟩ | ⟨x3, l, c, zs, hcs, _, hl', hm, hz, hx, hcell, hwz⟩
 ·obtain rfl := (List.cons.inj hcs).1
  exact ⟨none, 0, 0, [], rfl, Rd.nil, (fun y hy => absurd hy List.not_mem_nil), by omega⟩
 ·obtain rfl := (List.cons.inj hcs).1
  have hrow : IsRow .u8 w (some x3) l c zs := .inr ⟨_, rfl, hl', hm, by simpa using hz, hcell, hwz⟩
  obtain ⟨bs, hr, hb, hbl, hlc⟩ := hrow.bytes
  refine ⟨some x3, l, c, bs.take l, rfl, by rw [show cb (bs.take l) = (cb bs).take l by unfold cb; rw [List.map_take]]; exact hr.take hlc, fun y hy => hb y (List.mem_of_mem_take hy), ?_⟩
  have h8 := hw (c * 1) (by
   rw [hx]
   simp only [DataW.weights, Try.underlying26, List.mem_cons]
   left
   rw [show Try.prog.bytesOf 5 = 1 by kernel_rfl]
   have : zs.length = c := by simpa using hz
   have e : (lits (H := H) .u8 (zs.take l)).length + (lits (H := H) .u8 (zs.drop l)).length = c := by simp only [lits, List.length_map, List.length_take, List.length_drop]; omega
   rw [e])
  omega
set_option maxRecDepth 8000 in
theorem open_rq {fuel : Nat} {cs : List Value} {x : DataW H × List MemPlace} (h : DataW.trod enc Try.prog w base (fun _ => true) held fuel 28 cs = some x) (hw : ∀ m ∈ x.1.weights Try.prog 28, m ≤ 140737488351232) :
  ∃ (k tag : Int) (key after : ByteArray) (off num delim : Int) (A : Option Addr) (n c : Nat) (bs : List Nat), cs = [.int .i64 k, .int .u64 tag, .string key, .string after, .int .i64 off, .int .i64 num, .int .i64 delim, .slice A n c] ∧ Rd w w.heap.size A n (cb bs) ∧ (∀ y ∈ bs, y < 256) ∧ n ≤ 140737488351232 ∧
   (Lit.int .i64 k).wf = true ∧ (Lit.int .u64 tag).wf = true ∧ (Lit.int .i64 off).wf = true ∧ (Lit.int .i64 num).wf = true ∧ (Lit.int .i64 delim).wf = true ∧ key.size ≤ maxLen ∧ after.size ≤ maxLen := by
 obtain ⟨xs, m, rfl, hxe, hlen, hl, hf⟩ := DataW.trod_struct Try.underlying28 h
 rw [cells_rq] at hlen
 obtain ⟨v0, v1, v2, v3, v4, v5, v6, v7, rfl⟩ : ∃ v0 v1 v2 v3 v4 v5 v6 v7, cs = [v0, v1, v2, v3, v4, v5, v6, v7] := by
  match cs, hlen with
  | [a, b, c, d, e, f, g, h], _ => exact ⟨a, b, c, d, e, f, g, h, rfl⟩
 obtain ⟨y0, h0⟩ := get_some xs 8 0 hl (by omega)
 obtain ⟨y1, h1⟩ := get_some xs 8 1 hl (by omega)
 obtain ⟨y2, h2⟩ := get_some xs 8 2 hl (by omega)
 obtain ⟨y3, h3⟩ := get_some xs 8 3 hl (by omega)
 obtain ⟨y4, h4⟩ := get_some xs 8 4 hl (by omega)
 obtain ⟨y5, h5⟩ := get_some xs 8 5 hl (by omega)
 obtain ⟨y6, h6⟩ := get_some xs 8 6 hl (by omega)
 obtain ⟨y7, h7⟩ := get_some xs 8 7 hl (by omega)
 have g0 := fld hf 0 3 0 rfl rfl rfl
 have g1 := fld hf 1 25 1 rfl rfl rfl
 have g2 := fld hf 2 9 2 rfl rfl rfl
 have g3 := fld hf 3 9 3 rfl rfl rfl
 have g4 := fld hf 4 3 4 rfl rfl rfl
 have g5 := fld hf 5 3 5 rfl rfl rfl
 have g6 := fld hf 6 3 6 rfl rfl rfl
 have g7 := fld hf 7 26 7 rfl rfl rfl
 rw [cells_int] at g0 g4 g5 g6
 rw [cells_u64] at g1
 rw [cells_str] at g2 g3
 rw [cells_bytes] at g7
 obtain ⟨k, rfl, wk⟩ := open_num Try.underlying3 (part_of g0 (cs2 := [v0]) rfl h0)
 obtain ⟨tag, rfl, wt⟩ := open_num Try.underlying25 (part_of g1 (cs2 := [v1]) rfl h1)
 obtain ⟨key, rfl, wy⟩ := open_txt Try.underlying9 (part_of g2 (cs2 := [v2]) rfl h2)
 obtain ⟨after, rfl, wa⟩ := open_txt Try.underlying9 (part_of g3 (cs2 := [v3]) rfl h3)
 obtain ⟨off, rfl, wo⟩ := open_num Try.underlying3 (part_of g4 (cs2 := [v4]) rfl h4)
 obtain ⟨num, rfl, wn⟩ := open_num Try.underlying3 (part_of g5 (cs2 := [v5]) rfl h5)
 obtain ⟨delim, rfl, wd⟩ := open_num Try.underlying3 (part_of g6 (cs2 := [v6]) rfl h6)
 obtain ⟨A, n, c, bs, rfl, hr, hb, hn⟩ := open_bytes (part_of g7 (cs2 := [v7]) rfl h7) (fun m hm => by
  refine hw m ?_
  rw [hxe]
  simp only [DataW.weights, Try.underlying28]
  exact DataW.weights_mem_each (j := 7) (t := 26) (d := y7.1) rfl (by rw [List.getElem?_map, h7]; rfl) m hm)
 exact ⟨k, tag, key, after, off, num, delim, A, n, c, bs, rfl, hr, hb, hn, wk, wt, wo, wn, wd, wy, wa⟩
end
end Go.Proofs.Ytbcmjjcbjojakaa
end
section
namespace Go.Proofs.Ytbcmjjcbjojakaa
open Go.ChangeShapes Go.WideShapes Go.ChangeAt Go.RowKit
set_option linter.unusedVariables false
instance : Inhabited Rq := ⟨⟨0, 0, emS, emS, 0, 0, 0, []⟩⟩
instance : Inhabited An := ⟨⟨0, 0, 0, [], [], [], emS, false, 0, 0, 0, 0, 0, 0, 0⟩⟩
def J64 (x : Int) : Prop := -9223372036854775808 ≤ x ∧ x ≤ 9223372036854775807
theorem wfj {z : Int} (h : (Lit.int .i64 z).wf = true) : J64 z := by unfold J64; simpa [Lit.wf, IntKind.min, IntKind.max, IntKind.signed, IntKind.bits] using h
theorem wfu {z : Int} (h : (Lit.int .u64 z).wf = true) : 0 ≤ z ∧ z ≤ 18446744073709551615 := by simpa [Lit.wf, IntKind.min, IntKind.max, IntKind.signed, IntKind.bits] using h
/-- The cells of a request that came in. -/
def RqA (w : World) (B : Nat) (cells : List Value) (R : Rq) : Prop :=
 ∃ A n c, cells = [.int .i64 R.kind, .int .u64 (R.tag : Int), .string R.key, .string R.after, .int .i64 R.off, .int .i64 R.num, .int .i64 R.delim, .slice A n c] ∧ Rd w B A n (cb R.body) ∧ n ≤ c ∧ RqB R ∧ J64 R.kind ∧ R.key.size ≤ 140737488351232 ∧ R.after.size ≤ 140737488351232 ∧ n ≤ 140737488351232
/-- The cells of an answer that came in. -/
def AnA (w : World) (B : Nat) (cells : List Value) (a : An) : Prop :=
 ∃ A n c A2 n2 c2 A3 n3 c3, cells = [.int .i64 a.kind, .int .u64 (a.tag : Int), .int .i64 a.code, .slice A n c, .slice A2 n2 c2, .slice A3 n3 c3, .string a.next, .bool a.more, .int .i64 a.ge, .int .i64 a.gc, .int .i64 a.size, .int .i64 a.h1, .int .i64 a.h2, .int .i64 a.h3, .int .i64 a.h4] ∧
  Rd w B A n (cb a.body) ∧ Rd w B A2 n2 (cs a.keys) ∧ Rd w B A3 n3 (cs a.groups) ∧ n ≤ c ∧ n ≤ 140737488351232 ∧ n2 ≤ c2 ∧ n2 ≤ 8796093022000 ∧ n3 ≤ c3 ∧ n3 ≤ 8796093022000 ∧ AnB a ∧ J64 a.kind ∧ J64 a.code ∧ a.next.size ≤ 140737488351232 ∧ (∀ t ∈ a.keys, t.size ≤ 140737488351232) ∧ ∀ t ∈ a.groups, t.size ≤ 140737488351232
/-- A list of messages that came in. -/
def Lst {M : Type} (Q : World → Nat → List Value → M → Prop) (w : World) (B size : Nat) (A : Option Addr) (n : Nat) (ms : List M) : Prop :=
 ms.length = n ∧ ∀ (i : Nat) (x : M), ms[i]? = some x → ∃ g off cells, A = some ⟨g, off, none⟩ ∧ g < B ∧ w.rangeAt g (off + i * size) cells ∧ cells.length = size ∧ Q w B cells x
theorem mem_allW {H : Type} {P : Program} {e : TypeId} : ∀ (l : List (DataW H)) (d : DataW H), d ∈ l → ∀ m ∈ d.weights P e, m ∈ DataW.weightsAll P e l
 | [], d, h, m, hm => by cases h
 | y :: r, d, h, m, hm => by
  rw [DataW.weightsAll, List.mem_append]
  rcases List.mem_cons.1 h with rfl | h
  ·exact .inl hm
  ·exact .inr (mem_allW r d h m hm)
section
variable {H : Type} {enc : TypeId × Value → H} {w : World} {base : Nat} {held : Bool}
theorem cells_an : Try.prog.cellsOf 43 = 15 := by kernel_rfl
theorem cells_err : Try.prog.cellsOf 32 = 1 := by kernel_rfl
theorem cells_bool : Try.prog.cellsOf 4 = 1 := by kernel_rfl
theorem cells_texts : Try.prog.cellsOf 37 = 1 := by kernel_rfl
theorem cells_gen : Try.prog.cellsOf 39 = 2 := by kernel_rfl
theorem cells_healed : Try.prog.cellsOf 41 = 4 := by kernel_rfl
theorem open_flag {fuel : Nat} {v : Value} {t : TypeId} {x : DataW H × List MemPlace} (ht : Try.prog.underlying t = some .bool) (h : DataW.trod enc Try.prog w base (fun _ => true) held fuel t [v] = some x) : ∃ b, v = .bool b := by
 cases fuel with
 | zero => simp [DataW.trod] at h
 | succ n =>
  cases v <;> simp [DataW.trod, ht] at h
  rename_i b
  exact ⟨b, rfl⟩
theorem open_bytes2 {fuel : Nat} {v : Value} {x : DataW H × List MemPlace} (h : DataW.trod enc Try.prog w base (fun _ => true) held fuel 26 [v] = some x) (hw : ∀ m ∈ x.1.weights Try.prog 26, m ≤ 140737488351232) :
  ∃ (A : Option Addr) (n c : Nat) (bs : List Nat), v = .slice A n c ∧ Rd w w.heap.size A n (cb bs) ∧ (∀ y ∈ bs, y < 256) ∧ n ≤ c ∧ n ≤ 140737488351232 := by
 obtain ⟨A, n, c, bs, e, h1, h2, h3⟩ := open_bytes h hw
 refine ⟨A, n, c, bs, e, h1, h2, ?_, h3⟩
 rcases open_ints Try.underlying26 Try.underlying5 cells_u8 h with ⟨hcs, _⟩ | ⟨x3, l, c', zs, hcs, _, hl', _⟩
 ·rw [e] at hcs
  have := (List.cons.inj hcs).1
  injection this with _ e1 e2; omega
 ·rw [e] at hcs
  have := (List.cons.inj hcs).1
  injection this with _ e1 e2; omega
theorem open_txts {fuel : Nat} {v : Value} {x : DataW H × List MemPlace} (h : DataW.trod enc Try.prog w base (fun _ => true) held fuel 37 [v] = some x) (hw : ∀ m ∈ x.1.weights Try.prog 37, m ≤ 140737488351232) :
  ∃ (A : Option Addr) (n c : Nat) (l : List ByteArray), v = .slice A n c ∧ Rd w w.heap.size A n (cs l) ∧ n ≤ c ∧ n ≤ 8796093022000 ∧ ∀ t ∈ l, t.size ≤ 140737488351232 := by
 rcases open_strings Try.underlying37 Try.underlying9 cells_str h with ⟨hcs, hy⟩ | ⟨a, len, cap, ss, hcs, _, hl, hm, hz, hy, hcell, hsz⟩
 ·obtain rfl := (List.cons.inj hcs).1
  exact ⟨none, 0, 0, [], rfl, Rd.nil, by omega, by omega, fun t ht => by cases ht⟩
 ·obtain rfl := (List.cons.inj hcs).1
  simp only [if_true] at hz
  have hx : x.1 = .slice (strs (ss.take len)) (strs (ss.drop len)) := by rw [hy]
  have hlen : (ss.take len).length = len := by rw [List.length_take]; omega
  refine ⟨some a, len, cap, ss.take len, rfl, ⟨by rw [cs_len, hlen], fun hp => ?_⟩, hl, ?_, ?_⟩
  ·obtain ⟨g, off, spot⟩ := a
   have h0 := hcell 0 (by omega)
   have hs : spot = none := by simpa [Addr.add] using World.cell?_spot h0
   subst hs
   refine ⟨g, off, rfl, ?_, fun i hi => ?_⟩
   ·have := World.block_lt_of_cell? w _ h0; simpa [Addr.add] using this
   ·have h1 := hcell i (by omega)
    have e : (⟨g, off, none⟩ : Addr).add i = ⟨g, off + i, none⟩ := by unfold Addr.add; split <;> simp_all
    rw [e] at h1
    rw [h1, cs_get _ _ (by omega), List.getD_eq_getElem?_getD, List.getD_eq_getElem?_getD, List.getElem?_take, if_pos hi]
  ·have := hw (cap * 16) (by
    rw [hx]
    simp only [DataW.weights, Try.underlying37, List.mem_cons]
    left
    rw [show Try.prog.bytesOf 9 = 16 by kernel_rfl]
    have e : (strs (H := H) (ss.take len)).length + (strs (H := H) (ss.drop len)).length = cap := by simp only [strs, List.length_map, List.length_take, List.length_drop]; omega
    rw [e])
   omega
  ·intro t ht
   have := hw t.data.toList.length (by
    rw [hx]
    simp only [DataW.weights, Try.underlying37, List.mem_cons, List.mem_append]
    right; left
    exact mem_allW _ (.lit (.string t.data.toList)) (List.mem_map.2 ⟨t, ht, rfl⟩) _ (by simp [DataW.weights]))
   rw [Array.length_toList] at this
   exact this
theorem open_txt2 {fuel : Nat} {v : Value} {t : TypeId} {x : DataW H × List MemPlace} (ht : Try.prog.underlying t = some .string) (h : DataW.trod enc Try.prog w base (fun _ => true) held fuel t [v] = some x) (hw : ∀ m ∈ x.1.weights Try.prog t, m ≤ 140737488351232) : ∃ s : ByteArray, v = .string s ∧ s.size ≤ 140737488351232 := by
 obtain ⟨z, e, e2, hwz⟩ := DataW.trod_string ht h
 refine ⟨z, (List.cons.inj e).1, ?_⟩
 have := hw z.data.toList.length (by rw [e2]; simp [DataW.weights])
 rw [Array.length_toList] at this
 exact this
theorem open_rqA (fuel : Nat) (l : List Value) (y : DataW H × List MemPlace) (h : DataW.trod enc Try.prog w base (fun _ => true) held fuel 28 l = some y) (hw : ∀ m ∈ y.1.weights Try.prog 28, m ≤ 140737488351232) : l.length = 8 ∧ ∃ R, RqA w w.heap.size l R := by
 have hlen : l.length = 8 := by
  obtain ⟨xs, m, rfl, hxe, hlen, hl, hf⟩ := DataW.trod_struct Try.underlying28 h
  rwa [cells_rq] at hlen
 refine ⟨hlen, ?_⟩
 obtain ⟨xs, m, rfl, hxe, _, hl, hf⟩ := DataW.trod_struct Try.underlying28 h
 obtain ⟨k, tag, key, after, off, num, delim, A, n, c, bs, rfl, hr, hb, hn, wk, wt, wo, wn, wd, wy, wa⟩ := open_rq h hw
 have t1 := wfu wt
 obtain ⟨tn, rfl⟩ : ∃ tn : Nat, tag = (tn : Int) := ⟨tag.toNat, by omega⟩
 obtain ⟨y7, h7⟩ := get_some xs 8 7 hl (by omega)
 have g7 := fld hf 7 26 7 rfl rfl rfl
 rw [cells_bytes] at g7
 obtain ⟨A', n', c', bs', e', _, _, hnc, _⟩ := open_bytes2 (part_of g7 (cs2 := [.slice A n c]) rfl h7) (fun m hm => by
  refine hw m ?_
  rw [hxe]
  simp only [DataW.weights, Try.underlying28]
  exact DataW.weights_mem_each (j := 7) (t := 26) (d := y7.1) rfl (by rw [List.getElem?_map, h7]; rfl) m hm)
 injection e' with _ e1 e2
 obtain ⟨y2, h2⟩ := get_some xs 8 2 hl (by omega)
 obtain ⟨y3, h3⟩ := get_some xs 8 3 hl (by omega)
 have g2 := fld hf 2 9 2 rfl rfl rfl
 have g3 := fld hf 3 9 3 rfl rfl rfl
 rw [cells_str] at g2 g3
 have hwx : ∀ (j : Nat) (t : TypeId) (y : DataW H × List MemPlace), xs[j]? = some y → ([3, 25, 9, 9, 3, 3, 3, 26] : List TypeId)[j]? = some t → ∀ m ∈ y.1.weights Try.prog t, m ≤ 140737488351232 := fun j t y hj ht m hm => by
  refine hw m ?_
  rw [hxe]
  simp only [DataW.weights, Try.underlying28]
  exact DataW.weights_mem_each (j := j) (t := t) (d := y.1) ht (by rw [List.getElem?_map, hj]; rfl) m hm
 obtain ⟨s2, e2', wy2⟩ := open_txt2 Try.underlying9 (part_of g2 (cs2 := [.string key]) rfl h2) (hwx 2 _ y2 h2 rfl)
 obtain ⟨s3, e3', wa2⟩ := open_txt2 Try.underlying9 (part_of g3 (cs2 := [.string after]) rfl h3) (hwx 3 _ y3 h3 rfl)
 injection e2' with e2'
 injection e3' with e3'
 subst e2' e3'
 exact ⟨⟨k, tn, key, after, off, num, delim, bs⟩, A, n, c, rfl, hr, by omega, ⟨by simp only; omega, (wfj wo).1, (wfj wo).2, (wfj wn).1, (wfj wn).2, (wfj wd).1, (wfj wd).2, hb⟩, wfj wk, wy2, wa2, hn⟩
set_option maxRecDepth 8000 in
theorem open_anA (fuel : Nat) (l : List Value) (y : DataW H × List MemPlace) (h : DataW.trod enc Try.prog w base (fun _ => true) held fuel 43 l = some y) (hw : ∀ m ∈ y.1.weights Try.prog 43, m ≤ 140737488351232) : l.length = 15 ∧ ∃ a, AnA w w.heap.size l a := by
 obtain ⟨xs, m, rfl, hxe, hlen, hl, hf⟩ := DataW.trod_struct Try.underlying43 h
 rw [cells_an] at hlen
 refine ⟨hlen, ?_⟩
 obtain ⟨v0, v1, v2, v3, v4, v5, v6, v7, v8, v9, v10, v11, v12, v13, v14, rfl⟩ : ∃ v0 v1 v2 v3 v4 v5 v6 v7 v8 v9 v10 v11 v12 v13 v14, l = [v0, v1, v2, v3, v4, v5, v6, v7, v8, v9, v10, v11, v12, v13, v14] := by
  match l, hlen with
  | [a, b, c, d, e, f, g, h, i, j, k, l, m, n, o], _ => exact ⟨a, b, c, d, e, f, g, h, i, j, k, l, m, n, o, rfl⟩
 obtain ⟨y0, h0⟩ := get_some xs 11 0 hl (by omega)
 obtain ⟨y1, h1⟩ := get_some xs 11 1 hl (by omega)
 obtain ⟨y2, h2⟩ := get_some xs 11 2 hl (by omega)
 obtain ⟨y3, h3⟩ := get_some xs 11 3 hl (by omega)
 obtain ⟨y4, h4⟩ := get_some xs 11 4 hl (by omega)
 obtain ⟨y5, h5⟩ := get_some xs 11 5 hl (by omega)
 obtain ⟨y6, h6⟩ := get_some xs 11 6 hl (by omega)
 obtain ⟨y7, h7⟩ := get_some xs 11 7 hl (by omega)
 obtain ⟨y8, h8⟩ := get_some xs 11 8 hl (by omega)
 obtain ⟨y9, h9⟩ := get_some xs 11 9 hl (by omega)
 obtain ⟨y10, h10⟩ := get_some xs 11 10 hl (by omega)
 have g0 := fld hf 0 3 0 rfl rfl rfl
 have g1 := fld hf 1 25 1 rfl rfl rfl
 have g2 := fld hf 2 32 2 rfl rfl rfl
 have g3 := fld hf 3 26 3 rfl rfl rfl
 have g4 := fld hf 4 37 4 rfl rfl rfl
 have g5 := fld hf 5 37 5 rfl rfl rfl
 have g6 := fld hf 6 9 6 rfl rfl rfl
 have g7 := fld hf 7 4 7 rfl rfl rfl
 have g8 := fld hf 8 39 8 rfl rfl rfl
 have g9 := fld hf 9 3 10 rfl rfl rfl
 have g10 := fld hf 10 41 11 rfl rfl rfl
 rw [cells_int] at g0 g9
 rw [cells_u64] at g1
 rw [cells_err] at g2
 rw [cells_bytes] at g3
 rw [cells_texts] at g4 g5
 rw [cells_str] at g6
 rw [cells_bool] at g7
 rw [cells_gen] at g8
 rw [cells_healed] at g10
 have hwx : ∀ (j : Nat) (t : TypeId) (y : DataW H × List MemPlace), xs[j]? = some y → ([3, 25, 32, 26, 37, 37, 9, 4, 39, 3, 41] : List TypeId)[j]? = some t → ∀ m ∈ y.1.weights Try.prog t, m ≤ 140737488351232 := fun j t y hj ht m hm => by
  refine hw m ?_
  rw [hxe]
  simp only [DataW.weights, Try.underlying43]
  exact DataW.weights_mem_each (j := j) (t := t) (d := y.1) ht (by rw [List.getElem?_map, hj]; rfl) m hm
 obtain ⟨k, rfl, wk⟩ := open_num Try.underlying3 (part_of g0 (cs2 := [v0]) rfl h0)
 obtain ⟨tag, rfl, wt⟩ := open_num Try.underlying25 (part_of g1 (cs2 := [v1]) rfl h1)
 obtain ⟨code, rfl, wc⟩ := open_num Try.underlying32 (part_of g2 (cs2 := [v2]) rfl h2)
 obtain ⟨A, n, c, bs, rfl, hr, hb, hnc, hn⟩ := open_bytes2 (part_of g3 (cs2 := [v3]) rfl h3) (hwx 3 _ y3 h3 rfl)
 obtain ⟨A2, n2, c2, ks, rfl, hr2, hnc2, hn2, hs2⟩ := open_txts (part_of g4 (cs2 := [v4]) rfl h4) (hwx 4 _ y4 h4 rfl)
 obtain ⟨A3, n3, c3, gs, rfl, hr3, hnc3, hn3, hs3⟩ := open_txts (part_of g5 (cs2 := [v5]) rfl h5) (hwx 5 _ y5 h5 rfl)
 obtain ⟨nx, rfl, wx⟩ := open_txt2 Try.underlying9 (part_of g6 (cs2 := [v6]) rfl h6) (hwx 6 _ y6 h6 rfl)
 obtain ⟨mo, rfl⟩ := open_flag Try.underlying4 (part_of g7 (cs2 := [v7]) rfl h7)
 obtain ⟨sz, rfl, ws⟩ := open_num Try.underlying3 (part_of g9 (cs2 := [v10]) rfl h9)
 have g8' := part_of g8 (cs2 := [v8, v9]) rfl h8
 obtain ⟨zs, m', _, _, _, hl', hf'⟩ := DataW.trod_struct Try.underlying39 g8'
 obtain ⟨z0, hz0⟩ := get_some zs 2 0 hl' (by omega)
 obtain ⟨z1, hz1⟩ := get_some zs 2 1 hl' (by omega)
 have q0 := fld hf' 0 3 0 rfl rfl rfl
 have q1 := fld hf' 1 3 1 rfl rfl rfl
 rw [cells_int] at q0 q1
 obtain ⟨ge, rfl, wge⟩ := open_num Try.underlying3 (part_of q0 (cs2 := [v8]) rfl hz0)
 obtain ⟨gc, rfl, wgc⟩ := open_num Try.underlying3 (part_of q1 (cs2 := [v9]) rfl hz1)
 have g10' := part_of g10 (cs2 := [v11, v12, v13, v14]) rfl h10
 obtain ⟨us, m3, _, _, _, hl3, hf3⟩ := DataW.trod_struct Try.underlying41 g10'
 obtain ⟨u0, hu0⟩ := get_some us 4 0 hl3 (by omega)
 obtain ⟨u1, hu1⟩ := get_some us 4 1 hl3 (by omega)
 obtain ⟨u2, hu2⟩ := get_some us 4 2 hl3 (by omega)
 obtain ⟨u3, hu3⟩ := get_some us 4 3 hl3 (by omega)
 have p0 := fld hf3 0 3 0 rfl rfl rfl
 have p1 := fld hf3 1 3 1 rfl rfl rfl
 have p2 := fld hf3 2 3 2 rfl rfl rfl
 have p3 := fld hf3 3 3 3 rfl rfl rfl
 rw [cells_int] at p0 p1 p2 p3
 obtain ⟨h1', rfl, w1⟩ := open_num Try.underlying3 (part_of p0 (cs2 := [v11]) rfl hu0)
 obtain ⟨h2', rfl, w2⟩ := open_num Try.underlying3 (part_of p1 (cs2 := [v12]) rfl hu1)
 obtain ⟨h3', rfl, w3⟩ := open_num Try.underlying3 (part_of p2 (cs2 := [v13]) rfl hu2)
 obtain ⟨h4', rfl, w4⟩ := open_num Try.underlying3 (part_of p3 (cs2 := [v14]) rfl hu3)
 have t1 := wfu wt
 obtain ⟨tn, rfl⟩ : ∃ tn : Nat, tag = (tn : Int) := ⟨tag.toNat, by omega⟩
 refine ⟨⟨k, tn, code, bs, ks, gs, nx, mo, ge, gc, sz, h1', h2', h3', h4'⟩, A, n, c, A2, n2, c2, A3, n3, c3, rfl, hr, hr2, hr3, hnc, hn, hnc2, hn2, hnc3, hn3, ⟨by simp only; omega, hb, ?_⟩, wfj wk, wfj wc, wx, hs2, hs3⟩
 rintro v (rfl | rfl | rfl | rfl | rfl | rfl | rfl)
 ·exact wfj wge
 ·exact wfj wgc
 ·exact wfj ws
 ·exact wfj w1
 ·exact wfj w2
 ·exact wfj w3
 ·exact wfj w4
end
end Go.Proofs.Ytbcmjjcbjojakaa
end
