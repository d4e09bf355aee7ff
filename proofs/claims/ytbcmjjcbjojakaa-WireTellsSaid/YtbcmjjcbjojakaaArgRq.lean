/- Arguments that are requests. -/
import Derived.Test.YtbcmjjcbjojakaaArgs
import Derived.Test.YtbcmjjcbjojakaaPutsL
namespace Go.Proofs.Ytbcmjjcbjojakaa
open Go.ChangeShapes Go.WideShapes Go.ChangeAt Go.RowKit
set_option linter.unusedVariables false
section
variable {H : Type} {enc : TypeId × Value → H} {w : World} {base : Nat} {held : Bool}
theorem part_of {P : Program} {t : TypeId} {fuel : Nat} {cs cs2 : List Value} {xs : List (DataW H × List MemPlace)} {i : Nat} {y : DataW H × List MemPlace} (h : DataW.trod enc P w base (fun _ => true) held fuel t cs = xs[i]?) (e : cs = cs2) (hy : xs[i]? = some y) :
    DataW.trod enc P w base (fun _ => true) held fuel t cs2 = some y := by rw [← e, h, hy]
theorem fld {P : Program} {m : Nat} {cs : List Value} {fs : Array Field} {xs : List (DataW H × List MemPlace)} (hf : ∀ (i : Nat) (f : Field), fs[i]? = some f → DataW.trod enc P w base (fun _ => true) held m f.type ((cs.drop f.offset).take (P.cellsOf f.type)) = xs[i]?) (i t o : Nat) {f : Field} (h : fs[i]? = some f) (ht : f.type = t) (ho : f.offset = o) :
    DataW.trod enc P w base (fun _ => true) held m t ((cs.drop o).take (P.cellsOf t)) = xs[i]? := by subst ht ho; exact hf i f h
theorem open_num {fuel : Nat} {v : Value} {k : IntKind} {t : TypeId} {x : DataW H × List MemPlace} (ht : Try.prog.underlying t = some (.int k)) (h : DataW.trod enc Try.prog w base (fun _ => true) held fuel t [v] = some x) : ∃ z : Int, v = .int k z ∧ (Lit.int k z).wf = true := by
  obtain ⟨z, e, _, hw⟩ := DataW.trod_int ht h
  exact ⟨z, (List.cons.inj e).1, hw⟩
theorem open_txt {fuel : Nat} {v : Value} {t : TypeId} {x : DataW H × List MemPlace} (ht : Try.prog.underlying t = some .string) (h : DataW.trod enc Try.prog w base (fun _ => true) held fuel t [v] = some x) : ∃ s : ByteArray, v = .string s ∧ s.size ≤ maxLen := by
  obtain ⟨z, e, _, hw⟩ := DataW.trod_string ht h
  exact ⟨z, (List.cons.inj e).1, hw⟩
theorem get_some {α : Type} (l : List α) (n i : Nat) (h : l.length = n) (hi : i < n) : ∃ y, l[i]? = some y := ⟨_, List.getElem?_eq_getElem (by omega)⟩
theorem cells_rq : Try.prog.cellsOf 28 = 8 := by kernel_rfl
theorem cells_u8 : Try.prog.cellsOf 5 = 1 := by kernel_rfl
theorem cells_u64 : Try.prog.cellsOf 25 = 1 := by kernel_rfl
theorem cells_int : Try.prog.cellsOf 3 = 1 := by kernel_rfl
theorem cells_str : Try.prog.cellsOf 9 = 1 := by kernel_rfl
theorem cells_bytes : Try.prog.cellsOf 26 = 1 := by kernel_rfl
/-- A slice of bytes that came in. -/
theorem open_bytes {fuel : Nat} {v : Value} {x : DataW H × List MemPlace} (h : DataW.trod enc Try.prog w base (fun _ => true) held fuel 26 [v] = some x) (hw : ∀ m ∈ x.1.weights Try.prog 26, m ≤ 140737488351232) :
    ∃ (A : Option Addr) (n c : Nat) (bs : List Nat), v = .slice A n c ∧ Rd w w.heap.size A n (cb bs) ∧ (∀ y ∈ bs, y < 256) ∧ n ≤ 140737488351232 := by
  rcases open_ints Try.underlying26 Try.underlying5 cells_u8 h with ⟨hcs, _⟩ | ⟨x3, l, c, zs, hcs, _, hl', hm, hz, hx, hcell, hwz⟩
  · obtain rfl := (List.cons.inj hcs).1
    exact ⟨none, 0, 0, [], rfl, Rd.nil, (fun y hy => absurd hy List.not_mem_nil), by omega⟩
  · obtain rfl := (List.cons.inj hcs).1
    have hrow : IsRow .u8 w (some x3) l c zs := .inr ⟨_, rfl, hl', hm, by simpa using hz, hcell, hwz⟩
    obtain ⟨bs, hr, hb, hbl, hlc⟩ := hrow.bytes
    refine ⟨some x3, l, c, bs.take l, rfl, by rw [show cb (bs.take l) = (cb bs).take l by unfold cb; rw [List.map_take]]; exact hr.take hlc, fun y hy => hb y (List.mem_of_mem_take hy), ?_⟩
    have h8 := hw (c * 1) (by
      rw [hx]
      simp only [DataW.weights, Try.underlying26, List.mem_cons]
      left
      rw [show Try.prog.bytesOf 5 = 1 by kernel_rfl]
      have : zs.length = c := by simpa using hz
      have e : (lits (H := H) .u8 (zs.take l)).length + (lits (H := H) .u8 (zs.drop l)).length = c := by simp only [lits, List.length_map, List.length_take, List.length_drop]; omega
      rw [e])
    omega
set_option maxRecDepth 8000 in
theorem open_rq {fuel : Nat} {cs : List Value} {x : DataW H × List MemPlace} (h : DataW.trod enc Try.prog w base (fun _ => true) held fuel 28 cs = some x) (hw : ∀ m ∈ x.1.weights Try.prog 28, m ≤ 140737488351232) :
    ∃ (k tag : Int) (key after : ByteArray) (off num delim : Int) (A : Option Addr) (n c : Nat) (bs : List Nat), cs = [.int .i64 k, .int .u64 tag, .string key, .string after, .int .i64 off, .int .i64 num, .int .i64 delim, .slice A n c] ∧ Rd w w.heap.size A n (cb bs) ∧ (∀ y ∈ bs, y < 256) ∧ n ≤ 140737488351232 ∧
      (Lit.int .i64 k).wf = true ∧ (Lit.int .u64 tag).wf = true ∧ (Lit.int .i64 off).wf = true ∧ (Lit.int .i64 num).wf = true ∧ (Lit.int .i64 delim).wf = true ∧ key.size ≤ maxLen ∧ after.size ≤ maxLen := by
  obtain ⟨xs, m, rfl, hxe, hlen, hl, hf⟩ := DataW.trod_struct Try.underlying28 h
  rw [cells_rq] at hlen
  obtain ⟨v0, v1, v2, v3, v4, v5, v6, v7, rfl⟩ : ∃ v0 v1 v2 v3 v4 v5 v6 v7, cs = [v0, v1, v2, v3, v4, v5, v6, v7] := by
    match cs, hlen with
    | [a, b, c, d, e, f, g, h], _ => exact ⟨a, b, c, d, e, f, g, h, rfl⟩
  obtain ⟨y0, h0⟩ := get_some xs 8 0 hl (by omega)
  obtain ⟨y1, h1⟩ := get_some xs 8 1 hl (by omega)
  obtain ⟨y2, h2⟩ := get_some xs 8 2 hl (by omega)
  obtain ⟨y3, h3⟩ := get_some xs 8 3 hl (by omega)
  obtain ⟨y4, h4⟩ := get_some xs 8 4 hl (by omega)
  obtain ⟨y5, h5⟩ := get_some xs 8 5 hl (by omega)
  obtain ⟨y6, h6⟩ := get_some xs 8 6 hl (by omega)
  obtain ⟨y7, h7⟩ := get_some xs 8 7 hl (by omega)
  have g0 := fld hf 0 3 0 rfl rfl rfl
  have g1 := fld hf 1 25 1 rfl rfl rfl
  have g2 := fld hf 2 9 2 rfl rfl rfl
  have g3 := fld hf 3 9 3 rfl rfl rfl
  have g4 := fld hf 4 3 4 rfl rfl rfl
  have g5 := fld hf 5 3 5 rfl rfl rfl
  have g6 := fld hf 6 3 6 rfl rfl rfl
  have g7 := fld hf 7 26 7 rfl rfl rfl
  rw [cells_int] at g0 g4 g5 g6
  rw [cells_u64] at g1
  rw [cells_str] at g2 g3
  rw [cells_bytes] at g7
  obtain ⟨k, rfl, wk⟩ := open_num Try.underlying3 (part_of g0 (cs2 := [v0]) rfl h0)
  obtain ⟨tag, rfl, wt⟩ := open_num Try.underlying25 (part_of g1 (cs2 := [v1]) rfl h1)
  obtain ⟨key, rfl, wy⟩ := open_txt Try.underlying9 (part_of g2 (cs2 := [v2]) rfl h2)
  obtain ⟨after, rfl, wa⟩ := open_txt Try.underlying9 (part_of g3 (cs2 := [v3]) rfl h3)
  obtain ⟨off, rfl, wo⟩ := open_num Try.underlying3 (part_of g4 (cs2 := [v4]) rfl h4)
  obtain ⟨num, rfl, wn⟩ := open_num Try.underlying3 (part_of g5 (cs2 := [v5]) rfl h5)
  obtain ⟨delim, rfl, wd⟩ := open_num Try.underlying3 (part_of g6 (cs2 := [v6]) rfl h6)
  obtain ⟨A, n, c, bs, rfl, hr, hb, hn⟩ := open_bytes (part_of g7 (cs2 := [v7]) rfl h7) (fun m hm => by
    refine hw m ?_
    rw [hxe]
    simp only [DataW.weights, Try.underlying28]
    exact DataW.weights_mem_each (j := 7) (t := 26) (d := y7.1) rfl (by rw [List.getElem?_map, h7]; rfl) m hm)
  exact ⟨k, tag, key, after, off, num, delim, A, n, c, bs, rfl, hr, hb, hn, wk, wt, wo, wn, wd, wy, wa⟩
end
end Go.Proofs.Ytbcmjjcbjojakaa
