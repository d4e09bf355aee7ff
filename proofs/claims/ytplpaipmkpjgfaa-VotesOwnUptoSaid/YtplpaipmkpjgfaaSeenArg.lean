/- An argument []api.Seen: what the walk is told of it, within the form's reach. -/
import Derived.Test.YtplpaipmkpjgfaaArgRows
import Derived.Test.YtplpaipmkpjgfaaMemN
import Derived.Test.YtplpaipmkpjgfaaProg
import Derived.Deep.Slices
import Derived.Deep.MidRow
import Derived.OpenShut
import Derived.SizedLaws
import Derived.KernelRfl
namespace Go.Proofs.Ytplpaipmkpjgfaa
open Go.ChangeShapes Go.WideShapes Go.ChangeAt Go.RowKit
set_option linter.unusedVariables false
structure Hdr where
  s0 : Int
  s1 : Int
  s2 : Int
  s3 : Int
  s4 : Int
  s5 : Int
  s6 : Int
  s7 : Int
  k : Int
  m : Int
  b : Int
  key : ByteArray
  size : Int
  index : Int
  epoch : Int
  count : Int
structure Sn where
  kind : Int
  err : Int
  hd : Hdr
  bl : Value
def Hdr.cells (h : Hdr) : List Value := [.int .u8 h.s0, .int .u8 h.s1, .int .u8 h.s2, .int .u8 h.s3, .int .u8 h.s4, .int .u8 h.s5, .int .u8 h.s6, .int .u8 h.s7, .int .i64 h.k, .int .i64 h.m, .int .i64 h.b, .string h.key, .int .i64 h.size, .int .i64 h.index, .int .i64 h.epoch, .int .i64 h.count]
def Sn.cells (x : Sn) : List Value := .int .i64 x.kind :: (x.hd.cells ++ [x.bl, .int .i64 x.err])
def hdr0 : Hdr := ⟨0, 0, 0, 0, 0, 0, 0, 0, 0, 0, 0, ⟨#[]⟩, 0, 0, 0, 0⟩
def sn0 : Sn := ⟨0, 0, hdr0, .slice none 0 0⟩
instance : Inhabited Sn := ⟨sn0⟩
def J64 (x : Int) : Prop := -9223372036854775808 ≤ x ∧ x ≤ 9223372036854775807
/-- What an element keeps to. -/
structure SnOk (x : Sn) : Prop where
  kind : J64 x.kind
  size : J64 x.hd.size
  epoch : J64 x.hd.epoch
  count : J64 x.hd.count
  bl : ∃ A n c, x.bl = .slice A n c
theorem Sn.len (x : Sn) : x.cells.length = 19 := rfl
theorem Sn.one (x : Sn) (h : SnOk x) : ∀ u ∈ x.cells, u.oneCell' = true := by
  obtain ⟨A, n, c, hb⟩ := h.bl
  intro u hu
  unfold Sn.cells Hdr.cells at hu
  rw [hb] at hu
  simp only [List.mem_cons, List.mem_append, List.not_mem_nil, or_false] at hu
  rcases hu with rfl | (rfl | rfl | rfl | rfl | rfl | rfl | rfl | rfl | rfl | rfl | rfl | rfl | rfl | rfl | rfl | rfl) | rfl | rfl <;> rfl
/-- A slice of elements, in blocks below Q. -/
def View (w : World) (Q : Nat) (A : Option Addr) (n : Nat) (S : Nat → Sn) : Prop :=
  ∀ r, r < n → ∃ g off, A = some ⟨g, off, none⟩ ∧ g < Q ∧ w.rangeAt g (off + r * 19) (S r).cells ∧ SnOk (S r)
/-- An element's blocks. -/
def Blk (w : World) (Q : Nat) (bl : Value) (Bs : List (List Nat)) : Prop :=
  ∃ A c, bl = .slice A Bs.length c ∧ ∀ r, r < Bs.length → ∃ g off Ar Cr, A = some ⟨g, off, none⟩ ∧ g < Q ∧ w.cell? ⟨g, off + r, none⟩ = some (.slice Ar (Bs.getD r []).length Cr) ∧ Rd w Q Ar (Bs.getD r []).length (cb (Bs.getD r [])) ∧ ∀ x ∈ Bs.getD r [], x < 256
section
variable {w w' : World} {Q Q' n : Nat} {A : Option Addr} {S : Nat → Sn} {bl : Value} {Bs : List (List Nat)}
theorem View.below (h : View w Q A n S) (b : Below Q w w') : View w' Q A n S := fun r hr => by
  obtain ⟨g, off, e, hg, hc, hok⟩ := h r hr
  exact ⟨g, off, e, hg, fun j v hv => (b.cell (p := ⟨g, _, none⟩) hg).trans (hc j v hv), hok⟩
theorem View.more (h : View w Q A n S) (hQ : Q ≤ Q') : View w Q' A n S := fun r hr => by
  obtain ⟨g, off, e, hg, hc⟩ := h r hr
  exact ⟨g, off, e, by omega, hc⟩
theorem Blk.below (h : Blk w Q bl Bs) (b : Below Q w w') : Blk w' Q bl Bs := by
  obtain ⟨A, c, e, h⟩ := h
  refine ⟨A, c, e, fun r hr => ?_⟩
  obtain ⟨g, off, Ar, Cr, e, hg, hc, hr, hb⟩ := h r hr
  exact ⟨g, off, Ar, Cr, e, hg, (b.cell (p := ⟨g, _, none⟩) hg).trans hc, hr.below b, hb⟩
theorem Blk.more (h : Blk w Q bl Bs) (hQ : Q ≤ Q') : Blk w Q' bl Bs := by
  obtain ⟨A, c, e, h⟩ := h
  refine ⟨A, c, e, fun r hr => ?_⟩
  obtain ⟨g, off, Ar, Cr, e, hg, hc, hr, hb⟩ := h r hr
  exact ⟨g, off, Ar, Cr, e, by omega, hc, hr.more hQ, hb⟩
end
/-- All that a walk is told of the argument. -/
structure SeenA (w : World) (A : Option Addr) (n : Nat) (S : Nat → Sn) (B : Nat → List (List Nat)) : Prop where
  view : View w w.heap.size A n S
  blk : ∀ r, r < n → Blk w w.heap.size (S r).bl (B r)
  lenA : n * 120 ≤ 140737488351232
  lenB : ∀ r, r < n → (B r).length * 24 ≤ 140737488351232
  lenR : ∀ r k, r < n → ((B r).getD k []).length ≤ 140737488351232
theorem mem_all {H : Type} {P : Program} {e : TypeId} : ∀ (l : List (DataW H)) (d : DataW H), d ∈ l → ∀ m ∈ d.weights P e, m ∈ DataW.weightsAll P e l
  | [], d, h, m, hm => by cases h
  | y :: r, d, h, m, hm => by
    rw [DataW.weightsAll, List.mem_append]
    rcases List.mem_cons.1 h with rfl | h
    · exact .inl hm
    · exact .inr (mem_all r d h m hm)
theorem open_rows {H : Type} {enc : TypeId × Value → H} {P : Program} {w : World} {base : Nat} {held : Bool} {t e q : TypeId} {fuel : Nat} {cs : List Value} {x : DataW H × List MemPlace} (ht : P.underlying t = some (.slice e)) (he : P.underlying e = some (.slice q)) (hq : P.underlying q = some (.int .u8))
    (ce : P.cellsOf e = 1) (cq : P.cellsOf q = 1) (be : P.bytesOf e = 24) (bq : P.bytesOf q = 1) (h : DataW.trod enc P w base (fun _ => true) held fuel t cs = some x) (hw : ∀ m ∈ x.1.weights P t, m ≤ 140737488351232) :
    ∃ (bl : Value) (Bs : List (List Nat)), cs = [bl] ∧ Blk w w.heap.size bl Bs ∧ Bs.length * 24 ≤ 140737488351232 ∧ ∀ k, (Bs.getD k []).length ≤ 140737488351232 := by
  rcases Go.Deep.open_int_rows ht he hq ce cq h with ⟨rfl, _⟩ | ⟨a, len, cap, A, L, C, Z, rfl, _, hl, hm, hxe, hx⟩
  · exact ⟨.slice none 0 0, [], rfl, ⟨none, 0, rfl, fun r hr => absurd hr (by simp)⟩, by simp, fun k => by simp⟩
  have each : ∀ r, r < cap → ∃ l : List Nat, Rd w w.heap.size (A r) (L r) (cb l) ∧ l.length = L r ∧ ∀ y ∈ l, y < 256 := by
    intro r hr
    obtain ⟨_, hL, hC, hZ, hwz, hnone, hsome⟩ := hx r hr
    have hrow : IsRow .u8 w (A r) (L r) (C r) (Z r) := by
      cases hA : A r with
      | none =>
        have h0 := hnone hA
        refine .inl ⟨rfl, by omega, h0, List.eq_nil_of_length_eq_zero (by omega)⟩
      | some a' => exact .inr ⟨a', rfl, hL, hC, hZ, fun c hc => (hsome a' hA).2 c (by omega), hwz⟩
    obtain ⟨l, hr1, hr2, hr3, hr4⟩ := hrow.bytes
    refine ⟨l.take (L r), ?_, by rw [List.length_take]; omega, fun y hy => hr2 y (List.mem_of_mem_take hy)⟩
    have := hr1.take hr4
    rw [cb, ← List.map_take] at this
    exact this
  obtain ⟨y, hy⟩ := Go.Deep.choose_lt each
  have hgd : ∀ r, r < len → ((List.range len).map y).getD r [] = y r := fun r hr => by
    rw [List.getD_eq_getElem?_getD, List.getElem?_map, List.getElem?_range hr]; rfl
  have hws : ∀ m, m = cap * 24 ∨ (∃ r, r < len ∧ m ∈ (Go.Deep.intRow (H := H) .u8 (A r) (L r) (Z r)).weights P e) → m ≤ 140737488351232 := by
    intro m hm'
    refine hw m ?_
    rw [hxe]
    simp only [DataW.weights, ht, be, List.mem_cons, List.mem_append, List.length_map, List.length_range]
    rcases hm' with rfl | ⟨r, hr, hmr⟩
    · left; congr 1; omega
    · right; left
      exact mem_all _ _ (List.mem_map.2 ⟨r, List.mem_range.2 hr, rfl⟩) m hmr
  have h24 := hws _ (.inl rfl)
  have hrow : ∀ r, r < len → L r ≤ 140737488351232 := fun r hr => by
    obtain ⟨_, hL, hC, hZ, hwz, hnone, hsome⟩ := hx r (by omega)
    cases hA : A r with
    | none => have := hnone hA; omega
    | some a' =>
      have := hws (C r) (.inr ⟨r, hr, by
        unfold Go.Deep.intRow
        rw [hA]
        simp only [DataW.weights, he, bq, lits, List.length_map, List.length_take, List.length_drop, List.mem_cons, List.mem_append]
        left; omega⟩)
      omega
  refine ⟨_, (List.range len).map y, rfl, ⟨some a, cap, by simp, fun r hr => ?_⟩, by simp; omega, fun k => ?_⟩
  · have hr : r < len := by simpa using hr
    obtain ⟨hc, _⟩ := hx r (by omega)
    obtain ⟨h1, h2, h3⟩ := hy r (by omega)
    obtain ⟨h01, _⟩ := hx 0 (by omega)
    obtain ⟨g, off, spot⟩ := a
    have hs : spot = none := by simpa [Addr.add] using World.cell?_spot h01
    subst hs
    refine ⟨g, off, A r, C r, rfl, ?_, ?_, ?_, ?_⟩
    · have := World.block_lt_of_cell? w _ h01; simpa [Addr.add] using this
    · rw [← Addr.add_mid, hc, hgd r hr, h2]
    · rw [hgd r hr, h2]; exact h1
    · rw [hgd r hr]; exact h3
  · by_cases hk : k < len
    · rw [hgd k hk, (hy k (by omega)).2.1]; exact hrow k hk
    · rw [List.getD_eq_getElem?_getD, List.getElem?_eq_none (by simp; omega)]; simp
theorem wf64 {z : Int} (h : (Lit.int .i64 z).wf = true) : J64 z := by unfold J64; simpa [Lit.wf, IntKind.min, IntKind.max, IntKind.signed, IntKind.bits] using h
section
variable {H : Type} {enc : TypeId × Value → H} {w : World} {base : Nat} {held : Bool}
theorem cells_seen : Try.prog.cellsOf 58 = 19 := by kernel_rfl
theorem cells_shard : Try.prog.cellsOf 55 = 17 := by kernel_rfl
theorem cells_head : Try.prog.cellsOf 52 = 16 := by kernel_rfl
theorem cells_gen : Try.prog.cellsOf 24 = 2 := by kernel_rfl
theorem cells_shape : Try.prog.cellsOf 34 = 3 := by kernel_rfl
theorem cells_store : Try.prog.cellsOf 50 = 8 := by kernel_rfl
theorem cells_int : Try.prog.cellsOf 3 = 1 := by kernel_rfl
theorem cells_u8 : Try.prog.cellsOf 5 = 1 := by kernel_rfl
theorem cells_str : Try.prog.cellsOf 9 = 1 := by kernel_rfl
theorem cells_err : Try.prog.cellsOf 56 = 1 := by kernel_rfl
theorem cells_rows : Try.prog.cellsOf 53 = 1 := by kernel_rfl
theorem cells_row : Try.prog.cellsOf 71 = 1 := by kernel_rfl
theorem part_of {P : Program} {t : TypeId} {fuel : Nat} {cs cs2 : List Value} {xs : List (DataW H × List MemPlace)} {i : Nat} {y : DataW H × List MemPlace} (h : DataW.trod enc P w base (fun _ => true) held fuel t cs = xs[i]?) (e : cs = cs2) (hy : xs[i]? = some y) :
    DataW.trod enc P w base (fun _ => true) held fuel t cs2 = some y := by rw [← e, h, hy]
theorem fld {P : Program} {m : Nat} {cs : List Value} {fs : Array Field} {xs : List (DataW H × List MemPlace)} (hf : ∀ (i : Nat) (f : Field), fs[i]? = some f → DataW.trod enc P w base (fun _ => true) held m f.type ((cs.drop f.offset).take (P.cellsOf f.type)) = xs[i]?) (i t o : Nat) {f : Field} (h : fs[i]? = some f) (ht : f.type = t) (ho : f.offset = o) :
    DataW.trod enc P w base (fun _ => true) held m t ((cs.drop o).take (P.cellsOf t)) = xs[i]? := by subst ht ho; exact hf i f h
theorem open_ints2 {fuel : Nat} {v : Value} {k : IntKind} {t : TypeId} {x : DataW H × List MemPlace} (ht : Try.prog.underlying t = some (.int k)) (h : DataW.trod enc Try.prog w base (fun _ => true) held fuel t [v] = some x) : ∃ z : Int, v = .int k z ∧ (Lit.int k z).wf = true := by
  obtain ⟨z, e, _, hw⟩ := DataW.trod_int ht h
  exact ⟨z, (List.cons.inj e).1, hw⟩
theorem get_some {α : Type} (l : List α) (n i : Nat) (h : l.length = n) (hi : i < n) : ∃ y, l[i]? = some y := ⟨_, List.getElem?_eq_getElem (by omega)⟩
theorem open_store {fuel : Nat} {v0 v1 v2 v3 v4 v5 v6 v7 : Value} {x : DataW H × List MemPlace} (h : DataW.trod enc Try.prog w base (fun _ => true) held fuel 50 [v0, v1, v2, v3, v4, v5, v6, v7] = some x) :
    ∃ s0 s1 s2 s3 s4 s5 s6 s7 : Int, v0 = .int .u8 s0 ∧ v1 = .int .u8 s1 ∧ v2 = .int .u8 s2 ∧ v3 = .int .u8 s3 ∧ v4 = .int .u8 s4 ∧ v5 = .int .u8 s5 ∧ v6 = .int .u8 s6 ∧ v7 = .int .u8 s7 := by
  obtain ⟨xs, m, rfl, _, _, hl, hx⟩ := DataW.trod_array (n := 8) (e := 5) (by rw [Try.underlying50]) h
  rw [cells_u8] at hx
  have g : ∀ i v, i < 8 → (([v0, v1, v2, v3, v4, v5, v6, v7].drop (i * 1)).take 1 = [v]) → ∃ z : Int, v = .int .u8 z := fun i v hi he => by
    obtain ⟨y, hy⟩ := get_some xs 8 i hl hi
    obtain ⟨z, e, _⟩ := open_ints2 Try.underlying5 (part_of (hx i hi) he hy)
    exact ⟨z, e⟩
  obtain ⟨s0, e0⟩ := g 0 v0 (by omega) rfl
  obtain ⟨s1, e1⟩ := g 1 v1 (by omega) rfl
  obtain ⟨s2, e2⟩ := g 2 v2 (by omega) rfl
  obtain ⟨s3, e3⟩ := g 3 v3 (by omega) rfl
  obtain ⟨s4, e4⟩ := g 4 v4 (by omega) rfl
  obtain ⟨s5, e5⟩ := g 5 v5 (by omega) rfl
  obtain ⟨s6, e6⟩ := g 6 v6 (by omega) rfl
  obtain ⟨s7, e7⟩ := g 7 v7 (by omega) rfl
  exact ⟨s0, s1, s2, s3, s4, s5, s6, s7, e0, e1, e2, e3, e4, e5, e6, e7⟩
theorem open_gen {fuel : Nat} {v0 v1 : Value} {x : DataW H × List MemPlace} (h : DataW.trod enc Try.prog w base (fun _ => true) held fuel 24 [v0, v1] = some x) : ∃ a b : Int, v0 = .int .i64 a ∧ v1 = .int .i64 b ∧ J64 a ∧ J64 b := by
  obtain ⟨xs, m, rfl, _, _, hl, hf⟩ := DataW.trod_struct Try.underlying24 h
  obtain ⟨y0, h0⟩ := get_some xs 2 0 hl (by omega)
  obtain ⟨y1, h1⟩ := get_some xs 2 1 hl (by omega)
  have g0 := fld hf 0 3 0 rfl rfl rfl
  have g1 := fld hf 1 3 1 rfl rfl rfl
  simp only [cells_int] at g0 g1
  obtain ⟨a, rfl, wa⟩ := open_ints2 Try.underlying3 (part_of g0 (cs2 := [v0]) rfl h0)
  obtain ⟨b, rfl, wb⟩ := open_ints2 Try.underlying3 (part_of g1 (cs2 := [v1]) rfl h1)
  exact ⟨a, b, rfl, rfl, wf64 wa, wf64 wb⟩
theorem open_shape {fuel : Nat} {v0 v1 v2 : Value} {x : DataW H × List MemPlace} (h : DataW.trod enc Try.prog w base (fun _ => true) held fuel 34 [v0, v1, v2] = some x) : ∃ a b c : Int, v0 = .int .i64 a ∧ v1 = .int .i64 b ∧ v2 = .int .i64 c ∧ J64 a ∧ J64 b ∧ J64 c := by
  obtain ⟨xs, m, rfl, _, _, hl, hf⟩ := DataW.trod_struct Try.underlying34 h
  obtain ⟨y0, h0⟩ := get_some xs 3 0 hl (by omega)
  obtain ⟨y1, h1⟩ := get_some xs 3 1 hl (by omega)
  obtain ⟨y2, h2⟩ := get_some xs 3 2 hl (by omega)
  have g0 := fld hf 0 3 0 rfl rfl rfl
  have g1 := fld hf 1 3 1 rfl rfl rfl
  have g2 := fld hf 2 3 2 rfl rfl rfl
  simp only [cells_int] at g0 g1 g2
  obtain ⟨a, rfl, wa⟩ := open_ints2 Try.underlying3 (part_of g0 (cs2 := [v0]) rfl h0)
  obtain ⟨b, rfl, wb⟩ := open_ints2 Try.underlying3 (part_of g1 (cs2 := [v1]) rfl h1)
  obtain ⟨c, rfl, wc⟩ := open_ints2 Try.underlying3 (part_of g2 (cs2 := [v2]) rfl h2)
  exact ⟨a, b, c, rfl, rfl, rfl, wf64 wa, wf64 wb, wf64 wc⟩
set_option maxRecDepth 8000 in
theorem open_head {fuel : Nat} {v0 v1 v2 v3 v4 v5 v6 v7 v8 v9 v10 v11 v12 v13 v14 v15 : Value} {x : DataW H × List MemPlace} (h : DataW.trod enc Try.prog w base (fun _ => true) held fuel 52 [v0, v1, v2, v3, v4, v5, v6, v7, v8, v9, v10, v11, v12, v13, v14, v15] = some x) :
    ∃ hd : Hdr, [v0, v1, v2, v3, v4, v5, v6, v7, v8, v9, v10, v11, v12, v13, v14, v15] = hd.cells ∧ J64 hd.size ∧ J64 hd.epoch ∧ J64 hd.count := by
  obtain ⟨xs, m, rfl, _, _, hl, hf⟩ := DataW.trod_struct Try.underlying52 h
  obtain ⟨y0, h0⟩ := get_some xs 6 0 hl (by omega)
  obtain ⟨y1, h1⟩ := get_some xs 6 1 hl (by omega)
  obtain ⟨y2, h2⟩ := get_some xs 6 2 hl (by omega)
  obtain ⟨y3, h3⟩ := get_some xs 6 3 hl (by omega)
  obtain ⟨y4, h4⟩ := get_some xs 6 4 hl (by omega)
  obtain ⟨y5, h5⟩ := get_some xs 6 5 hl (by omega)
  have g0 := fld hf 0 50 0 rfl rfl rfl
  have g1 := fld hf 1 34 8 rfl rfl rfl
  have g2 := fld hf 2 9 11 rfl rfl rfl
  have g3 := fld hf 3 3 12 rfl rfl rfl
  have g4 := fld hf 4 3 13 rfl rfl rfl
  have g5 := fld hf 5 24 14 rfl rfl rfl
  simp only [cells_int, cells_store, cells_shape, cells_str, cells_gen] at g0 g1 g2 g3 g4 g5
  obtain ⟨s0, s1, s2, s3, s4, s5, s6, s7, rfl, rfl, rfl, rfl, rfl, rfl, rfl, rfl⟩ := open_store (part_of g0 (cs2 := [v0, v1, v2, v3, v4, v5, v6, v7]) rfl h0)
  obtain ⟨a, b, c, rfl, rfl, rfl, _, _, _⟩ := open_shape (part_of g1 (cs2 := [v8, v9, v10]) rfl h1)
  obtain ⟨k, ek, _, _⟩ := DataW.trod_string (by rw [Try.underlying9]) (part_of g2 (cs2 := [v11]) rfl h2)
  obtain ⟨sz, rfl, wsz⟩ := open_ints2 Try.underlying3 (part_of g3 (cs2 := [v12]) rfl h3)
  obtain ⟨ix, rfl, _⟩ := open_ints2 Try.underlying3 (part_of g4 (cs2 := [v13]) rfl h4)
  obtain ⟨ep, ct, rfl, rfl, wep, wct⟩ := open_gen (part_of g5 (cs2 := [v14, v15]) rfl h5)
  obtain rfl := (List.cons.inj ek).1
  exact ⟨⟨s0, s1, s2, s3, s4, s5, s6, s7, a, b, c, k, sz, ix, ep, ct⟩, rfl, wf64 wsz, wep, wct⟩
set_option maxRecDepth 8000 in
theorem open_one {fuel : Nat} {cs : List Value} {x : DataW H × List MemPlace} (h : DataW.trod enc Try.prog w base (fun _ => true) held fuel 58 cs = some x) (hw : ∀ m ∈ x.1.weights Try.prog 58, m ≤ 140737488351232) :
    ∃ (y : Sn) (Bs : List (List Nat)), cs = y.cells ∧ SnOk y ∧ Blk w w.heap.size y.bl Bs ∧ Bs.length * 24 ≤ 140737488351232 ∧ ∀ k, (Bs.getD k []).length ≤ 140737488351232 := by
  obtain ⟨xs, m, rfl, hxe, hlen, hl, hf⟩ := DataW.trod_struct Try.underlying58 h
  rw [cells_seen] at hlen
  obtain ⟨v0, v1, v2, v3, v4, v5, v6, v7, v8, v9, v10, v11, v12, v13, v14, v15, v16, v17, v18, rfl⟩ : ∃ v0 v1 v2 v3 v4 v5 v6 v7 v8 v9 v10 v11 v12 v13 v14 v15 v16 v17 v18, cs = [v0, v1, v2, v3, v4, v5, v6, v7, v8, v9, v10, v11, v12, v13, v14, v15, v16, v17, v18] := by
    match cs, hlen with
    | [a, b, c, d, e, f, g, h, i, j, k, l, m, n, o, p, q, r, s], _ => exact ⟨a, b, c, d, e, f, g, h, i, j, k, l, m, n, o, p, q, r, s, rfl⟩
  obtain ⟨y0, h0⟩ := get_some xs 3 0 hl (by omega)
  obtain ⟨y1, h1⟩ := get_some xs 3 1 hl (by omega)
  obtain ⟨y2, h2⟩ := get_some xs 3 2 hl (by omega)
  have g0 := fld hf 0 3 0 rfl rfl rfl
  have g1 := fld hf 1 55 1 rfl rfl rfl
  have g2 := fld hf 2 56 18 rfl rfl rfl
  simp only [cells_int, cells_shard, cells_err] at g0 g1 g2
  obtain ⟨kd, rfl, wkd⟩ := open_ints2 Try.underlying3 (part_of g0 (cs2 := [v0]) rfl h0)
  obtain ⟨er, rfl, _⟩ := open_ints2 Try.underlying56 (part_of g2 (cs2 := [v18]) rfl h2)
  have g1' := part_of g1 (cs2 := [v1, v2, v3, v4, v5, v6, v7, v8, v9, v10, v11, v12, v13, v14, v15, v16, v17]) rfl h1
  obtain ⟨zs, m', rfl, hze, _, hl', hf'⟩ := DataW.trod_struct Try.underlying55 g1'
  obtain ⟨z0, q0⟩ := get_some zs 2 0 hl' (by omega)
  obtain ⟨z1, q1⟩ := get_some zs 2 1 hl' (by omega)
  have k0 := fld hf' 0 52 0 rfl rfl rfl
  have k1 := fld hf' 1 53 16 rfl rfl rfl
  simp only [cells_head, cells_rows] at k0 k1
  obtain ⟨hd, ehd, wsz, wep, wct⟩ := open_head (part_of k0 (cs2 := [v1, v2, v3, v4, v5, v6, v7, v8, v9, v10, v11, v12, v13, v14, v15, v16]) rfl q0)
  have hw1 : ∀ m ∈ z1.1.weights Try.prog 53, m ≤ 140737488351232 := fun m hm => by
    refine hw m ?_
    rw [hxe]
    simp only [DataW.weights, Try.underlying58]
    refine DataW.weights_mem_each (j := 1) (t := 55) (d := y1.1) rfl (by rw [List.getElem?_map, h1]; rfl) m ?_
    rw [hze]
    simp only [DataW.weights, Try.underlying55]
    exact DataW.weights_mem_each (j := 1) (t := 53) (d := z1.1) rfl (by rw [List.getElem?_map, q1]; rfl) m hm
  obtain ⟨bl, Bs, eb, hB, hB1, hB2⟩ := open_rows Try.underlying53 Try.underlying71 Try.underlying5 cells_row cells_u8 (by kernel_rfl) (by kernel_rfl) (part_of k1 (cs2 := [v17]) rfl q1) hw1
  obtain rfl := (List.cons.inj eb).1
  refine ⟨⟨kd, er, hd, v17⟩, Bs, ?_, ⟨wf64 wkd, wsz, wep, wct, ?_⟩, hB, hB1, hB2⟩
  · show _ = Value.int .i64 kd :: (hd.cells ++ [v17, .int .i64 er])
    rw [← ehd]; rfl
  · obtain ⟨A, c, e, _⟩ := hB
    exact ⟨A, _, c, e⟩
theorem open_seen {fuel : Nat} {cs : List Value} {x : DataW H × List MemPlace} (h : DataW.trod enc Try.prog w base (fun _ => true) held fuel 22 cs = some x) (hw : ∀ m ∈ x.1.weights Try.prog 22, m ≤ 140737488351232) :
    ∃ A len cap S B, cs = [.slice A len cap] ∧ len ≤ cap ∧ SeenA w A len S B := by
  rcases Go.Deep.open_slice Try.underlying22 h with ⟨rfl, _⟩ | ⟨a, len, cap, m, n, D, Pl, rfl, _, hl, hm, hmm, hxe, hx⟩
  · exact ⟨none, 0, 0, fun _ => sn0, fun _ => [], rfl, Nat.le_refl _, fun r hr => absurd hr (by omega), fun r hr => absurd hr (by omega), by omega, fun r hr => absurd hr (by omega), fun r k hr => absurd hr (by omega)⟩
  simp only [if_true] at hmm
  subst hmm
  rw [cells_seen] at hx
  have each : ∀ r, r < len → ∃ y : Sn × List (List Nat), (∀ j v, y.1.cells[j]? = some v → w.cell? ((a.add (r * 19)).add j) = some v) ∧ SnOk y.1 ∧ Blk w w.heap.size y.1.bl y.2 ∧ y.2.length * 24 ≤ 140737488351232 ∧ ∀ k, (y.2.getD k []).length ≤ 140737488351232 := fun r hr => by
    obtain ⟨cs', hcs, htr⟩ := hx r (by omega)
    have hcell := (World.cells?_some hcs).2.2
    obtain ⟨y, Bs, rfl, h1, h2, h3, h4⟩ := open_one htr fun k hk => hw k (by
      rw [hxe]
      simp only [DataW.weights, Try.underlying22, List.mem_cons, List.mem_append]
      right; left
      refine mem_all _ (D r) ?_ k hk
      exact List.mem_map.2 ⟨r, List.mem_range.2 hr, rfl⟩)
    refine ⟨⟨y, Bs⟩, fun j v hv => ?_, h1, h2, h3, h4⟩
    have hj : j < 19 := by have := (List.getElem?_eq_some_iff.1 hv).1; rwa [Sn.len] at this
    have := hcell j hj
    exact this.trans (by rw [hv])
  obtain ⟨y, hy⟩ := Go.Deep.choose_lt each
  refine ⟨some a, len, m, fun r => (y r).1, fun r => (y r).2, rfl, hl, fun r hr => ?_, fun r hr => (hy r hr).2.2.1, ?_, fun r hr => (hy r hr).2.2.2.1, fun r k hr => (hy r hr).2.2.2.2 k⟩
  · obtain ⟨hc, hok, _⟩ := hy r hr
    obtain ⟨g, off, spot⟩ := a
    have h0 := hc 0 _ rfl
    have hs : spot = none := by simpa [Addr.add] using World.cell?_spot ((hy 0 (by omega)).1 0 _ rfl)
    subst hs
    simp only [Addr.add_mid] at hc h0
    exact ⟨g, off, rfl, by have := World.block_lt_of_cell? w _ h0; simpa using this, hc, hok⟩
  · have := hw (m * 120) (by
      rw [hxe]
      simp only [DataW.weights, Try.underlying22, List.mem_cons, List.length_map, List.length_range]
      left
      rw [show Try.prog.bytesOf 58 = 120 by kernel_rfl]
      congr 1; omega)
    omega
end
end Go.Proofs.Ytplpaipmkpjgfaa
