/- Arguments that are answers, and lists of messages. -/
import Derived.Test.YtbcmjjcbjojakaaArgRq
import Derived.Test.YtbcmjjcbjojakaaTellT
import Derived.Test.YtbcmjjcbjojakaaAskP
import Derived.SliceStrings
import Derived.Deep.Slices
import Derived.Deep.MidRow
namespace Go.Proofs.Ytbcmjjcbjojakaa
open Go.ChangeShapes Go.WideShapes Go.ChangeAt Go.RowKit
set_option linter.unusedVariables false
instance : Inhabited Rq := ⟨⟨0, 0, emS, emS, 0, 0, 0, []⟩⟩
instance : Inhabited An := ⟨⟨0, 0, 0, [], [], [], emS, false, 0, 0, 0, 0, 0, 0, 0⟩⟩
def J64 (x : Int) : Prop := -9223372036854775808 ≤ x ∧ x ≤ 9223372036854775807
theorem wfj {z : Int} (h : (Lit.int .i64 z).wf = true) : J64 z := by unfold J64; simpa [Lit.wf, IntKind.min, IntKind.max, IntKind.signed, IntKind.bits] using h
theorem wfu {z : Int} (h : (Lit.int .u64 z).wf = true) : 0 ≤ z ∧ z ≤ 18446744073709551615 := by simpa [Lit.wf, IntKind.min, IntKind.max, IntKind.signed, IntKind.bits] using h
/-- The cells of a request that came in. -/
def RqA (w : World) (B : Nat) (cells : List Value) (R : Rq) : Prop :=
  ∃ A n c, cells = [.int .i64 R.kind, .int .u64 (R.tag : Int), .string R.key, .string R.after, .int .i64 R.off, .int .i64 R.num, .int .i64 R.delim, .slice A n c] ∧ Rd w B A n (cb R.body) ∧ n ≤ c ∧ RqB R ∧ J64 R.kind ∧ R.key.size ≤ 140737488351232 ∧ R.after.size ≤ 140737488351232 ∧ n ≤ 140737488351232
/-- The cells of an answer that came in. -/
def AnA (w : World) (B : Nat) (cells : List Value) (a : An) : Prop :=
  ∃ A n c A2 n2 c2 A3 n3 c3, cells = [.int .i64 a.kind, .int .u64 (a.tag : Int), .int .i64 a.code, .slice A n c, .slice A2 n2 c2, .slice A3 n3 c3, .string a.next, .bool a.more, .int .i64 a.ge, .int .i64 a.gc, .int .i64 a.size, .int .i64 a.h1, .int .i64 a.h2, .int .i64 a.h3, .int .i64 a.h4] ∧
    Rd w B A n (cb a.body) ∧ Rd w B A2 n2 (cs a.keys) ∧ Rd w B A3 n3 (cs a.groups) ∧ n ≤ c ∧ n ≤ 140737488351232 ∧ n2 ≤ c2 ∧ n2 ≤ 8796093022000 ∧ n3 ≤ c3 ∧ n3 ≤ 8796093022000 ∧ AnB a ∧ J64 a.kind ∧ J64 a.code ∧ a.next.size ≤ 140737488351232 ∧ (∀ t ∈ a.keys, t.size ≤ 140737488351232) ∧ ∀ t ∈ a.groups, t.size ≤ 140737488351232
/-- A list of messages that came in. -/
def Lst {M : Type} (Q : World → Nat → List Value → M → Prop) (w : World) (B size : Nat) (A : Option Addr) (n : Nat) (ms : List M) : Prop :=
  ms.length = n ∧ ∀ (i : Nat) (x : M), ms[i]? = some x → ∃ g off cells, A = some ⟨g, off, none⟩ ∧ g < B ∧ w.rangeAt g (off + i * size) cells ∧ cells.length = size ∧ Q w B cells x
theorem RqA.below {w w' : World} {B : Nat} {l : List Value} {R : Rq} (h : RqA w B l R) (b : Below B w w') : RqA w' B l R := by
  obtain ⟨A, n, c, e, hr, h⟩ := h; exact ⟨A, n, c, e, hr.below b, h⟩
theorem AnA.below {w w' : World} {B : Nat} {l : List Value} {a : An} (h : AnA w B l a) (b : Below B w w') : AnA w' B l a := by
  obtain ⟨A, n, c, A2, n2, c2, A3, n3, c3, e, h1, h2, h3, h⟩ := h; exact ⟨A, n, c, A2, n2, c2, A3, n3, c3, e, h1.below b, h2.below b, h3.below b, h⟩
theorem Lst.at_ {M : Type} {Q : World → Nat → List Value → M → Prop} {w w' : World} {B size n i : Nat} {A : Option Addr} {ms : List M} {x : M} (h : Lst Q w B size A n ms) (hQ : ∀ l x, Q w B l x → Q w' B l x) (b : Below B w w') (hx : ms[i]? = some x) :
    ∃ g off cells, A = some ⟨g, off, none⟩ ∧ g < B ∧ w'.rangeAt g (off + i * size) cells ∧ cells.length = size ∧ Q w' B cells x := by
  obtain ⟨g, off, l, e, hg, hr, hl, hq⟩ := h.2 i x hx
  exact ⟨g, off, l, e, hg, fun j v hv => (b.cell (p := ⟨g, _, none⟩) hg).trans (hr j v hv), hl, hQ l x hq⟩
theorem mem_allW {H : Type} {P : Program} {e : TypeId} : ∀ (l : List (DataW H)) (d : DataW H), d ∈ l → ∀ m ∈ d.weights P e, m ∈ DataW.weightsAll P e l
  | [], d, h, m, hm => by cases h
  | y :: r, d, h, m, hm => by
    rw [DataW.weightsAll, List.mem_append]
    rcases List.mem_cons.1 h with rfl | h
    · exact .inl hm
    · exact .inr (mem_allW r d h m hm)
section
variable {H : Type} {enc : TypeId × Value → H} {w : World} {base : Nat} {held : Bool}
theorem cells_an : Try.prog.cellsOf 43 = 15 := by kernel_rfl
theorem cells_err : Try.prog.cellsOf 32 = 1 := by kernel_rfl
theorem cells_bool : Try.prog.cellsOf 4 = 1 := by kernel_rfl
theorem cells_texts : Try.prog.cellsOf 37 = 1 := by kernel_rfl
theorem cells_gen : Try.prog.cellsOf 39 = 2 := by kernel_rfl
theorem cells_healed : Try.prog.cellsOf 41 = 4 := by kernel_rfl
theorem open_flag {fuel : Nat} {v : Value} {t : TypeId} {x : DataW H × List MemPlace} (ht : Try.prog.underlying t = some .bool) (h : DataW.trod enc Try.prog w base (fun _ => true) held fuel t [v] = some x) : ∃ b, v = .bool b := by
  cases fuel with
  | zero => simp [DataW.trod] at h
  | succ n =>
    cases v <;> simp [DataW.trod, ht] at h
    rename_i b
    exact ⟨b, rfl⟩
theorem open_bytes2 {fuel : Nat} {v : Value} {x : DataW H × List MemPlace} (h : DataW.trod enc Try.prog w base (fun _ => true) held fuel 26 [v] = some x) (hw : ∀ m ∈ x.1.weights Try.prog 26, m ≤ 140737488351232) :
    ∃ (A : Option Addr) (n c : Nat) (bs : List Nat), v = .slice A n c ∧ Rd w w.heap.size A n (cb bs) ∧ (∀ y ∈ bs, y < 256) ∧ n ≤ c ∧ n ≤ 140737488351232 := by
  obtain ⟨A, n, c, bs, e, h1, h2, h3⟩ := open_bytes h hw
  refine ⟨A, n, c, bs, e, h1, h2, ?_, h3⟩
  rcases open_ints Try.underlying26 Try.underlying5 cells_u8 h with ⟨hcs, _⟩ | ⟨x3, l, c', zs, hcs, _, hl', _⟩
  · rw [e] at hcs
    have := (List.cons.inj hcs).1
    injection this with _ e1 e2; omega
  · rw [e] at hcs
    have := (List.cons.inj hcs).1
    injection this with _ e1 e2; omega
theorem open_txts {fuel : Nat} {v : Value} {x : DataW H × List MemPlace} (h : DataW.trod enc Try.prog w base (fun _ => true) held fuel 37 [v] = some x) (hw : ∀ m ∈ x.1.weights Try.prog 37, m ≤ 140737488351232) :
    ∃ (A : Option Addr) (n c : Nat) (l : List ByteArray), v = .slice A n c ∧ Rd w w.heap.size A n (cs l) ∧ n ≤ c ∧ n ≤ 8796093022000 ∧ ∀ t ∈ l, t.size ≤ 140737488351232 := by
  rcases open_strings Try.underlying37 Try.underlying9 cells_str h with ⟨hcs, hy⟩ | ⟨a, len, cap, ss, hcs, _, hl, hm, hz, hy, hcell, hsz⟩
  · obtain rfl := (List.cons.inj hcs).1
    exact ⟨none, 0, 0, [], rfl, Rd.nil, by omega, by omega, fun t ht => by cases ht⟩
  · obtain rfl := (List.cons.inj hcs).1
    simp only [if_true] at hz
    have hx : x.1 = .slice (strs (ss.take len)) (strs (ss.drop len)) := by rw [hy]
    have hlen : (ss.take len).length = len := by rw [List.length_take]; omega
    refine ⟨some a, len, cap, ss.take len, rfl, ⟨by rw [cs_len, hlen], fun hp => ?_⟩, hl, ?_, ?_⟩
    · obtain ⟨g, off, spot⟩ := a
      have h0 := hcell 0 (by omega)
      have hs : spot = none := by simpa [Addr.add] using World.cell?_spot h0
      subst hs
      refine ⟨g, off, rfl, ?_, fun i hi => ?_⟩
      · have := World.block_lt_of_cell? w _ h0; simpa [Addr.add] using this
      · have h1 := hcell i (by omega)
        have e : (⟨g, off, none⟩ : Addr).add i = ⟨g, off + i, none⟩ := by unfold Addr.add; split <;> simp_all
        rw [e] at h1
        rw [h1, cs_get _ _ (by omega), List.getD_eq_getElem?_getD, List.getD_eq_getElem?_getD, List.getElem?_take, if_pos hi]
    · have := hw (cap * 16) (by
        rw [hx]
        simp only [DataW.weights, Try.underlying37, List.mem_cons]
        left
        rw [show Try.prog.bytesOf 9 = 16 by kernel_rfl]
        have e : (strs (H := H) (ss.take len)).length + (strs (H := H) (ss.drop len)).length = cap := by simp only [strs, List.length_map, List.length_take, List.length_drop]; omega
        rw [e])
      omega
    · intro t ht
      have := hw t.data.toList.length (by
        rw [hx]
        simp only [DataW.weights, Try.underlying37, List.mem_cons, List.mem_append]
        right; left
        exact mem_allW _ (.lit (.string t.data.toList)) (List.mem_map.2 ⟨t, ht, rfl⟩) _ (by simp [DataW.weights]))
      rw [Array.length_toList] at this
      exact this
theorem open_txt2 {fuel : Nat} {v : Value} {t : TypeId} {x : DataW H × List MemPlace} (ht : Try.prog.underlying t = some .string) (h : DataW.trod enc Try.prog w base (fun _ => true) held fuel t [v] = some x) (hw : ∀ m ∈ x.1.weights Try.prog t, m ≤ 140737488351232) : ∃ s : ByteArray, v = .string s ∧ s.size ≤ 140737488351232 := by
  obtain ⟨z, e, e2, hwz⟩ := DataW.trod_string ht h
  refine ⟨z, (List.cons.inj e).1, ?_⟩
  have := hw z.data.toList.length (by rw [e2]; simp [DataW.weights])
  rw [Array.length_toList] at this
  exact this
theorem open_list {M : Type} [Inhabited M] {Q : World → Nat → List Value → M → Prop} {t e size fuel : Nat} {cs : List Value} {x : DataW H × List MemPlace} (ht : Try.prog.underlying t = some (.slice e)) (ce : Try.prog.cellsOf e = size) (hs : 0 < size)
    (op : ∀ (fuel : Nat) (l : List Value) (y : DataW H × List MemPlace), DataW.trod enc Try.prog w base (fun _ => true) held fuel e l = some y → (∀ m ∈ y.1.weights Try.prog e, m ≤ 140737488351232) → l.length = size ∧ ∃ z : M, Q w w.heap.size l z)
    (h : DataW.trod enc Try.prog w base (fun _ => true) held fuel t cs = some x) (hw : ∀ m ∈ x.1.weights Try.prog t, m ≤ 140737488351232) :
    ∃ A len cap ms, cs = [.slice A len cap] ∧ len ≤ cap ∧ Lst Q w w.heap.size size A len ms ∧ cap * Try.prog.bytesOf e ≤ 140737488351232 := by
  rcases Go.Deep.open_slice ht h with ⟨rfl, _⟩ | ⟨a, len, cap, m, n, D, Pl, rfl, _, hl, hm, hmm, hxe, hx⟩
  · exact ⟨none, 0, 0, [], rfl, Nat.le_refl _, ⟨rfl, fun i x hx => by cases hx⟩, by omega⟩
  simp only [if_true] at hmm
  subst hmm
  rw [ce] at hx
  have each : ∀ r, r < len → ∃ y : List Value × M, (∀ j v, y.1[j]? = some v → w.cell? ((a.add (r * size)).add j) = some v) ∧ y.1.length = size ∧ Q w w.heap.size y.1 y.2 := fun r hr => by
    obtain ⟨cs', hcs, htr⟩ := hx r (by omega)
    have hcell := (World.cells?_some hcs).2.2
    obtain ⟨hlen, z, hz⟩ := op _ cs' _ htr fun k hk => hw k (by
      rw [hxe]
      simp only [DataW.weights, ht, List.mem_cons, List.mem_append]
      right; left
      refine mem_allW _ (D r) ?_ k hk
      exact List.mem_map.2 ⟨r, List.mem_range.2 hr, rfl⟩)
    refine ⟨⟨cs', z⟩, fun j v hv => ?_, hlen, hz⟩
    have hj : j < size := by have := (List.getElem?_eq_some_iff.1 hv).1; simp only at this; omega
    exact (hcell j hj).trans (by simp only at hv; rw [hv])
  obtain ⟨y, hy⟩ := Go.Deep.choose_lt each
  refine ⟨some a, len, m, (List.range len).map fun r => (y r).2, rfl, hl, ⟨by simp, fun i z hz => ?_⟩, ?_⟩
  · have hi : i < len := by have := (List.getElem?_eq_some_iff.1 hz).1; simpa using this
    have hzz : (y i).2 = z := by
      rw [List.getElem?_map, List.getElem?_range hi] at hz
      simpa using hz
    obtain ⟨hc, hlen, hq⟩ := hy i hi
    obtain ⟨hc0, hlen0, _⟩ := hy 0 (by omega)
    obtain ⟨g, off, spot⟩ := a
    obtain ⟨v0, hv0⟩ : ∃ v, (y 0).1[0]? = some v := ⟨_, List.getElem?_eq_getElem (by omega)⟩
    have hs : spot = none := by simpa [Addr.add] using World.cell?_spot (hc0 0 v0 hv0)
    subst hs
    obtain ⟨v1, hv1⟩ : ∃ v, (y i).1[0]? = some v := ⟨_, List.getElem?_eq_getElem (by omega)⟩
    have h0 := hc 0 v1 hv1
    simp only [Addr.add_mid] at hc h0
    exact ⟨g, off, (y i).1, rfl, by have := World.block_lt_of_cell? w _ h0; simpa using this, hc, hlen, hzz ▸ hq⟩
  · have := hw (m * Try.prog.bytesOf e) (by
      rw [hxe]
      simp only [DataW.weights, ht, List.mem_cons, List.length_map, List.length_range]
      left
      generalize Try.prog.bytesOf e = q
      exact congrArg (· * q) (Nat.add_sub_cancel' hl).symm)
    exact this
theorem open_rqA (fuel : Nat) (l : List Value) (y : DataW H × List MemPlace) (h : DataW.trod enc Try.prog w base (fun _ => true) held fuel 28 l = some y) (hw : ∀ m ∈ y.1.weights Try.prog 28, m ≤ 140737488351232) : l.length = 8 ∧ ∃ R, RqA w w.heap.size l R := by
  have hlen : l.length = 8 := by
    obtain ⟨xs, m, rfl, hxe, hlen, hl, hf⟩ := DataW.trod_struct Try.underlying28 h
    rwa [cells_rq] at hlen
  refine ⟨hlen, ?_⟩
  obtain ⟨xs, m, rfl, hxe, _, hl, hf⟩ := DataW.trod_struct Try.underlying28 h
  obtain ⟨k, tag, key, after, off, num, delim, A, n, c, bs, rfl, hr, hb, hn, wk, wt, wo, wn, wd, wy, wa⟩ := open_rq h hw
  have t1 := wfu wt
  obtain ⟨tn, rfl⟩ : ∃ tn : Nat, tag = (tn : Int) := ⟨tag.toNat, by omega⟩
  obtain ⟨y7, h7⟩ := get_some xs 8 7 hl (by omega)
  have g7 := fld hf 7 26 7 rfl rfl rfl
  rw [cells_bytes] at g7
  obtain ⟨A', n', c', bs', e', _, _, hnc, _⟩ := open_bytes2 (part_of g7 (cs2 := [.slice A n c]) rfl h7) (fun m hm => by
    refine hw m ?_
    rw [hxe]
    simp only [DataW.weights, Try.underlying28]
    exact DataW.weights_mem_each (j := 7) (t := 26) (d := y7.1) rfl (by rw [List.getElem?_map, h7]; rfl) m hm)
  injection e' with _ e1 e2
  obtain ⟨y2, h2⟩ := get_some xs 8 2 hl (by omega)
  obtain ⟨y3, h3⟩ := get_some xs 8 3 hl (by omega)
  have g2 := fld hf 2 9 2 rfl rfl rfl
  have g3 := fld hf 3 9 3 rfl rfl rfl
  rw [cells_str] at g2 g3
  have hwx : ∀ (j : Nat) (t : TypeId) (y : DataW H × List MemPlace), xs[j]? = some y → ([3, 25, 9, 9, 3, 3, 3, 26] : List TypeId)[j]? = some t → ∀ m ∈ y.1.weights Try.prog t, m ≤ 140737488351232 := fun j t y hj ht m hm => by
    refine hw m ?_
    rw [hxe]
    simp only [DataW.weights, Try.underlying28]
    exact DataW.weights_mem_each (j := j) (t := t) (d := y.1) ht (by rw [List.getElem?_map, hj]; rfl) m hm
  obtain ⟨s2, e2', wy2⟩ := open_txt2 Try.underlying9 (part_of g2 (cs2 := [.string key]) rfl h2) (hwx 2 _ y2 h2 rfl)
  obtain ⟨s3, e3', wa2⟩ := open_txt2 Try.underlying9 (part_of g3 (cs2 := [.string after]) rfl h3) (hwx 3 _ y3 h3 rfl)
  injection e2' with e2'
  injection e3' with e3'
  subst e2' e3'
  exact ⟨⟨k, tn, key, after, off, num, delim, bs⟩, A, n, c, rfl, hr, by omega, ⟨by simp only; omega, (wfj wo).1, (wfj wo).2, (wfj wn).1, (wfj wn).2, (wfj wd).1, (wfj wd).2, hb⟩, wfj wk, wy2, wa2, hn⟩
set_option maxRecDepth 8000 in
theorem open_anA (fuel : Nat) (l : List Value) (y : DataW H × List MemPlace) (h : DataW.trod enc Try.prog w base (fun _ => true) held fuel 43 l = some y) (hw : ∀ m ∈ y.1.weights Try.prog 43, m ≤ 140737488351232) : l.length = 15 ∧ ∃ a, AnA w w.heap.size l a := by
  obtain ⟨xs, m, rfl, hxe, hlen, hl, hf⟩ := DataW.trod_struct Try.underlying43 h
  rw [cells_an] at hlen
  refine ⟨hlen, ?_⟩
  obtain ⟨v0, v1, v2, v3, v4, v5, v6, v7, v8, v9, v10, v11, v12, v13, v14, rfl⟩ : ∃ v0 v1 v2 v3 v4 v5 v6 v7 v8 v9 v10 v11 v12 v13 v14, l = [v0, v1, v2, v3, v4, v5, v6, v7, v8, v9, v10, v11, v12, v13, v14] := by
    match l, hlen with
    | [a, b, c, d, e, f, g, h, i, j, k, l, m, n, o], _ => exact ⟨a, b, c, d, e, f, g, h, i, j, k, l, m, n, o, rfl⟩
  obtain ⟨y0, h0⟩ := get_some xs 11 0 hl (by omega)
  obtain ⟨y1, h1⟩ := get_some xs 11 1 hl (by omega)
  obtain ⟨y2, h2⟩ := get_some xs 11 2 hl (by omega)
  obtain ⟨y3, h3⟩ := get_some xs 11 3 hl (by omega)
  obtain ⟨y4, h4⟩ := get_some xs 11 4 hl (by omega)
  obtain ⟨y5, h5⟩ := get_some xs 11 5 hl (by omega)
  obtain ⟨y6, h6⟩ := get_some xs 11 6 hl (by omega)
  obtain ⟨y7, h7⟩ := get_some xs 11 7 hl (by omega)
  obtain ⟨y8, h8⟩ := get_some xs 11 8 hl (by omega)
  obtain ⟨y9, h9⟩ := get_some xs 11 9 hl (by omega)
  obtain ⟨y10, h10⟩ := get_some xs 11 10 hl (by omega)
  have g0 := fld hf 0 3 0 rfl rfl rfl
  have g1 := fld hf 1 25 1 rfl rfl rfl
  have g2 := fld hf 2 32 2 rfl rfl rfl
  have g3 := fld hf 3 26 3 rfl rfl rfl
  have g4 := fld hf 4 37 4 rfl rfl rfl
  have g5 := fld hf 5 37 5 rfl rfl rfl
  have g6 := fld hf 6 9 6 rfl rfl rfl
  have g7 := fld hf 7 4 7 rfl rfl rfl
  have g8 := fld hf 8 39 8 rfl rfl rfl
  have g9 := fld hf 9 3 10 rfl rfl rfl
  have g10 := fld hf 10 41 11 rfl rfl rfl
  rw [cells_int] at g0 g9
  rw [cells_u64] at g1
  rw [cells_err] at g2
  rw [cells_bytes] at g3
  rw [cells_texts] at g4 g5
  rw [cells_str] at g6
  rw [cells_bool] at g7
  rw [cells_gen] at g8
  rw [cells_healed] at g10
  have hwx : ∀ (j : Nat) (t : TypeId) (y : DataW H × List MemPlace), xs[j]? = some y → ([3, 25, 32, 26, 37, 37, 9, 4, 39, 3, 41] : List TypeId)[j]? = some t → ∀ m ∈ y.1.weights Try.prog t, m ≤ 140737488351232 := fun j t y hj ht m hm => by
    refine hw m ?_
    rw [hxe]
    simp only [DataW.weights, Try.underlying43]
    exact DataW.weights_mem_each (j := j) (t := t) (d := y.1) ht (by rw [List.getElem?_map, hj]; rfl) m hm
  obtain ⟨k, rfl, wk⟩ := open_num Try.underlying3 (part_of g0 (cs2 := [v0]) rfl h0)
  obtain ⟨tag, rfl, wt⟩ := open_num Try.underlying25 (part_of g1 (cs2 := [v1]) rfl h1)
  obtain ⟨code, rfl, wc⟩ := open_num Try.underlying32 (part_of g2 (cs2 := [v2]) rfl h2)
  obtain ⟨A, n, c, bs, rfl, hr, hb, hnc, hn⟩ := open_bytes2 (part_of g3 (cs2 := [v3]) rfl h3) (hwx 3 _ y3 h3 rfl)
  obtain ⟨A2, n2, c2, ks, rfl, hr2, hnc2, hn2, hs2⟩ := open_txts (part_of g4 (cs2 := [v4]) rfl h4) (hwx 4 _ y4 h4 rfl)
  obtain ⟨A3, n3, c3, gs, rfl, hr3, hnc3, hn3, hs3⟩ := open_txts (part_of g5 (cs2 := [v5]) rfl h5) (hwx 5 _ y5 h5 rfl)
  obtain ⟨nx, rfl, wx⟩ := open_txt2 Try.underlying9 (part_of g6 (cs2 := [v6]) rfl h6) (hwx 6 _ y6 h6 rfl)
  obtain ⟨mo, rfl⟩ := open_flag Try.underlying4 (part_of g7 (cs2 := [v7]) rfl h7)
  obtain ⟨sz, rfl, ws⟩ := open_num Try.underlying3 (part_of g9 (cs2 := [v10]) rfl h9)
  have g8' := part_of g8 (cs2 := [v8, v9]) rfl h8
  obtain ⟨zs, m', _, _, _, hl', hf'⟩ := DataW.trod_struct Try.underlying39 g8'
  obtain ⟨z0, hz0⟩ := get_some zs 2 0 hl' (by omega)
  obtain ⟨z1, hz1⟩ := get_some zs 2 1 hl' (by omega)
  have q0 := fld hf' 0 3 0 rfl rfl rfl
  have q1 := fld hf' 1 3 1 rfl rfl rfl
  rw [cells_int] at q0 q1
  obtain ⟨ge, rfl, wge⟩ := open_num Try.underlying3 (part_of q0 (cs2 := [v8]) rfl hz0)
  obtain ⟨gc, rfl, wgc⟩ := open_num Try.underlying3 (part_of q1 (cs2 := [v9]) rfl hz1)
  have g10' := part_of g10 (cs2 := [v11, v12, v13, v14]) rfl h10
  obtain ⟨us, m3, _, _, _, hl3, hf3⟩ := DataW.trod_struct Try.underlying41 g10'
  obtain ⟨u0, hu0⟩ := get_some us 4 0 hl3 (by omega)
  obtain ⟨u1, hu1⟩ := get_some us 4 1 hl3 (by omega)
  obtain ⟨u2, hu2⟩ := get_some us 4 2 hl3 (by omega)
  obtain ⟨u3, hu3⟩ := get_some us 4 3 hl3 (by omega)
  have p0 := fld hf3 0 3 0 rfl rfl rfl
  have p1 := fld hf3 1 3 1 rfl rfl rfl
  have p2 := fld hf3 2 3 2 rfl rfl rfl
  have p3 := fld hf3 3 3 3 rfl rfl rfl
  rw [cells_int] at p0 p1 p2 p3
  obtain ⟨h1', rfl, w1⟩ := open_num Try.underlying3 (part_of p0 (cs2 := [v11]) rfl hu0)
  obtain ⟨h2', rfl, w2⟩ := open_num Try.underlying3 (part_of p1 (cs2 := [v12]) rfl hu1)
  obtain ⟨h3', rfl, w3⟩ := open_num Try.underlying3 (part_of p2 (cs2 := [v13]) rfl hu2)
  obtain ⟨h4', rfl, w4⟩ := open_num Try.underlying3 (part_of p3 (cs2 := [v14]) rfl hu3)
  have t1 := wfu wt
  obtain ⟨tn, rfl⟩ : ∃ tn : Nat, tag = (tn : Int) := ⟨tag.toNat, by omega⟩
  refine ⟨⟨k, tn, code, bs, ks, gs, nx, mo, ge, gc, sz, h1', h2', h3', h4'⟩, A, n, c, A2, n2, c2, A3, n3, c3, rfl, hr, hr2, hr3, hnc, hn, hnc2, hn2, hnc3, hn3, ⟨by simp only; omega, hb, ?_⟩, wfj wk, wfj wc, wx, hs2, hs3⟩
  rintro v (rfl | rfl | rfl | rfl | rfl | rfl | rfl)
  · exact wfj wge
  · exact wfj wgc
  · exact wfj ws
  · exact wfj w1
  · exact wfj w2
  · exact wfj w3
  · exact wfj w4
end
end Go.Proofs.Ytbcmjjcbjojakaa
