/- An argument of the laws' type Puts, of bulk at most 1048576: what the walk is told of it. -/
import Derived.Test.YtjkenhkoakaaoaaArgRows
import Derived.Test.YtjkenhkoakaaoaaCPuts
import Derived.SliceStrings
import Derived.Lib.SmallJoins
namespace Go.Proofs.Ytjkenhkoakaaoaa
open Go.ChangeShapes Go.WideShapes Go.ChangeAt Go.RowKit
set_option linter.unusedVariables false
section
variable {H : Type} {enc : TypeId × Value → H} {P : Program} {w : World} {base : Nat} {held : Bool}
/-- A field that is a slice of bytes. -/
theorem field_bytes {t e : TypeId} {fuel : Nat} {v : Value} {x : DataW H × List MemPlace} (ht : P.underlying t = some (.slice e)) (he : P.underlying e = some (.int .u8)) (ce : P.cellsOf e = 1) (h : DataW.trod enc P w base (fun _ => true) held fuel t [v] = some x) :
    ∃ A n c, v = .slice A n c ∧ ∃ l : List Nat, Rd w w.heap.size A n (cb l) ∧ (∀ y ∈ l, y < 256) ∧ n ≤ Rows.uptoBulk x.1 := by
  rcases open_ints ht he ce h with ⟨hcs, hy⟩ | ⟨a', len', cap', zs, hcs, hb', hl', hm', hz, hy, hcell, hwz⟩
  · obtain rfl := (List.cons.inj hcs).1
    exact ⟨none, 0, 0, rfl, [], Rd.nil, by simp, Nat.zero_le _⟩
  · obtain rfl := (List.cons.inj hcs).1
    simp only [if_true] at hz
    have hrow : IsRow .u8 w (some a') len' cap' zs := .inr ⟨a', rfl, hl', hm', hz, fun c hc => hcell c (by omega), hwz⟩
    obtain ⟨l, hr1, hr2, hr3, hr4⟩ := hrow.bytes
    refine ⟨some a', len', cap', rfl, l.take len', ?_, fun y hy => hr2 y (List.mem_of_mem_take hy), ?_⟩
    · have := hr1.take hr4
      rw [cb, ← List.map_take] at this
      exact this
    · have hx : x.1 = .slice (lits .u8 (zs.take len')) (lits .u8 (zs.drop len')) := by rw [hy]
      rw [hx]
      simp only [Rows.uptoBulk]
      have h5 := bulk_len (lits (H := H) .u8 (zs.take len'))
      rw [show (lits (H := H) .u8 (zs.take len')).length = len' by simp only [lits, List.length_map, List.length_take]; omega] at h5
      omega
theorem bulk_strs (ss : List ByteArray) : Rows.uptoBulkAll (strs (H := H) ss) = ssum ss + ss.length := by
  induction ss with
  | nil => rfl
  | cons a ss ih =>
    have e2 : ssum (a :: ss) = a.size + ssum ss := by unfold ssum; rw [List.map_cons, List.sum_cons]
    have e : strs (H := H) (a :: ss) = .lit (.string a.data.toList) :: strs ss := rfl
    rw [e, e2]
    simp only [Rows.uptoBulkAll, Rows.uptoBulk, ih, List.length_cons]
    have : a.data.toList.length = a.size := by rw [Array.length_toList]; rfl
    omega
/-- A field that is a slice of strings. -/
theorem field_texts {t e : TypeId} {fuel : Nat} {v : Value} {x : DataW H × List MemPlace} (ht : P.underlying t = some (.slice e)) (he : P.underlying e = some .string) (ce : P.cellsOf e = 1) (h : DataW.trod enc P w base (fun _ => true) held fuel t [v] = some x) :
    ∃ A n c, v = .slice A n c ∧ ∃ l : List ByteArray, Rd w w.heap.size A n (cs l) ∧ n ≤ Rows.uptoBulk x.1 ∧ ssum l ≤ Rows.uptoBulk x.1 := by
  rcases open_strings ht he ce h with ⟨hcs, hy⟩ | ⟨a, len, cap, ss, hcs, _, hl, hm, hz, hy, hcell, hsz⟩
  · obtain rfl := (List.cons.inj hcs).1
    exact ⟨none, 0, 0, rfl, [], Rd.nil, Nat.zero_le _, Nat.zero_le _⟩
  · obtain rfl := (List.cons.inj hcs).1
    simp only [if_true] at hz
    have hx : x.1 = .slice (strs (ss.take len)) (strs (ss.drop len)) := by rw [hy]
    have hlen : (ss.take len).length = len := by rw [List.length_take]; omega
    refine ⟨some a, len, cap, rfl, ss.take len, ⟨by rw [cs_len, hlen], fun hp => ?_⟩, ?_, ?_⟩
    · obtain ⟨g, off, spot⟩ := a
      have h0 := hcell 0 (by omega)
      have hs : spot = none := by simpa [Addr.add] using World.cell?_spot h0
      subst hs
      refine ⟨g, off, rfl, ?_, fun i hi => ?_⟩
      · have := World.block_lt_of_cell? w _ h0; simpa [Addr.add] using this
      · have h1 := hcell i (by omega)
        have e : (⟨g, off, none⟩ : Addr).add i = ⟨g, off + i, none⟩ := by unfold Addr.add; split <;> simp_all
        rw [e] at h1
        rw [h1, cs_get _ _ (by omega), List.getD_eq_getElem?_getD, List.getD_eq_getElem?_getD, List.getElem?_take, if_pos hi]
    · rw [hx]; simp only [Rows.uptoBulk, bulk_strs]; omega
    · rw [hx]; simp only [Rows.uptoBulk, bulk_strs]; omega
/-- Puts. -/
theorem open_puts {t e s : TypeId} {f0 f1 f2 f3 f4 : Field} {r : Reach} {b0 i : Nat} {v : Value} {d : DataW H} {p : List MemPlace} {ds : List (DataW H)} (hs : P.underlying t = some (.struct #[f0, f1, f2, f3, f4])) (hC : P.cellsOf t = 5)
    (t0 : P.underlying f0.type = some (.slice e)) (o0 : f0.offset = 0) (c0 : P.cellsOf f0.type = 1) (t1 : P.underlying f1.type = some (.int .u64)) (o1 : f1.offset = 1) (c1 : P.cellsOf f1.type = 1)
    (t2 : P.underlying f2.type = some (.int .i64)) (o2 : f2.offset = 2) (c2 : P.cellsOf f2.type = 1) (t3 : P.underlying f3.type = some (.slice e)) (o3 : f3.offset = 3) (c3 : P.cellsOf f3.type = 1)
    (t4 : P.underlying f4.type = some (.slice s)) (o4 : f4.offset = 4) (c4 : P.cellsOf f4.type = 1) (he : P.underlying e = some (.int .u8)) (ce : P.cellsOf e = 1) (hstr : P.underlying s = some .string) (cstr : P.cellsOf s = 1)
    (hv : Value.okWide P w r b0 t v) (h : DataW.Trod enc P w base (fun _ => true) held t v d p) (hds : ds[i]? = some d) (hk : Rows.uptoSmall H ds = true) :
    ∃ Ab nb cb2 V S Ap np cp At k ct, v = .agg #[.slice Ab nb cb2, .int .u64 V, .int .i64 S, .slice Ap np cp, .slice At k ct] ∧ ∃ (bs ps : List Nat) (ts : List ByteArray), Rd w w.heap.size Ab nb (cb bs) ∧ Rd w w.heap.size Ap np (cb ps) ∧ Rd w w.heap.size At k (cs ts) ∧ (∀ x ∈ bs, x < 256) ∧ (∀ x ∈ ps, x < 256) ∧
      (Lit.int .u64 V).wf = true ∧ (Lit.int .i64 S).wf = true ∧ nb ≤ 1048576 ∧ np ≤ 1048576 ∧ k ≤ 1048576 ∧ ssum ts ≤ 1048576 := by
  have hb : Rows.uptoBulkAll ds ≤ 1048576 := of_decide_eq_true hk
  have hpart := bulk_part hds
  obtain ⟨xs, rfl, hsz⟩ := okWide_struct hs hv
  rw [hC] at hsz
  obtain ⟨fuel, hf⟩ := h
  obtain ⟨ys, n, _, hx, hl, hlen, hfs⟩ := DataW.trod_struct hs hf
  obtain ⟨v0, v1, v2, v3, v4, hxs⟩ : ∃ v0 v1 v2 v3 v4, xs.toList = [v0, v1, v2, v3, v4] := by
    have : xs.toList.length = 5 := by rw [Array.length_toList]; exact hsz
    match xs.toList, this with
    | [a, b, c, d, e], _ => exact ⟨a, b, c, d, e, rfl⟩
  obtain ⟨y0, y1, y2, y3, y4, rfl⟩ : ∃ y0 y1 y2 y3 y4, ys = [y0, y1, y2, y3, y4] := by
    match ys, hlen with
    | [a, b, c, d, e], _ => exact ⟨a, b, c, d, e, rfl⟩
  have hcells : (Value.agg xs).cells.toList = [v0, v1, v2, v3, v4] := hxs
  rw [hcells] at hfs
  have g0 := hfs 0 f0 rfl
  have g1 := hfs 1 f1 rfl
  have g2 := hfs 2 f2 rfl
  have g3 := hfs 3 f3 rfl
  have g4 := hfs 4 f4 rfl
  rw [o0, c0] at g0
  rw [o1, c1] at g1
  rw [o2, c2] at g2
  rw [o3, c3] at g3
  rw [o4, c4] at g4
  obtain ⟨Ab, nb, cb2, rfl, bs, rb, lb, kb⟩ := field_bytes t0 he ce (show DataW.trod enc P w base (fun _ => true) held n f0.type [v0] = some y0 from g0)
  obtain ⟨V, e1, _, w1⟩ := DataW.trod_int t1 (show DataW.trod enc P w base (fun _ => true) held n f1.type [v1] = some y1 from g1)
  obtain ⟨S, e2, _, w2⟩ := DataW.trod_int t2 (show DataW.trod enc P w base (fun _ => true) held n f2.type [v2] = some y2 from g2)
  obtain ⟨Ap, np, cp, rfl, ps, rp, lp, kp⟩ := field_bytes t3 he ce (show DataW.trod enc P w base (fun _ => true) held n f3.type [v3] = some y3 from g3)
  obtain ⟨At, k, ct, rfl, ts, rt, kt, ks⟩ := field_texts t4 hstr cstr (show DataW.trod enc P w base (fun _ => true) held n f4.type [v4] = some y4 from g4)
  obtain rfl := (List.cons.inj e1).1
  obtain rfl := (List.cons.inj e2).1
  have hd : d = .agg [y0.1, y1.1, y2.1, y3.1, y4.1] := (Prod.mk.inj hx).1
  rw [hd] at hpart
  simp only [Rows.uptoBulk, Rows.uptoBulkAll] at hpart
  refine ⟨Ab, nb, cb2, V, S, Ap, np, cp, At, k, ct, ?_, bs, ps, ts, rb, rp, rt, lb, lp, w1, w2, by omega, by omega, by omega, by omega⟩
  congr 1
  exact Array.ext' hxs
end
end Go.Proofs.Ytjkenhkoakaaoaa
