/- An argument that is a slice of steps, of bulk at most 1048576: what the walk is told of it. -/
import Derived.Test.YtofblciodgibdaaArgRows
import Derived.Test.YtofblciodgibdaaStreamsB
import Derived.Lib.SmallJoins
import Derived.Deep.Slices
namespace Go.Proofs.Ytofblciodgibdaa
open Go.ChangeShapes Go.WideShapes Go.ChangeAt Go.RowKit
set_option linter.unusedVariables false
theorem bulk_tot {H : Type} (f : Nat → DataW H) (Y : Nat → List Nat) : ∀ n, (∀ r, r < n → (Y r).length ≤ Rows.uptoBulk (f r)) → tot Y n ≤ Rows.uptoBulkAll ((List.range n).map f)
  | 0, _ => Nat.zero_le _
  | n + 1, h => by
    have h1 := bulk_tot f Y n fun r hr => h r (by omega)
    have h2 := h n (by omega)
    have happ : ∀ (a b : List (DataW H)), Rows.uptoBulkAll (a ++ b) = Rows.uptoBulkAll a + Rows.uptoBulkAll b := fun a b => by
      induction a with
      | nil => simp [Rows.uptoBulkAll]
      | cons x a ih => simp only [List.cons_append, Rows.uptoBulkAll, ih]; omega
    rw [List.range_succ, List.map_append, happ]
    simp only [List.map_cons, List.map_nil, Rows.uptoBulkAll, tot]
    omega
theorem addr_add (g off i : Nat) : (⟨g, off, none⟩ : Addr).add i = ⟨g, off + i, none⟩ := by unfold Addr.add; split <;> simp_all
theorem open_steps_upto {H : Type} {enc : TypeId × Value → H} {P : Program} {w : World} {base : Nat} {held : Bool} {t e q : TypeId} {f0 f1 f2 f3 : Field} {fuel i : Nat} {cs : List Value} {x : DataW H × List MemPlace} {ds : List (DataW H)} (ht : P.underlying t = some (.slice e)) (he : P.underlying e = some (.struct #[f0, f1, f2, f3])) (ce : P.cellsOf e = 4)
    (h0 : P.underlying f0.type = some (.int .i64)) (o0 : f0.offset = 0) (c0 : P.cellsOf f0.type = 1) (h1 : P.underlying f1.type = some (.int .i64)) (o1 : f1.offset = 1) (c1 : P.cellsOf f1.type = 1) (h2 : P.underlying f2.type = some (.int .i64)) (o2 : f2.offset = 2) (c2 : P.cellsOf f2.type = 1)
    (h3 : P.underlying f3.type = some (.slice q)) (o3 : f3.offset = 3) (c3 : P.cellsOf f3.type = 1) (hq : P.underlying q = some (.int .u8)) (cq : P.cellsOf q = 1)
    (h : DataW.trod enc P w base (fun _ => true) held fuel t cs = some x) (hds : ds[i]? = some x.1) (hk : Rows.uptoSmall H ds = true) :
    ∃ (A : Option Addr) (len cap : Nat) (K T U : Nat → Int) (Y : Nat → List Nat), cs = [.slice A len cap] ∧ Steps w A len K T U Y ∧ len ≤ cap ∧ tot Y len ≤ 1048576 ∧ len ≤ 1048576 := by
  have hb : Rows.uptoBulkAll ds ≤ 1048576 := of_decide_eq_true hk
  have hpart := bulk_part hds
  rcases Go.Deep.open_slice ht h with ⟨rfl, _⟩ | ⟨a, len, cap, m, n, D, Pl, rfl, _, hl, hm, hmm, rfl, hx⟩
  · exact ⟨none, 0, 0, fun _ => 0, fun _ => 0, fun _ => 0, fun _ => [], rfl, fun r hr => absurd hr (by omega), Nat.le_refl _, by simp [tot], by omega⟩
  simp only [if_true] at hmm
  subst hmm
  have each : ∀ r, r < m → ∃ y : Int × Int × Int × List Nat, (∃ Ar Cr, w.cell? ((a.add (r * 4)).add 0) = some (.int .i64 y.1) ∧ w.cell? ((a.add (r * 4)).add 1) = some (.int .i64 y.2.1) ∧ w.cell? ((a.add (r * 4)).add 2) = some (.int .i64 y.2.2.1) ∧
      w.cell? ((a.add (r * 4)).add 3) = some (.slice Ar y.2.2.2.length Cr) ∧ Rd w w.heap.size Ar y.2.2.2.length (cb y.2.2.2)) ∧ (∀ z ∈ y.2.2.2, z < 256) ∧ (Lit.int .i64 y.2.1).wf = true ∧ (Lit.int .i64 y.2.2.1).wf = true ∧ y.2.2.2.length ≤ Rows.uptoBulk (D r) := by
    intro r hr
    obtain ⟨cs', hcs, htr⟩ := hx r hr
    rw [ce] at hcs
    obtain ⟨y0, y1, y2, y3, n', hD, hlen, g0, g1, g2, g3⟩ := Joins.trod_struct4 he htr
    rw [ce] at hlen
    have hcell := (World.cells?_some hcs).2.2
    obtain ⟨v0, v1, v2, v3, rfl⟩ := list4 hlen
    rw [o0, c0] at g0
    rw [o1, c1] at g1
    rw [o2, c2] at g2
    rw [o3, c3] at g3
    obtain ⟨k0, e0, q0, w0⟩ := DataW.trod_int h0 (show DataW.trod enc P w base (fun _ => true) held n' f0.type [v0] = some y0 from g0)
    obtain ⟨k1, e1, q1, w1⟩ := DataW.trod_int h1 (show DataW.trod enc P w base (fun _ => true) held n' f1.type [v1] = some y1 from g1)
    obtain ⟨k2, e2, q2, w2⟩ := DataW.trod_int h2 (show DataW.trod enc P w base (fun _ => true) held n' f2.type [v2] = some y2 from g2)
    obtain rfl := (List.cons.inj e0).1
    obtain rfl := (List.cons.inj e1).1
    obtain rfl := (List.cons.inj e2).1
    have hD1 : D r = .agg [y0.1, y1.1, y2.1, y3.1] := (Prod.mk.inj hD).1
    have hbk : Rows.uptoBulk y3.1 ≤ Rows.uptoBulk (D r) := by rw [hD1]; simp only [Rows.uptoBulk, Rows.uptoBulkAll]; omega
    have z0 := hcell 0 (by omega)
    have z1 := hcell 1 (by omega)
    have z2 := hcell 2 (by omega)
    have z3 := hcell 3 (by omega)
    rcases open_ints h3 hq cq (show DataW.trod enc P w base (fun _ => true) held n' f3.type [v3] = some y3 from g3) with ⟨hcs3, hy3⟩ | ⟨a', len', cap', zs, hcs3, hb', hl', hm', hz, hy3, hcell3, hwz⟩
    · obtain rfl := (List.cons.inj hcs3).1
      exact ⟨(k0, k1, k2, []), ⟨none, 0, z0, z1, z2, z3, Rd.nil⟩, by simp, w1, w2, by simp⟩
    · obtain rfl := (List.cons.inj hcs3).1
      simp only [if_true] at hz
      have hrow : IsRow .u8 w (some a') len' cap' zs := .inr ⟨a', rfl, hl', hm', hz, fun c hc => hcell3 c (by omega), hwz⟩
      obtain ⟨l, hr1, hr2, hr3, hr4⟩ := hrow.bytes
      have hlt : (l.take len').length = len' := by rw [List.length_take]; omega
      refine ⟨(k0, k1, k2, l.take len'), ⟨some a', cap', z0, z1, z2, by rw [hlt]; exact z3, ?_⟩, fun z hz => hr2 z (List.mem_of_mem_take hz), w1, w2, ?_⟩
      · have := hr1.take hr4
        rw [cb, ← List.map_take] at this
        show Rd w w.heap.size (some a') (l.take len').length (cb (l.take len'))
        rw [hlt]; exact this
      · refine Nat.le_trans ?_ hbk
        have hy : y3.1 = .slice (lits .u8 (zs.take len')) (lits .u8 (zs.drop len')) := by rw [hy3]
        rw [hy]
        simp only [Rows.uptoBulk]
        have h5 := bulk_len (lits (H := H) .u8 (zs.take len'))
        rw [show (lits (H := H) .u8 (zs.take len')).length = len' by simp only [lits, List.length_map, List.length_take]; omega] at h5
        show (l.take len').length ≤ _
        omega
  obtain ⟨y, hy⟩ := Go.Deep.choose_lt each
  have wf64 : ∀ z : Int, (Lit.int .i64 z).wf = true → -9223372036854775808 ≤ z ∧ z ≤ 9223372036854775807 := fun z hz => by simpa [Lit.wf, IntKind.min, IntKind.max, IntKind.signed, IntKind.bits] using hz
  refine ⟨some a, len, m, fun r => (y r).1, fun r => (y r).2.1, fun r => (y r).2.2.1, fun r => (y r).2.2.2, rfl, fun r hr => ?_, hl, ?_, ?_⟩
  · obtain ⟨⟨Ar, Cr, z0, z1, z2, z3, zr⟩, zb, zw1, zw2, _⟩ := hy r (by omega)
    obtain ⟨g, off, spot⟩ := a
    have hs : spot = none := by
      obtain ⟨⟨_, _, z00, _⟩, _⟩ := hy 0 (by omega)
      simpa [Addr.add] using World.cell?_spot z00
    subst hs
    simp only [addr_add] at z0 z1 z2 z3
    exact ⟨g, off, Ar, Cr, rfl, by have := World.block_lt_of_cell? w _ z0; simpa using this, z0, z1, z2, z3, zr, zb, (wf64 _ zw1).1, (wf64 _ zw1).2, (wf64 _ zw2).1, (wf64 _ zw2).2⟩
  · have h6 := bulk_tot D (fun r => (y r).2.2.2) len fun r hr => (hy r (by omega)).2.2.2.2
    simp only [Rows.uptoBulk] at hpart
    omega
  · have h7 := bulk_len ((List.range len).map D)
    simp only [List.length_map, List.length_range] at h7
    simp only [Rows.uptoBulk] at hpart
    omega
end Go.Proofs.Ytofblciodgibdaa
