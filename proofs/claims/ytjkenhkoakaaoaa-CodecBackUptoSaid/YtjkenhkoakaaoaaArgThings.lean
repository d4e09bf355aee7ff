/- An argument that is a slice of the laws' type Thing, of bulk at most 1048576: what the walk is told of it. -/
import Derived.Test.YtjkenhkoakaaoaaArgPuts
import Derived.Test.YtjkenhkoakaaoaaArgFlat
import Derived.Deep.Slices
namespace Go.Proofs.Ytjkenhkoakaaoaa
open Go.ChangeShapes Go.WideShapes Go.ChangeAt Go.RowKit
set_option linter.unusedVariables false
structure Thg where
  kind : Int
  U : Int
  S : Int
  B : List Nat
  X : List ByteArray
instance : Inhabited Thg := ⟨⟨0, 0, 0, [], []⟩⟩
/-- A slice of things that lies below block Q. -/
def Things (w : World) (Q : Nat) (A : Option Addr) (n : Nat) (T : Nat → Thg) : Prop :=
  ∀ r, r < n → ∃ g off AB cB AT cT, A = some ⟨g, off, none⟩ ∧ g < Q ∧ w.cell? ⟨g, off + r * 5, none⟩ = some (.int .i64 (T r).kind) ∧ w.cell? ⟨g, off + r * 5 + 1, none⟩ = some (.int .u64 (T r).U) ∧
    w.cell? ⟨g, off + r * 5 + 2, none⟩ = some (.int .i64 (T r).S) ∧ w.cell? ⟨g, off + r * 5 + 3, none⟩ = some (.slice AB (T r).B.length cB) ∧ w.cell? ⟨g, off + r * 5 + 4, none⟩ = some (.slice AT (T r).X.length cT) ∧
    Rd w Q AB (T r).B.length (cb (T r).B) ∧ Rd w Q AT (T r).X.length (cs (T r).X) ∧ (∀ x ∈ (T r).B, x < 256) ∧ I64 (T r).kind ∧ 0 ≤ (T r).U ∧ (T r).U ≤ 18446744073709551615 ∧ -9223372036854775808 ≤ (T r).S ∧ (T r).S ≤ 9223372036854775807
theorem Things.below {w w' : World} {Q : Nat} {A : Option Addr} {n : Nat} {T : Nat → Thg} (h : Things w Q A n T) (b : Below Q w w') : Things w' Q A n T := fun r hr => by
  obtain ⟨g, off, AB, cB, AT, cT, e, hg, c0, c1, c2, c3, c4, r1, r2, h⟩ := h r hr
  exact ⟨g, off, AB, cB, AT, cT, e, hg, (b.cell (p := ⟨g, _, none⟩) hg).trans c0, (b.cell (p := ⟨g, _, none⟩) hg).trans c1, (b.cell (p := ⟨g, _, none⟩) hg).trans c2, (b.cell (p := ⟨g, _, none⟩) hg).trans c3, (b.cell (p := ⟨g, _, none⟩) hg).trans c4, r1.below b, r2.below b, h⟩
/-- How much all of them hold. -/
def szs (T : Nat → Thg) : Nat → Nat
  | 0 => 0
  | n + 1 => szs T n + ((T n).B.length + (T n).X.length + ssum (T n).X)
theorem szs_le (T : Nat → Thg) : ∀ (n r : Nat), r < n → (T r).B.length + (T r).X.length + ssum (T r).X ≤ szs T n
  | 0, r, h => absurd h (by omega)
  | n + 1, r, h => by
    rcases Nat.lt_or_ge r n with h1 | h1
    · have := szs_le T n r h1; simp only [szs]; omega
    · have : r = n := by omega
      subst this; simp only [szs]; omega
theorem bulk_szs {H : Type} (f : Nat → DataW H) (T : Nat → Thg) : ∀ n, (∀ r, r < n → (T r).B.length + (T r).X.length + ssum (T r).X ≤ 3 * Rows.uptoBulk (f r)) → szs T n ≤ 3 * Rows.uptoBulkAll ((List.range n).map f)
  | 0, _ => Nat.zero_le _
  | n + 1, h => by
    have h1 := bulk_szs f T n fun r hr => h r (by omega)
    have h2 := h n (by omega)
    have happ : ∀ (a b : List (DataW H)), Rows.uptoBulkAll (a ++ b) = Rows.uptoBulkAll a + Rows.uptoBulkAll b := fun a b => by
      induction a with
      | nil => simp [Rows.uptoBulkAll]
      | cons x a ih => simp only [List.cons_append, Rows.uptoBulkAll, ih]; omega
    rw [List.range_succ, List.map_append, happ]
    simp only [List.map_cons, List.map_nil, Rows.uptoBulkAll, szs]
    omega
theorem open_things_upto {H : Type} {enc : TypeId × Value → H} {P : Program} {w : World} {base : Nat} {held : Bool} {t e q s : TypeId} {f0 f1 f2 f3 f4 : Field} {fuel i : Nat} {cs' : List Value} {x : DataW H × List MemPlace} {ds : List (DataW H)} (ht : P.underlying t = some (.slice e)) (he : P.underlying e = some (.struct #[f0, f1, f2, f3, f4])) (ce : P.cellsOf e = 5)
    (h0 : P.underlying f0.type = some (.int .i64)) (o0 : f0.offset = 0) (c0 : P.cellsOf f0.type = 1) (h1 : P.underlying f1.type = some (.int .u64)) (o1 : f1.offset = 1) (c1 : P.cellsOf f1.type = 1) (h2 : P.underlying f2.type = some (.int .i64)) (o2 : f2.offset = 2) (c2 : P.cellsOf f2.type = 1)
    (h3 : P.underlying f3.type = some (.slice q)) (o3 : f3.offset = 3) (c3 : P.cellsOf f3.type = 1) (h4 : P.underlying f4.type = some (.slice s)) (o4 : f4.offset = 4) (c4 : P.cellsOf f4.type = 1) (hq : P.underlying q = some (.int .u8)) (cq : P.cellsOf q = 1) (hstr : P.underlying s = some .string) (cstr : P.cellsOf s = 1)
    (h : DataW.trod enc P w base (fun _ => true) held fuel t cs' = some x) (hds : ds[i]? = some x.1) (hk : Rows.uptoSmall H ds = true) :
    ∃ (A : Option Addr) (len cap : Nat) (T : Nat → Thg), cs' = [.slice A len cap] ∧ Things w w.heap.size A len T ∧ len ≤ cap ∧ len ≤ 1048576 ∧ szs T len ≤ 3145728 := by
  have hb : Rows.uptoBulkAll ds ≤ 1048576 := of_decide_eq_true hk
  have hpart := bulk_part hds
  rcases Go.Deep.open_slice ht h with ⟨rfl, _⟩ | ⟨a, len, cap, m, n, D, Pl, rfl, _, hl, hm, hmm, rfl, hx⟩
  · exact ⟨none, 0, 0, fun _ => ⟨0, 0, 0, [], []⟩, rfl, fun r hr => absurd hr (by omega), Nat.le_refl _, by omega, by simp [szs]⟩
  simp only [if_true] at hmm
  subst hmm
  have each : ∀ r, r < m → ∃ y : Thg, (∃ AB cB AT cT, w.cell? ((a.add (r * 5)).add 0) = some (.int .i64 y.kind) ∧ w.cell? ((a.add (r * 5)).add 1) = some (.int .u64 y.U) ∧ w.cell? ((a.add (r * 5)).add 2) = some (.int .i64 y.S) ∧
      w.cell? ((a.add (r * 5)).add 3) = some (.slice AB y.B.length cB) ∧ w.cell? ((a.add (r * 5)).add 4) = some (.slice AT y.X.length cT) ∧ Rd w w.heap.size AB y.B.length (cb y.B) ∧ Rd w w.heap.size AT y.X.length (cs y.X)) ∧ (∀ z ∈ y.B, z < 256) ∧
      (Lit.int .i64 y.kind).wf = true ∧ (Lit.int .u64 y.U).wf = true ∧ (Lit.int .i64 y.S).wf = true ∧ y.B.length + y.X.length + ssum y.X ≤ 3 * Rows.uptoBulk (D r) := by
    intro r hr
    obtain ⟨cs'', hcs, htr⟩ := hx r hr
    rw [ce] at hcs
    obtain ⟨ys, n', _, hD, hlen0, hlen, hfs⟩ := DataW.trod_struct he htr
    rw [ce] at hlen0
    have hcell := (World.cells?_some hcs).2.2
    obtain ⟨v0, v1, v2, v3, v4, rfl⟩ : ∃ v0 v1 v2 v3 v4, cs'' = [v0, v1, v2, v3, v4] := by
      match cs'', hlen0 with
      | [a, b, c, d, e], _ => exact ⟨a, b, c, d, e, rfl⟩
    obtain ⟨y0, y1, y2, y3, y4, rfl⟩ : ∃ y0 y1 y2 y3 y4, ys = [y0, y1, y2, y3, y4] := by
      match ys, hlen with
      | [a, b, c, d, e], _ => exact ⟨a, b, c, d, e, rfl⟩
    have g0 := hfs 0 f0 rfl
    have g1 := hfs 1 f1 rfl
    have g2 := hfs 2 f2 rfl
    have g3 := hfs 3 f3 rfl
    have g4 := hfs 4 f4 rfl
    rw [o0, c0] at g0
    rw [o1, c1] at g1
    rw [o2, c2] at g2
    rw [o3, c3] at g3
    rw [o4, c4] at g4
    obtain ⟨k0, e0, _, w0⟩ := DataW.trod_int h0 (show DataW.trod enc P w base (fun _ => true) held n' f0.type [v0] = some y0 from g0)
    obtain ⟨k1, e1, _, w1⟩ := DataW.trod_int h1 (show DataW.trod enc P w base (fun _ => true) held n' f1.type [v1] = some y1 from g1)
    obtain ⟨k2, e2, _, w2⟩ := DataW.trod_int h2 (show DataW.trod enc P w base (fun _ => true) held n' f2.type [v2] = some y2 from g2)
    obtain ⟨AB, nB, cB, rfl, bs, rb, lb, kb⟩ := field_bytes h3 hq cq (show DataW.trod enc P w base (fun _ => true) held n' f3.type [v3] = some y3 from g3)
    obtain ⟨AT, nT, cT, rfl, ts, rt, kt, ks⟩ := field_texts h4 hstr cstr (show DataW.trod enc P w base (fun _ => true) held n' f4.type [v4] = some y4 from g4)
    obtain rfl := (List.cons.inj e0).1
    obtain rfl := (List.cons.inj e1).1
    obtain rfl := (List.cons.inj e2).1
    have hD1 : D r = .agg [y0.1, y1.1, y2.1, y3.1, y4.1] := (Prod.mk.inj hD).1
    have e3 : bs.length = nB := by have := rb.1; rwa [cb_length] at this
    have e4 : ts.length = nT := by have := rt.1; rwa [cs_len] at this
    subst e3 e4
    refine ⟨⟨k0, k1, k2, bs, ts⟩, ⟨AB, cB, AT, cT, hcell 0 (by omega), hcell 1 (by omega), hcell 2 (by omega), hcell 3 (by omega), hcell 4 (by omega), rb, rt⟩, lb, w0, w1, w2, ?_⟩
    rw [hD1]
    simp only [Rows.uptoBulk, Rows.uptoBulkAll]
    omega
  obtain ⟨y, hy⟩ := Go.Deep.choose_lt each
  have wf64 : ∀ z : Int, (Lit.int .i64 z).wf = true → I64 z := fun z hz => by unfold I64; simpa [Lit.wf, IntKind.min, IntKind.max, IntKind.signed, IntKind.bits] using hz
  have wfu : ∀ z : Int, (Lit.int .u64 z).wf = true → 0 ≤ z ∧ z ≤ 18446744073709551615 := fun z hz => by simpa [Lit.wf, IntKind.min, IntKind.max, IntKind.signed, IntKind.bits] using hz
  refine ⟨some a, len, m, y, rfl, fun r hr => ?_, hl, ?_, ?_⟩
  · obtain ⟨⟨AB, cB, AT, cT, z0, z1, z2, z3, z4, r1, r2⟩, lb, w0, w1, w2, _⟩ := hy r (by omega)
    obtain ⟨g, off, spot⟩ := a
    have hs : spot = none := by
      obtain ⟨⟨_, _, _, _, z00, _⟩, _⟩ := hy 0 (by omega)
      simpa [Addr.add] using World.cell?_spot z00
    subst hs
    simp only [addr_add'] at z0 z1 z2 z3 z4
    exact ⟨g, off, AB, cB, AT, cT, rfl, by have := World.block_lt_of_cell? w _ z0; simpa using this, z0, z1, z2, z3, z4, r1, r2, lb, wf64 _ w0, (wfu _ w1).1, (wfu _ w1).2, (wf64 _ w2).1, (wf64 _ w2).2⟩
  · have h7 := bulk_len ((List.range len).map D)
    simp only [List.length_map, List.length_range] at h7
    simp only [Rows.uptoBulk] at hpart
    omega
  · have h6 := bulk_szs D y len fun r hr => (hy r (by omega)).2.2.2.2.2
    simp only [Rows.uptoBulk] at hpart
    omega
end Go.Proofs.Ytjkenhkoakaaoaa
