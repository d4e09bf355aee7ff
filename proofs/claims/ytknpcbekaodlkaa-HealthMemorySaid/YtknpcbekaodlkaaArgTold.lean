/- An argument that is a slice of structs of a bool, two integers and a bool: what the walk is told of it, within the form's reach. -/
import Derived.Test.YtknpcbekaodlkaaArgFloat
import Derived.Lib.SmallJoins
import Derived.Deep.Slices
namespace Go.Proofs.Ytknpcbekaodlkaa
open Go.ChangeShapes Go.WideShapes Go.ChangeAt Go.RowKit
set_option linter.unusedVariables false
def J64 (x : Int) : Prop := -9223372036854775808 ≤ x ∧ x ≤ 9223372036854775807
/-- A slice of such structs that came in. -/
def Tolds (w : World) (A : Option Addr) (n : Nat) (K : Nat → Bool × Int × Int × Bool) : Prop :=
  ∀ r, r < n → ∃ g off, A = some ⟨g, off, none⟩ ∧ g < w.heap.size ∧ w.cell? ⟨g, off + r * 4, none⟩ = some (.bool (K r).1) ∧ w.cell? ⟨g, off + r * 4 + 1, none⟩ = some (.int .i64 (K r).2.1) ∧
    w.cell? ⟨g, off + r * 4 + 2, none⟩ = some (.int .i64 (K r).2.2.1) ∧ w.cell? ⟨g, off + r * 4 + 3, none⟩ = some (.bool (K r).2.2.2) ∧ J64 (K r).2.1 ∧ J64 (K r).2.2.1
theorem Tolds.below {w w' : World} {A : Option Addr} {n : Nat} {K : Nat → Bool × Int × Int × Bool} (h : Tolds w A n K) (b : Below w.heap.size w w') : Tolds w' A n K := fun r hr => by
  obtain ⟨g, off, e, hg, c0, c1, c2, c3, h⟩ := h r hr
  exact ⟨g, off, e, Nat.lt_of_lt_of_le hg b.size, (b.cell (p := ⟨g, _, none⟩) hg).trans c0, (b.cell (p := ⟨g, _, none⟩) hg).trans c1, (b.cell (p := ⟨g, _, none⟩) hg).trans c2, (b.cell (p := ⟨g, _, none⟩) hg).trans c3, h⟩
theorem addr_addT (g off i : Nat) : (⟨g, off, none⟩ : Addr).add i = ⟨g, off + i, none⟩ := by unfold Addr.add; split <;> simp_all
theorem trod_boolT {H : Type} {enc : TypeId × Value → H} {P : Program} {w : World} {base : Nat} {held : Bool} {t : TypeId} {fuel : Nat} {v : Value} {x : DataW H × List MemPlace} (ht : P.underlying t = some .bool) (h : DataW.trod enc P w base (fun _ => true) held fuel t [v] = some x) :
    ∃ b, v = .bool b := by
  cases fuel with
  | zero => simp [DataW.trod] at h
  | succ n =>
    cases v <;> simp [DataW.trod, ht] at h
    rename_i b
    exact ⟨b, rfl⟩
theorem open_tolds {H : Type} {enc : TypeId × Value → H} {P : Program} {w : World} {base : Nat} {held : Bool} {t e : TypeId} {f0 f1 f2 f3 : Field} {fuel : Nat} {cs : List Value} {x : DataW H × List MemPlace} (ht : P.underlying t = some (.slice e)) (he : P.underlying e = some (.struct #[f0, f1, f2, f3])) (ce : P.cellsOf e = 4)
    (h0 : P.underlying f0.type = some .bool) (o0 : f0.offset = 0) (c0 : P.cellsOf f0.type = 1) (h1 : P.underlying f1.type = some (.int .i64)) (o1 : f1.offset = 1) (c1 : P.cellsOf f1.type = 1) (h2 : P.underlying f2.type = some (.int .i64)) (o2 : f2.offset = 2) (c2 : P.cellsOf f2.type = 1)
    (h3 : P.underlying f3.type = some .bool) (o3 : f3.offset = 3) (c3 : P.cellsOf f3.type = 1)
    (h : DataW.trod enc P w base (fun _ => true) held fuel t cs = some x) :
    ∃ (A : Option Addr) (len cap : Nat) (K : Nat → Bool × Int × Int × Bool), cs = [.slice A len cap] ∧ Tolds w A len K ∧ len ≤ cap ∧ ((A = none ∧ cap = 0) ∨ ∃ es rs : List (DataW H), x.1 = .slice es rs ∧ es.length + rs.length = cap) := by
  rcases Go.Deep.open_slice ht h with ⟨rfl, _⟩ | ⟨a, len, cap, m, n, D, Pl, rfl, _, hl, hm, hmm, rfl, hx⟩
  · exact ⟨none, 0, 0, fun _ => (false, 0, 0, false), rfl, fun r hr => absurd hr (by omega), Nat.le_refl _, .inl ⟨rfl, rfl⟩⟩
  simp only [if_true] at hmm
  subst hmm
  have each : ∀ r, r < m → ∃ y : Bool × Int × Int × Bool, (w.cell? ((a.add (r * 4)).add 0) = some (.bool y.1) ∧ w.cell? ((a.add (r * 4)).add 1) = some (.int .i64 y.2.1) ∧ w.cell? ((a.add (r * 4)).add 2) = some (.int .i64 y.2.2.1) ∧
      w.cell? ((a.add (r * 4)).add 3) = some (.bool y.2.2.2)) ∧ (Lit.int .i64 y.2.1).wf = true ∧ (Lit.int .i64 y.2.2.1).wf = true := by
    intro r hr
    obtain ⟨cs', hcs, htr⟩ := hx r hr
    rw [ce] at hcs
    obtain ⟨y0, y1, y2, y3, n', hD, hlen, g0, g1, g2, g3⟩ := Joins.trod_struct4 he htr
    rw [ce] at hlen
    have hcell := (World.cells?_some hcs).2.2
    obtain ⟨v0, v1, v2, v3, rfl⟩ : ∃ v0 v1 v2 v3, cs' = [v0, v1, v2, v3] := by
      match cs', hlen with
      | [a, b, c, d], _ => exact ⟨a, b, c, d, rfl⟩
    rw [o0, c0] at g0
    rw [o1, c1] at g1
    rw [o2, c2] at g2
    rw [o3, c3] at g3
    obtain ⟨k0, rfl⟩ := trod_boolT h0 (show DataW.trod enc P w base (fun _ => true) held n' f0.type [v0] = some y0 from g0)
    obtain ⟨k1, e1, q1, w1⟩ := DataW.trod_int h1 (show DataW.trod enc P w base (fun _ => true) held n' f1.type [v1] = some y1 from g1)
    obtain ⟨k2, e2, q2, w2⟩ := DataW.trod_int h2 (show DataW.trod enc P w base (fun _ => true) held n' f2.type [v2] = some y2 from g2)
    obtain ⟨k3, rfl⟩ := trod_boolT h3 (show DataW.trod enc P w base (fun _ => true) held n' f3.type [v3] = some y3 from g3)
    obtain rfl := (List.cons.inj e1).1
    obtain rfl := (List.cons.inj e2).1
    exact ⟨(k0, k1, k2, k3), ⟨hcell 0 (by omega), hcell 1 (by omega), hcell 2 (by omega), hcell 3 (by omega)⟩, w1, w2⟩
  obtain ⟨y, hy⟩ := Go.Deep.choose_lt each
  have wf64 : ∀ z : Int, (Lit.int .i64 z).wf = true → J64 z := fun z hz => by unfold J64; simpa [Lit.wf, IntKind.min, IntKind.max, IntKind.signed, IntKind.bits] using hz
  refine ⟨some a, len, m, y, rfl, fun r hr => ?_, hl, .inr ⟨_, _, rfl, by simp; omega⟩⟩
  obtain ⟨⟨z0, z1, z2, z3⟩, w1, w2⟩ := hy r (by omega)
  obtain ⟨g, off, spot⟩ := a
  have hs : spot = none := by
    obtain ⟨⟨z00, _⟩, _⟩ := hy 0 (by omega)
    simpa [Addr.add] using World.cell?_spot z00
  subst hs
  simp only [addr_addT] at z0 z1 z2 z3
  exact ⟨g, off, rfl, by have := World.block_lt_of_cell? w _ z0; simpa using this, z0, z1, z2, z3, wf64 _ w1, wf64 _ w2⟩
end Go.Proofs.Ytknpcbekaodlkaa
