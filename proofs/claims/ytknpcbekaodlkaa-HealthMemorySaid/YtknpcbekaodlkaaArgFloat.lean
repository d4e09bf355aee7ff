/- An argument that is a slice of floats of 64 bits: what the walk is told of it; whole (the form's reach) and of bulk at most 1048576. -/
import Derived.Test.YtknpcbekaodlkaaArgs
import Derived.Deep.Slices
import Derived.Laws.FloatArith
namespace Go.Proofs.Ytknpcbekaodlkaa
open Go.ChangeShapes Go.WideShapes Go.ChangeAt Go.RowKit
set_option linter.unusedVariables false
/-- The cells of floats. -/
def fv (l : List Nat) : List Value := l.map (Value.float .f64)
theorem fv_len (l : List Nat) : (fv l).length = l.length := List.length_map _
theorem fv_append (a b : List Nat) : fv (a ++ b) = fv a ++ fv b := List.map_append
theorem fv_one (l : List Nat) : ∀ u ∈ fv l, u.oneCell' = true := by
  intro u hu; obtain ⟨x, _, rfl⟩ := List.mem_map.1 hu; rfl
theorem fv_get (l : List Nat) (k : Nat) (h : k < l.length) : (fv l)[k]? = some (.float .f64 (l.getD k 0)) := by
  unfold fv; rw [List.getElem?_map, List.getElem?_eq_getElem h, List.getD_eq_getElem?_getD, List.getElem?_eq_getElem h]; rfl
theorem trod_float {H : Type} {enc : TypeId × Value → H} {P : Program} {w : World} {base : Nat} {held : Bool} {t : TypeId} {k : FloatKind} {fuel : Nat} {v : Value} {x : DataW H × List MemPlace} (ht : P.underlying t = some (.float k)) (h : DataW.trod enc P w base (fun _ => true) held fuel t [v] = some x) :
    ∃ b, v = .float k b ∧ (Lit.float k b).wf = true := by
  cases fuel with
  | zero => simp [DataW.trod] at h
  | succ n =>
    cases v <;> simp [DataW.trod, ht] at h
    rename_i k' b
    obtain ⟨⟨rfl, hw⟩, _⟩ := h
    exact ⟨b, rfl, hw⟩
theorem weights_reach {H : Type} {P : Program} {t e bytes cap i : Nat} {ts : List TypeId} {ds : List (DataW H)} {es rs : List (DataW H)} (ht : P.underlying t = some (.slice e)) (hb : P.bytesOf e = bytes) (hz : es.length + rs.length = cap)
    (hts : ts[i]? = some t) (hds : ds[i]? = some (.slice es rs)) (hsz : (DataW.weightsEach P ts ds).all (· ≤ reachBytes) = true) : cap * bytes ≤ 140737488351232 := by
  have h := List.all_eq_true.1 hsz (cap * bytes) (DataW.weights_mem_each hts hds _ (by
    simp only [DataW.weights, ht, hb, hz]
    exact List.mem_cons_self ..))
  exact of_decide_eq_true h
theorem open_floats {H : Type} {enc : TypeId × Value → H} {P : Program} {w : World} {base : Nat} {held : Bool} {t e : TypeId} {fuel : Nat} {cs : List Value} {x : DataW H × List MemPlace} (ht : P.underlying t = some (.slice e)) (he : P.underlying e = some (.float .f64)) (ce : P.cellsOf e = 1)
    (h : DataW.trod enc P w base (fun _ => true) held fuel t cs = some x) :
    ∃ (A : Option Addr) (len cap : Nat) (l : List Nat), cs = [.slice A len cap] ∧ Rd w w.heap.size A len (fv l) ∧ (∀ y ∈ l, y < 2 ^ 64) ∧ len ≤ cap ∧
      ((A = none ∧ cap = 0) ∨ ∃ es rs : List (DataW H), x.1 = .slice es rs ∧ es.length + rs.length = cap) := by
  rcases Go.Deep.open_slice1 ht ce h with ⟨rfl, _⟩ | ⟨a, len, cap, m, n, V, D, Pl, rfl, _, hl, hm, hmm, rfl, hx⟩
  · exact ⟨none, 0, 0, [], rfl, Rd.nil, by simp, Nat.le_refl _, .inl ⟨rfl, rfl⟩⟩
  simp only [if_true] at hmm
  subst hmm
  have each : ∀ r, r < m → ∃ b : Nat, w.cell? (a.add r) = some (.float .f64 b) ∧ b < 2 ^ 64 := by
    intro r hr
    obtain ⟨h1, h2⟩ := hx r hr
    obtain ⟨b, hv, hw⟩ := trod_float he h2
    refine ⟨b, by rw [h1, hv], ?_⟩
    simpa [Lit.wf] using hw
  obtain ⟨y, hy⟩ := Go.Deep.choose_lt each
  refine ⟨some a, len, m, (List.range len).map y, rfl, ⟨by rw [fv_len]; simp, fun hp => ?_⟩, fun z hz => ?_, hl, .inr ⟨_, _, rfl, by simp; omega⟩⟩
  · obtain ⟨g, off, spot⟩ := a
    have h0 := (hy 0 (by omega)).1
    have hs : spot = none := by simpa [Addr.add] using World.cell?_spot h0
    subst hs
    have ea : ∀ i, (⟨g, off, none⟩ : Addr).add i = ⟨g, off + i, none⟩ := fun i => by unfold Addr.add; split <;> simp_all
    refine ⟨g, off, rfl, ?_, fun i hi => ?_⟩
    · have := World.block_lt_of_cell? w _ h0; simpa [Addr.add] using this
    · rw [← ea, (hy i (by omega)).1, fv_get _ _ (by simpa using hi), List.getD_eq_getElem?_getD, List.getElem?_map, List.getElem?_range hi]; rfl
  · obtain ⟨r, hr, rfl⟩ := List.mem_map.1 hz
    exact (hy r (by have := List.mem_range.1 hr; omega)).2
end Go.Proofs.Ytknpcbekaodlkaa
