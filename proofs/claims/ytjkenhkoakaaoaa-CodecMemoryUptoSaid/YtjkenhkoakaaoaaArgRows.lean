/- An argument that is a slice of slices of bytes, of bulk at most 1048576: its rows. -/
import Derived.Test.YtjkenhkoakaaoaaArgs
import Derived.Deep.Matrix
namespace Go.Proofs.Ytjkenhkoakaaoaa
open Go.ChangeShapes Go.WideShapes Go.ChangeAt Go.RowKit
set_option linter.unusedVariables false
/-- A slice of slices of bytes that came in: its rows' bytes. -/
def Rws (w : World) (A : Option Addr) (n : Nat) (ps : List (List Nat)) : Prop :=
  ps.length = n ∧ ∀ r, r < n → ∃ g off Ar Cr, A = some ⟨g, off, none⟩ ∧ g < w.heap.size ∧ w.cell? ⟨g, off + r, none⟩ = some (.slice Ar (ps.getD r []).length Cr) ∧ Rd w w.heap.size Ar (ps.getD r []).length (cb (ps.getD r [])) ∧ ∀ x ∈ ps.getD r [], x < 256
theorem bulk_flat {H α : Type} (f : α → DataW H) (g : α → List Nat) : ∀ l : List α, (∀ x ∈ l, (g x).length ≤ Rows.uptoBulk (f x)) → ((l.map g).flatten).length ≤ Rows.uptoBulkAll (l.map f)
  | [], _ => by simp [Rows.uptoBulkAll]
  | x :: r, h => by
    have h1 := h x (List.mem_cons_self ..)
    have h2 := bulk_flat f g r fun y hy => h y (List.mem_cons_of_mem _ hy)
    simp only [List.map_cons, List.flatten_cons, List.length_append, Rows.uptoBulkAll]; omega
theorem open_rows_upto {H : Type} {enc : TypeId × Value → H} {P : Program} {w : World} {base : Nat} {held : Bool} {t e q : TypeId} {fuel i : Nat} {cs : List Value} {x : DataW H × List MemPlace} {ds : List (DataW H)} (ht : P.underlying t = some (.slice e)) (he : P.underlying e = some (.slice q)) (hq : P.underlying q = some (.int .u8))
    (ce : P.cellsOf e = 1) (cq : P.cellsOf q = 1) (h : DataW.trod enc P w base (fun _ => true) held fuel t cs = some x) (hds : ds[i]? = some x.1) (hk : Rows.uptoSmall H ds = true) :
    ∃ (A : Option Addr) (len cap : Nat) (ps : List (List Nat)), cs = [.slice A len cap] ∧ Rws w A len ps ∧ len ≤ cap ∧ ps.flatten.length ≤ 1048576 ∧ len ≤ 1048576 := by
  have hb : Rows.uptoBulkAll ds ≤ 1048576 := of_decide_eq_true hk
  have hpart := bulk_part hds
  rcases Go.Deep.open_int_rows ht he hq ce cq h with ⟨rfl, _⟩ | ⟨a, len, cap, A, L, C, Z, rfl, _, hl, hm, rfl, hx⟩
  · exact ⟨none, 0, 0, [], rfl, ⟨rfl, fun r hr => absurd hr (by omega)⟩, Nat.le_refl _, by simp, by omega⟩
  have each : ∀ r, r < cap → ∃ l : List Nat, Rd w w.heap.size (A r) (L r) (cb l) ∧ l.length = L r ∧ ∀ y ∈ l, y < 256 := by
    intro r hr
    obtain ⟨_, hL, hC, hZ, hw, hnone, hsome⟩ := hx r hr
    have hrow : IsRow .u8 w (A r) (L r) (C r) (Z r) := by
      cases hA : A r with
      | none =>
        have h0 := hnone hA
        refine .inl ⟨rfl, by omega, h0, List.eq_nil_of_length_eq_zero (by omega)⟩
      | some a' => exact .inr ⟨a', rfl, hL, hC, hZ, fun c hc => (hsome a' hA).2 c (by omega), hw⟩
    obtain ⟨l, hr1, hr2, hr3, hr4⟩ := hrow.bytes
    refine ⟨l.take (L r), ?_, by rw [List.length_take]; omega, fun y hy => hr2 y (List.mem_of_mem_take hy)⟩
    have := hr1.take hr4
    rw [cb, ← List.map_take] at this
    exact this
  obtain ⟨y, hy⟩ := Go.Deep.choose_lt each
  have hlen : ∀ r, r < len → ((List.range len).map y).getD r [] = y r := fun r hr => by
    rw [List.getD_eq_getElem?_getD, List.getElem?_map, List.getElem?_range hr]; rfl
  refine ⟨some a, len, cap, (List.range len).map y, rfl, ⟨by simp, fun r hr => ?_⟩, hl, ?_, ?_⟩
  · obtain ⟨hc, _⟩ := hx r (by omega)
    obtain ⟨h1, h2, h3⟩ := hy r (by omega)
    obtain ⟨h01, _⟩ := hx 0 (by omega)
    obtain ⟨g, off, spot⟩ := a
    have hs : spot = none := by simpa [Addr.add] using World.cell?_spot h01
    subst hs
    refine ⟨g, off, A r, C r, rfl, ?_, ?_, ?_, ?_⟩
    · have := World.block_lt_of_cell? w _ h01; simpa [Addr.add] using this
    · have e : (⟨g, off, none⟩ : Addr).add r = ⟨g, off + r, none⟩ := by unfold Addr.add; split <;> simp_all
      rw [← e, hc, hlen r hr, h2]
    · rw [hlen r hr, h2]; exact h1
    · rw [hlen r hr]; exact h3
  · have := bulk_flat (fun r => Go.Deep.intRow (H := H) .u8 (A r) (L r) (Z r)) y (List.range len) fun r hr => by
      have hr := List.mem_range.1 hr
      obtain ⟨_, hL, hC, hZ, hw, hnone, hsome⟩ := hx r (by omega)
      rw [(hy r (by omega)).2.1]
      unfold Go.Deep.intRow
      cases hA : A r with
      | none => have := hnone hA; omega
      | some a' =>
        simp only [Rows.uptoBulk]
        have := bulk_len (lits (H := H) .u8 ((Z r).take (L r)))
        rw [show (lits (H := H) .u8 ((Z r).take (L r))).length = L r by simp only [lits, List.length_map, List.length_take]; omega] at this
        omega
    simp only [Rows.uptoBulk] at hpart
    omega
  · have := bulk_len ((List.range len).map fun r => Go.Deep.intRow (H := H) .u8 (A r) (L r) (Z r))
    simp only [List.length_map, List.length_range] at this
    simp only [Rows.uptoBulk] at hpart
    omega
end Go.Proofs.Ytjkenhkoakaaoaa
