/- Arguments that are slices of integers: what the walk is told of them, and the bounds that the form's reach, or the bound of the second form, gives. -/
import Derived.Test.YtjkenhkoakaaoaaRows
import Derived.Test.YtjkenhkoakaaoaaMem
import Derived.Test.YtjkenhkoakaaoaaByt
import Derived.ProofKit
import Derived.OpenShut
import Derived.SizedLaws
namespace Go.Proofs.Ytjkenhkoakaaoaa
open Go.ChangeShapes Go.WideShapes Go.ChangeAt Go.RowKit
set_option linter.unusedVariables false
/-- A slice of integers that came in: nil, or a row of 'cap' cells, the numbers zs, the first 'len' its elements. -/
def IsRow (k : IntKind) (w : World) (a : Option Addr) (len cap : Nat) (zs : List Int) : Prop :=
  (a = none ∧ len = 0 ∧ cap = 0 ∧ zs = []) ∨
  ∃ x, a = some x ∧ len ≤ cap ∧ cap ≤ maxLen ∧ zs.length = cap ∧ (∀ i, i < zs.length → w.cell? (x.add i) = some (.int k (zs.getD i 0))) ∧ ∀ n ∈ zs, (Lit.int k n).wf = true
theorem row_reach {H : Type} {P : Program} {t e bytes len cap i : Nat} {k : IntKind} {zs : List Int} {ts : List TypeId} {ds : List (DataW H)} (ht : P.underlying t = some (.slice e)) (hb : P.bytesOf e = bytes) (hz : zs.length = cap)
    (hts : ts[i]? = some t) (hds : ds[i]? = some (.slice (lits k (zs.take len)) (lits k (zs.drop len)))) (hsz : (DataW.weightsEach P ts ds).all (· ≤ reachBytes) = true) : cap * bytes ≤ 140737488351232 := by
  have h := List.all_eq_true.1 hsz (cap * bytes) (DataW.weights_mem_each hts hds _ (by
    simp only [DataW.weights, ht, hb]
    have : (lits (H := H) k (zs.take len)).length + (lits (H := H) k (zs.drop len)).length = cap := by
      simp only [lits, List.length_map, List.length_take, List.length_drop]; omega
    rw [this]; exact List.mem_cons_self ..))
  exact of_decide_eq_true h
theorem bulk_pos {H : Type} (d : DataW H) : 1 ≤ Rows.uptoBulk d := by
  cases d with
  | lit l => cases l <;> simp [Rows.uptoBulk]
  | _ => simp [Rows.uptoBulk]
theorem bulk_part {H : Type} : ∀ {ds : List (DataW H)} {i : Nat} {d : DataW H}, ds[i]? = some d → Rows.uptoBulk d ≤ Rows.uptoBulkAll ds
  | [], i, d, h => by simp at h
  | x :: r, 0, d, h => by simp at h; subst h; simp only [Rows.uptoBulkAll]; omega
  | x :: r, i + 1, d, h => by have := bulk_part (ds := r) (i := i) (by simpa using h); simp only [Rows.uptoBulkAll]; omega
theorem bulk_len {H : Type} : ∀ (l : List (DataW H)), l.length ≤ Rows.uptoBulkAll l
  | [] => by simp [Rows.uptoBulkAll]
  | x :: r => by have := bulk_len r; have := bulk_pos x; simp only [Rows.uptoBulkAll, List.length_cons]; omega
theorem row_small {H : Type} {len cap i : Nat} {k : IntKind} {zs : List Int} {ds : List (DataW H)} (hz : zs.length = cap) (hds : ds[i]? = some (.slice (lits k (zs.take len)) (lits k (zs.drop len)))) (hk : Rows.uptoSmall H ds = true) : cap ≤ 1048576 := by
  have h : Rows.uptoBulkAll ds ≤ 1048576 := of_decide_eq_true hk
  have h1 := bulk_part hds
  simp only [Rows.uptoBulk] at h1
  have h2 := bulk_len (lits (H := H) k (zs.take len))
  have h3 := bulk_len (lits (H := H) k (zs.drop len))
  have : (lits (H := H) k (zs.take len)).length + (lits (H := H) k (zs.drop len)).length = cap := by
    simp only [lits, List.length_map, List.length_take, List.length_drop]; omega
  omega
section
variable {k : IntKind} {w : World} {a : Option Addr} {len cap : Nat} {zs : List Int}
theorem IsRow.len_le (h : IsRow k w a len cap zs) : len ≤ cap := by
  rcases h with ⟨_, rfl, rfl, _⟩ | ⟨_, _, h, _⟩
  · exact Nat.le_refl _
  · exact h
theorem IsRow.rdAll (h : IsRow k w a len cap zs) : Rd w w.heap.size a cap (zs.map (.int k)) := by
  rcases h with ⟨rfl, rfl, rfl, rfl⟩ | ⟨x, rfl, hl, hm, hz, hc, hw⟩
  · exact Rd.nil
  · refine ⟨by simpa using hz, fun hp => ?_⟩
    obtain ⟨g, off, spot⟩ := x
    have h0 := hc 0 (by omega)
    have hs : spot = none := by simpa [Addr.add] using World.cell?_spot h0
    subst hs
    refine ⟨g, off, rfl, ?_, fun i hi => ?_⟩
    · have := World.block_lt_of_cell? w _ h0; simpa [Addr.add] using this
    · have h1 := hc i (by omega)
      have e : (⟨g, off, none⟩ : Addr).add i = ⟨g, off + i, none⟩ := by unfold Addr.add; split <;> simp_all
      rw [e] at h1
      rw [h1, List.getElem?_map, List.getD_eq_getElem?_getD, List.getElem?_eq_getElem (by omega)]; rfl
theorem IsRow.rd (h : IsRow k w a len cap zs) : Rd w w.heap.size a len ((zs.take len).map (.int k)) := by
  rw [List.map_take]; exact h.rdAll.take h.len_le
theorem IsRow.wf (h : IsRow k w a len cap zs) : ∀ n ∈ zs, (Lit.int k n).wf = true := by
  rcases h with ⟨_, _, _, rfl⟩ | ⟨_, _, _, _, _, _, h⟩
  · intro n hn; cases hn
  · exact h
end
/-- The bytes of a slice that came in. -/
theorem IsRow.bytes {w : World} {a : Option Addr} {len cap : Nat} {zs : List Int} (h : IsRow .u8 w a len cap zs) :
    ∃ l : List Nat, Rd w w.heap.size a cap (cb l) ∧ (∀ x ∈ l, x < 256) ∧ l.length = cap ∧ len ≤ cap := by
  have hw : ∀ n ∈ zs, 0 ≤ n ∧ n ≤ 255 := fun n hn => by simpa [Lit.wf, IntKind.min, IntKind.max, IntKind.signed, IntKind.bits] using h.wf n hn
  have e : zs.map (.int .u8) = cb (zs.map Int.toNat) := by
    unfold cb; rw [List.map_map]
    refine List.map_congr_left fun z hz => ?_
    simp only [Function.comp, bv]
    have := hw z hz
    rw [Int.toNat_of_nonneg this.1]
  refine ⟨zs.map Int.toNat, by rw [← e]; exact h.rdAll, fun x hx => ?_, ?_, h.len_le⟩
  · obtain ⟨z, hz, rfl⟩ := List.mem_map.1 hx
    have := hw z hz
    omega
  · have := h.rdAll.1
    simpa using this
end Go.Proofs.Ytjkenhkoakaaoaa
