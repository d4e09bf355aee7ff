/- Put together of: Args ArgRows PutsL Crc Halves Over Sums Stream Gone Bits GoneA GoneB GoneLaw Ref FormP. -/
import Derived.Test.YtbcmjjcbjojakaaDoorRows
import Derived.Test.YtbcmjjcbjojakaaDoorPk1
import Derived.ProofKit
import Derived.OpenShut
import Derived.SizedLaws
import Derived.Deep.Matrix
import Derived.BigQuiet
import Derived.WalkSmall
import Derived.Below
import Derived.Outline
import Derived.WalkSpells
import Derived.WalkLawsBesides
import Derived.Handy
import Derived.StillTailTactics
import Derived.Deep.QuietTactic
import Derived.Laws.BitsAllLaws
section
namespace Go.Proofs.YtbcmjjcbjojakaaDoor
open Go.ChangeShapes Go.WideShapes Go.ChangeAt Go.RowKit
set_option linter.unusedVariables false
/-- A slice of integers that came in: nil, or a row of 'cap' cells, the numbers zs, the first 'len' its elements. -/
def IsRow (k : IntKind) (w : World) (a : Option Addr) (len cap : Nat) (zs : List Int) : Prop :=
  (a = none ∧ len = 0 ∧ cap = 0 ∧ zs = []) ∨
  ∃ x, a = some x ∧ len ≤ cap ∧ cap ≤ maxLen ∧ zs.length = cap ∧ (∀ i, i < zs.length → w.cell? (x.add i) = some (.int k (zs.getD i 0))) ∧ ∀ n ∈ zs, (Lit.int k n).wf = true
theorem row_reach {H : Type} {P : Program} {t e bytes len cap i : Nat} {k : IntKind} {zs : List Int} {ts : List TypeId} {ds : List (DataW H)} (ht : P.underlying t = some (.slice e)) (hb : P.bytesOf e = bytes) (hz : zs.length = cap)
    (hts : ts[i]? = some t) (hds : ds[i]? = some (.slice (lits k (zs.take len)) (lits k (zs.drop len)))) (hsz : (DataW.weightsEach P ts ds).all (· ≤ reachBytes) = true) : cap * bytes ≤ 140737488351232 := by
  have h := List.all_eq_true.1 hsz (cap * bytes) (DataW.weights_mem_each hts hds _ (by
    simp only [DataW.weights, ht, hb]
    have : (lits (H := H) k (zs.take len)).length + (lits (H := H) k (zs.drop len)).length = cap := by
      simp only [lits, List.length_map, List.length_take, List.length_drop]; omega
    rw [this]; exact List.mem_cons_self ..))
  exact of_decide_eq_true h
theorem bulk_pos {H : Type} (d : DataW H) : 1 ≤ Rows.uptoBulk d := by
  cases d with
  | lit l => cases l <;> simp [Rows.uptoBulk]
  | _ => simp [Rows.uptoBulk]
theorem bulk_part {H : Type} : ∀ {ds : List (DataW H)} {i : Nat} {d : DataW H}, ds[i]? = some d → Rows.uptoBulk d ≤ Rows.uptoBulkAll ds
  | [], i, d, h => by simp at h
  | x :: r, 0, d, h => by simp at h; subst h; simp only [Rows.uptoBulkAll]; omega
  | x :: r, i + 1, d, h => by have := bulk_part (ds := r) (i := i) (by simpa using h); simp only [Rows.uptoBulkAll]; omega
theorem bulk_len {H : Type} : ∀ (l : List (DataW H)), l.length ≤ Rows.uptoBulkAll l
  | [] => by simp [Rows.uptoBulkAll]
  | x :: r => by have := bulk_len r; have := bulk_pos x; simp only [Rows.uptoBulkAll, List.length_cons]; omega
theorem row_small {H : Type} {len cap i : Nat} {k : IntKind} {zs : List Int} {ds : List (DataW H)} (hz : zs.length = cap) (hds : ds[i]? = some (.slice (lits k (zs.take len)) (lits k (zs.drop len)))) (hk : Rows.uptoSmall H ds = true) : cap ≤ 1048576 := by
  have h : Rows.uptoBulkAll ds ≤ 1048576 := of_decide_eq_true hk
  have h1 := bulk_part hds
  simp only [Rows.uptoBulk] at h1
  have h2 := bulk_len (lits (H := H) k (zs.take len))
  have h3 := bulk_len (lits (H := H) k (zs.drop len))
  have : (lits (H := H) k (zs.take len)).length + (lits (H := H) k (zs.drop len)).length = cap := by
    simp only [lits, List.length_map, List.length_take, List.length_drop]; omega
  omega
section
variable {k : IntKind} {w : World} {a : Option Addr} {len cap : Nat} {zs : List Int}
theorem IsRow.len_le (h : IsRow k w a len cap zs) : len ≤ cap := by
  rcases h with ⟨_, rfl, rfl, _⟩ | ⟨_, _, h, _⟩
  · exact Nat.le_refl _
  · exact h
theorem IsRow.rdAll (h : IsRow k w a len cap zs) : Rd w w.heap.size a cap (zs.map (.int k)) := by
  rcases h with ⟨rfl, rfl, rfl, rfl⟩ | ⟨x, rfl, hl, hm, hz, hc, hw⟩
  · exact Rd.nil
  · refine ⟨by simpa using hz, fun hp => ?_⟩
    obtain ⟨g, off, spot⟩ := x
    have h0 := hc 0 (by omega)
    have hs : spot = none := by simpa [Addr.add] using World.cell?_spot h0
    subst hs
    refine ⟨g, off, rfl, ?_, fun i hi => ?_⟩
    · have := World.block_lt_of_cell? w _ h0; simpa [Addr.add] using this
    · have h1 := hc i (by omega)
      have e : (⟨g, off, none⟩ : Addr).add i = ⟨g, off + i, none⟩ := by unfold Addr.add; split <;> simp_all
      rw [e] at h1
      rw [h1, List.getElem?_map, List.getD_eq_getElem?_getD, List.getElem?_eq_getElem (by omega)]; rfl
theorem IsRow.rd (h : IsRow k w a len cap zs) : Rd w w.heap.size a len ((zs.take len).map (.int k)) := by
  rw [List.map_take]; exact h.rdAll.take h.len_le
theorem IsRow.wf (h : IsRow k w a len cap zs) : ∀ n ∈ zs, (Lit.int k n).wf = true := by
  rcases h with ⟨_, _, _, rfl⟩ | ⟨_, _, _, _, _, _, h⟩
  · intro n hn; cases hn
  · exact h
end
/-- The bytes of a slice that came in. -/
theorem IsRow.bytes {w : World} {a : Option Addr} {len cap : Nat} {zs : List Int} (h : IsRow .u8 w a len cap zs) :
    ∃ l : List Nat, Rd w w.heap.size a cap (cb l) ∧ (∀ x ∈ l, x < 256) ∧ l.length = cap ∧ len ≤ cap := by
  have hw : ∀ n ∈ zs, 0 ≤ n ∧ n ≤ 255 := fun n hn => by simpa [Lit.wf, IntKind.min, IntKind.max, IntKind.signed, IntKind.bits] using h.wf n hn
  have e : zs.map (.int .u8) = cb (zs.map Int.toNat) := by
    unfold cb; rw [List.map_map]
    refine List.map_congr_left fun z hz => ?_
    simp only [Function.comp, bv]
    have := hw z hz
    rw [Int.toNat_of_nonneg this.1]
  refine ⟨zs.map Int.toNat, by rw [← e]; exact h.rdAll, fun x hx => ?_, ?_, h.len_le⟩
  · obtain ⟨z, hz, rfl⟩ := List.mem_map.1 hx
    have := hw z hz
    omega
  · have := h.rdAll.1
    simpa using this
end Go.Proofs.YtbcmjjcbjojakaaDoor
end
section
namespace Go.Proofs.YtbcmjjcbjojakaaDoor
open Go.ChangeShapes Go.WideShapes Go.ChangeAt Go.RowKit
set_option linter.unusedVariables false
/-- A slice of slices of bytes that came in: its rows' bytes. -/
def Rws (w : World) (A : Option Addr) (n : Nat) (ps : List (List Nat)) : Prop :=
  ps.length = n ∧ ∀ r, r < n → ∃ g off Ar Cr, A = some ⟨g, off, none⟩ ∧ g < w.heap.size ∧ w.cell? ⟨g, off + r, none⟩ = some (.slice Ar (ps.getD r []).length Cr) ∧ Rd w w.heap.size Ar (ps.getD r []).length (cb (ps.getD r [])) ∧ ∀ x ∈ ps.getD r [], x < 256
theorem bulk_flat {H α : Type} (f : α → DataW H) (g : α → List Nat) : ∀ l : List α, (∀ x ∈ l, (g x).length ≤ Rows.uptoBulk (f x)) → ((l.map g).flatten).length ≤ Rows.uptoBulkAll (l.map f)
  | [], _ => by simp [Rows.uptoBulkAll]
  | x :: r, h => by
    have h1 := h x (List.mem_cons_self ..)
    have h2 := bulk_flat f g r fun y hy => h y (List.mem_cons_of_mem _ hy)
    simp only [List.map_cons, List.flatten_cons, List.length_append, Rows.uptoBulkAll]; omega
theorem open_rows_upto {H : Type} {enc : TypeId × Value → H} {P : Program} {w : World} {base : Nat} {held : Bool} {t e q : TypeId} {fuel i : Nat} {cs : List Value} {x : DataW H × List MemPlace} {ds : List (DataW H)} (ht : P.underlying t = some (.slice e)) (he : P.underlying e = some (.slice q)) (hq : P.underlying q = some (.int .u8))
    (ce : P.cellsOf e = 1) (cq : P.cellsOf q = 1) (h : DataW.trod enc P w base (fun _ => true) held fuel t cs = some x) (hds : ds[i]? = some x.1) (hk : Rows.uptoSmall H ds = true) :
    ∃ (A : Option Addr) (len cap : Nat) (ps : List (List Nat)), cs = [.slice A len cap] ∧ Rws w A len ps ∧ len ≤ cap ∧ ps.flatten.length ≤ 1048576 ∧ len ≤ 1048576 := by
  have hb : Rows.uptoBulkAll ds ≤ 1048576 := of_decide_eq_true hk
  have hpart := bulk_part hds
  rcases Go.Deep.open_int_rows ht he hq ce cq h with ⟨rfl, _⟩ | ⟨a, len, cap, A, L, C, Z, rfl, _, hl, hm, rfl, hx⟩
  · exact ⟨none, 0, 0, [], rfl, ⟨rfl, fun r hr => absurd hr (by omega)⟩, Nat.le_refl _, by simp, by omega⟩
  have each : ∀ r, r < cap → ∃ l : List Nat, Rd w w.heap.size (A r) (L r) (cb l) ∧ l.length = L r ∧ ∀ y ∈ l, y < 256 := by
    intro r hr
    obtain ⟨_, hL, hC, hZ, hw, hnone, hsome⟩ := hx r hr
    have hrow : IsRow .u8 w (A r) (L r) (C r) (Z r) := by
      cases hA : A r with
      | none =>
        have h0 := hnone hA
        refine .inl ⟨rfl, by omega, h0, List.eq_nil_of_length_eq_zero (by omega)⟩
      | some a' => exact .inr ⟨a', rfl, hL, hC, hZ, fun c hc => (hsome a' hA).2 c (by omega), hw⟩
    obtain ⟨l, hr1, hr2, hr3, hr4⟩ := hrow.bytes
    refine ⟨l.take (L r), ?_, by rw [List.length_take]; omega, fun y hy => hr2 y (List.mem_of_mem_take hy)⟩
    have := hr1.take hr4
    rw [cb, ← List.map_take] at this
    exact this
  obtain ⟨y, hy⟩ := Go.Deep.choose_lt each
  have hlen : ∀ r, r < len → ((List.range len).map y).getD r [] = y r := fun r hr => by
    rw [List.getD_eq_getElem?_getD, List.getElem?_map, List.getElem?_range hr]; rfl
  refine ⟨some a, len, cap, (List.range len).map y, rfl, ⟨by simp, fun r hr => ?_⟩, hl, ?_, ?_⟩
  · obtain ⟨hc, _⟩ := hx r (by omega)
    obtain ⟨h1, h2, h3⟩ := hy r (by omega)
    obtain ⟨h01, _⟩ := hx 0 (by omega)
    obtain ⟨g, off, spot⟩ := a
    have hs : spot = none := by simpa [Addr.add] using World.cell?_spot h01
    subst hs
    refine ⟨g, off, A r, C r, rfl, ?_, ?_, ?_, ?_⟩
    · have := World.block_lt_of_cell? w _ h01; simpa [Addr.add] using this
    · have e : (⟨g, off, none⟩ : Addr).add r = ⟨g, off + r, none⟩ := by unfold Addr.add; split <;> simp_all
      rw [← e, hc, hlen r hr, h2]
    · rw [hlen r hr, h2]; exact h1
    · rw [hlen r hr]; exact h3
  · have := bulk_flat (fun r => Go.Deep.intRow (H := H) .u8 (A r) (L r) (Z r)) y (List.range len) fun r hr => by
      have hr := List.mem_range.1 hr
      obtain ⟨_, hL, hC, hZ, hw, hnone, hsome⟩ := hx r (by omega)
      rw [(hy r (by omega)).2.1]
      unfold Go.Deep.intRow
      cases hA : A r with
      | none => have := hnone hA; omega
      | some a' =>
        simp only [Rows.uptoBulk]
        have := bulk_len (lits (H := H) .u8 ((Z r).take (L r)))
        rw [show (lits (H := H) .u8 ((Z r).take (L r))).length = L r by simp only [lits, List.length_map, List.length_take]; omega] at this
        omega
    simp only [Rows.uptoBulk] at hpart
    omega
  · have := bulk_len ((List.range len).map fun r => Go.Deep.intRow (H := H) .u8 (A r) (L r) (Z r))
    simp only [List.length_map, List.length_range] at this
    simp only [Rows.uptoBulk] at hpart
    omega
end Go.Proofs.YtbcmjjcbjojakaaDoor
end
section
namespace Go.Proofs.YtbcmjjcbjojakaaDoor
open Go.RowKit
set_option linter.unusedVariables false
theorem rd_bytes {w : World} {e cap : Nat} (t : ByteArray) (fr : Nat × Nat) : Rd (w.alloc (.cells (bytesRow t cap) e fr)) (w.heap.size + 1) (some ⟨w.heap.size, 0, none⟩) t.size (cb (sb t)) :=
  ⟨by rw [cb_length, sb_len], fun _ => ⟨w.heap.size, 0, rfl, by omega, fun i hi => by
    rw [cell_of_row _ w.heap.size (0 + i) _ e fr (heap_alloc_new w _), Nat.zero_add, bytesRow_at t cap i hi]
    unfold cb sb
    rw [List.getElem?_map, List.getElem?_map, List.getElem?_eq_getElem (by rw [Array.length_toList]; exact hi)]
    simp [bv]⟩⟩
/-- The marks of the law. -/
def marks : List Nat := (List.range 64).map fun i => 201 + i % 7
theorem marks_len : marks.length = 64 := by simp [marks]
theorem marks_get (k : Nat) (h : k < 64) : marks.getD k 0 = 201 + k % 7 := by
  unfold marks; rw [List.getD_eq_getElem?_getD, List.getElem?_map, List.getElem?_range h]; rfl
theorem marks_take (k : Nat) (h : k < 64) : marks.take (k + 1) = marks.take k ++ [201 + k % 7] := by
  rw [List.take_succ_eq_append_getElem (by rw [marks_len]; exact h)]
  have := marks_get k h
  rw [List.getD_eq_getElem?_getD, List.getElem?_eq_getElem (by rw [marks_len]; exact h)] at this
  simp only [Option.getD_some] at this
  rw [this]
theorem infoT : (Tryd.prog.info? 9).map (fun i => (i.zero, i.size, i.bytes)) = some (some (.string ⟨#[]⟩), 1, 16) := by kernel_rfl
theorem elS : El Tryd.prog 88 9 16 (.string ⟨#[]⟩) := ⟨Tryd.underlying88, info_parts infoT, rfl⟩
theorem cs_append (a b : List ByteArray) : cs (a ++ b) = cs a ++ cs b := List.map_append
def markS : ByteArray := ⟨#[109, 97, 114, 107]⟩
end Go.Proofs.YtbcmjjcbjojakaaDoor
end
section
namespace Go.Proofs.YtbcmjjcbjojakaaDoor
namespace Crc
def M : Nat := 2197175160
/-- One step of the register. -/
def T (r : Nat) : Nat := if r % 2 = 1 then r / 2 ^^^ M else r / 2
def itT : Nat → Nat → Nat
  | 0, r => r
  | n + 1, r => itT n (T r)
/-- The register gone over bytes. -/
def ov (r : Nat) (l : List Nat) : Nat := l.foldl (fun r x => itT 8 (r ^^^ x)) r
theorem xor_half (a b : Nat) : (a ^^^ b) / 2 = a / 2 ^^^ b / 2 := by
  apply Nat.eq_of_testBit_eq; intro i
  simp [Nat.testBit_div_two, Nat.testBit_xor]
theorem xor_odd (a b : Nat) : (a ^^^ b) % 2 = (a % 2 + b % 2) % 2 := by
  have h := Nat.testBit_xor (x := a) (y := b) (i := 0)
  rw [Nat.testBit_zero, Nat.testBit_zero, Nat.testBit_zero] at h
  rcases Nat.mod_two_eq_zero_or_one a with ha | ha <;> rcases Nat.mod_two_eq_zero_or_one b with hb | hb <;> rcases Nat.mod_two_eq_zero_or_one (a ^^^ b) with hc | hc <;> rw [ha, hb, hc] at h <;> rw [ha, hb, hc] <;> simp at h
theorem T_xor (a b : Nat) : T (a ^^^ b) = T a ^^^ T b := by
  unfold T
  rw [xor_half, xor_odd]
  by_cases ha : a % 2 = 1 <;> by_cases hb : b % 2 = 1
  · rw [if_neg (by omega), if_pos ha, if_pos hb]
    rw [Nat.xor_comm (b / 2) M, Nat.xor_assoc, ← Nat.xor_assoc M M, Nat.xor_self, Nat.zero_xor]
  · rw [if_pos (by omega), if_pos ha, if_neg hb]
    rw [Nat.xor_assoc, Nat.xor_comm (b / 2) M, ← Nat.xor_assoc]
  · rw [if_pos (by omega), if_neg ha, if_pos hb, Nat.xor_assoc]
  · rw [if_neg (by omega), if_neg ha, if_neg hb]
theorem T_zero : T 0 = 0 := rfl
theorem T_double (a : Nat) : T (2 * a) = a := by unfold T; rw [if_neg (by omega)]; omega
theorem itT_xor : ∀ (n a b : Nat), itT n (a ^^^ b) = itT n a ^^^ itT n b
  | 0, _, _ => rfl
  | n + 1, a, b => by simp only [itT]; rw [T_xor, itT_xor n]
theorem itT_zero : ∀ n, itT n 0 = 0
  | 0 => rfl
  | n + 1 => by simp only [itT]; rw [T_zero, itT_zero n]
theorem itT_shift : ∀ (n a : Nat), itT n (2 ^ n * a) = a
  | 0, a => by simp [itT]
  | n + 1, a => by
    simp only [itT]
    rw [show 2 ^ (n + 1) * a = 2 * (2 ^ n * a) by rw [Nat.pow_succ]; ac_rfl, T_double, itT_shift n]
theorem itT_add : ∀ (m n a : Nat), itT (m + n) a = itT n (itT m a)
  | 0, n, a => by simp [itT]
  | m + 1, n, a => by rw [show m + 1 + n = (m + n) + 1 by omega]; simp only [itT]; exact itT_add m n (T a)
theorem xor_split (n r : Nat) : r = 2 ^ n * (r / 2 ^ n) ^^^ r % 2 ^ n := by
  apply Nat.eq_of_testBit_eq; intro i
  rw [Nat.testBit_xor, Nat.testBit_two_pow_mul, Nat.testBit_mod_two_pow, Nat.testBit_div_two_pow]
  by_cases h : n ≤ i
  · have h2 : ¬ i < n := by omega
    simp [h, h2, Nat.sub_add_cancel h]
  · have h2 : i < n := by omega
    simp [h, h2]
theorem nib (r : Nat) : r / 16 ^^^ itT 4 (r % 16) = itT 4 r := by
  have h := xor_split 4 r
  have e : itT 4 r = itT 4 (2 ^ 4 * (r / 2 ^ 4) ^^^ r % 2 ^ 4) := by rw [← h]
  rw [e, itT_xor, itT_shift]
theorem two_nibs (r : Nat) : itT 4 (itT 4 r) = itT 8 r := (itT_add 4 4 r).symm
theorem M_lt : M < 2 ^ 32 := by decide
theorem T_lt (r : Nat) (h : r < 2 ^ 32) : T r < 2 ^ 32 := by
  unfold T; split
  · exact Nat.xor_lt_two_pow (by omega) M_lt
  · omega
theorem itT_lt : ∀ (n r : Nat), r < 2 ^ 32 → itT n r < 2 ^ 32
  | 0, _, h => h
  | n + 1, r, h => itT_lt n _ (T_lt r h)
theorem ov_lt : ∀ (l : List Nat) (r : Nat), r < 2 ^ 32 → (∀ x ∈ l, x < 256) → ov r l < 2 ^ 32
  | [], _, h, _ => h
  | x :: l, r, h, hl => by
    have hx : x < 256 := hl x (List.mem_cons_self ..)
    exact ov_lt l _ (itT_lt 8 _ (Nat.xor_lt_two_pow h (by omega))) (fun y hy => hl y (List.mem_cons_of_mem _ hy))
theorem ov_append (r : Nat) (a b : List Nat) : ov r (a ++ b) = ov (ov r a) b := List.foldl_append
theorem ov_cons (r x : Nat) (l : List Nat) : ov r (x :: l) = ov (itT 8 (r ^^^ x)) l := rfl
theorem ov_nil (r : Nat) : ov r [] = r := rfl
/-- The sum that goes on from another. -/
def more (s : Nat) (l : List Nat) : Nat := 4294967295 - ov (4294967295 - s) l
theorem more_int (r n : Nat) (l : List Nat) (h : n = 4294967295 - r) (hv : ov n l < 2 ^ 32) : (4294967295 : Int) - (ov n l : Nat) = ((more r l : Nat) : Int) := by
  subst h; unfold more; omega
theorem more_lt (r : Nat) (l : List Nat) : more r l < 2 ^ 32 := by unfold more; omega
end Crc
end Go.Proofs.YtbcmjjcbjojakaaDoor
end
section
namespace Go.Proofs.YtbcmjjcbjojakaaDoor
open Go.RowKit
set_option linter.unusedVariables false
theorem and1_u32 (R : Int) (h1 : 0 ≤ R) (h2 : R ≤ 4294967295) : bits .and .u32 R 1 = R % 2 := by
  rw [u32_and R 1 h1 (by omega) (by omega) (by omega), show (1 : Int).toNat = 1 from rfl, Nat.and_one_is_mod]; omega
theorem and15_u32 (R : Int) (h1 : 0 ≤ R) (h2 : R ≤ 4294967295) : bits .and .u32 R 15 = R % 16 := by
  rw [u32_and R 15 h1 (by omega) (by omega) (by omega), show (15 : Int).toNat = 15 from rfl, nat_mask4]; omega
theorem xor_u32 (a b : Nat) (ha : a < 4294967296) (hb : b < 4294967296) (A B : Int) (hA : A = a) (hB : B = b) : bits .xor .u32 A B = ((a ^^^ b : Nat) : Int) := by
  subst hA hB; exact u32_xor_nat a b ha hb
set_option maxHeartbeats 400000 in
theorem step_any (w : World) (R : Int) (h1 : 0 ≤ R) (h2 : R ≤ 4294967295) :
    Calls Tryd.prog 80 #[.int .u32 R] w fun e w' => e = .returned (.int .u32 ((Crc.T R.toNat : Nat) : Int)) ∧ w = w' := by
  have ha := and1_u32 R h1 h2
  by_cases h : R % 2 = 1
  · have e : (bits .and .u32 R 1 == 1) = true := by rw [ha, h]; rfl
    have HR : Hid (R % 2 = 1) := h
    clear ha h
    go_enter Tryd.func80, Tryd.ntmps80
    go_wp2
    go_ret
    refine ⟨ret_int ?_, rfl⟩
    have := HR.out
    unfold Crc.T
    rw [if_pos (by omega)]
    exact xor_u32 (R.toNat / 2) Crc.M (by omega) (by decide) _ _ (by omega) rfl
  · have e : (bits .and .u32 R 1 == 1) = false := by rw [ha, beq_eq_false_iff_ne]; exact h
    have HR : Hid (¬ R % 2 = 1) := h
    clear ha h
    go_enter Tryd.func80, Tryd.ntmps80
    go_wp2
    go_ret
    refine ⟨ret_int ?_, rfl⟩
    have := HR.out
    unfold Crc.T
    rw [if_neg (by omega)]
    omega
theorem step_nat (w : World) (r : Nat) (h : r < 4294967296) :
    Calls Tryd.prog 80 #[.int .u32 (r : Int)] w fun e w' => e = .returned (.int .u32 ((Crc.T r : Nat) : Int)) ∧ w = w' := by
  have := step_any w (r : Int) (by omega) (by omega)
  rw [Int.toNat_natCast] at this
  exact this
theorem cell_nat (n : Nat) : (.int .u32 (n : Int) : Value) = .int .u32 (n : Int) := rfl
/-- The table of crc.halves. -/
def tbl : Array Value := ((List.range 16).map fun i => Value.int .u32 ((Crc.itT 4 i : Nat) : Int)).toArray
set_option maxRecDepth 100000 in
set_option maxHeartbeats 2000000 in
theorem halves_any (w : World) :
    Calls Tryd.prog 65 #[] w fun e w' => e = .returned (.agg tbl) ∧ Below w.heap.size w w' := by
  go_enter Tryd.func65, Tryd.ntmps65
  go_wp2_with fail
  refine wp_loop_rounds 17 ?_
  iterate 17 (rw [rounds_succ]; go_wp2_with (go_at_call 80; first | ((with_reducible refine (step_nat _ _ (by decide)).mono ?_); rintro e w' ⟨rfl, rfl⟩) | (refine (step_any _ _ (by omega) (by omega)).mono ?_; rintro e w' ⟨rfl, rfl⟩)))
  refine bodyPost_ret (v := .agg tbl) ?_ rfl ⟨rfl, ?_⟩
  · simp [results, Tryd.results65, go_sem]
    rfl
  · go_grown
end Go.Proofs.YtbcmjjcbjojakaaDoor
end
section
namespace Go.Proofs.YtbcmjjcbjojakaaDoor
open Go.RowKit
set_option linter.unusedVariables false
theorem tbl_lit : tbl = #[.int .u32 ((Crc.itT 4 0 : Nat) : Int), .int .u32 ((Crc.itT 4 1 : Nat) : Int), .int .u32 ((Crc.itT 4 2 : Nat) : Int), .int .u32 ((Crc.itT 4 3 : Nat) : Int), .int .u32 ((Crc.itT 4 4 : Nat) : Int), .int .u32 ((Crc.itT 4 5 : Nat) : Int), .int .u32 ((Crc.itT 4 6 : Nat) : Int), .int .u32 ((Crc.itT 4 7 : Nat) : Int), .int .u32 ((Crc.itT 4 8 : Nat) : Int), .int .u32 ((Crc.itT 4 9 : Nat) : Int), .int .u32 ((Crc.itT 4 10 : Nat) : Int), .int .u32 ((Crc.itT 4 11 : Nat) : Int), .int .u32 ((Crc.itT 4 12 : Nat) : Int), .int .u32 ((Crc.itT 4 13 : Nat) : Int), .int .u32 ((Crc.itT 4 14 : Nat) : Int), .int .u32 ((Crc.itT 4 15 : Nat) : Int)] := rfl
set_option maxRecDepth 100000 in
set_option maxHeartbeats 400000 in
theorem over_any (w : World) (R : Int) (h1 : 0 ≤ R) (h2 : R ≤ 4294967295) (A : Option Addr) (n c B : Nat) (l : List Nat) (hr : Rd w B A n (cb l)) (hB : B ≤ w.heap.size) (hl : ∀ x ∈ l, x < 256) (hn : n ≤ 140737488355328) :
    Calls Tryd.prog 57 #[.int .u32 R, .slice A n c] w fun e w' => e = .returned (.int .u32 ((Crc.ov R.toNat l : Nat) : Int)) ∧ Below w.heap.size w w' := by
  have HH : Hid (Rd w B A n (cb l) ∧ B ≤ w.heap.size ∧ (∀ x ∈ l, x < 256) ∧ n ≤ 140737488355328) := ⟨hr, hB, hl, hn⟩
  clear hr hB hl hn
  go_enter Tryd.func57, Tryd.ntmps57
  go_wp2_with (go_at_call 65; refine (halves_any _).mono ?_; rw [tbl_lit]; rintro e w1 ⟨rfl, hb1⟩)
  rw [← tbl_lit]
  have HW : Hid (Below w.heap.size w (w1.alloc (.cells tbl 109)) ∧ ∀ k, k < 16 → (w1.alloc (.cells tbl 109)).cell? ⟨w1.heap.size, k, none⟩ = some (.int .u32 ((Crc.itT 4 k : Nat) : Int))) := by
    refine ⟨hb1.alloc hb1.size _, fun k hk => ?_⟩
    rw [cell_of_row _ w1.heap.size k tbl 109 (0, 0) (heap_alloc_new w1 _)]
    unfold tbl
    simp [hk]
  obtain ⟨W2, hW2⟩ : ∃ W2, w1.alloc (.cells tbl 109) = W2 := ⟨_, rfl⟩
  rw [hW2] at HW ⊢
  clear hW2 hb1
  have hR : Hid (Rd W2 B A n (cb l)) := HH.out.1.below (HW.out.1.mono HH.out.2.1)
  have hnn : n ≤ 140737488355328 := HH.out.2.2.2
  go_loop [0, 11] (fun r i => ∃ k : Nat, k ≤ n ∧ i = .int .i64 k ∧ r = .int .u32 ((Crc.ov R.toNat (l.take k) : Nat) : Int)) (fun _ i => n - (intOf i).toNat)
  case atStart => exact ⟨0, by omega, rfl, by simp [Crc.ov]; omega⟩
  case round =>
    obtain ⟨k, hk, rfl, rfl⟩ := hrel
    have hll : l.length = n := by have := hR.out.1; rw [cb_length] at this; exact this
    have hp : Crc.ov R.toNat (l.take k) < 2 ^ 32 := Crc.ov_lt _ _ (by omega) (fun x hx => HH.out.2.2.1 x (List.mem_of_mem_take hx))
    by_cases hlt : k < n
    · obtain ⟨g, off, v, hA, _, hx, hc⟩ := hR.out.at_ hlt
      rw [cb_get _ _ (by omega)] at hx
      injection hx with hx
      have hxb : l.getD k 0 < 256 := by
        rw [List.getD_eq_getElem?_getD, List.getElem?_eq_getElem (by omega)]
        exact HH.out.2.2.1 _ (List.getElem_mem _)
      have hstep : Crc.ov R.toNat (l.take (k + 1)) = Crc.itT 8 (Crc.ov R.toNat (l.take k) ^^^ l.getD k 0) := by
        rw [List.take_succ_eq_append_getElem (by omega), Crc.ov_append, Crc.ov_cons, Crc.ov_nil, List.getD_eq_getElem?_getD, List.getElem?_eq_getElem (by omega)]; rfl
      have HS := hid hstep
      clear hstep
      generalize Crc.ov R.toNat (l.take k) = p at *
      generalize l.getD k 0 = x at *
      have q1 : p ^^^ x < 2 ^ 32 := Nat.xor_lt_two_pow hp (by omega)
      have hn1 := Crc.nib (p ^^^ x)
      have q2 : Crc.itT 4 (p ^^^ x) < 2 ^ 32 := Crc.itT_lt 4 _ q1
      have hn2 := Crc.nib (Crc.itT 4 (p ^^^ x))
      rw [Crc.two_nibs] at hn2
      have E1 := u32_xor_nat p x (by omega) (by omega)
      have E2 := and15_u32 ((p ^^^ x : Nat) : Int) (by omega) (by omega)
      have C1 := HW.out.2 ((p ^^^ x) % 16) (by omega)
      have i1 : Crc.itT 4 ((p ^^^ x) % 16) < 2 ^ 32 := Crc.itT_lt 4 _ (by omega)
      have E3 := xor_u32 ((p ^^^ x) / 16) (Crc.itT 4 ((p ^^^ x) % 16)) (by omega) (by omega) (((p ^^^ x : Nat) : Int) / 16) _ (by omega) rfl
      rw [hn1] at E3
      have E4 := and15_u32 ((Crc.itT 4 (p ^^^ x) : Nat) : Int) (by omega) (by omega)
      have C2 := HW.out.2 (Crc.itT 4 (p ^^^ x) % 16) (by omega)
      have i2 : Crc.itT 4 (Crc.itT 4 (p ^^^ x) % 16) < 2 ^ 32 := Crc.itT_lt 4 _ (by omega)
      have E5 := xor_u32 (Crc.itT 4 (p ^^^ x) / 16) (Crc.itT 4 (Crc.itT 4 (p ^^^ x) % 16)) (by omega) (by omega) (((Crc.itT 4 (p ^^^ x) : Nat) : Int) / 16) _ (by omega) rfl
      rw [hn2, ← HS.out] at E5
      generalize Crc.itT 4 ((p ^^^ x) % 16) = v1 at *
      generalize Crc.itT 4 (Crc.itT 4 (p ^^^ x) % 16) = v2 at *
      obtain ⟨z, hz⟩ : ∃ z, Crc.ov R.toNat (l.take (k + 1)) = z := ⟨_, rfl⟩
      rw [hz] at E5
      have HZ := hid hz
      clear hz
      clear hn1 hn2 HS
      generalize Crc.itT 4 (p ^^^ x) = y at *
      generalize p ^^^ x = q at *
      have b1 : (0 : Int) ≤ (q : Int) ∧ (q : Int) ≤ 4294967295 := by omega
      have b2 : (0 : Int) ≤ (y : Int) ∧ (y : Int) ≤ 4294967295 := by omega
      have b0 : (0 : Int) ≤ (x : Int) ∧ (x : Int) ≤ 255 := by omega
      have e2 : (q : Int) % 16 = ((q % 16 : Nat) : Int) := by omega
      have e4 : (y : Int) % 16 = ((y % 16 : Nat) : Int) := by omega
      rw [e2] at E2
      rw [e4] at E4
      have m1 : q % 16 < 16 := by omega
      have m2 : y % 16 < 16 := by omega
      generalize q % 16 = j1 at *
      generalize y % 16 = j2 at *
      clear e2 e4 hp hxb q1 q2 i1 i2
      obtain ⟨Q, hQ⟩ : ∃ Q : Int, (q : Int) = Q := ⟨_, rfl⟩
      obtain ⟨Y, hY⟩ : ∃ Y : Int, (y : Int) = Y := ⟨_, rfl⟩
      obtain ⟨X, hX⟩ : ∃ X : Int, (x : Int) = X := ⟨_, rfl⟩
      obtain ⟨PP, hP⟩ : ∃ X : Int, (p : Int) = X := ⟨_, rfl⟩
      rw [hX] at E1 hx b0
      rw [hP] at E1 ⊢
      obtain ⟨b5, b6⟩ := b0
      rw [hQ] at E1 E2 E3 b1
      rw [hY] at E3 E4 E5 b2
      obtain ⟨b1, b3⟩ := b1
      obtain ⟨b2, b4⟩ := b2
      clear hQ hY hX hP
      subst hx
      subst hA
      go_wp2
      go_round
      case rel => exact ⟨k + 1, by omega, by go_num, by rw [HZ.out]⟩
      case measure => simp [intOf]; omega
    · have hkn : k = n := by omega
      subst hkn
      have hfin : Crc.ov R.toNat (l.take k) = Crc.ov R.toNat l := by rw [← hll, List.take_length]
      rw [hfin]
      have HF := hid hfin
      clear hfin hp hll
      go_wp2
      go_ret
      exact ⟨rfl, HW.out.1⟩
end Go.Proofs.YtbcmjjcbjojakaaDoor
end
section
namespace Go.Proofs.YtbcmjjcbjojakaaDoor
open Go.RowKit
set_option linter.unusedVariables false
theorem not_u32 (R : Int) (h1 : 0 ≤ R) (h2 : R ≤ 4294967295) : bits .xor .u32 4294967295 R = 4294967295 - R := by
  obtain ⟨r, rfl⟩ := Int.eq_ofNat_of_zero_le h1
  have h := u32_xor_nat 4294967295 r (by omega) (by omega)
  rw [show ((4294967295 : Nat) : Int) = 4294967295 from rfl] at h
  rw [h]
  have e : 4294967295 ^^^ r = 4294967295 - r := by
    apply Nat.eq_of_testBit_eq; intro i
    have := Nat.testBit_two_pow_sub_succ (n := 32) (x := r) (by omega) i
    rw [Nat.testBit_xor, show 4294967295 - r = 2 ^ 32 - (r + 1) by omega, this, show 4294967295 = 2 ^ 32 - 1 from rfl, Nat.testBit_two_pow_sub_one]
    by_cases hi : i < 32
    · simp [hi]
    · have : r.testBit i = false := Nat.testBit_lt_two_pow (Nat.lt_of_lt_of_le (by omega : r < 2 ^ 32) (Nat.pow_le_pow_right (by omega) (by omega)))
      simp [hi, this]
  rw [e]; omega
theorem max_u32 : IntKind.u32.max = 4294967295 := rfl
section
variable (w : World) (A : Option Addr) (n c B : Nat) (l : List Nat)
set_option maxHeartbeats 400000 in
theorem more_any (R : Int) (h1 : 0 ≤ R) (h2 : R ≤ 4294967295) (hr : Rd w B A n (cb l)) (hB : B ≤ w.heap.size) (hl : ∀ x ∈ l, x < 256) (hn : n ≤ 140737488355328) :
    Calls Tryd.prog 51 #[.int .u32 R, .slice A n c] w fun e w' => e = .returned (.int .u32 ((Crc.more R.toNat l : Nat) : Int)) ∧ Below w.heap.size w w' := by
  have HH : Hid (Rd w B A n (cb l) ∧ B ≤ w.heap.size ∧ (∀ x ∈ l, x < 256) ∧ n ≤ 140737488355328) := ⟨hr, hB, hl, hn⟩
  clear hr hB hl hn
  have e1 : bits .xor .u32 IntKind.u32.max R = 4294967295 - R := by rw [max_u32]; exact not_u32 R h1 h2
  obtain ⟨N, hN⟩ : ∃ N : Int, 4294967295 - R = N := ⟨_, rfl⟩
  rw [hN] at e1
  have n1 : 0 ≤ N := by omega
  have n2 : N ≤ 4294967295 := by omega
  have HN := hid hN
  clear hN
  have hv := Crc.ov_lt l N.toNat (by omega) HH.out.2.2.1
  have e2 : bits .xor .u32 IntKind.u32.max ((Crc.ov N.toNat l : Nat) : Int) = 4294967295 - ((Crc.ov N.toNat l : Nat) : Int) := by rw [max_u32]; exact not_u32 _ (by omega) (by omega)
  have HV := hid hv
  clear hv
  go_enter Tryd.func51, Tryd.ntmps51
  go_wp2_with fail
  refine (over_any w N n1 n2 A n c B l HH.out.1 HH.out.2.1 HH.out.2.2.1 HH.out.2.2.2).mono ?_
  rintro e w1 ⟨rfl, hb1⟩
  go_wp2_with fail
  go_ret
  have hx := Crc.more_int R.toNat N.toNat l (by have := HN.out; omega) HV.out
  refine ⟨?_, hb1⟩
  show Ending.returned (.int .u32 (4294967295 - ((Crc.ov N.toNat l : Nat) : Int))) = _
  rw [hx]
set_option maxHeartbeats 400000 in
theorem sum_any (hr : Rd w B A n (cb l)) (hB : B ≤ w.heap.size) (hl : ∀ x ∈ l, x < 256) (hn : n ≤ 140737488355328) :
    Calls Tryd.prog 44 #[.slice A n c] w fun e w' => e = .returned (.int .u32 ((Crc.more 0 l : Nat) : Int)) ∧ Below w.heap.size w w' := by
  have HH : Hid (Rd w B A n (cb l) ∧ B ≤ w.heap.size ∧ (∀ x ∈ l, x < 256) ∧ n ≤ 140737488355328) := ⟨hr, hB, hl, hn⟩
  clear hr hB hl hn
  go_enter Tryd.func44, Tryd.ntmps44
  go_wp2_with fail
  refine (more_any w A n c B l 0 (by omega) (by omega) HH.out.1 HH.out.2.1 HH.out.2.2.1 HH.out.2.2.2).mono ?_
  rintro e w1 ⟨rfl, hb1⟩
  go_wp2_with fail
  go_ret
  exact ⟨rfl, hb1⟩
end
end Go.Proofs.YtbcmjjcbjojakaaDoor
end
section
namespace Go.Proofs.YtbcmjjcbjojakaaDoor
open Go.RowKit
set_option linter.unusedVariables false
/-- A stream in block g, at place o of the cells xs: its sum, its count. -/
structure Strm (w : World) (g o : Nat) (xs : Array Value) (t S C : Nat) : Prop where
  heap : w.heap[g]? = some (.cells xs t)
  x0 : xs[o]? = some (.int .u32 (S : Int))
  x1 : xs[o + 1]? = some (.int .u64 (C : Int))
  s : S < 4294967296
  c : C < 18446744073709551616
/-- The cells with another stream at place o. -/
def put2 (xs : Array Value) (o S C : Nat) : Array Value := (xs.setIfInBounds o (.int .u32 (S : Int))).setIfInBounds (o + 1) (.int .u64 (C : Int))
section
variable {w w' : World} {g o t S C : Nat} {xs : Array Value}
theorem Strm.lt (h : Strm w g o xs t S C) : g < w.heap.size := (Array.getElem?_eq_some_iff.1 h.heap).1
theorem Strm.below {B : Nat} (h : Strm w g o xs t S C) (b : Below B w w') (hg : g < B) : Strm w' g o xs t S C := ⟨by rw [b.block g hg]; exact h.heap, h.x0, h.x1, h.s, h.c⟩
theorem Strm.grown {row : Option Nat} (h : Strm w g o xs t S C) (b : w.grownBy w' row) (hg : row ≠ some g) : Strm w' g o xs t S C := ⟨by rw [b.block g h.lt (fun e => hg e.symm)]; exact h.heap, h.x0, h.x1, h.s, h.c⟩
theorem Strm.cell0 (h : Strm w g o xs t S C) : w.cell? ⟨g, o, none⟩ = some (.int .u32 (S : Int)) := by rw [cell_of_row w g o _ _ (0, 0) h.heap]; exact h.x0
theorem Strm.cell1 (h : Strm w g o xs t S C) : w.cell? ⟨g, o + 1, none⟩ = some (.int .u64 (C : Int)) := by rw [cell_of_row w g (o + 1) _ _ (0, 0) h.heap]; exact h.x1
theorem Strm.free (h : Strm w g o xs t S C) (i : Nat) : w.frozen? ⟨g, i, none⟩ = false := by simp [World.frozen?, h.heap]
theorem Strm.in0 (h : Strm w g o xs t S C) : o < xs.size := (Array.getElem?_eq_some_iff.1 h.x0).1
theorem Strm.in1 (h : Strm w g o xs t S C) : o + 1 < xs.size := (Array.getElem?_eq_some_iff.1 h.x1).1
theorem heap_set (w : World) (g i : Nat) (u : Value) (xs : Array Value) (t : Nat) (h : w.heap[g]? = some (.cells xs t)) : (w.setCell ⟨g, i, none⟩ u).heap[g]? = some (.cells (xs.setIfInBounds i u) t) := by
  simp only [World.setCell]
  rw [Array.getElem?_modify, if_pos rfl, h]
  rfl
theorem grown_set (w : World) (g i : Nat) (u : Value) : w.grownBy (w.setCell ⟨g, i, none⟩ u) (some g) :=
  ⟨rfl, rfl, rfl, by simp [World.setCell], fun k hk hne => Below.heap_setCell _ _ _ _ (fun e => hne (by rw [e]))⟩
theorem Strm.set0 (h : Strm w g o xs t S C) {S' : Nat} (hs : S' < 4294967296) : Strm (w.setCell ⟨g, o, none⟩ (.int .u32 (S' : Int))) g o (xs.setIfInBounds o (.int .u32 (S' : Int))) t S' C := by
  refine ⟨heap_set w g o _ xs t h.heap, ?_, ?_, hs, h.c⟩
  · rw [Array.getElem?_setIfInBounds, if_pos rfl, if_pos h.in0]
  · rw [Array.getElem?_setIfInBounds, if_neg (by omega)]; exact h.x1
theorem Strm.set1 (h : Strm w g o xs t S C) {C' : Nat} (hs : C' < 18446744073709551616) : Strm (w.setCell ⟨g, o + 1, none⟩ (.int .u64 (C' : Int))) g o (xs.setIfInBounds (o + 1) (.int .u64 (C' : Int))) t S C' := by
  refine ⟨heap_set w g (o + 1) _ xs t h.heap, ?_, ?_, h.s, hs⟩
  · rw [Array.getElem?_setIfInBounds, if_neg (by omega)]; exact h.x0
  · rw [Array.getElem?_setIfInBounds, if_pos rfl, if_pos h.in1]
theorem below_own {B : Nat} (h : Below B w w') (hB : B = w.heap.size) (row : Option Nat) : w.grownBy w' row := ⟨h.os, h.tape, h.output, h.size, fun k hk _ => h.block k (by omega)⟩
theorem wrap_u64 (x : Nat) : IntKind.u64.wrap (x : Int) = ((x % 18446744073709551616 : Nat) : Int) := by
  simp [IntKind.wrap, IntKind.bits, IntKind.signed]
end
theorem ssum_any (w : World) (g o t S C : Nat) (xs : Array Value) (h : Strm w g o xs t S C) :
    Calls Tryd.prog 45 #[.pointer (some ⟨g, o, none⟩)] w fun e w' => e = .returned (.int .u32 (S : Int)) ∧ w = w' := by
  have h0 := h.cell0
  have HH := Hd.mk h
  clear h
  go_enter Tryd.func45, Tryd.ntmps45
  go_wp2_with fail
  go_ret
  exact ⟨rfl, rfl⟩
set_option maxHeartbeats 400000 in
theorem write_any (w : World) (g o t S C : Nat) (xs : Array Value) (A : Option Addr) (n c B : Nat) (l : List Nat) (h : Strm w g o xs t S C) (hr : Rd w B A n (cb l)) (hB : B ≤ w.heap.size) (hl : ∀ x ∈ l, x < 256) (hn : n ≤ 140737488355328) :
    Calls Tryd.prog 42 #[.pointer (some ⟨g, o, none⟩), .slice A n c] w fun e w' => e = .returned (.tuple #[]) ∧ Strm w' g o (put2 xs o (Crc.more S l) ((C + n) % 18446744073709551616)) t (Crc.more S l) ((C + n) % 18446744073709551616) ∧ w.grownBy w' (some g) := by
  have c0 := h.cell0
  have HH := Hd.mk h
  have HR : Hd (Rd w B A n (cb l) ∧ (∀ x ∈ l, x < 256)) := ⟨hr, hl⟩
  have hs := h.s
  clear h hr hl
  go_enter Tryd.func42, Tryd.ntmps42
  go_wp2_with fail
  refine (more_any w A n c B l (S : Int) (by omega) (by omega) HR.out.1 hB HR.out.2 hn).mono ?_
  rw [Int.toNat_natCast]
  rintro e w1 ⟨rfl, hb⟩
  have H1 : Hd (Strm w1 g o xs t S C ∧ Below w.heap.size w w1) := ⟨HH.out.below hb HH.out.lt, hb⟩
  have hml := Crc.more_lt S l
  obtain ⟨M, hM⟩ : ∃ M, Crc.more S l = M := ⟨_, rfl⟩
  have HM := Hd.mk hM
  rw [hM] at hml ⊢
  clear hM
  have H2 : Hd (Strm (w1.setCell ⟨g, o, none⟩ (.int .u32 (M : Int))) g o (xs.setIfInBounds o (.int .u32 (M : Int))) t M C) := ⟨H1.out.1.set0 (by omega)⟩
  have d0 := H1.out.1.cell0
  have f0 := H1.out.1.free o
  have d1 := H2.out.cell1
  have f1 := H2.out.free (o + 1)
  have hc := H2.out.c
  clear hb c0
  go_wp2_with fail
  go_end0
  rw [HM.out, show (C : Int) + (n : Int) = ((C + n : Nat) : Int) by omega, wrap_u64]
  exact ⟨rfl, H2.out.set1 (Nat.mod_lt _ (by omega)), ((below_own H1.out.2 rfl _).trans (grown_set ..)).trans (grown_set ..)⟩
theorem swrite_nil (w : World) (A : Option Addr) (n c : Nat) : Calls Tryd.prog 42 #[.pointer none, .slice A n c] w fun e w' => e = .returned (.tuple #[]) ∧ w = w' := by
  go_enter Tryd.func42, Tryd.ntmps42
  go_wp2_with fail
  (try simp only [Exit.inBlock, Exit.then])
  refine bodyPost_ret (results_none rfl _ _ _) rfl ?_
  exact ⟨rfl, rfl⟩
theorem sreset_nil (w : World) : Calls Tryd.prog 54 #[.pointer none] w fun e w' => e = .returned (.tuple #[]) ∧ w = w' := by
  go_enter Tryd.func54, Tryd.ntmps54
  go_wp2_with fail
  go_end0
  exact ⟨rfl, rfl⟩
theorem ssum_nil (w : World) : Calls Tryd.prog 45 #[.pointer none] w fun e w' => e = .returned (.int .u32 0) ∧ w = w' := by
  go_enter Tryd.func45, Tryd.ntmps45
  go_wp2_with fail
  go_ret
  exact ⟨rfl, rfl⟩
theorem sreset_any (w : World) (g o t S C : Nat) (xs : Array Value) (h : Strm w g o xs t S C) :
    Calls Tryd.prog 54 #[.pointer (some ⟨g, o, none⟩)] w fun e w' => e = .returned (.tuple #[]) ∧ Strm w' g o (put2 xs o 0 0) t 0 0 ∧ w.grownBy w' (some g) := by
  have h0 := h.cell0
  have h1 := h.cell1
  have f0 := h.free o
  have f1 := h.free (o + 1)
  have HH := Hd.mk h
  clear h
  go_enter Tryd.func54, Tryd.ntmps54
  go_wp2_with fail
  go_end0
  exact ⟨rfl, (HH.out.set0 (S' := 0) (by omega)).set1 (C' := 0) (by omega), (grown_set ..).trans (grown_set ..)⟩
end Go.Proofs.YtbcmjjcbjojakaaDoor
end
section
namespace Go.Proofs.YtbcmjjcbjojakaaDoor
namespace Crc
def trm : List Nat := [0, 4, 5, 6, 7, 9, 10, 12, 13, 14, 18, 19, 21, 22, 23, 24, 26, 32]
def rx (r : Nat) (L : List Nat) : Nat → List Nat
  | 0 => L
  | j + 1 => (rx r L j).set j ((rx r L j).getD j 0 ^^^ r / 2 ^ j % 2)
def tog (L : List Nat) (p : Nat) : List Nat := L.set p (L.getD p 0 ^^^ 1)
def tg (L : List Nat) (i : Nat) : Nat → List Nat
  | 0 => L
  | k + 1 => tog (tg L i k) (i + trm.getD k 0)
def gl (L : List Nat) : Nat → List Nat
  | 0 => L
  | i + 1 => if (gl L i).getD i 0 = 1 then tg (gl L i) i 18 else gl L i
def rs (L : List Nat) (n : Nat) : Nat → Nat
  | 0 => 0
  | j + 1 => rs L n j ||| L.getD (n + j) 0 * 2 ^ j
def Bin (L : List Nat) : Prop := ∀ j, L.getD j 0 < 2
theorem xor_lt2 {a b : Nat} (ha : a < 2) (hb : b < 2) : a ^^^ b < 2 := Nat.xor_lt_two_pow (n := 1) ha hb
theorem getD_set (L : List Nat) (p x j : Nat) : (L.set p x).getD j 0 = if p = j ∧ p < L.length then x else L.getD j 0 := by
  rw [List.getD_eq_getElem?_getD, List.getD_eq_getElem?_getD, List.getElem?_set]
  by_cases h : p = j
  · subst h
    by_cases h2 : p < L.length
    · simp [h2]
    · simp [h2]
  · simp [h]
theorem bin_set {L : List Nat} (h : Bin L) {p x : Nat} (hx : x < 2) : Bin (L.set p x) := by
  intro j; rw [getD_set]; split
  · exact hx
  · exact h j
theorem rx_len (r : Nat) (L : List Nat) : ∀ j, (rx r L j).length = L.length
  | 0 => rfl
  | j + 1 => by simp only [rx, List.length_set, rx_len r L j]
theorem rx_bin (r : Nat) (L : List Nat) (h : Bin L) : ∀ j, Bin (rx r L j)
  | 0 => h
  | j + 1 => bin_set (rx_bin r L h j) (xor_lt2 (rx_bin r L h j j) (by omega))
theorem tg_len (L : List Nat) (i : Nat) : ∀ k, (tg L i k).length = L.length
  | 0 => rfl
  | k + 1 => by simp only [tg, tog, List.length_set, tg_len L i k]
theorem tg_bin (L : List Nat) (i : Nat) (h : Bin L) : ∀ k, Bin (tg L i k)
  | 0 => h
  | k + 1 => bin_set (tg_bin L i h k) (xor_lt2 (tg_bin L i h k _) (by omega))
theorem gl_len (L : List Nat) : ∀ i, (gl L i).length = L.length
  | 0 => rfl
  | i + 1 => by simp only [gl]; split <;> simp only [tg_len, gl_len L i]
theorem gl_bin (L : List Nat) (h : Bin L) : ∀ i, Bin (gl L i)
  | 0 => h
  | i + 1 => by
    simp only [gl]; split
    · exact tg_bin _ _ (gl_bin L h i) _
    · exact gl_bin L h i
theorem rs_lt (L : List Nat) (n : Nat) (h : Bin L) : ∀ j, rs L n j < 2 ^ j
  | 0 => by simp [rs]
  | j + 1 => by
    have h1 := rs_lt L n h j
    have h2 := h (n + j)
    simp only [rs]
    refine Nat.or_lt_two_pow (Nat.lt_of_lt_of_le h1 (Nat.pow_le_pow_right (by omega) (by omega))) ?_
    rw [Nat.pow_succ, Nat.mul_comm]
    exact Nat.mul_lt_mul_of_pos_left h2 (Nat.two_pow_pos j)
theorem trm_le : ∀ k, k < 18 → trm.getD k 0 ≤ 32 := by decide
/-- The bits of a byte in order; of bytes. -/
def b8 (x : Nat) : List Nat := (List.range 8).map fun k => x / 2 ^ k % 2
def bts (l : List Nat) : List Nat := l.flatMap b8
theorem bts_append (a b : List Nat) : bts (a ++ b) = bts a ++ bts b := List.flatMap_append
theorem b8_len (x : Nat) : (b8 x).length = 8 := by simp [b8]
theorem bts_len : ∀ (l : List Nat), (bts l).length = 8 * l.length
  | [] => rfl
  | x :: l => by rw [show x :: l = [x] ++ l from rfl, bts_append]; simp only [List.length_append, bts_len l]; simp [bts, b8_len]; omega
theorem b8_take (x j : Nat) (h : j < 8) : (b8 x).take (j + 1) = (b8 x).take j ++ [x / 2 ^ j % 2] := by
  rw [List.take_succ_eq_append_getElem (by rw [b8_len]; exact h)]; simp [b8]
theorem bts_mem : ∀ (l : List Nat), ∀ x ∈ bts l, x < 2
  | [], x, h => by simp [bts] at h
  | y :: l, x, h => by
    rw [show y :: l = [y] ++ l from rfl, bts_append] at h
    rcases List.mem_append.1 h with h | h
    · simp only [bts, List.flatMap_cons, List.flatMap_nil, List.append_nil, b8, List.mem_map] at h
      obtain ⟨k, _, rfl⟩ := h
      omega
    · exact bts_mem l x h
theorem bin_of_mem {L : List Nat} (h : ∀ x ∈ L, x < 2) : Bin L := by
  intro j
  rw [List.getD_eq_getElem?_getD]
  rcases Nat.lt_or_ge j L.length with hj | hj
  · rw [List.getElem?_eq_getElem hj]; exact h _ (List.getElem_mem hj)
  · rw [List.getElem?_eq_none hj]; simp
theorem bts_bin (l : List Nat) : Bin (bts l ++ List.replicate 32 0) := bin_of_mem fun x hx => by
  rcases List.mem_append.1 hx with h | h
  · exact bts_mem l x h
  · rw [(List.mem_replicate.1 h).2]; omega
/-- What the reference's gone computes. -/
def gn (r : Nat) (l : List Nat) : Nat := rs (gl (rx r (bts l ++ List.replicate 32 0) 32) (8 * l.length)) (8 * l.length) 32
end Crc
end Go.Proofs.YtbcmjjcbjojakaaDoor
end
section
namespace Go.Proofs.YtbcmjjcbjojakaaDoor
open Go.RowKit
set_option linter.unusedVariables false
/-- The cells of numbers. -/
def ci (l : List Nat) : List Value := l.map fun x : Nat => .int .i64 (x : Int)
theorem ci_append (a b : List Nat) : ci (a ++ b) = ci a ++ ci b := List.map_append
theorem ci_one (a : List Nat) : ∀ u ∈ ci a, u.oneCell' = true := by
  intro u hu; obtain ⟨x, _, rfl⟩ := List.mem_map.1 hu; rfl
theorem ci_len (a : List Nat) : (ci a).length = a.length := List.length_map _
theorem ci_get (a : List Nat) (k : Nat) (h : k < a.length) : (ci a)[k]? = some (.int .i64 ((a.getD k 0 : Nat) : Int)) := by
  unfold ci; rw [List.getElem?_map, List.getElem?_eq_getElem h, List.getD_eq_getElem?_getD, List.getElem?_eq_getElem h]; rfl
theorem infoI : (Tryd.prog.info? 3).map (fun i => (i.zero, i.size, i.bytes)) = some (some (.int .i64 0), 1, 8) := by kernel_rfl
theorem and1_i64 (R : Int) (h1 : 0 ≤ R) (h2 : R ≤ 9223372036854775807) : bits .and .i64 R 1 = R % 2 := by
  have := bits_mask .i64 63 (by decide) (fun n h0 h1 => by rw [IntKind.wrap_i64]; omega) 1 (by decide) R h1 (by omega)
  simpa using this
end Go.Proofs.YtbcmjjcbjojakaaDoor
end
section
namespace Go.Proofs.YtbcmjjcbjojakaaDoor
open Go.RowKit
set_option linter.unusedVariables false
theorem xor01 : ∀ a, a < 2 → ∀ b, b < 2 → bits .xor .i64 ((a : Nat) : Int) ((b : Nat) : Int) = ((a ^^^ b : Nat) : Int) := by decide
end Go.Proofs.YtbcmjjcbjojakaaDoor
end
section
namespace Go.Proofs.YtbcmjjcbjojakaaDoor
open Go.RowKit
set_option linter.unusedVariables false
theorem ci_set (L : List Nat) (j x : Nat) : (ci L).set j (.int .i64 (x : Int)) = ci (L.set j x) := by unfold ci; rw [List.map_set]
end Go.Proofs.YtbcmjjcbjojakaaDoor
end
section
namespace Go.Proofs.YtbcmjjcbjojakaaDoor
namespace Crc
/-- Bit q of x. -/
def bt (x q : Nat) : Nat := x / 2 ^ q % 2
theorem bt_tb (x q : Nat) : bt x q = (x.testBit q).toNat := (Nat.toNat_testBit x q).symm
theorem bt_xor (x y q : Nat) : bt (x ^^^ y) q = bt x q ^^^ bt y q := by
  rw [bt_tb, bt_tb, bt_tb, Nat.testBit_xor]
  cases x.testBit q <;> cases y.testBit q <;> rfl
theorem bt_lt (x q : Nat) : bt x q < 2 := by unfold bt; omega
theorem bt_big (x q : Nat) (h : x < 2 ^ q) : bt x q = 0 := by unfold bt; rw [Nat.div_eq_of_lt h]
theorem bt_half (x q : Nat) : bt (x / 2) q = bt x (q + 1) := by unfold bt; rw [Nat.div_div_eq_div_mul, Nat.pow_succ, Nat.mul_comm]
theorem bt_zero (x : Nat) : bt x 0 = x % 2 := by simp [bt]
theorem rx_hi (r : Nat) (L : List Nat) : ∀ (j p : Nat), j ≤ p → (rx r L j).getD p 0 = L.getD p 0
  | 0, p, _ => rfl
  | j + 1, p, h => by simp only [rx]; rw [getD_set, if_neg (by omega), rx_hi r L j p (by omega)]
theorem rx_lo (r : Nat) (L : List Nat) : ∀ (j p : Nat), p < j → p < L.length → (rx r L j).getD p 0 = L.getD p 0 ^^^ bt r p
  | 0, p, h, _ => by omega
  | j + 1, p, h, hp => by
    simp only [rx]
    rw [getD_set, rx_len]
    by_cases e : j = p
    · subst e; rw [if_pos ⟨rfl, hp⟩, rx_hi r L j j (Nat.le_refl _)]; rfl
    · rw [if_neg (by omega), rx_lo r L j p (by omega) hp]
theorem trm_new : ∀ k, k < 18 → trm.getD k 0 ∉ trm.take k := by decide
theorem trm_take : ∀ k, k < 18 → trm.take (k + 1) = trm.take k ++ [trm.getD k 0] := by decide
theorem tg_get (L : List Nat) (i p : Nat) (hp : p < L.length) : ∀ k, k ≤ 18 → (tg L i k).getD p 0 = L.getD p 0 ^^^ (if i ≤ p ∧ (p - i) ∈ trm.take k then 1 else 0)
  | 0, _ => by simp [tg]
  | k + 1, hk => by
    have ih := tg_get L i p hp k (by omega)
    have hn := trm_new k (by omega)
    simp only [tg, tog]
    rw [getD_set, tg_len, trm_take k (by omega)]
    by_cases e : i + trm.getD k 0 = p
    · rw [if_pos ⟨e, by omega⟩, e, ih]
      have e2 : p - i = trm.getD k 0 := by omega
      rw [e2, if_neg (by intro h; exact hn h.2), if_pos ⟨by omega, by simp⟩, Nat.xor_zero]
    · rw [if_neg (by intro h; exact e h.1), ih]
      congr 1
      by_cases hi : i ≤ p
      · have hne : ¬ p - i = trm.getD k 0 := by omega
        by_cases hm : p - i ∈ trm.take k
        · rw [if_pos ⟨hi, hm⟩, if_pos ⟨hi, List.mem_append.2 (.inl hm)⟩]
        · rw [if_neg (fun h => hm h.2), if_neg]
          rintro ⟨_, h⟩
          rcases List.mem_append.1 h with h | h
          · exact hm h
          · exact hne (List.mem_singleton.1 h)
      · rw [if_neg (fun h => hi h.1), if_neg (fun h => hi h.1)]
theorem M_bits : ∀ q, q < 32 → bt M q = if (q + 1) ∈ trm then 1 else 0 := by decide
theorem trm_no : ∀ t, t ∈ trm → t ≤ 32 := by decide
/-- The register gone over bits. -/
def sbq (r : Nat) (l : List Nat) : Nat := l.foldl (fun r m => T (r ^^^ m)) r
theorem sbq_lt : ∀ (l : List Nat) (r : Nat), r < 2 ^ 32 → (∀ x ∈ l, x < 2) → sbq r l < 2 ^ 32
  | [], _, h, _ => h
  | x :: l, r, h, hl => by
    have hx : x < 2 := hl x (List.mem_cons_self ..)
    exact sbq_lt l _ (T_lt _ (Nat.xor_lt_two_pow h (by omega))) (fun y hy => hl y (List.mem_cons_of_mem _ hy))
theorem T_bit (x q : Nat) (_hx : x < 2 ^ 32) (hq : q < 32) : bt (T x) q = bt x (q + 1) ^^^ (if x % 2 = 1 ∧ (q + 1) ∈ trm then 1 else 0) := by
  unfold T
  split
  · rename_i h
    rw [bt_xor, bt_half, M_bits q hq]; simp [h]
  · rename_i h
    rw [bt_half]; simp [h]
theorem gl_win (r : Nat) (L0 : List Nat) (n : Nat) (hr : r < 2 ^ 32) (hL : L0.length = n + 32) (hb : Bin L0) :
    ∀ i, i ≤ n → ∀ p, i ≤ p → p < n + 32 → (gl (rx r L0 32) i).getD p 0 = L0.getD p 0 ^^^ (if p < i + 32 then bt (sbq r (L0.take i)) (p - i) else 0)
  | 0, _, p, _, hp => by
    simp only [gl, List.take_zero, sbq, List.foldl_nil, Nat.zero_add, Nat.sub_zero]
    by_cases h : p < 32
    · rw [rx_lo r L0 32 p h (by omega), if_pos h]
    · rw [rx_hi r L0 32 p (by omega), if_neg h, Nat.xor_zero]
  | i + 1, hi, p, hip, hp => by
    have ih := gl_win r L0 n hr hL hb i (by omega)
    have hbt : L0.take (i + 1) = L0.take i ++ [L0.getD i 0] := by
      rw [List.take_succ_eq_append_getElem (by omega), List.getD_eq_getElem?_getD, List.getElem?_eq_getElem (by omega)]; rfl
    have hS : sbq r (L0.take i) < 2 ^ 32 := sbq_lt _ _ hr (fun x hx => by
      have hx' := List.mem_of_mem_take hx
      obtain ⟨j, hj, rfl⟩ := List.getElem_of_mem hx'
      have := hb j
      rw [List.getD_eq_getElem?_getD, List.getElem?_eq_getElem hj] at this
      exact this)
    have hstep : sbq r (L0.take (i + 1)) = T (sbq r (L0.take i) ^^^ L0.getD i 0) := by rw [hbt]; unfold sbq; rw [List.foldl_append]; rfl
    rw [hstep]
    generalize sbq r (L0.take i) = S at *
    have hm := hb i
    have h0 := ih i (Nat.le_refl _) (by omega)
    rw [if_pos (by omega), Nat.sub_self, bt_zero] at h0
    have hx : S ^^^ L0.getD i 0 < 2 ^ 32 := Nat.xor_lt_two_pow hS (by omega)
    have hodd : (gl (rx r L0 32) i).getD i 0 = (S ^^^ L0.getD i 0) % 2 := by
      rw [h0, ← bt_zero, ← bt_zero (S ^^^ L0.getD i 0), bt_xor, bt_zero (L0.getD i 0), Nat.mod_eq_of_lt hm, Nat.xor_comm]
    have hlen : (gl (rx r L0 32) i).length = n + 32 := by rw [gl_len, rx_len, hL]
    have hp' := ih p (by omega) hp
    have hbit : ∀ q, 1 ≤ q → bt (S ^^^ L0.getD i 0) q = bt S q := by
      intro q hq
      have : 2 ≤ 2 ^ q := by
        have : 2 ^ 1 ≤ 2 ^ q := Nat.pow_le_pow_right (by omega) hq
        omega
      rw [bt_xor, bt_big (L0.getD i 0) q (by omega), Nat.xor_zero]
    have main : (gl (rx r L0 32) (i + 1)).getD p 0 = (gl (rx r L0 32) i).getD p 0 ^^^ (if (S ^^^ L0.getD i 0) % 2 = 1 ∧ (p - i) ∈ trm then 1 else 0) := by
      simp only [gl]
      by_cases h : (gl (rx r L0 32) i).getD i 0 = 1
      · rw [if_pos h, tg_get _ i p (by omega) 18 (by omega)]
        have e : trm.take 18 = trm := rfl
        rw [e]
        have h2 : (S ^^^ L0.getD i 0) % 2 = 1 := by omega
        by_cases hmm : p - i ∈ trm
        · rw [if_pos ⟨by omega, hmm⟩, if_pos ⟨h2, hmm⟩]
        · rw [if_neg (fun h => hmm h.2), if_neg (fun h => hmm h.2)]
      · rw [if_neg h]
        rw [if_neg (fun h2 => by omega), Nat.xor_zero]
    rw [main, hp', Nat.xor_assoc]
    congr 1
    by_cases h33 : p < i + 1 + 32
    · rw [if_pos h33, T_bit _ _ hx (by omega), show p - (i + 1) + 1 = p - i by omega, hbit _ (by omega)]
      congr 1
      by_cases h32 : p < i + 32
      · rw [if_pos h32]
      · rw [if_neg h32, show p - i = 32 by omega, bt_big S 32 hS]
    · rw [if_neg h33, if_neg (by omega), if_neg, Nat.xor_zero]
      intro h
      have := trm_no _ h.2
      omega
theorem rs_eq (L : List Nat) (n S : Nat) (h : ∀ q, q < 32 → L.getD (n + q) 0 = bt S q) : ∀ j, j ≤ 32 → rs L n j = S % 2 ^ j
  | 0, _ => by simp [rs, Nat.mod_one]
  | j + 1, hj => by
    simp only [rs]
    rw [rs_eq L n S h j (by omega), h j (by omega), Nat.or_comm, nat_join j _ _ (Nat.mul_mod_left _ _) (Nat.mod_lt _ (Nat.two_pow_pos j)), Nat.mod_pow_succ, Nat.mul_comm]
    unfold bt; omega
def bk (k x : Nat) : List Nat := (List.range k).map fun j => x / 2 ^ j % 2
theorem bk_succ (k x : Nat) : bk (k + 1) x = x % 2 :: bk k (x / 2) := by
  unfold bk
  rw [List.range_succ_eq_map, List.map_cons, List.map_map]
  simp only [Nat.pow_zero, Nat.div_one, List.cons.injEq, true_and]
  refine List.map_congr_left fun j _ => ?_
  simp only [Function.comp]
  rw [Nat.div_div_eq_div_mul, Nat.pow_succ, Nat.mul_comm]
theorem sbq_bk : ∀ (k x r : Nat), x < 2 ^ k → sbq r (bk k x) = itT k (r ^^^ x)
  | 0, x, r, h => by
    have : x = 0 := by simp at h; exact h
    subst this; simp [bk, sbq, itT]
  | k + 1, x, r, h => by
    have e : sbq r (bk (k + 1) x) = sbq (T (r ^^^ x % 2)) (bk k (x / 2)) := by rw [bk_succ]; rfl
    rw [e, sbq_bk k (x / 2) _ (by rw [Nat.pow_succ] at h; omega)]
    show _ = itT k (T (r ^^^ x))
    congr 1
    have hx : x = x % 2 ^^^ 2 * (x / 2) := by
      have := xor_split 1 x
      simp only [Nat.pow_one] at this
      rw [Nat.xor_comm]; exact this
    have e2 : T (r ^^^ x) = T (r ^^^ (x % 2 ^^^ 2 * (x / 2))) := by rw [← hx]
    rw [e2, ← Nat.xor_assoc, T_xor (r ^^^ x % 2), T_double]
theorem sbq_bts : ∀ (l : List Nat) (r : Nat), (∀ x ∈ l, x < 256) → sbq r (bts l) = ov r l
  | [], _, _ => rfl
  | x :: l, r, h => by
    have hx : x < 256 := h x (List.mem_cons_self ..)
    rw [show bts (x :: l) = bk 8 x ++ bts l from rfl]
    have : sbq r (bk 8 x ++ bts l) = sbq (sbq r (bk 8 x)) (bts l) := by unfold sbq; rw [List.foldl_append]
    rw [this, sbq_bk 8 x r hx, sbq_bts l _ (fun y hy => h y (List.mem_cons_of_mem _ hy))]
    rfl
theorem gn_ov (r : Nat) (l : List Nat) (hr : r < 2 ^ 32) (hl : ∀ x ∈ l, x < 256) : gn r l = ov r l := by
  have hlen : (bts l ++ List.replicate 32 0).length = 8 * l.length + 32 := by rw [List.length_append, bts_len, List.length_replicate]
  have hw := gl_win r _ (8 * l.length) hr hlen (bts_bin l) (8 * l.length) (Nat.le_refl _)
  have ht : (bts l ++ List.replicate 32 0).take (8 * l.length) = bts l := by rw [← bts_len l, List.take_left]
  rw [ht, sbq_bts l r hl] at hw
  unfold gn
  rw [rs_eq _ _ (ov r l) (fun q hq => ?_) 32 (Nat.le_refl _), Nat.mod_eq_of_lt (ov_lt l r hr hl)]
  rw [hw (8 * l.length + q) (by omega) (by omega), if_pos (by omega), Nat.add_sub_cancel_left]
  have : (bts l ++ List.replicate 32 0).getD (8 * l.length + q) 0 = 0 := by
    rw [List.getD_eq_getElem?_getD, List.getElem?_append_right (by rw [bts_len]; omega), bts_len, Nat.add_sub_cancel_left, List.getElem?_replicate]
    simp [hq]
  rw [this, Nat.zero_xor]
end Crc
end Go.Proofs.YtbcmjjcbjojakaaDoor
end
section
namespace Go.Proofs.YtbcmjjcbjojakaaDoor
open Go.RowKit
set_option linter.unusedVariables false
theorem not_u32' (R : Int) (h1 : 0 ≤ R) (h2 : R ≤ 4294967295) : bits .xor .u32 R 4294967295 = 4294967295 - R := by
  rw [← not_u32 R h1 h2]
  obtain ⟨r, rfl⟩ := Int.eq_ofNat_of_zero_le h1
  have e1 := u32_xor_nat r 4294967295 (by omega) (by omega)
  have e2 := u32_xor_nat 4294967295 r (by omega) (by omega)
  rw [show ((4294967295 : Nat) : Int) = 4294967295 from rfl] at e1 e2
  rw [e1, e2, Nat.xor_comm]
theorem max_not (N R : Int) (h : 4294967295 - R = N) (h1 : 0 ≤ R) (h2 : R ≤ 4294967295) : N.toNat = 4294967295 - R.toNat := by omega
section
variable (w : World) (A : Option Addr) (n c B : Nat) (l : List Nat)
end
end Go.Proofs.YtbcmjjcbjojakaaDoor
end
section
namespace Go.Proofs.YtbcmjjcbjojakaaDoor
open Go.RowKit
set_option linter.unusedVariables false
/-- A chunk's head: its kind and how many bytes follow. -/
def hd3 (c : List Nat) : List Nat := fx 1 (if c.length ≤ 16384 then 2 else 1) ++ fx 2 (min c.length 16384)
/-- One chunk, where s is the sum of those ahead. -/
def chk (s : Nat) (c : List Nat) : List Nat := hd3 c ++ fx 4 (Crc.more 0 (hd3 c)) ++ c.take (min c.length 16384) ++ fx 4 (Crc.more s (c.take (min c.length 16384)))
def fmF : Nat → Nat → List Nat → List Nat
  | 0, _, _ => []
  | f + 1, s, c => if c = [] then [] else chk s c ++ fmF f (Crc.more s (c.take (min c.length 16384))) (c.drop (min c.length 16384))
def formP (c : List Nat) : List Nat := fmF c.length 0 c
theorem fmF_nil (f s : Nat) : fmF f s [] = [] := by cases f <;> simp [fmF]
theorem fmF_step (f s : Nat) (c : List Nat) (h : 0 < c.length) : fmF (f + 1) s c = chk s c ++ fmF f (Crc.more s (c.take (min c.length 16384))) (c.drop (min c.length 16384)) := by
  have : c ≠ [] := by intro e; subst e; simp at h
  simp [fmF, this]
theorem chk_len (s : Nat) (c : List Nat) : (chk s c).length = min c.length 16384 + 11 := by
  unfold chk hd3; simp only [List.length_append, fx_len, List.length_take]; omega
theorem sliceLen_ : True := trivial
/-- How many elements a slice has. -/
def sliceLen : Value → Nat
  | .slice _ n _ => n
  | _ => 0
theorem cb_take (bs : List Nat) (k : Nat) : (cb bs).take k = cb (bs.take k) := by unfold cb; rw [List.map_take]
theorem cb_drop (bs : List Nat) (k : Nat) : (cb bs).drop k = cb (bs.drop k) := by unfold cb; rw [List.map_drop]
theorem own_keepBlock {w w' : World} {base e n g : Nat} {v : Value} {xs : List Value} (h : w.ownsRow base e 1 v n xs) (hg : w.grownBy w' (some g)) (hne : v.ownBlock ≠ some g) : w'.ownsRow base e 1 v n xs :=
  h.kept hg (by
    cases hv : v.ownBlock with
    | none => exact .inl rfl
    | some k => exact .inr fun e => hne (by rw [hv, e]))
theorem own_below' {w w' : World} {base e n : Nat} {v : Value} {xs : List Value} (h : w.ownsRow base e 1 v n xs) (b : Below w.heap.size w w') : w'.ownsRow base e 1 v n xs :=
  ⟨h.1, h.2.imp id fun ⟨g, cap, cur, hv, hg, hh, r⟩ => ⟨g, cap, cur, hv, hg, by rw [b.block g (Array.getElem?_eq_some_iff.1 hh).1]; exact hh, r⟩⟩
theorem own_base {w : World} {base base' e n : Nat} {v : Value} {xs : List Value} (h : w.ownsRow base e 1 v n xs) (hb : base' ≤ base) : w.ownsRow base' e 1 v n xs :=
  ⟨h.1, h.2.imp id fun ⟨g, cap, cur, hv, hg, r⟩ => ⟨g, cap, cur, hv, Nat.le_trans hb hg, r⟩⟩
/-- What may still be cut from its beginning. -/
theorem rd_from {w : World} {B n c p : Nat} {A : Option Addr} {bs : List Nat} (h : Rd w B A n (cb bs)) (hp : p ≤ n) (hn : n ≤ c) : Rd w B (cutA A c p) (n - p) (cb (bs.drop p)) := by
  have := h.cut (l := p) (h := n) hp (Nat.le_refl _) hn
  rw [cb_drop, cb_take, List.take_of_length_le (by have := h.1; rw [cb_length] at this; rw [List.length_drop]; omega)] at this
  exact this
end Go.Proofs.YtbcmjjcbjojakaaDoor
end
