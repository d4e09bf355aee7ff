/- What is lent, with marks: contract of the laws' lent. -/
import Derived.Test.YtplpaipmkpjgfaaStaleB
namespace Go.Proofs.Ytplpaipmkpjgfaa
open Go.RowKit
set_option linter.unusedVariables false
set_option linter.unusedSimpArgs false
theorem infoU8 : (Try.prog.info? 5).map (fun i => (i.zero, i.size, i.bytes)) = some (some (.int .u8 0), 1, 1) := by kernel_rfl
theorem elB : El Try.prog 71 5 1 (.int .u8 0) := ⟨Try.underlying71, info_parts infoU8, rfl⟩
theorem infoBB : (Try.prog.info? 71).map (fun i => (i.zero, i.size, i.bytes)) = some (some (.slice none 0 0), 1, 24) := by kernel_rfl
theorem elBB : El Try.prog 53 71 24 (.slice none 0 0) := ⟨Try.underlying53, info_parts infoBB, rfl⟩
theorem infoSS : (Try.prog.info? 58).map (fun i => (i.zero, i.size, i.bytes)) = some (some (.agg sn0.cells.toArray), 19, 120) := by kernel_rfl
theorem elS : ElN Try.prog 22 58 19 120 := ⟨Try.underlying22, by
  obtain ⟨i, hi, h⟩ := Option.map_eq_some_iff.1 infoSS
  simp only [Prod.mk.injEq] at h
  exact ⟨i, _, hi, h.1, h.2.1, h.2.2, rfl⟩, by omega⟩
/-- A row of bytes that was lent, the marks behind it. -/
def LRow (w : World) (p : Nat → Prop) (v : Value) (bs : List Nat) : Prop :=
  ∃ g c, v = .slice (some ⟨g, 0, none⟩) bs.length c ∧ p g ∧ bs.length + 3 ≤ c ∧ ∀ j, j < bs.length + 3 → w.cell? ⟨g, j, none⟩ = (cb (bs ++ [81, 82, 83]))[j]?
/-- A list of blocks that was lent. -/
def LBl (w : World) (p : Nat → Prop) (v : Value) (Bs : List (List Nat)) : Prop :=
  ∃ g c, v = .slice (some ⟨g, 0, none⟩) Bs.length c ∧ p g ∧ Bs.length + 1 ≤ c ∧ (∀ r, r < Bs.length → ∃ u, w.cell? ⟨g, r, none⟩ = some u ∧ LRow w p u (Bs.getD r [])) ∧
    ∃ gm cm, w.cell? ⟨g, Bs.length, none⟩ = some (.slice (some ⟨gm, 0, none⟩) 1 cm) ∧ p gm ∧ 1 ≤ cm ∧ w.cell? ⟨gm, 0, none⟩ = some (.int .u8 84)
section
variable {w w' : World} {p q : Nat → Prop} {v : Value} {bs : List Nat} {Bs : List (List Nat)}
theorem LRow.keep (h : LRow w p v bs) (hk : ∀ a : Addr, p a.block → w'.cell? a = w.cell? a) (hq : ∀ g, p g → q g) : LRow w' q v bs := by
  obtain ⟨g, c, e, hp, hc, hj⟩ := h
  exact ⟨g, c, e, hq g hp, hc, fun j hjj => (hk ⟨g, j, none⟩ hp).trans (hj j hjj)⟩
theorem LBl.keep (h : LBl w p v Bs) (hk : ∀ a : Addr, p a.block → w'.cell? a = w.cell? a) (hq : ∀ g, p g → q g) : LBl w' q v Bs := by
  obtain ⟨g, c, e, hp, hc, hr, gm, cm, h1, h2, h3, h4⟩ := h
  refine ⟨g, c, e, hq g hp, hc, fun r hrr => ?_, gm, cm, (hk ⟨g, _, none⟩ hp).trans h1, hq gm h2, h3, (hk ⟨gm, 0, none⟩ h2).trans h4⟩
  obtain ⟨u, hu, hl⟩ := hr r hrr
  exact ⟨u, (hk ⟨g, r, none⟩ hp).trans hu, hl.keep hk hq⟩
theorem LRow.below {Q : Nat} (h : LRow w (· < Q) v bs) (b : Below Q w w') : LRow w' (· < Q) v bs := h.keep (fun a ha => b.cell ha) fun _ h => h
theorem LBl.below {Q : Nat} (h : LBl w (· < Q) v Bs) (b : Below Q w w') : LBl w' (· < Q) v Bs := h.keep (fun a ha => b.cell ha) fun _ h => h
/-- A row that is owned, cut ahead of its marks. -/
theorem LRow.of_own {base c g : Nat} (h : w.ownsRow base 5 1 (.slice (some ⟨g, 0, none⟩) (bs.length + 3) c) (bs.length + 3) (cb (bs ++ [81, 82, 83]))) : LRow w (fun k => k < w.heap.size ∧ base ≤ k) (.slice (some ⟨g, 0, none⟩) bs.length c) bs := by
  obtain ⟨A, c', e, hc, _⟩ := own_form h
  injection e with _ _ e
  subst e
  refine ⟨g, c, rfl, ⟨(h.lt g rfl).2, (h.lt g rfl).1⟩, hc, fun j hj => ?_⟩
  have := (Rd.of_own h).2 (by omega)
  obtain ⟨g', o', e1, _, hcc⟩ := this
  injection e1 with e1
  injection e1 with e1 e2
  subst e1 e2
  have := hcc j hj
  rwa [Nat.zero_add] at this
end
def markSn (k : Nat) : Sn := { sn0 with kind := 100 + (k : Int) }
/-- The rows of the list that is lent: the first i, with these blocks. -/
def lentCells (S : Nat → Sn) (bl : Nat → Value) (i : Nat) : List Value := (List.range i).flatMap fun r => ({ S r with bl := bl r } : Sn).cells
theorem lentCells_next (S : Nat → Sn) (bl : Nat → Value) (i : Nat) : lentCells S bl (i + 1) = lentCells S bl i ++ ({ S i with bl := bl i } : Sn).cells := by
  unfold lentCells; rw [List.range_succ, List.flatMap_append]; simp
theorem lentCells_congr (S : Nat → Sn) (bl bl' : Nat → Value) (i : Nat) (h : ∀ r, r < i → bl r = bl' r) : lentCells S bl i = lentCells S bl' i := by
  unfold lentCells
  induction i with
  | zero => rfl
  | succ i ih =>
    rw [List.range_succ, List.flatMap_append, List.flatMap_append, ih fun r hr => h r (by omega)]
    simp [h i (by omega)]
theorem lentCells_len (S : Nat → Sn) (bl : Nat → Value) : ∀ i, (lentCells S bl i).length = i * 19
  | 0 => rfl
  | i + 1 => by rw [lentCells_next, List.length_append, lentCells_len S bl i, Sn.len]; omega
/-- What lent answers: the list, its blocks, the marks behind. -/
def Lent (w : World) (Q : Nat) (A : Option Addr) (n c : Nat) (S : Nat → Sn) (B : Nat → List (List Nat)) : Prop :=
  ∃ (g : Nat) (bl : Nat → Value), A = some ⟨g, 0, none⟩ ∧ g < Q ∧ n + 20 ≤ c ∧ (∀ r, r < n → w.rangeAt g (r * 19) (Sn.cells { S r with bl := bl r }) ∧ LBl w (· < Q) (bl r) (B r)) ∧ ∀ k, k < 20 → w.rangeAt g ((n + k) * 19) (markSn k).cells
theorem run_cut_toN {P : Program} {w : World} {t e size bytes : Nat} (E : ElN P t e size bytes) (A : Option Addr) (n c h : Nat) (hh : h ≤ c) :
    (Instr.slice t (.slice A n c) none (some (.int .i64 (h : Int))) none).run P w = .ok (.slice A h c) w := by
  obtain ⟨i, z, hi, hz, hs, hb, _⟩ := E.hi
  have := cutA_0 A c
  unfold cutA at this
  simp [Instr.slice, run_underlying E.ht, Instr.sliceBounds, run_sliceBound, sizeOf, typeInfo, hi, hh, Int.ofNat_le]
  intro h0; rw [if_neg h0] at this; exact this
theorem mark_ok (q : Nat) (h : q < 20) : SnOk (markSn q) :=
  ⟨by show J64 (100 + (q : Int)); unfold J64; omega, by show J64 0; unfold J64; decide, by show J64 0; unfold J64; decide, by show J64 0; unfold J64; decide, ⟨_, _, _, rfl⟩⟩
def markCells (k : Nat) : List Value := (List.range k).flatMap fun r => (markSn r).cells
theorem markCells_next (k : Nat) : markCells (k + 1) = markCells k ++ (markSn k).cells := by
  unfold markCells; rw [List.range_succ, List.flatMap_append]; simp
theorem markCells_len : ∀ k, (markCells k).length = k * 19
  | 0 => rfl
  | k + 1 => by rw [markCells_next, List.length_append, markCells_len k, Sn.len]; omega
theorem lent_at (S : Nat → Sn) (bl : Nat → Value) : ∀ (n r j : Nat), r < n → j < 19 → (lentCells S bl n)[r * 19 + j]? = (Sn.cells { S r with bl := bl r })[j]?
  | 0, r, j, h, _ => absurd h (by omega)
  | n + 1, r, j, h, hj => by
    rw [lentCells_next]
    rcases Nat.lt_or_ge r n with h1 | h1
    · rw [List.getElem?_append_left (by rw [lentCells_len]; omega)]; exact lent_at S bl n r j h1 hj
    · have : r = n := by omega
      subst this
      rw [List.getElem?_append_right (by rw [lentCells_len]; omega), lentCells_len, Nat.add_sub_cancel_left]
theorem mark_at : ∀ (n r j : Nat), r < n → j < 19 → (markCells n)[r * 19 + j]? = (markSn r).cells[j]?
  | 0, r, j, h, _ => absurd h (by omega)
  | n + 1, r, j, h, hj => by
    rw [markCells_next]
    rcases Nat.lt_or_ge r n with h1 | h1
    · rw [List.getElem?_append_left (by rw [markCells_len]; omega)]; exact mark_at n r j h1 hj
    · have : r = n := by omega
      subst this
      rw [List.getElem?_append_right (by rw [markCells_len]; omega), markCells_len, Nat.add_sub_cancel_left]
/-- The list underway: a row of its own, its first i elements, their blocks anywhere else. -/
def Out (w wr : World) (S : Nat → Sn) (B : Nat → List (List Nat)) (v : Value) (i : Nat) (bl : Nat → Value) : Prop :=
  Below w.heap.size w wr ∧ wr.ownsRow w.heap.size 58 19 v i (lentCells S bl i) ∧ ∀ r, r < i → LBl wr (fun g => g < wr.heap.size ∧ v.ownBlock ≠ some g) (bl r) (B r)
theorem Out.keep {w wr w' : World} {S : Nat → Sn} {B : Nat → List (List Nat)} {v : Value} {i : Nat} {bl : Nat → Value} (H : Out w wr S B v i bl) (b : Below wr.heap.size wr w') : Out w w' S B v i bl :=
  ⟨H.1.trans (b.mono H.1.size), own_belowS H.2.1 b, fun r hr => (H.2.2 r hr).keep (fun a ha => b.cell ha.1) fun g hg => ⟨Nat.lt_of_lt_of_le hg.1 b.size, hg.2⟩⟩
/-- An element's blocks underway. -/
def Inn (w2 wr : World) (X : Nat) (Bs : List (List Nat)) (v : Value) (k : Nat) (us : List Value) : Prop :=
  Below (X + 1) w2 wr ∧ wr.ownsRow (X + 1) 71 1 v k us ∧ X + 1 ≤ wr.heap.size ∧ ∀ r, r < k → ∃ u, us[r]? = some u ∧ LRow wr (fun g => g < wr.heap.size ∧ v.ownBlock ≠ some g ∧ X + 1 ≤ g) u (Bs.getD r [])
theorem Inn.keep {w2 wr w' : World} {X k : Nat} {Bs : List (List Nat)} {v : Value} {us : List Value} (H : Inn w2 wr X Bs v k us) (b : Below wr.heap.size wr w') : Inn w2 w' X Bs v k us :=
  ⟨H.1.trans (b.mono H.2.2.1), own_belowS H.2.1 b, Nat.le_trans H.2.2.1 b.size, fun r hr => let ⟨u, h1, h2⟩ := H.2.2.2 r hr; ⟨u, h1, h2.keep (fun a ha => b.cell ha.1) fun g hg => ⟨Nat.lt_of_lt_of_le hg.1 b.size, hg.2⟩⟩⟩
/-- One more row. -/
theorem Inn.push {w2 wr w' : World} {X k : Nat} {Bs : List (List Nat)} {v v' : Value} {us : List Value} {u : Value} (H : Inn w2 wr X Bs v k us) (O : Onto wr w' (X + 1) 71 v v' (k + 1) (us ++ [u]))
    (hu : LRow wr (fun g => g < wr.heap.size ∧ v.ownBlock ≠ some g ∧ X + 1 ≤ g) u (Bs.getD k [])) : Inn w2 w' X Bs v' (k + 1) (us ++ [u]) := by
  have hl : us.length = k := by have := H.2.1.1; omega
  have hkeep : ∀ a : Addr, a.block < wr.heap.size ∧ v.ownBlock ≠ some a.block ∧ X + 1 ≤ a.block → w'.cell? a = wr.cell? a := fun a ha => World.cell?_of_block (O.2.1.block a.block ha.1 fun e => ha.2.1 e.symm)
  have himp : ∀ g, g < wr.heap.size ∧ v.ownBlock ≠ some g ∧ X + 1 ≤ g → g < w'.heap.size ∧ v'.ownBlock ≠ some g ∧ X + 1 ≤ g := fun g hg => ⟨Nat.lt_of_lt_of_le hg.1 O.size, fun e => by
    rcases O.2.2 g e with h | h
    · exact hg.2.1 h
    · omega, hg.2.2⟩
  refine ⟨H.1.trans (O.below (fun g e => (H.2.1.lt g e).1) H.2.2.1), O.own, Nat.le_trans H.2.2.1 O.size, fun r hr => ?_⟩
  rcases Nat.lt_or_ge r k with h | h
  · obtain ⟨u', h1, h2⟩ := H.2.2.2 r h
    exact ⟨u', by rw [List.getElem?_append_left (by omega)]; exact h1, h2.keep hkeep himp⟩
  · have hrk : r = k := by omega
    subst hrk
    exact ⟨u, by rw [List.getElem?_append_right (by omega), hl]; simp, hu.keep hkeep himp⟩
set_option maxRecDepth 20000 in
set_option maxHeartbeats 8000000 in
theorem lent_any (w : World) (A : Option Addr) (n c : Nat) (S : Nat → Sn) (B : Nat → List (List Nat)) (hA : SeenA w A n S B) :
    Calls Try.prog 11 #[.slice A n c] w fun e w' => ∃ A' c', e = .returned (.slice A' n c') ∧ Below w.heap.size w w' ∧ Lent w' w'.heap.size A' n c' S B := by
  have HA := Hd.mk hA
  have hn := hA.lenA
  clear hA
  go_enter Try.func11, Try.ntmps11
  go_wp2_with fail
  go_loopw [3, 4] (fun v i wr => ∃ (k : Nat) (bl : Nat → Value), k ≤ n ∧ i = .int .i64 (k : Int) ∧ Out w wr S B v k bl) (fun _ i _ => n - (intOf i).toNat)
  case atStart => exact ⟨0, fun _ => .slice none 0 0, by omega, rfl, Below.refl _ _, World.ownsRow_nil _ _ _ _, fun r hr => absurd hr (by omega)⟩
  case round =>
    obtain ⟨i, bl, hi, rfl, hO⟩ := hrel
    obtain ⟨wa, hwa⟩ : ∃ x, x = wr := ⟨_, rfl⟩
    subst hwa
    have HO := Hd.mk hO
    have hvw := HA.out.view.below (hO.1)
    clear hO
    by_cases hlt : i < n
    · have hki : (i : Int) < (n : Int) := by omega
      obtain ⟨g, off, hAe, hg, _, _, _, _, _, hrg, hok⟩ := hvw.at_ hlt
      subst hAe
      have HR := Hd.mk hrg
      have HON := Hd.mk (all_oneCell_toArray (Sn.one (S i) hok))
      have HZ : Hd ((wa.alloc (.cells sn0.cells.toArray 58)).heap[wa.heap.size]? = some (.cells sn0.cells.toArray 58 (0, 0))) := ⟨heap_alloc_new _ _⟩
      have HOK := Hd.mk hok
      clear hrg hok hvw
      go_wp2_with (first
        | (refine wpList_load_mid rfl 58 (.tmp 18) rfl g (off + i * 19) rfl (S i).cells _ HR.out Try.underlying58 rfl infoS ?_)
        | (refine wpList_store_row rfl 58 (.tmp 5) (.tmp 19) rfl wa.heap.size (S i).cells.toArray rfl rfl 58 sn0.cells.toArray HZ.out infoS rfl HON.out ?_))
      have H2 : Hd (((wa.alloc (.cells sn0.cells.toArray 58)).setRow wa.heap.size (S i).cells.toArray).heap[wa.heap.size]? = some (.cells (S i).cells.toArray 58 (0, 0)) ∧ Below wa.heap.size wa ((wa.alloc (.cells sn0.cells.toArray 58)).setRow wa.heap.size (S i).cells.toArray) ∧ ((wa.alloc (.cells sn0.cells.toArray 58)).setRow wa.heap.size (S i).cells.toArray).heap.size = wa.heap.size + 1) := ⟨setRow_heap _ _ _ _ _ _ HZ.out, below_setRow ((Below.refl _ _).alloc (Nat.le_refl _) _) (Nat.le_refl _) _, by simp⟩
      obtain ⟨w2, hw2⟩ : ∃ w2, (wa.alloc (.cells #[.int .i64 0, .int .u8 0, .int .u8 0, .int .u8 0, .int .u8 0, .int .u8 0, .int .u8 0, .int .u8 0, .int .u8 0, .int .i64 0, .int .i64 0, .int .i64 0, .string ⟨#[]⟩, .int .i64 0, .int .i64 0, .int .i64 0, .int .i64 0, .slice none 0 0, .int .i64 0] 58)).setRow wa.heap.size (S i).cells.toArray = w2 := ⟨_, rfl⟩
      have hw2' : (wa.alloc (.cells sn0.cells.toArray 58)).setRow wa.heap.size (S i).cells.toArray = w2 := hw2
      rw [hw2'] at H2
      rw [hw2]
      clear hw2 hw2' HZ HR HON hg
      obtain ⟨Ab, cb', ebl, hbk⟩ := HA.out.blk i hlt
      have hlr := HA.out.lenR i
      have hlb := HA.out.lenB i hlt
      obtain ⟨m, hm⟩ : ∃ m, (B i).length = m := ⟨_, rfl⟩
      have HM := Hd.mk hm
      have HBK := Hd.mk (And.intro ebl (And.intro hbk hlr))
      rw [hm] at ebl hlb
      clear hbk hlr hm
      have hX : w.heap.size ≤ wa.heap.size := HO.out.1.size
      have hb2 : Below w.heap.size w w2 := HO.out.1.trans (H2.out.2.1.mono hX)
      have HB2 := Hd.mk hb2
      have hx17 : ∀ W, Below (wa.heap.size + 1) w2 W → W.cell? ⟨wa.heap.size, 17, none⟩ = some (.slice Ab m cb') := fun W hW => by
        have h1 := H2.out.1
        rw [← hW.block wa.heap.size (by omega)] at h1
        rw [cell_of_row _ _ _ _ _ _ h1, ← ebl]; rfl
      have HX17 := Hd.mk hx17
      have hs2 := H2.out.2.2
      clear hx17 ebl hb2
      go_loopw [6, 7] (fun v k wr2 => ∃ (q : Nat) (us : List Value), q ≤ m ∧ k = .int .i64 (q : Int) ∧ Inn w2 wr2 wa.heap.size (B i) v q us) (fun _ k _ => m - (intOf k).toNat)
      case atStart => exact ⟨0, [], by omega, rfl, Below.refl _ _, World.ownsRow_nil _ _ _ _, by omega, fun r hr => absurd hr (by omega)⟩
      case round =>
        obtain ⟨q, us, hq, rfl, hI⟩ := hrel
        have HI := Hd.mk hI
        have d17 := HX17.out wr hI.1
        have hsz := hI.2.2.1
        clear hI
        by_cases hqm : q < m
        · have hqi : (q : Int) < (m : Int) := by omega
          obtain ⟨gk, ok, Ar, Cr, eA, hgk, hck, hrk, _⟩ := HBK.out.2.1 q (by rw [HM.out]; exact hqm)
          have hln := HBK.out.2.2 q hlt
          obtain ⟨bs, hbs⟩ : ∃ bs, (B i).getD q [] = bs := ⟨_, rfl⟩
          rw [hbs] at hck hrk hln
          have HBS := Hd.mk hbs
          obtain ⟨len, hle⟩ : ∃ len, bs.length = len := ⟨_, rfl⟩
          rw [hle] at hck hrk hln
          have HLE := Hd.mk hle
          have hbw : Below w.heap.size w wr := HB2.out.trans (HI.out.1.mono (by omega))
          have ck : wr.cell? ⟨gk, ok + q, none⟩ = some (.slice Ar len Cr) := (hbw.cell (p := ⟨gk, _, none⟩) hgk).trans hck
          have HRK : Hd (Rd (wr.alloc (.cells #[] 5)) w.heap.size Ar len (cb bs)) := ⟨(hrk.below hbw).alloc hbw.size _⟩
          have HW := Hd.mk hbw
          have hX1 : wa.heap.size < wr.heap.size := by omega
          have hgk2 : gk < wr.heap.size := by have := hbw.size; omega
          have d17' : (wr.alloc (.cells #[] 5)).cell? ⟨wa.heap.size, 17, none⟩ = some (.slice (some ⟨gk, ok, none⟩) m cb') := by rw [World.cell?_alloc_lt _ _ _ hX1, d17, eA]
          have ck' : (wr.alloc (.cells #[] 5)).cell? ⟨gk, ok + q, none⟩ = some (.slice Ar len Cr) := by rw [World.cell?_alloc_lt _ _ _ hgk2]; exact ck
          subst eA
          clear hbs hle hck hrk hbw hgk
          have h63 : Hd (0 + len ≤ maxLen) := ⟨by unfold maxLen; omega⟩
          have hby : Hd ((0 + len) * 1 ≤ 140737488355328) := ⟨by omega⟩
          have h63b : Hd (len + 3 ≤ maxLen) := ⟨by unfold maxLen; omega⟩
          have hbyb : Hd ((len + 3) * 1 ≤ 140737488355328) := ⟨by omega⟩
          have h63c : Hd (q + 1 ≤ maxLen) := ⟨by unfold maxLen; omega⟩
          have hbyc : Hd ((q + 1) * 24 ≤ 140737488355328) := ⟨by omega⟩
          have HE : Hd ((wr.alloc (.cells #[] 5)).ownsRow wr.heap.size 5 1 (.slice (some ⟨wr.heap.size, 0, none⟩) 0 0) 0 []) := ⟨(onto_lit (w := wr) (e := 5) [] (by unfold maxLen; decide)).own⟩
          go_wp2_with (at_builtin; first
            | (refine wpList_app elB rfl (.tmp 28) (.tmp 34) rfl wr.heap.size (.slice (some ⟨wr.heap.size, 0, none⟩) 0 0) 0 [] rfl HE.out w.heap.size Ar len Cr (cb bs) rfl HRK.out (cb_one bs) h63.out hby.out (by simp) ?_; intro v8 w8 hO8
               have H8 : Hd (w8.ownsRow wr.heap.size 5 1 v8 len (cb bs) ∧ Below wr.heap.size wr w8) := ⟨by have := hO8.own; simpa using this, ((Below.refl _ _).alloc (Nat.le_refl _) _).trans (hO8.below (B := wr.heap.size) (fun k hk => by simp [Value.ownBlock] at hk; omega) (by simp))⟩
               have hs8 := H8.out.2.size
               clear hO8)
            | (refine wpList_app elB rfl (.tmp 36) (.tmp 37) rfl wr.heap.size v8 len (cb bs) rfl (H8.out.1.alloc _) (w8.heap.size + 1) (some ⟨w8.heap.size, 0, none⟩) 3 3 (cb [81, 82, 83]) rfl (rd_lit (w := w8) (e := 5) (cb [81, 82, 83])) (cb_one _) h63b.out hbyb.out (by simp; omega) ?_; intro v9 w9 hO9
               obtain ⟨g9, c9, rfl, hg9, hg9'⟩ := own_pos hO9.own (by omega)
               have hcc9 : len + 3 ≤ c9 := by (obtain ⟨_, _, e, hc, _⟩ := own_form hO9.own); injection e with _ _ e; subst e; exact hc
               have H9 : Hd (w9.ownsRow wr.heap.size 5 1 (.slice (some ⟨g9, 0, none⟩) (len + 3) c9) (len + 3) (cb (bs ++ [81, 82, 83])) ∧ Below wr.heap.size wr w9) := ⟨(by rw [cb_append]; exact hO9.own), H8.out.2.trans (((Below.refl _ _).alloc hs8 _).trans (hO9.below (B := wr.heap.size) (fun k hk => (H8.out.1.lt k hk).1) (by simp; omega)))⟩
               clear hO9
               have sB := fun W => run_cut_to (P := Try.prog) (w := W) elB (some ⟨g9, 0, none⟩) (len + 3) c9 len (by omega)
               have HI9 : Hd (Inn w2 w9 wa.heap.size (B i) u6 q us) := ⟨HI.out.keep H9.out.2⟩
               have hs9 : wa.heap.size + 1 ≤ w9.heap.size := HI9.out.2.2.1)
            | (refine push_at0 (w0 := w9) elBB rfl (.tmp 39) (.tmp 45) rfl (wa.heap.size + 1) u6 q us (.slice (some ⟨g9, 0, none⟩) len c9) rfl w9.heap.size rfl rfl rfl HI9.out.2.1 h63c.out hbyc.out hs9 ?_; intro v10 w10 hO10
               have HO10 := Hd.mk hO10
               clear hO10))
          go_roundw
          case rel =>
            refine ⟨q + 1, us ++ [.slice (some ⟨g9, 0, none⟩) len c9], by omega, by go_num, HI9.out.push HO10.out ?_⟩
            rw [HBS.out]
            have hrow := H9.out.1
            rw [← HLE.out] at hrow ⊢
            refine (LRow.of_own hrow).keep (fun _ _ => rfl) fun g' hg' => ⟨hg'.1, fun e => ?_, by omega⟩
            have := (HI.out.2.1.lt g' e).2
            omega
          case measure => simp [intOf]; omega
        · obtain rfl : q = m := by omega
          have HIa : Hd (Inn w2 (wr.alloc (.cells #[.int .u8 84] 5)) wa.heap.size (B i) u6 q us ∧ (wr.alloc (.cells #[.int .u8 84] 5)).heap[wr.heap.size]? = some (.cells #[.int .u8 84] 5 (0, 0))) := ⟨HI.out.keep ((Below.refl _ _).alloc (Nat.le_refl _) _), heap_alloc_new _ _⟩
          have h63a : Hd (q + 1 ≤ maxLen) := ⟨by unfold maxLen; omega⟩
          have hbya : Hd ((q + 1) * 24 ≤ 140737488355328) := ⟨by omega⟩
          have h63d : Hd (i + 1 ≤ maxLen) := ⟨by unfold maxLen; omega⟩
          have hbyd : Hd ((i + 1) * 120 ≤ 140737488355328) := ⟨by omega⟩
          have hbsa : Hd (wa.heap.size + 1 ≤ (wr.alloc (.cells #[.int .u8 84] 5)).heap.size) := ⟨by simp; omega⟩
          have hNa : Hd ((wr.alloc (.cells #[.int .u8 84] 5)).heap.size = wr.heap.size + 1) := ⟨by simp⟩
          go_wp2_with (first
            | (at_builtin; refine push_at0 (w0 := wr.alloc (.cells #[.int .u8 84] 5)) elBB rfl (.tmp 47) (.tmp 49) rfl (wa.heap.size + 1) u6 q us (.slice (some ⟨wr.heap.size, 0, none⟩) 1 1) rfl (wr.heap.size + 1) hNa.out rfl rfl HIa.out.1.2.1 h63a.out hbya.out hbsa.out ?_; intro v11 w11 hO11
               obtain ⟨g11, c11, rfl, hg11, hg11'⟩ := own_pos hO11.own (by omega)
               have hcc11 : q + 1 ≤ c11 := by (obtain ⟨_, _, e, hc, _⟩ := own_form hO11.own); injection e with _ _ e; subst e; exact hc
               have hb11 : Below (wa.heap.size + 1) w2 w11 := HI.out.1.trans (((Below.refl _ _).alloc (by omega) _).trans (hO11.below (fun g e => (HI.out.2.1.lt g e).1) hbsa.out))
               have hx11 : w11.heap[wa.heap.size]? = some (.cells (S i).cells.toArray 58 (0, 0)) := by rw [hb11.block _ (by omega)]; exact H2.out.1
               have d11 := HX17.out w11 hb11
               have f11 : w11.frozen? ⟨wa.heap.size, 17, none⟩ = false := by simp [World.frozen?, hx11]
               have H11 := Hd.mk (And.intro hO11 (And.intro hb11 hx11))
               have HP11 : Hd ((w11.setCell ⟨wa.heap.size, 17, none⟩ (.slice (some ⟨g11, 0, none⟩) q c11)).heap[wa.heap.size]? = some (.cells (Sn.cells { S i with bl := .slice (some ⟨g11, 0, none⟩) q c11 }).toArray 58 (0, 0))) := ⟨cell_put hx11⟩
               have sC := fun W => run_cut_to (P := Try.prog) (w := W) elBB (some ⟨g11, 0, none⟩) (q + 1) c11 q (by omega)
               have hb12 : Below wa.heap.size wa (w11.setCell ⟨wa.heap.size, 17, none⟩ (.slice (some ⟨g11, 0, none⟩) q c11)) := (H2.out.2.1.trans (hb11.mono (by omega))).setCell (Nat.le_refl _) _
               have H12 := Hd.mk (And.intro (HO.out.keep hb12) hb12)
               have hbsd : Hd (w.heap.size ≤ (w11.setCell ⟨wa.heap.size, 17, none⟩ (.slice (some ⟨g11, 0, none⟩) q c11)).heap.size) := ⟨Nat.le_trans hX hb12.size⟩
               have HON12 := Hd.mk (Sn.one { S i with bl := .slice (some ⟨g11, 0, none⟩) q c11 } ⟨HOK.out.kind, HOK.out.size, HOK.out.epoch, HOK.out.count, ⟨_, _, _, rfl⟩⟩)
               clear hO11 hb11 hx11 hb12)
            | (refine wpList_load_row rfl 58 (.tmp 5) rfl wa.heap.size rfl 58 (Sn.cells { S i with bl := .slice (some ⟨g11, 0, none⟩) q c11 }).toArray (0, 0) _ HP11.out Try.underlying58 rfl infoS ?_)
            | (refine wpList_pushN elS rfl rfl (.tmp 58) (.tmp 59) 60 rfl rfl rfl w.heap.size u3 i (lentCells S bl i) (Sn.cells { S i with bl := .slice (some ⟨g11, 0, none⟩) q c11 }) rfl rfl HON12.out rfl rfl H12.out.1.2.1 h63d.out hbyd.out hbsd.out ?_; intro v13 w13 hO13
               have HO13 := Hd.mk hO13
               clear hO13))
          have hg3 : ∀ g, u3.ownBlock = some g → g < wa.heap.size := fun g e => (World.ownsRow.lt HO.out.2.1 g e).2
          have hg6 : ∀ g, u6.ownBlock = some g → g < wr.heap.size := fun g e => (HI.out.2.1.lt g e).2
          have hz11 : (wr.alloc (.cells #[.int .u8 84] 5)).heap.size ≤ w11.heap.size := H11.out.1.size
          rw [hNa.out] at hz11
          have hz12 : (w11.setCell ⟨wa.heap.size, 17, none⟩ (.slice (some ⟨g11, 0, none⟩) q c11)).heap.size = w11.heap.size := by simp [World.setCell]
          have hul : us.length = q := by have := HI.out.2.1.1; omega
          have keep12 : ∀ a : Addr, a.block < wr.heap.size + 1 ∧ u6.ownBlock ≠ some a.block ∧ wa.heap.size + 1 ≤ a.block → (w11.setCell ⟨wa.heap.size, 17, none⟩ (.slice (some ⟨g11, 0, none⟩) q c11)).cell? a = (wr.alloc (.cells #[.int .u8 84] 5)).cell? a := fun a ha => by
            rw [World.cell?_setCell_other _ _ _ _ (fun e => by have := congrArg Addr.block e; simp at this; omega)]
            exact World.cell?_of_block (H11.out.1.2.1.block a.block (by rw [hNa.out]; exact ha.1) fun e => ha.2.1 e.symm)
          have hrow11 : ∀ r, r < q + 1 → (w11.setCell ⟨wa.heap.size, 17, none⟩ (.slice (some ⟨g11, 0, none⟩) q c11)).cell? ⟨g11, r, none⟩ = (us ++ [.slice (some ⟨wr.heap.size, 0, none⟩) 1 1])[r]? := fun r hr => by
            rw [World.cell?_setCell_other _ _ _ _ (fun e => by have := congrArg Addr.block e; simp at this; omega)]
            obtain ⟨g', o', e1, _, hcc⟩ := (Rd.of_own H11.out.1.own).2 (by omega)
            injection e1 with e1
            injection e1 with e1 e2
            subst e1 e2
            have := hcc r hr
            rwa [Nat.zero_add] at this
          have hnew : LBl (w11.setCell ⟨wa.heap.size, 17, none⟩ (.slice (some ⟨g11, 0, none⟩) q c11)) (fun g => g < (w11.setCell ⟨wa.heap.size, 17, none⟩ (.slice (some ⟨g11, 0, none⟩) q c11)).heap.size ∧ u3.ownBlock ≠ some g) (.slice (some ⟨g11, 0, none⟩) q c11) (B i) := by
            refine ⟨g11, c11, by rw [HM.out], ⟨by rw [hz12]; exact hg11', fun e => by have := hg3 _ e; omega⟩, by rw [HM.out]; exact hcc11, fun r hr => ?_, wr.heap.size, 1, ?_, ⟨by rw [hz12]; omega, fun e => by have := hg3 _ e; omega⟩, Nat.le_refl _, ?_⟩
            · rw [HM.out] at hr
              obtain ⟨u', hu1, hu2⟩ := HIa.out.1.2.2.2 r hr
              refine ⟨u', by rw [hrow11 r (by omega), List.getElem?_append_left (by omega)]; exact hu1, ?_⟩
              refine hu2.keep (fun a ha => keep12 a ⟨by have := ha.1; rw [hNa.out] at this; exact this, ha.2⟩) fun g hg => ⟨by rw [hz12]; have := hg.1; rw [hNa.out] at this; omega, fun e => by have := hg3 _ e; have := hg.2.2; omega⟩
            · rw [HM.out, hrow11 q (by omega), List.getElem?_append_right (by omega), hul]; simp
            · rw [keep12 ⟨wr.heap.size, 0, none⟩ ⟨by show wr.heap.size < _; omega, fun e => by have := hg6 _ e; simp at this, by show wa.heap.size + 1 ≤ wr.heap.size; omega⟩, cell_of_row _ _ _ _ _ _ HIa.out.2]; rfl
          have hfin : ∀ v Bs, LBl (w11.setCell ⟨wa.heap.size, 17, none⟩ (.slice (some ⟨g11, 0, none⟩) q c11)) (fun g => g < (w11.setCell ⟨wa.heap.size, 17, none⟩ (.slice (some ⟨g11, 0, none⟩) q c11)).heap.size ∧ u3.ownBlock ≠ some g) v Bs → LBl w13 (fun g => g < w13.heap.size ∧ v13.ownBlock ≠ some g) v Bs := fun v Bs h =>
            h.keep (fun a ha => World.cell?_of_block (HO13.out.2.1.block a.block ha.1 fun e => ha.2 e.symm)) fun g hg => ⟨Nat.lt_of_lt_of_le hg.1 HO13.out.grows, fun e => by
              rcases HO13.out.2.2 g e with h | h
              · exact hg.2 h
              · omega⟩
          go_roundw
          case rel =>
            refine ⟨i + 1, fun r => if r = i then .slice (some ⟨g11, 0, none⟩) q c11 else bl r, by omega, by go_num, ?_, ?_, fun r hr => ?_⟩
            · exact H12.out.1.1.trans (HO13.out.below (fun g e => (World.ownsRow.lt H12.out.1.2.1 g e).1) hbsd.out)
            · have hown := HO13.out.own
              rw [lentCells_next, lentCells_congr S (fun r => if r = i then .slice (some ⟨g11, 0, none⟩) q c11 else bl r) bl i (fun r hr => if_neg (by omega))]
              simp only [if_true]
              exact hown
            · refine hfin _ _ ?_
              rcases Nat.lt_or_ge r i with h | h
              · simp only [if_neg (show ¬ r = i by omega)]
                exact H12.out.1.2.2 r h
              · have hri : r = i := by omega
                subst hri
                simp only [if_true]
                exact hnew
          case measure => simp [intOf]; omega
    · have hin : i = n := by omega
      subst hin
      clear hvw
      go_wp2_with fail
      go_loopw [3, 9] (fun v k wr => ∃ (q : Nat), q ≤ 20 ∧ k = .int .i64 (q : Int) ∧ Below w.heap.size w wr ∧ wr.ownsRow w.heap.size 58 19 v (i + q) (lentCells S bl i ++ markCells q) ∧ ∀ r, r < i → LBl wr (fun g => g < wr.heap.size ∧ v.ownBlock ≠ some g) (bl r) (B r)) (fun _ k _ => 20 - (intOf k).toNat)
      case atStart => exact ⟨0, by omega, rfl, HO.out.1, by simpa [markCells] using HO.out.2.1, HO.out.2.2⟩
      case round =>
        clear HO
        obtain ⟨q, hq, rfl, hI⟩ := hrel
        have HI := Hd.mk hI
        have hsz := hI.1.size
        clear hI
        by_cases hq20 : q < 20
        · have hqi : (q : Int) < 20 := by omega
          have h63 : Hd (i + q + 1 ≤ maxLen) := ⟨by unfold maxLen; omega⟩
          have hby : Hd ((i + q + 1) * 120 ≤ 140737488355328) := ⟨by omega⟩
          have HON := Hd.mk (Sn.one (markSn q) (mark_ok q hq20))
          go_wp2_with (refine wpList_pushN elS rfl rfl (.tmp 66) (.tmp 69) 70 rfl rfl rfl w.heap.size u3 (i + q) _ (markSn q).cells rfl rfl HON.out rfl rfl HI.out.2.1 h63.out hby.out hsz ?_; intro v2 w3 hO2
                       have H2 := Hd.mk hO2
                       clear hO2)
          go_roundw
          case rel =>
            refine ⟨q + 1, by omega, by go_num, HI.out.1.trans (H2.out.below (fun g e => (World.ownsRow.lt HI.out.2.1 g e).1) hsz), ?_, fun r hr => ?_⟩
            · rw [markCells_next, ← List.append_assoc]
              exact H2.out.own
            · exact (HI.out.2.2 r hr).keep (fun a ha => World.cell?_of_block (H2.out.2.1.block a.block ha.1 fun e => ha.2 e.symm)) fun g hg => ⟨Nat.lt_of_lt_of_le hg.1 H2.out.grows, fun e => by
                rcases H2.out.2.2 g e with h | h
                · exact hg.2 h
                · omega⟩
          case measure => simp [intOf]; omega
        · have hq2 : q = 20 := by omega
          subst hq2
          obtain ⟨A', c', hv, hc', _⟩ := ownN_form HI.out.2.1
          subst hv
          have sN := fun W => run_cut_toN (P := Try.prog) (w := W) elS A' (i + 20) c' i (by omega)
          go_wp2_with fail
          go_ret
          refine ⟨A', c', rfl, HI.out.1, ?_⟩
          have hrd := RdN.of_own HI.out.2.1
          obtain ⟨g, off, hA', ⟨hg, hob⟩, hcc⟩ := hrd.2 (by omega)
          subst hA'
          have hoff : off = 0 := by
            rcases HI.out.2.1.2 with ⟨_, h0⟩ | ⟨g', cap, cur, hv, _⟩
            · omega
            · injection hv with hv; injection hv with hv; injection hv
          subst hoff
          refine ⟨g, bl, rfl, hg, hc', fun r hr => ⟨fun j v hv => ?_, (HI.out.2.2 r hr).keep (fun _ _ => rfl) fun _ h => h.1⟩, fun k hk j v hv => ?_⟩
          · have hj : j < 19 := by have := (List.getElem?_eq_some_iff.1 hv).1; rwa [Sn.len] at this
            have := hcc (r * 19 + j) (by omega)
            rw [Nat.zero_add] at this
            rw [this, List.getElem?_append_left (by rw [lentCells_len]; omega), lent_at S bl i r j hr hj]; exact hv
          · have hj : j < 19 := by have := (List.getElem?_eq_some_iff.1 hv).1; rwa [Sn.len] at this
            have := hcc ((i + k) * 19 + j) (by omega)
            rw [Nat.zero_add] at this
            rw [this, List.getElem?_append_right (by rw [lentCells_len]; omega), lentCells_len, show (i + k) * 19 + j - i * 19 = k * 19 + j by omega, mark_at 20 k j hk hj]; exact hv
end Go.Proofs.Ytplpaipmkpjgfaa
