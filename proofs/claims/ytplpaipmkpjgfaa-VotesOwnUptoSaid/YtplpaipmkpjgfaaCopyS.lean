/- Contract of the law's copied. -/
import Derived.Test.YtplpaipmkpjgfaaFillA
namespace Go.Proofs.Ytplpaipmkpjgfaa
open Go.RowKit
set_option linter.unusedVariables false
set_option linter.unusedSimpArgs false
/-- A row of bytes in blocks that p allows. -/
def RRow (w : World) (p : Nat → Prop) (u : Value) (bs : List Nat) : Prop := ∃ A c, u = .slice A bs.length c ∧ RdN w p 1 A bs.length (cb bs)
/-- A list of blocks, in blocks that p allows. -/
def RBl (w : World) (p : Nat → Prop) (v : Value) (Bs : List (List Nat)) : Prop :=
  ∃ A c, v = .slice A Bs.length c ∧ ∀ r, r < Bs.length → ∃ g u, A = some ⟨g, 0, none⟩ ∧ p g ∧ w.cell? ⟨g, r, none⟩ = some u ∧ RRow w p u (Bs.getD r [])
section
variable {w w' : World} {p q : Nat → Prop} {v : Value} {bs : List Nat} {Bs : List (List Nat)}
theorem RRow.keep (h : RRow w p v bs) (hk : ∀ a : Addr, p a.block → w'.cell? a = w.cell? a) (hq : ∀ g, p g → q g) : RRow w' q v bs := by
  obtain ⟨A, c, e, hr⟩ := h
  exact ⟨A, c, e, (hr.keep hk).imp hq⟩
theorem RBl.keep (h : RBl w p v Bs) (hk : ∀ a : Addr, p a.block → w'.cell? a = w.cell? a) (hq : ∀ g, p g → q g) : RBl w' q v Bs := by
  obtain ⟨A, c, e, h⟩ := h
  refine ⟨A, c, e, fun r hr => ?_⟩
  obtain ⟨g, u, e, hp, hu, hl⟩ := h r hr
  exact ⟨g, u, e, hq g hp, (hk ⟨g, r, none⟩ hp).trans hu, hl.keep hk hq⟩
theorem RRow.of_own {base : Nat} (h : w.ownsRow base 5 1 v bs.length (cb bs)) : RRow w (fun k => k < w.heap.size ∧ base ≤ k) v bs := by
  obtain ⟨A, c, e, _, _⟩ := own_form h
  subst e
  exact ⟨A, c, rfl, (RdN.of_own h).imp fun g hg => ⟨hg.1, (h.lt g hg.2).1⟩⟩
theorem RBl.blk {Q : Nat} (h : RBl w p v Bs) (hp : ∀ g, p g → g < Q) (hb : ∀ r, r < Bs.length → ∀ x ∈ Bs.getD r [], x < 256) : Blk w Q v Bs := by
  obtain ⟨A, c, e, h⟩ := h
  refine ⟨A, c, e, fun r hr => ?_⟩
  obtain ⟨g, u, e, hg, hu, A2, c2, e2, hr2⟩ := h r hr
  exact ⟨g, 0, A2, c2, e, hp g hg, by rw [Nat.zero_add, hu, e2], hr2.toRd hp, hb r hr⟩
end
/-- The list underway. -/
def OutC (w wr : World) (S : Nat → Sn) (B : Nat → List (List Nat)) (v : Value) (i : Nat) (bl : Nat → Value) : Prop :=
  Below w.heap.size w wr ∧ wr.ownsRow w.heap.size 58 19 v i (lentCells S bl i) ∧ ∀ r, r < i → RBl wr (fun g => g < wr.heap.size ∧ v.ownBlock ≠ some g) (bl r) (B r)
theorem OutC.keep {w wr w' : World} {S : Nat → Sn} {B : Nat → List (List Nat)} {v : Value} {i : Nat} {bl : Nat → Value} (H : OutC w wr S B v i bl) (b : Below wr.heap.size wr w') : OutC w w' S B v i bl :=
  ⟨H.1.trans (b.mono H.1.size), own_belowS H.2.1 b, fun r hr => (H.2.2 r hr).keep (fun a ha => b.cell ha.1) fun g hg => ⟨Nat.lt_of_lt_of_le hg.1 b.size, hg.2⟩⟩
def InnC (w2 wr : World) (X : Nat) (Bs : List (List Nat)) (v : Value) (k : Nat) (us : List Value) : Prop :=
  Below (X + 1) w2 wr ∧ wr.ownsRow (X + 1) 71 1 v k us ∧ X + 1 ≤ wr.heap.size ∧ ∀ r, r < k → ∃ u, us[r]? = some u ∧ RRow wr (fun g => g < wr.heap.size ∧ v.ownBlock ≠ some g ∧ X + 1 ≤ g) u (Bs.getD r [])
theorem InnC.keep {w2 wr w' : World} {X k : Nat} {Bs : List (List Nat)} {v : Value} {us : List Value} (H : InnC w2 wr X Bs v k us) (b : Below wr.heap.size wr w') : InnC w2 w' X Bs v k us :=
  ⟨H.1.trans (b.mono H.2.2.1), own_belowS H.2.1 b, Nat.le_trans H.2.2.1 b.size, fun r hr => let ⟨u, h1, h2⟩ := H.2.2.2 r hr; ⟨u, h1, h2.keep (fun a ha => b.cell ha.1) fun g hg => ⟨Nat.lt_of_lt_of_le hg.1 b.size, hg.2⟩⟩⟩
/-- One more row. -/
theorem InnC.push {w2 wr w' : World} {X k : Nat} {Bs : List (List Nat)} {v v' : Value} {us : List Value} {u : Value} (H : InnC w2 wr X Bs v k us) (O : Onto wr w' (X + 1) 71 v v' (k + 1) (us ++ [u]))
    (hu : RRow wr (fun g => g < wr.heap.size ∧ v.ownBlock ≠ some g ∧ X + 1 ≤ g) u (Bs.getD k [])) : InnC w2 w' X Bs v' (k + 1) (us ++ [u]) := by
  have hl : us.length = k := by have := H.2.1.1; omega
  have hkeep : ∀ a : Addr, a.block < wr.heap.size ∧ v.ownBlock ≠ some a.block ∧ X + 1 ≤ a.block → w'.cell? a = wr.cell? a := fun a ha => World.cell?_of_block (O.2.1.block a.block ha.1 fun e => ha.2.1 e.symm)
  have himp : ∀ g, g < wr.heap.size ∧ v.ownBlock ≠ some g ∧ X + 1 ≤ g → g < w'.heap.size ∧ v'.ownBlock ≠ some g ∧ X + 1 ≤ g := fun g hg => ⟨Nat.lt_of_lt_of_le hg.1 O.size, fun e => by
    rcases O.2.2 g e with h | h
    · exact hg.2.1 h
    · omega, hg.2.2⟩
  refine ⟨H.1.trans (O.below (fun g e => (H.2.1.lt g e).1) H.2.2.1), O.own, Nat.le_trans H.2.2.1 O.size, fun r hr => ?_⟩
  rcases Nat.lt_or_ge r k with h | h
  · obtain ⟨u', h1, h2⟩ := H.2.2.2 r h
    exact ⟨u', by rw [List.getElem?_append_left (by omega)]; exact h1, h2.keep hkeep himp⟩
  · have hrk : r = k := by omega
    subst hrk
    exact ⟨u, by rw [List.getElem?_append_right (by omega), hl]; simp, hu.keep hkeep himp⟩
set_option maxRecDepth 20000 in
set_option maxHeartbeats 8000000 in
theorem copied_any (w : World) (A : Option Addr) (n c : Nat) (S : Nat → Sn) (B : Nat → List (List Nat)) (hA : SeenA w A n S B) :
    Calls Try.prog 28 #[.slice A n c] w fun e w' => ∃ A' c' bl, e = .returned (.slice A' n c') ∧ OutC w w' S B (.slice A' n c') n bl := by
  have HA := Hd.mk hA
  have hn := hA.lenA
  clear hA
  go_enter Try.func28, Try.ntmps28
  go_wp2_with fail
  go_loopw [3, 4] (fun v i wr => ∃ (k : Nat) (bl : Nat → Value), k ≤ n ∧ i = .int .i64 (k : Int) ∧ OutC w wr S B v k bl) (fun _ i _ => n - (intOf i).toNat)
  case atStart => exact ⟨0, fun _ => .slice none 0 0, by omega, rfl, Below.refl _ _, World.ownsRow_nil _ _ _ _, fun r hr => absurd hr (by omega)⟩
  case round =>
    obtain ⟨i, bl, hi, rfl, hO⟩ := hrel
    obtain ⟨wa, hwa⟩ : ∃ x, x = wr := ⟨_, rfl⟩
    subst hwa
    have HO := Hd.mk hO
    have hvw := HA.out.view.below (hO.1)
    clear hO
    by_cases hlt : i < n
    · have hki : (i : Int) < (n : Int) := by omega
      obtain ⟨g, off, hAe, hg, _, _, _, _, _, hrg, hok⟩ := hvw.at_ hlt
      subst hAe
      have HR := Hd.mk hrg
      have HON := Hd.mk (all_oneCell_toArray (Sn.one (S i) hok))
      have HZ : Hd ((wa.alloc (.cells sn0.cells.toArray 58)).heap[wa.heap.size]? = some (.cells sn0.cells.toArray 58 (0, 0))) := ⟨heap_alloc_new _ _⟩
      have HOK := Hd.mk hok
      clear hrg hok hvw
      go_wp2_with (first
        | (refine at_load ?_; refine wpList_load_mid rfl 58 (.tmp 16) rfl g (off + i * 19) rfl (S i).cells _ HR.out Try.underlying58 rfl infoS ?_)
        | (refine at_store ?_; refine wpList_store_row rfl 58 (.tmp 5) (.tmp 17) rfl wa.heap.size (S i).cells.toArray rfl rfl 58 sn0.cells.toArray HZ.out infoS rfl HON.out ?_))
      have H2 : Hd (((wa.alloc (.cells sn0.cells.toArray 58)).setRow wa.heap.size (S i).cells.toArray).heap[wa.heap.size]? = some (.cells (S i).cells.toArray 58 (0, 0)) ∧ Below wa.heap.size wa ((wa.alloc (.cells sn0.cells.toArray 58)).setRow wa.heap.size (S i).cells.toArray) ∧ ((wa.alloc (.cells sn0.cells.toArray 58)).setRow wa.heap.size (S i).cells.toArray).heap.size = wa.heap.size + 1) := ⟨setRow_heap _ _ _ _ _ _ HZ.out, below_setRow ((Below.refl _ _).alloc (Nat.le_refl _) _) (Nat.le_refl _) _, by simp⟩
      obtain ⟨w2, hw2⟩ : ∃ w2, (wa.alloc (.cells #[.int .i64 0, .int .u8 0, .int .u8 0, .int .u8 0, .int .u8 0, .int .u8 0, .int .u8 0, .int .u8 0, .int .u8 0, .int .i64 0, .int .i64 0, .int .i64 0, .string ⟨#[]⟩, .int .i64 0, .int .i64 0, .int .i64 0, .int .i64 0, .slice none 0 0, .int .i64 0] 58)).setRow wa.heap.size (S i).cells.toArray = w2 := ⟨_, rfl⟩
      have hw2' : (wa.alloc (.cells sn0.cells.toArray 58)).setRow wa.heap.size (S i).cells.toArray = w2 := hw2
      rw [hw2'] at H2
      rw [hw2]
      clear hw2 hw2' HZ HR HON hg
      obtain ⟨Ab, cb', ebl, hbk⟩ := HA.out.blk i hlt
      have hlr := HA.out.lenR i
      have hlb := HA.out.lenB i hlt
      obtain ⟨m, hm⟩ : ∃ m, (B i).length = m := ⟨_, rfl⟩
      have HM := Hd.mk hm
      have HBK := Hd.mk (And.intro ebl (And.intro hbk hlr))
      rw [hm] at ebl hlb
      clear hbk hlr hm
      have hX : w.heap.size ≤ wa.heap.size := HO.out.1.size
      have hb2 : Below w.heap.size w w2 := HO.out.1.trans (H2.out.2.1.mono hX)
      have HB2 := Hd.mk hb2
      have hx17 : ∀ W, Below (wa.heap.size + 1) w2 W → W.cell? ⟨wa.heap.size, 17, none⟩ = some (.slice Ab m cb') := fun W hW => by
        have h1 := H2.out.1
        rw [← hW.block wa.heap.size (by omega)] at h1
        rw [cell_of_row _ _ _ _ _ _ h1, ← ebl]; rfl
      have HX17 := Hd.mk hx17
      have hs2 := H2.out.2.2
      clear hx17 ebl hb2
      go_loopw [6, 7] (fun v k wr2 => ∃ (q : Nat) (us : List Value), q ≤ m ∧ k = .int .i64 (q : Int) ∧ InnC w2 wr2 wa.heap.size (B i) v q us) (fun _ k _ => m - (intOf k).toNat)
      case atStart => exact ⟨0, [], by omega, rfl, Below.refl _ _, World.ownsRow_nil _ _ _ _, by omega, fun r hr => absurd hr (by omega)⟩
      case round =>
        obtain ⟨q, us, hq, rfl, hI⟩ := hrel
        have HI := Hd.mk hI
        have d17 := HX17.out wr hI.1
        have hsz := hI.2.2.1
        clear hI
        by_cases hqm : q < m
        · have hqi : (q : Int) < (m : Int) := by omega
          obtain ⟨gk, ok, Ar, Cr, eA, hgk, hck, hrk, _⟩ := HBK.out.2.1 q (by rw [HM.out]; exact hqm)
          have hln := HBK.out.2.2 q hlt
          obtain ⟨bs, hbs⟩ : ∃ bs, (B i).getD q [] = bs := ⟨_, rfl⟩
          rw [hbs] at hck hrk hln
          have HBS := Hd.mk hbs
          obtain ⟨len, hle⟩ : ∃ len, bs.length = len := ⟨_, rfl⟩
          rw [hle] at hck hrk hln
          have HLE := Hd.mk hle
          have hbw : Below w.heap.size w wr := HB2.out.trans (HI.out.1.mono (by omega))
          have ck : wr.cell? ⟨gk, ok + q, none⟩ = some (.slice Ar len Cr) := (hbw.cell (p := ⟨gk, _, none⟩) hgk).trans hck
          have HRK : Hd (Rd (wr.alloc (.cells #[] 5)) w.heap.size Ar len (cb bs)) := ⟨(hrk.below hbw).alloc hbw.size _⟩
          have HW := Hd.mk hbw
          have hX1 : wa.heap.size < wr.heap.size := by omega
          have hgk2 : gk < wr.heap.size := by have := hbw.size; omega
          have d17' : (wr.alloc (.cells #[] 5)).cell? ⟨wa.heap.size, 17, none⟩ = some (.slice (some ⟨gk, ok, none⟩) m cb') := by rw [World.cell?_alloc_lt _ _ _ hX1, d17, eA]
          have ck' : (wr.alloc (.cells #[] 5)).cell? ⟨gk, ok + q, none⟩ = some (.slice Ar len Cr) := by rw [World.cell?_alloc_lt _ _ _ hgk2]; exact ck
          subst eA
          clear hbs hle hck hrk hbw hgk
          have h63 : Hd (0 + len ≤ maxLen) := ⟨by unfold maxLen; omega⟩
          have hby : Hd ((0 + len) * 1 ≤ 140737488355328) := ⟨by omega⟩
          have h63c : Hd (q + 1 ≤ maxLen) := ⟨by unfold maxLen; omega⟩
          have hbyc : Hd ((q + 1) * 24 ≤ 140737488355328) := ⟨by omega⟩
          have HE : Hd ((wr.alloc (.cells #[] 5)).ownsRow wr.heap.size 5 1 (.slice (some ⟨wr.heap.size, 0, none⟩) 0 0) 0 []) := ⟨(onto_lit (w := wr) (e := 5) [] (by unfold maxLen; decide)).own⟩
          go_wp2_with (at_builtin; first
            | (refine wpList_app elB rfl (.tmp 27) (.tmp 33) rfl wr.heap.size (.slice (some ⟨wr.heap.size, 0, none⟩) 0 0) 0 [] rfl HE.out w.heap.size Ar len Cr (cb bs) rfl HRK.out (cb_one bs) h63.out hby.out (by simp) ?_; intro v8 w8 hO8
               have H8 : Hd (w8.ownsRow wr.heap.size 5 1 v8 len (cb bs) ∧ Below wr.heap.size wr w8) := ⟨by have := hO8.own; simpa using this, ((Below.refl _ _).alloc (Nat.le_refl _) _).trans (hO8.below (B := wr.heap.size) (fun k hk => by simp [Value.ownBlock] at hk; omega) (by simp))⟩
               have hs8 := H8.out.2.size
               have HI9 : Hd (InnC w2 w8 wa.heap.size (B i) u6 q us) := ⟨HI.out.keep H8.out.2⟩
               have hs9 : wa.heap.size + 1 ≤ w8.heap.size := HI9.out.2.2.1
               obtain ⟨A8, c8, hv8, _, _⟩ := own_form H8.out.1
               subst hv8
               clear hO8)
            | (refine push_at0 (w0 := w8) elBB rfl (.tmp 26) (.tmp 35) rfl (wa.heap.size + 1) u6 q us (.slice A8 len c8) rfl w8.heap.size rfl rfl rfl HI9.out.2.1 h63c.out hbyc.out hs9 ?_; intro v10 w10 hO10
               have HO10 := Hd.mk hO10
               clear hO10))
          go_roundw
          case rel =>
            refine ⟨q + 1, us ++ [.slice A8 len c8], by omega, by go_num, HI9.out.push HO10.out ?_⟩
            rw [HBS.out]
            have hrow := H8.out.1
            rw [← HLE.out] at hrow ⊢
            refine (RRow.of_own hrow).keep (fun _ _ => rfl) fun g' hg' => ⟨hg'.1, fun e => ?_, by omega⟩
            have := (HI.out.2.1.lt g' e).2
            omega
          case measure => simp [intOf]; omega
        · obtain rfl : q = m := by omega
          obtain ⟨Ab6, cb6, hv6, _, _⟩ := own_form HI.out.2.1
          have hwr : Below (wa.heap.size + 1) w2 wr := HI.out.1
          have hx11 : wr.heap[wa.heap.size]? = some (.cells (S i).cells.toArray 58 (0, 0)) := by rw [hwr.block _ (by omega)]; exact H2.out.1
          have f11 : wr.frozen? ⟨wa.heap.size, 17, none⟩ = false := by simp [World.frozen?, hx11]
          subst hv6
          have HP11 : Hd ((wr.setCell ⟨wa.heap.size, 17, none⟩ (.slice Ab6 q cb6)).heap[wa.heap.size]? = some (.cells (Sn.cells { S i with bl := .slice Ab6 q cb6 }).toArray 58 (0, 0))) := ⟨cell_put hx11⟩
          have hb12 : Below wa.heap.size wa (wr.setCell ⟨wa.heap.size, 17, none⟩ (.slice Ab6 q cb6)) := (H2.out.2.1.trans (hwr.mono (by omega))).setCell (Nat.le_refl _) _
          have H12 := Hd.mk (And.intro (HO.out.keep hb12) hb12)
          have hbsd : Hd (w.heap.size ≤ (wr.setCell ⟨wa.heap.size, 17, none⟩ (.slice Ab6 q cb6)).heap.size) := ⟨Nat.le_trans hX hb12.size⟩
          have HON12 := Hd.mk (Sn.one { S i with bl := .slice Ab6 q cb6 } ⟨HOK.out.kind, HOK.out.size, HOK.out.epoch, HOK.out.count, ⟨_, _, _, rfl⟩⟩)
          have h63d : Hd (i + 1 ≤ maxLen) := ⟨by unfold maxLen; omega⟩
          have hbyd : Hd ((i + 1) * 120 ≤ 140737488355328) := ⟨by omega⟩
          clear hx11 hb12 hwr
          go_wp2_with (first
            | (refine at_load ?_; refine wpList_load_row rfl 58 (.tmp 5) rfl wa.heap.size rfl 58 (Sn.cells { S i with bl := .slice Ab6 q cb6 }).toArray (0, 0) _ HP11.out Try.underlying58 rfl infoS ?_)
            | (refine at_buildSlice ?_; refine wpList_pushN elS rfl rfl (.tmp 40) (.tmp 41) 42 rfl rfl rfl w.heap.size u3 i (lentCells S bl i) (Sn.cells { S i with bl := .slice Ab6 q cb6 }) rfl rfl HON12.out rfl rfl H12.out.1.2.1 h63d.out hbyd.out hbsd.out ?_; intro v13 w13 hO13
               have HO13 := Hd.mk hO13
               clear hO13))
          have hg3 : ∀ g, u3.ownBlock = some g → g < wa.heap.size := fun g e => (World.ownsRow.lt HO.out.2.1 g e).2
          have hul : us.length = q := by have := HI.out.2.1.1; omega
          have hz12 : (wr.setCell ⟨wa.heap.size, 17, none⟩ (.slice Ab6 q cb6)).heap.size = wr.heap.size := by simp [World.setCell]
          have keep12 : ∀ a : Addr, wa.heap.size + 1 ≤ a.block → (wr.setCell ⟨wa.heap.size, 17, none⟩ (.slice Ab6 q cb6)).cell? a = wr.cell? a := fun a ha => World.cell?_setCell_other _ _ _ _ (fun e => by have := congrArg Addr.block e; simp at this; omega)
          have hnew : RBl (wr.setCell ⟨wa.heap.size, 17, none⟩ (.slice Ab6 q cb6)) (fun g => g < (wr.setCell ⟨wa.heap.size, 17, none⟩ (.slice Ab6 q cb6)).heap.size ∧ u3.ownBlock ≠ some g) (.slice Ab6 q cb6) (B i) := by
            refine ⟨Ab6, cb6, by rw [HM.out], fun r hr => ?_⟩
            rw [HM.out] at hr
            obtain ⟨u', hu1, hu2⟩ := HI.out.2.2.2 r hr
            obtain ⟨g', o', e1, ⟨hgl, hob⟩, hcc⟩ := (RdN.of_own HI.out.2.1).2 (by omega)
            have ho0 : o' = 0 := by
              rcases HI.out.2.1.2 with ⟨hv, h0⟩ | ⟨g9, cap, cur, hv, _⟩
              · omega
              · injection hv with hv; rw [e1] at hv; injection hv with hv; injection hv
            subst ho0
            have hgb := (HI.out.2.1.lt g' hob).1
            refine ⟨g', u', e1, ⟨by rw [hz12]; exact hgl, fun e => by have := hg3 _ e; omega⟩, ?_, hu2.keep (fun a ha => keep12 a ha.2.2) fun g hg => ⟨by rw [hz12]; exact hg.1, fun e => by have := hg3 _ e; have := hg.2.2; omega⟩⟩
            rw [keep12 _ hgb]
            have := hcc r (by omega)
            rw [Nat.zero_add] at this
            rw [this]; exact hu1
          have hfin : ∀ v Bs, RBl (wr.setCell ⟨wa.heap.size, 17, none⟩ (.slice Ab6 q cb6)) (fun g => g < (wr.setCell ⟨wa.heap.size, 17, none⟩ (.slice Ab6 q cb6)).heap.size ∧ u3.ownBlock ≠ some g) v Bs → RBl w13 (fun g => g < w13.heap.size ∧ v13.ownBlock ≠ some g) v Bs := fun v Bs h =>
            h.keep (fun a ha => World.cell?_of_block (HO13.out.2.1.block a.block ha.1 fun e => ha.2 e.symm)) fun g hg => ⟨Nat.lt_of_lt_of_le hg.1 HO13.out.grows, fun e => by
              rcases HO13.out.2.2 g e with h | h
              · exact hg.2 h
              · omega⟩
          go_roundw
          case rel =>
            refine ⟨i + 1, fun r => if r = i then .slice Ab6 q cb6 else bl r, by omega, by go_num, ?_, ?_, fun r hr => ?_⟩
            · exact H12.out.1.1.trans (HO13.out.below (fun g e => (World.ownsRow.lt H12.out.1.2.1 g e).1) hbsd.out)
            · have hown := HO13.out.own
              rw [lentCells_next, lentCells_congr S (fun r => if r = i then .slice Ab6 q cb6 else bl r) bl i (fun r hr => if_neg (by omega))]
              simp only [if_true]
              exact hown
            · refine hfin _ _ ?_
              rcases Nat.lt_or_ge r i with h | h
              · simp only [if_neg (show ¬ r = i by omega)]
                exact H12.out.1.2.2 r h
              · have hri : r = i := by omega
                subst hri
                simp only [if_true]
                exact hnew
          case measure => simp [intOf]; omega
    · have hin : i = n := by omega
      subst hin
      clear hvw
      obtain ⟨A', c', hv', _, _⟩ := ownN_form HO.out.2.1
      subst hv'
      go_wp2_with fail
      go_ret
      exact ⟨A', c', bl, rfl, HO.out⟩
/-- The copy as a list of places. -/
theorem OutC.view {w wr : World} {S : Nat → Sn} {B : Nat → List (List Nat)} {A : Option Addr} {c n : Nat} {bl : Nat → Value} (H : OutC w wr S B (.slice A n c) n bl) (hok : ∀ r, r < n → SnOk (S r)) : View wr wr.heap.size A n (fun r => { S r with bl := bl r }) :=
  view_own (T := fun r => { S r with bl := bl r }) H.2.1 fun r hr => by
    obtain ⟨A', c', e, _⟩ := H.2.2 r hr
    exact ⟨(hok r hr).kind, (hok r hr).size, (hok r hr).epoch, (hok r hr).count, ⟨_, _, _, e⟩⟩
end Go.Proofs.Ytplpaipmkpjgfaa
