/- The walk of VotesOwn: it returns true for every input of bulk at most 1048576. (tools/ownwalk.py prints it.) -/
import Derived.Test.YtplpaipmkpjgfaaOwnW
import Derived.Test.YtplpaipmkpjgfaaOwnL
import Derived.Test.YtplpaipmkpjgfaaAwakeA
namespace Go.Proofs.Ytplpaipmkpjgfaa
open Go.RowKit
set_option linter.unusedVariables false
set_option linter.unusedSimpArgs false
theorem GLT.chg {T : TypeId} {base : Nat} {wr w' : World} {S : Nat → Sn} {n : Nat} {f : Wr → Value} {v : Value} {l : List Wr} {L : List Nat} (H : GLT T base wr S n f v l) (c : Chg L wr w') (hL : ∀ q ∈ L, q < base) : GLT T base w' S n f v l :=
  ⟨fun x hx => c.own (H.rows x hx) (fun q hq hm => by have := ((H.rows x hx).lt q hq).1; have := hL q hm; omega), H.apart, c.own H.out (fun q hq hm => by have := (H.out.lt q hq).1; have := hL q hm; omega), H.off⟩
theorem possP_len2 (S : Nat → Sn) (n : Nat) (k m b : Int) : (possP S n k m b).1.length ≤ (grpL S n).length := by
  unfold possP
  split
  · exact possW_len S n k _
  · exact Nat.zero_le _
/-- What Groups answers. -/
theorem groups_form (W : World) (n c : Nat) (A : Option Addr) (S : Nat → Sn) (hv : View W W.heap.size A n S) (hn : n * 120 ≤ 140737488351232) (L : List Wr) (l : Nat) (hL : grpL S n = L) (hl : L.length = l) :
    Calls Try.prog 20 #[.slice A n c] W fun e w' => ∃ A' c' f, e = .returned (.slice A' l c') ∧ GL W.heap.size w' S n f (.slice A' l c') L ∧ Below W.heap.size W w' := by
  subst hL hl
  refine (groups_any W W.heap.size n c A S hv (Nat.le_refl _) hn).mono ?_
  rintro e w' ⟨v, f, gl, rfl, hO⟩
  have hG := hO.gl
  obtain ⟨A', c', rfl, _, _⟩ := ownN_form hG.out
  exact ⟨A', c', f, rfl, ⟨fun x hx => own_low (hG.rows x hx) (Nat.le_succ _), hG.apart, own_low hG.out (Nat.le_succ _), hG.off⟩, hO.bel⟩
theorem poss_form (W : World) (n c : Nat) (A : Option Addr) (S : Nat → Sn) (hv : View W W.heap.size A n S) (hn : n * 120 ≤ 140737488351232) (k m b : Int) (L : List Wr) (bq : Bool) (l : Nat) (hL : possP S n k m b = (L, bq)) (hl : L.length = l) :
    Calls Try.prog 21 #[.agg #[.int .i64 k, .int .i64 m, .int .i64 b], .slice A n c] W fun e w' => ∃ A' c' f, e = .returned (.tuple #[.slice A' l c', .bool bq]) ∧ GL W.heap.size w' S n f (.slice A' l c') L ∧ Below W.heap.size W w' := by
  have h := possible_any W W.heap.size n c A S hv (Nat.le_refl _) hn k m b
  rw [hL] at h
  subst hl
  refine h.mono ?_
  rintro e w' ⟨v, rfl, ⟨f, hG⟩, hb⟩
  obtain ⟨A', c', rfl, _, _⟩ := ownN_form hG.out
  exact ⟨A', c', f, rfl, hG, hb⟩
theorem lists_form (w : World) (b1 b2 n c1 c2 l : Nat) (A1 A2 : Option Addr) (S : Nat → Sn) (f1 f2 : Wr → Value) (L : List Wr) (hl : L.length = l) (h1 : GL b1 w S n f1 (.slice A1 l c1) L) (h2 : GL b2 w S n f2 (.slice A2 l c2) L) (hap : Apart (.slice A1 l c1) (.slice A2 l c2))
    (hb1 : b1 ≤ w.heap.size) (hb2 : b2 ≤ w.heap.size) (hL : l ≤ n) (hn : n * 120 ≤ 140737488351232) :
    Calls Try.prog 31 #[.slice A1 l c1, .slice A2 l c2] w fun e w' => e = .returned (.bool true) ∧ Chg (blk [.slice A1 l c1, .slice A2 l c2]) w w' := by
  subst hl
  exact lists_any w b1 b2 n c1 c2 A1 A2 S f1 f2 L h1 h2 hap hb1 hb2 hL hn
theorem ret_true_of {p l : Nat} (h : p ≤ l) : Ending.returned (.bool true) = .returned (.bool true) := rfl
/-- Where VotesOwn stands. -/
structure VO (w W : World) (k m b : Int) : Prop where
  sh : W.heap[w.heap.size]? = some (.cells #[.int .i64 k, .int .i64 m, .int .i64 b] 34 (0, 0))
  bel : Below w.heap.size w W
theorem VO.big {w W : World} {k m b : Int} (H : VO w W k m b) : w.heap.size < W.heap.size := (Array.getElem?_eq_some_iff.1 H.sh).1
theorem VO.keep {w W W' : World} {k m b : Int} (H : VO w W k m b) (h : Below W.heap.size W W') : VO w W' k m b := ⟨(h.block _ H.big).trans H.sh, H.bel.trans (h.mono H.bel.size)⟩
set_option maxRecDepth 20000 in
set_option maxHeartbeats 4000000 in
theorem own_walk (w : World) (k m b : Int) (A : Option Addr) (n c : Nat) (S : Nat → Sn) (B : Nat → List (List Nat)) (hA : SeenA w A n S B) (A2 : Option Addr) (n2 c2 : Nat) (S2 : Nat → Sn) (B2 : Nat → List (List Nat)) (hA2 : SeenA w A2 n2 S2 B2) (hn : n ≤ 33554432) (hn2 : n2 ≤ 33554432) :
    Calls Try.prog 9 #[.agg #[.int .i64 k, .int .i64 m, .int .i64 b], .slice A n c, .slice A2 n2 c2] w fun e w' => e = .returned (.bool true) ∧ Below w.heap.size w w' := by
  have HS := Hd.mk (And.intro hA hA2)
  have H0 : Hd (VO w (w.alloc (.cells #[.int .i64 k, .int .i64 m, .int .i64 b] 34)) k m b) := ⟨heap_alloc_new _ _, (Below.refl _ _).alloc (Nat.le_refl _) _⟩
  have hnb : n * 120 ≤ 140737488351232 := by omega
  have hnb2 : n2 * 120 ≤ 140737488351232 := by omega
  clear hA hA2
  obtain ⟨L, hL⟩ : ∃ L, grpL S n = L := ⟨_, rfl⟩
  obtain ⟨L2, hL2⟩ : ∃ L, grpL S2 n2 = L := ⟨_, rfl⟩
  obtain ⟨⟨P, pb⟩, hP⟩ : ∃ r, possP S n k m b = r := ⟨_, rfl⟩
  obtain ⟨⟨P2, pb2⟩, hP2⟩ : ∃ r, possP S2 n2 k m b = r := ⟨_, rfl⟩
  obtain ⟨l, hl⟩ : ∃ l, L.length = l := ⟨_, rfl⟩
  obtain ⟨l2, hl2⟩ : ∃ l, L2.length = l := ⟨_, rfl⟩
  obtain ⟨p, hp⟩ : ∃ l, P.length = l := ⟨_, rfl⟩
  obtain ⟨p2, hp2⟩ : ∃ l, P2.length = l := ⟨_, rfl⟩
  have h1 : l ≤ n := by rw [← hl, ← hL]; exact grpL_le S n
  have h2 : p2 ≤ l2 := by have := possP_len2 S2 n2 k m b; rw [hP2, hL2] at this; simp only at this; omega
  have h3 : p ≤ n := by have := poss_len S n k m b; rw [hP] at this; simp only at this; omega
  have HL := Hd.mk (And.intro hL (And.intro hL2 (And.intro hP (And.intro hP2 (And.intro hl (And.intro hl2 (And.intro hp hp2)))))))
  clear hL hL2 hP hP2 hl hl2 hp hp2
  go_enter Try.func9, Try.ntmps9
  go_upto_region 1 with fail
  obtain ⟨w1, hw1⟩ : ∃ w1, w.alloc (.cells #[.int .i64 k, .int .i64 m, .int .i64 b] 34) = w1 := ⟨_, rfl⟩
  rw [hw1] at H0 ⊢
  clear hw1
  go_wp2_with fail
  refine (awake_any w1).mono ?_
  rintro e w2 ⟨rfl, hb⟩
  have H2 := Hd.mk (H0.out.keep hb)
  clear hb H0
  go_wp2_with fail
  go_loopw [8] (fun u8 wr => ∃ i : Nat, i ≤ 5 ∧ u8 = .int .i64 (i : Int) ∧ VO w wr k m b) (fun u8 _ => 5 - (intOf u8).toNat)
  case atStart => exact ⟨0, by omega, rfl, H2.out⟩
  case round =>
    clear H2
    obtain ⟨i, hi, rfl, hO⟩ := hrel
    have H1 := Hd.mk hO
    clear hO
    by_cases hlt : i < 5
    · have hii : (i : Int) < 5 := by omega
      go_wp2_with (refine at_load ?_; refine wpList_load_row rfl 34 (.tmp 3) rfl w.heap.size rfl 34 #[.int .i64 k, .int .i64 m, .int .i64 b] (0, 0) _ H1.out.sh Try.underlying34 rfl infoSh ?_)
      refine (own_any wr (i : Int) k m b A n c S B (HS.out.1.keep H1.out.bel) A2 n2 c2 S2 B2 (HS.out.2.keep H1.out.bel) hn hn2).mono ?_
      rintro e w3 ⟨rfl, hb⟩
      have H3 := Hd.mk (H1.out.keep hb)
      clear hb H1
      go_wp2_with fail
      go_roundw
      case rel => exact ⟨i + 1, by omega, by go_num, H3.out⟩
      case measure => simp [intOf]; omega
    · have hi5 : i = 5 := by omega
      subst hi5
      go_wp2_with fail
      refine (groups_form wr n c A S (HS.out.1.keep H1.out.bel).view hnb L l HL.out.1 HL.out.2.2.2.2.1 ).mono ?_
      rintro e wg ⟨Ag, cg, fg, rfl, hG, hb⟩
      obtain ⟨bg, hbg⟩ : ∃ x, wr.heap.size = x := ⟨_, rfl⟩
      have hszg : Hd (wr.heap.size = bg ∧ bg ≤ wg.heap.size) := ⟨hbg, by have := hb.size; omega⟩
      have Hg : Hd (VO w wg k m b ∧ (GL bg wg S n fg (.slice Ag l cg) L ∧ 0 ≤ bg ∧ bg ≤ wg.heap.size) ∧ True) := ⟨H1.out.keep hb, ⟨by rw [← hbg]; exact hG, Nat.zero_le _, hszg.out.2⟩, trivial⟩
      have HTg : Hd (∀ x, (Value.slice Ag l cg).ownBlock = some x → bg ≤ x ∧ x < wg.heap.size) := ⟨fun x hx => by rw [← hbg]; exact hG.out.lt x hx⟩
      clear hG hb hbg 
      go_wp2_with fail
      refine (groups_form wg n2 c2 A2 S2 (HS.out.2.keep Hg.out.1.bel).view hnb2 L2 l2 HL.out.2.1 HL.out.2.2.2.2.2.1 ).mono ?_
      rintro e wn ⟨An, cn, fn, rfl, hG, hb⟩
      obtain ⟨bn, hbn⟩ : ∃ x, wg.heap.size = x := ⟨_, rfl⟩
      have hszn : Hd (wg.heap.size = bn ∧ bn ≤ wn.heap.size) := ⟨hbn, by have := hb.size; omega⟩
      have Hn : Hd (VO w wn k m b ∧ (GL bg wn S n fg (.slice Ag l cg) L ∧ 0 ≤ bg ∧ bg ≤ wn.heap.size) ∧ (GL bn wn S2 n2 fn (.slice An l2 cn) L2 ∧ 0 ≤ bn ∧ bn ≤ wn.heap.size) ∧ True) := ⟨Hg.out.1.keep hb, ⟨Hg.out.2.1.1.keep hb, Nat.zero_le _, Nat.le_trans Hg.out.2.1.2.2 hb.size⟩, ⟨by rw [← hbn]; exact hG, Nat.zero_le _, hszn.out.2⟩, trivial⟩
      have HTn : Hd (∀ x, (Value.slice An l2 cn).ownBlock = some x → bn ≤ x ∧ x < wn.heap.size) := ⟨fun x hx => by rw [← hbn]; exact hG.out.lt x hx⟩
      clear hG hb hbn Hg
      go_wp2_with fail
      refine (groups_form wn n c A S (HS.out.1.keep Hn.out.1.bel).view hnb L l HL.out.1 HL.out.2.2.2.2.1 ).mono ?_
      rintro e wh ⟨Ah, ch, fh, rfl, hG, hb⟩
      obtain ⟨bh, hbh⟩ : ∃ x, wn.heap.size = x := ⟨_, rfl⟩
      have hszh : Hd (wn.heap.size = bh ∧ bh ≤ wh.heap.size) := ⟨hbh, by have := hb.size; omega⟩
      have Hh : Hd (VO w wh k m b ∧ (GL bg wh S n fg (.slice Ag l cg) L ∧ 0 ≤ bg ∧ bg ≤ wh.heap.size) ∧ (GL bn wh S2 n2 fn (.slice An l2 cn) L2 ∧ 0 ≤ bn ∧ bn ≤ wh.heap.size) ∧ (GL bh wh S n fh (.slice Ah l ch) L ∧ 0 ≤ bh ∧ bh ≤ wh.heap.size) ∧ True) := ⟨Hn.out.1.keep hb, ⟨Hn.out.2.1.1.keep hb, Nat.zero_le _, Nat.le_trans Hn.out.2.1.2.2 hb.size⟩, ⟨Hn.out.2.2.1.1.keep hb, Nat.zero_le _, Nat.le_trans Hn.out.2.2.1.2.2 hb.size⟩, ⟨by rw [← hbh]; exact hG, Nat.zero_le _, hszh.out.2⟩, trivial⟩
      have HTh : Hd (∀ x, (Value.slice Ah l ch).ownBlock = some x → bh ≤ x ∧ x < wh.heap.size) := ⟨fun x hx => by rw [← hbh]; exact hG.out.lt x hx⟩
      clear hG hb hbh Hn
      go_wp2_with (refine at_load ?_; refine wpList_load_row rfl 34 (.tmp 3) rfl w.heap.size rfl 34 #[.int .i64 k, .int .i64 m, .int .i64 b] (0, 0) _ Hh.out.1.sh Try.underlying34 rfl infoSh ?_)
      refine (poss_form wh n c A S (HS.out.1.keep Hh.out.1.bel).view hnb k m b P pb p HL.out.2.2.1 HL.out.2.2.2.2.2.2.1).mono ?_
      rintro e wp ⟨Ap, cp, fp, rfl, hG, hb⟩
      obtain ⟨bp, hbp⟩ : ∃ x, wh.heap.size = x := ⟨_, rfl⟩
      have hszp : Hd (wh.heap.size = bp ∧ bp ≤ wp.heap.size) := ⟨hbp, by have := hb.size; omega⟩
      have Hp : Hd (VO w wp k m b ∧ (GL bg wp S n fg (.slice Ag l cg) L ∧ 0 ≤ bg ∧ bg ≤ wp.heap.size) ∧ (GL bn wp S2 n2 fn (.slice An l2 cn) L2 ∧ 0 ≤ bn ∧ bn ≤ wp.heap.size) ∧ (GL bh wp S n fh (.slice Ah l ch) L ∧ 0 ≤ bh ∧ bh ≤ wp.heap.size) ∧ (GL bp wp S n fp (.slice Ap p cp) P ∧ 0 ≤ bp ∧ bp ≤ wp.heap.size) ∧ True) := ⟨Hh.out.1.keep hb, ⟨Hh.out.2.1.1.keep hb, Nat.zero_le _, Nat.le_trans Hh.out.2.1.2.2 hb.size⟩, ⟨Hh.out.2.2.1.1.keep hb, Nat.zero_le _, Nat.le_trans Hh.out.2.2.1.2.2 hb.size⟩, ⟨Hh.out.2.2.2.1.1.keep hb, Nat.zero_le _, Nat.le_trans Hh.out.2.2.2.1.2.2 hb.size⟩, ⟨by rw [← hbp]; exact hG, Nat.zero_le _, hszp.out.2⟩, trivial⟩
      have HTp : Hd (∀ x, (Value.slice Ap p cp).ownBlock = some x → bp ≤ x ∧ x < wp.heap.size) := ⟨fun x hx => by rw [← hbp]; exact hG.out.lt x hx⟩
      clear hG hb hbp Hh
      go_wp2_with (refine at_load ?_; refine wpList_load_row rfl 34 (.tmp 3) rfl w.heap.size rfl 34 #[.int .i64 k, .int .i64 m, .int .i64 b] (0, 0) _ Hp.out.1.sh Try.underlying34 rfl infoSh ?_)
      refine (poss_form wp n2 c2 A2 S2 (HS.out.2.keep Hp.out.1.bel).view hnb2 k m b P2 pb2 p2 HL.out.2.2.2.1 HL.out.2.2.2.2.2.2.2).mono ?_
      rintro e wm ⟨Am, cm, fm, rfl, hG, hb⟩
      obtain ⟨bm, hbm⟩ : ∃ x, wp.heap.size = x := ⟨_, rfl⟩
      have hszm : Hd (wp.heap.size = bm ∧ bm ≤ wm.heap.size) := ⟨hbm, by have := hb.size; omega⟩
      have Hm : Hd (VO w wm k m b ∧ (GL bg wm S n fg (.slice Ag l cg) L ∧ 0 ≤ bg ∧ bg ≤ wm.heap.size) ∧ (GL bn wm S2 n2 fn (.slice An l2 cn) L2 ∧ 0 ≤ bn ∧ bn ≤ wm.heap.size) ∧ (GL bh wm S n fh (.slice Ah l ch) L ∧ 0 ≤ bh ∧ bh ≤ wm.heap.size) ∧ (GL bp wm S n fp (.slice Ap p cp) P ∧ 0 ≤ bp ∧ bp ≤ wm.heap.size) ∧ (GL bm wm S2 n2 fm (.slice Am p2 cm) P2 ∧ 0 ≤ bm ∧ bm ≤ wm.heap.size) ∧ True) := ⟨Hp.out.1.keep hb, ⟨Hp.out.2.1.1.keep hb, Nat.zero_le _, Nat.le_trans Hp.out.2.1.2.2 hb.size⟩, ⟨Hp.out.2.2.1.1.keep hb, Nat.zero_le _, Nat.le_trans Hp.out.2.2.1.2.2 hb.size⟩, ⟨Hp.out.2.2.2.1.1.keep hb, Nat.zero_le _, Nat.le_trans Hp.out.2.2.2.1.2.2 hb.size⟩, ⟨Hp.out.2.2.2.2.1.1.keep hb, Nat.zero_le _, Nat.le_trans Hp.out.2.2.2.2.1.2.2 hb.size⟩, ⟨by rw [← hbm]; exact hG, Nat.zero_le _, hszm.out.2⟩, trivial⟩
      have HTm : Hd (∀ x, (Value.slice Am p2 cm).ownBlock = some x → bm ≤ x ∧ x < wm.heap.size) := ⟨fun x hx => by rw [← hbm]; exact hG.out.lt x hx⟩
      clear hG hb hbm Hp
      go_wp2_with (refine at_load ?_; refine wpList_load_row rfl 34 (.tmp 3) rfl w.heap.size rfl 34 #[.int .i64 k, .int .i64 m, .int .i64 b] (0, 0) _ Hm.out.1.sh Try.underlying34 rfl infoSh ?_)
      refine (poss_form wm n c A S (HS.out.1.keep Hm.out.1.bel).view hnb k m b P pb p HL.out.2.2.1 HL.out.2.2.2.2.2.2.1).mono ?_
      rintro e wq ⟨Aq, cq, fq, rfl, hG, hb⟩
      obtain ⟨bq, hbq⟩ : ∃ x, wm.heap.size = x := ⟨_, rfl⟩
      have hszq : Hd (wm.heap.size = bq ∧ bq ≤ wq.heap.size) := ⟨hbq, by have := hb.size; omega⟩
      have Hq : Hd (VO w wq k m b ∧ (GL bg wq S n fg (.slice Ag l cg) L ∧ 0 ≤ bg ∧ bg ≤ wq.heap.size) ∧ (GL bn wq S2 n2 fn (.slice An l2 cn) L2 ∧ 0 ≤ bn ∧ bn ≤ wq.heap.size) ∧ (GL bh wq S n fh (.slice Ah l ch) L ∧ 0 ≤ bh ∧ bh ≤ wq.heap.size) ∧ (GL bp wq S n fp (.slice Ap p cp) P ∧ 0 ≤ bp ∧ bp ≤ wq.heap.size) ∧ (GL bm wq S2 n2 fm (.slice Am p2 cm) P2 ∧ 0 ≤ bm ∧ bm ≤ wq.heap.size) ∧ (GL bq wq S n fq (.slice Aq p cq) P ∧ 0 ≤ bq ∧ bq ≤ wq.heap.size) ∧ True) := ⟨Hm.out.1.keep hb, ⟨Hm.out.2.1.1.keep hb, Nat.zero_le _, Nat.le_trans Hm.out.2.1.2.2 hb.size⟩, ⟨Hm.out.2.2.1.1.keep hb, Nat.zero_le _, Nat.le_trans Hm.out.2.2.1.2.2 hb.size⟩, ⟨Hm.out.2.2.2.1.1.keep hb, Nat.zero_le _, Nat.le_trans Hm.out.2.2.2.1.2.2 hb.size⟩, ⟨Hm.out.2.2.2.2.1.1.keep hb, Nat.zero_le _, Nat.le_trans Hm.out.2.2.2.2.1.2.2 hb.size⟩, ⟨Hm.out.2.2.2.2.2.1.1.keep hb, Nat.zero_le _, Nat.le_trans Hm.out.2.2.2.2.2.1.2.2 hb.size⟩, ⟨by rw [← hbq]; exact hG, Nat.zero_le _, hszq.out.2⟩, trivial⟩
      have HTq : Hd (∀ x, (Value.slice Aq p cq).ownBlock = some x → bq ≤ x ∧ x < wq.heap.size) := ⟨fun x hx => by rw [← hbq]; exact hG.out.lt x hx⟩
      clear hG hb hbq Hm
      have e1 := hszg.out
      have e2 := hszn.out
      have e3 := hszh.out
      have e4 := hszp.out
      have e5 := hszm.out
      have e6 := hszq.out
      have HE := Hd.mk (And.intro e1 (And.intro e2 (And.intro e3 (And.intro e4 (And.intro e5 e6)))))
      clear e1 e2 e3 e4 e5 e6
      have HGL : Hd (∀ x ∈ blk [Value.slice Ag l cg, Value.slice Ah l ch], x < bp ∧ bg ≤ x) := ⟨fun x hx => by
        obtain ⟨e1, e2, e3, e4, e5, e6⟩ := HE.out
        obtain ⟨u, hu, he⟩ := List.mem_filterMap.1 hx
        simp only [List.mem_cons, List.not_mem_nil, or_false] at hu
        rcases hu with rfl | rfl
        · have := HTg.out x he; omega
        · have := HTh.out x he; omega⟩
      have HPL : Hd (∀ x ∈ blk [Value.slice Ap p cp, Value.slice Aq p cq], bg ≤ x) := ⟨fun x hx => by
        obtain ⟨e1, e2, e3, e4, e5, e6⟩ := HE.out
        obtain ⟨u, hu, he⟩ := List.mem_filterMap.1 hx
        simp only [List.mem_cons, List.not_mem_nil, or_false] at hu
        rcases hu with rfl | rfl
        · have := HTp.out x he; omega
        · have := HTq.out x he; omega⟩
      have HA1 : Hd (Apart (.slice Ag l cg) (.slice Ah l ch) ∧ Apart (.slice Ap p cp) (.slice Aq p cq)) := ⟨by
        obtain ⟨e1, e2, e3, e4, e5, e6⟩ := HE.out
        refine ⟨fun x x1 x2 => ?_, fun x x1 x2 => ?_⟩
        · have := HTg.out x x1; have := HTh.out x x2; omega
        · have := HTp.out x x1; have := HTq.out x x2; omega⟩
      go_wp2_with fail
      refine (lists_form wq bg bh n cg ch l Ag Ah S fg fh L HL.out.2.2.2.2.1 Hq.out.2.1.1 Hq.out.2.2.2.1.1 HA1.out.1 Hq.out.2.1.2.2 Hq.out.2.2.2.1.2.2 h1 hnb).mono ?_
      rintro e z1 ⟨rfl, hC⟩
      have Z1 : Hd (GL bp z1 S n fp (.slice Ap p cp) P ∧ GL bq z1 S n fq (.slice Aq p cq) P ∧ bp ≤ z1.heap.size ∧ bq ≤ z1.heap.size ∧ Below w.heap.size w z1) := ⟨Hq.out.2.2.2.2.1.1.chg hC (fun x hx => (HGL.out x hx).1), Hq.out.2.2.2.2.2.2.1.1.chg hC (fun x hx => by have := (HGL.out x hx).1; obtain ⟨e1, e2, e3, e4, e5, e6⟩ := HE.out; omega), Nat.le_trans Hq.out.2.2.2.2.1.2.2 hC.size, Nat.le_trans Hq.out.2.2.2.2.2.2.1.2.2 hC.size, Hq.out.1.bel.trans (hC.below Hq.out.1.bel.size (fun x hx => by have := (HGL.out x hx).2; have := H1.out.bel.size; have := hszg.out; omega))⟩
      clear hC
      go_wp2_with fail
      refine (lists_form z1 bp bq n cp cq p Ap Aq S fp fq P HL.out.2.2.2.2.2.2.1 Z1.out.1 Z1.out.2.1 HA1.out.2 Z1.out.2.2.1 Z1.out.2.2.2.1 h3 hnb).mono ?_
      rintro e z2 ⟨rfl, hC⟩
      have Z2 : Hd (Below w.heap.size w z2) := ⟨Z1.out.2.2.2.2.trans (hC.below Z1.out.2.2.2.2.size (fun x hx => by have := HPL.out x hx; have := H1.out.bel.size; have := hszg.out; omega))⟩
      clear hC
      have h2i : (p2 : Int) ≤ (l2 : Int) := by omega
      go_wp2_with fail
      go_ret
      exact ⟨ret_true_of h2, Z2.out⟩
end Go.Proofs.Ytplpaipmkpjgfaa
