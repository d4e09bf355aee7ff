/- Contract of asked: Push. (tools/askd0gen.py prints it.) -/
import Derived.Test.YtbcmjjcbjojakaaPk16
import Derived.Deep.CutRange
import Derived.Deep.Cut
import Derived.Test.YtbcmjjcbjojakaaPk1
namespace Go.Proofs.Ytbcmjjcbjojakaa
open Go.RowKit
set_option linter.unusedVariables false
set_option linter.unusedSimpArgs false
theorem AsDone.ofPair {T : Type} {Z : Kd T} {base : Nat} {w wz : World} {g : Nat} {vl vc vq : Value} {ws : List Wm} {vs vm : Value} {st : List Nat} {wm : List Wm} {n : Nat} {X' : List Nat} {Hs' : Nat → Prop} {V2 : Array Value} {fl2 : Int} {st2 : List Nat} (hp : PairAt Z base wz g X' Hs' V2 fl2 st2) (hc : Chg (rdX g vl vc vq) w wz)
  (hX : ∀ x ∈ X', x ∈ rdX g vl vc vq ∨ w.heap.size ≤ x) (hH : ∀ k, Hs' k → PrH ws vs vm wm k ∨ w.heap.size ≤ k) (hl : st2.length ≤ st.length + n) : AsDone Z base w g vl vc vq ws vs vm st wm n (.returned (.tuple #[.agg V2, .bool true])) wz := by
 obtain ⟨vl', vc', vq', L', m', C', ws', xs', vs', vm', wm', xm', hd', h1, h2, h3, h4⟩ := hp
 exact ⟨vl', vc', vq', L', m', C', fl2, ws', xs', vs', vm', st2, wm', xm', hd', by rw [h4], h1, hc, h2 ▸ hX, fun k hk => hH k (h3 k hk), hl⟩
theorem infoU8 : (Try.prog.info? 5).map (·.size) = some 1 := by kernel_rfl
set_option maxRecDepth 20000 in
set_option maxHeartbeats 16000000 in
theorem asked_push {T : Type} (Z : Kd T) (HTL : ThruLaw Z) (HMS : MsgLaw Z) (base : Nat) (w : World) (g : Nat) (vl vc vq : Value) (L : List Nat) (m : Mid) (C : Nat) (fl : Int) (ws : List Wm) (xs : List T) (vs vm : Value) (st : List Nat) (wm : List Wm) (xm : List T) (hd : Nat) (h : PrS Z base w g vl vc vq L m C fl ws xs vs vm st wm xm hd) (who : Int) (A : Option Addr) (n c : Nat) (bs : List Nat) (hr : Rd w base A n (cb bs)) (hb : ∀ x ∈ bs, x < 256) (hnc : n ≤ c) (hst : st.length + n ≤ 67108864) :
  Calls Try.prog 28 #[.pointer (some ⟨g, 0, none⟩), .agg (thC Z.ans vs hd vm fl ((go Z.rd mid0 st).held : Int)), .agg #[.int .i64 who, .int .i64 0, .slice A n c]] w (AsDone Z base w g vl vc vq ws vs vm st wm n) := by
 have hbl : bs.length = n := by have := hr.1; rwa [cb_length] at this
 have HI := Hd.mk (And.intro hr (And.intro hb (And.intro hnc hbl)))
 have HLW := Hd.mk (And.intro HTL HMS)
 have hmax : n ≤ 67108864 := by omega
 have hcmax := hnc
 have HBS : Hd (base ≤ w.heap.size ∧ ∀ x ∈ rdX g vl vc vq, base ≤ x) := ⟨by have := h.rd.bg; have := h.rd.lt; omega, fun x hx => (h.rd.ltX hx).1⟩
 clear hr hb hbl HTL HMS
 obtain ⟨hv, hhv⟩ : ∃ q, (go Z.rd mid0 st).held = q := ⟨_, rfl⟩
 have HP := Hd.mk h
 have HV := Hd.mk hhv
 have hvm1 : (if Z.ans then .slice none 0 0 else vm : Value).oneCell' = true ∧ (if Z.ans then vm else .slice none 0 0 : Value).oneCell' = true := by
  have := que_one h.md.th.qu
  constructor <;> split <;> first | rfl | exact this
 obtain ⟨As, cs, hvs, _, _⟩ := own_form h.md.th.so
 subst hvs
 obtain ⟨RL, hRC⟩ : ∃ R : List Value, [.bool Z.ans, .slice As st.length cs, .int .i64 (hd : Int), (if Z.ans then .slice none 0 0 else vm), (if Z.ans then vm else .slice none 0 0), .int .i64 fl, .int .i64 (hv : Int)] = R := ⟨_, rfl⟩
 have hth : thC Z.ans (.slice As st.length cs) hd vm fl (hv : Int) = RL.toArray := by rw [← hRC]; rfl
 have HRC : Hd (RL = [.bool Z.ans, .slice As st.length cs, .int .i64 (hd : Int), (if Z.ans then .slice none 0 0 else vm), (if Z.ans then vm else .slice none 0 0), .int .i64 fl, .int .i64 (hv : Int)] ∧ RL.length = 7 ∧ RL.toArray.all (·.oneCell') = true ∧ thC Z.ans (.slice As st.length cs) hd vm fl (hv : Int) = RL.toArray) := ⟨by rw [hth, ← hRC]; exact ⟨rfl, rfl, one7 rfl rfl rfl hvm1.1 hvm1.2 rfl rfl, rfl⟩⟩
 obtain ⟨g4, hg4⟩ : ∃ q, w.heap.size = q := ⟨_, rfl⟩
 obtain ⟨g5, hg5⟩ : ∃ q, g4 + 1 = q := ⟨_, rfl⟩
 obtain ⟨g6, hg6⟩ : ∃ q, g5 + 1 = q := ⟨_, rfl⟩
 obtain ⟨w1, hw1⟩ : ∃ U, ((w.alloc (.cells RL.toArray 65)).alloc (.cells #[.int .i64 who, .int .i64 0, .slice A n c] 68)).alloc (.cells #[.bool false, .slice none 0 0, .int .i64 0, .slice none 0 0, .slice none 0 0, .int .i64 0, .int .i64 0] 65) = U := ⟨_, rfl⟩
 have HB : Hd (w1.heap[g4]? = some (.cells RL.toArray 65) ∧ w1.heap[g5]? = some (.cells #[.int .i64 who, .int .i64 0, .slice A n c] 68) ∧ w1.heap[g6]? = some (.cells #[.bool false, .slice none 0 0, .int .i64 0, .slice none 0 0, .slice none 0 0, .int .i64 0, .int .i64 0] 65) ∧ Chg [] w w1 ∧ w1.heap.size = g6 + 1 ∧ g4 + 1 = g5 ∧ g5 + 1 = g6 ∧ w.heap.size = g4) := ⟨by
  refine ⟨?_, ?_, ?_, ?_, ?_, hg5, hg6, hg4⟩
  ·rw [← hw1, ← hg4, heap_alloc_old _ _ (by simp; omega), heap_alloc_old _ _ (by simp)]; exact heap_alloc_new w _
  ·rw [← hw1, ← hg5, ← hg4, heap_alloc_old _ _ (by simp)]; have := heap_alloc_new (w.alloc (.cells RL.toArray 65)) (.cells #[.int .i64 who, .int .i64 0, .slice A n c] 68); simpa using this
  ·rw [← hw1, ← hg6, ← hg5, ← hg4]; have := heap_alloc_new ((w.alloc (.cells RL.toArray 65)).alloc (.cells #[.int .i64 who, .int .i64 0, .slice A n c] 68)) (.cells #[.bool false, .slice none 0 0, .int .i64 0, .slice none 0 0, .slice none 0 0, .int .i64 0, .int .i64 0] 65); simpa using this
  ·rw [← hw1]; exact (((Chg.refl [] w).alloc _).alloc _).alloc _
  ·rw [← hw1, ← hg6, ← hg5, ← hg4]; simp⟩
 rw [hhv, hth]
 clear hRC h hhv hvm1 hth
 go_enter Try.func28, Try.ntmps28
 go_upto_region 1 with fail
 try rw [hw1]
 try rw [hg4]
 try rw [hg5]
 try rw [hg6]
 clear hw1 hg4 hg5 hg6
 have cD : w1.cell? ⟨g5, 1, none⟩ = some (.int .i64 0) := by rw [cell_of_row w1 g5 1 _ _ (0, 0) HB.out.2.1]; rfl
 obtain ⟨half, hhf⟩ : ∃ q, n / 2 = q := ⟨_, rfl⟩
 have hh2 : 2 * half ≤ n := by omega
 have HQ : Hd ((n : Int).tdiv 2 = (half : Int) ∧ IntKind.i64.wrap (half : Int) = (half : Int)) := ⟨by rw [Int.tdiv_eq_ediv_of_nonneg (by omega), ← hhf]; rfl, by rw [IntKind.wrap_i64]; omega⟩
 have c52 : w1.cell? ⟨g5, 2, none⟩ = some (.slice A n c) := by rw [cell_of_row w1 g5 2 _ _ (0, 0) HB.out.2.1]; rfl
 have s4 : ∀ W, (Instr.slice 26 (.slice A n c) none (some (.int .i64 (half : Int))) none).run Try.prog W = .ok (.slice A half c) W := fun W => run_cut_to elB A n c half (by omega)
 clear hhf
 obtain ⟨hquo, hquw⟩ := HQ.out
 go_wp2_with fail
 clear hquo hquw
 refine (lent_any w1 A half c w1.heap.size (bs.take half) (by have := ((HI.out.1.below (HB.out.2.2.2.1.below HBS.out.1 (by simp))).more (Nat.le_trans HBS.out.1 HB.out.2.2.2.1.size)).take (h := half) (by omega); rwa [cb_take] at this) (by omega) (Nat.le_refl _)).mono ?_
 rintro e wl ⟨gl, cap, rfl, hol, hbl, hgl1, hgl2, hcap⟩
 obtain ⟨X0, hX0⟩ : ∃ q, rdX g vl vc vq = q := ⟨_, rfl⟩
 obtain ⟨Hs, hHs⟩ : ∃ q : Nat → Prop, (fun k => PrH ws (.slice As st.length cs) vm wm k ∧ k < g4) = q := ⟨_, rfl⟩
 obtain ⟨TC, hTC⟩ : ∃ q : Array Value, #[.int .i64 who, .int .i64 0, .slice A n c] = q := ⟨_, rfl⟩
 have HTC : Hd (TC[2]? = some (.slice A n c)) := ⟨by rw [← hTC]; rfl⟩
 have HXH := Hd.mk (And.intro hX0 hHs)
 have HA : Hd (A0 Z base w wl wl g g4 g5 g6 gl half cap TC Hs X0 X0 RL.toArray fl st ∧ half + 64 ≤ cap) := ⟨by
  have q := HB.out.2.2.2.2
  refine ⟨⟨(hbl.block g4 (by omega)).trans HB.out.1, by rw [← hTC]; exact (hbl.block g5 (by omega)).trans HB.out.2.1, (hbl.block g6 (by omega)).trans HB.out.2.2.1, ⟨bs.take half, by rw [List.length_take, HI.out.2.2.2]; omega, by rw [← q.1]; exact hol⟩, ?_, fun x hx => .inl hx, ?_, Nat.le_refl _, q.2.2.2, q.2.1, q.2.2.1, by omega, hgl2, fun x hx => ?_, fun k hk => ?_⟩, hcap⟩
  ·refine ⟨vl, vc, vq, L, m, C, ws, xs, _, vm, wm, xm, hd, HP.out.new (HB.out.2.2.2.1.trans (Chg.of_below hbl)), hX0.symm, fun k hk => .inl (by rw [← hHs]; exact ⟨hk, by have := HP.out.ltH hk; omega⟩), by rw [HV.out]; exact HRC.out.2.2.2.symm⟩
  ·exact (HB.out.2.2.2.1.trans (Chg.of_below hbl)).mono (by simp)
  ·rw [← hX0] at hx; have := (HP.out.rd.ltX hx).2; omega
  ·rw [← hHs] at hk; exact hk.2⟩
 have HRDI : Hd (∀ W, Chg X0 w W → Rd W W.heap.size A n (cb bs)) := ⟨fun W b => (HI.out.1.below (b.below HBS.out.1 (by rw [← hX0]; exact HBS.out.2))).more (Nat.le_trans HBS.out.1 b.size)⟩
 clear hol hbl hgl1 hgl2 hcap hX0 hHs hTC cD c52 s4
 go_wp2_with fail
 go_loopw [10] (fun u10 wr => ∃ (t : Nat) (X : List Nat) (V : Array Value) (fl' : Int) (st' : List Nat), u10 = .int .i64 (t : Int) ∧ t ≤ 2 ∧ A0 Z base w wl wr g g4 g5 g6 gl half cap TC Hs X0 X V fl' st' ∧ st'.length ≤ st.length + t * half) (fun u10 _ => 2 - (intOf u10).toNat)
 case atStart => exact ⟨0, X0, RL.toArray, fl, st, rfl, by omega, HA.out.1, by omega⟩
 case round =>
  obtain ⟨t, X, V, fl', st', rfl, ht, hA, hsl⟩ := hrel
  have HS := Hd.mk hA
  have HCP := Hd.mk HA.out.2
  clear hA HA
  by_cases h2 : t < 2
  ·skip
   have h2i : (t : Int) < 2 := by omega
   obtain ⟨th, hth⟩ : ∃ q, t * half = q := ⟨_, rfl⟩
   obtain ⟨th2, hth2⟩ : ∃ q, th + half = q := ⟨_, rfl⟩
   have hthn : th2 ≤ n := by
    have h3 : t = 0 ∨ t = 1 := by omega
    rcases h3 with rfl | rfl <;> simp at hth <;> omega
   have hmul : (t : Int) * (half : Int) = (th : Int) := by rw [← hth]; simp
   have HE : Hd (IntKind.i64.wrap ((t : Int) * (half : Int)) = (th : Int) ∧ IntKind.i64.wrap ((th : Int) + (half : Int)) = (th2 : Int)) := ⟨by rw [hmul, IntKind.wrap_i64]; omega, by rw [IntKind.wrap_i64]; omega⟩
   obtain ⟨A8, d8, s8, hd8, r8⟩ := cut_seg (A := A) bs HI.out.2.2.1 (l := th) (h := th2) (k := half) hth2 hthn
   have c52 : wr.cell? ⟨g5, 2, none⟩ = some (.slice A n c) := by rw [cell_of_row wr g5 2 _ _ (0, 0) HS.out.b5]; exact HTC.out
   obtain ⟨b1, hb1⟩ : ∃ q, seg bs th half = q := ⟨_, rfl⟩
   rw [hb1] at r8
   have HB1 : Hd (b1.length = half ∧ (∀ x ∈ b1, x < 256) ∧ (∀ W B, Rd W B A n (cb bs) → Rd W B A8 half (cb b1)) ∧ st'.length ≤ st.length + t * half ∧ t * half = th) := ⟨by rw [← hb1]; exact seg_len (by rw [HI.out.2.2.2]; omega), by rw [← hb1]; exact seg_lt HI.out.2.1 th half, r8, hsl, hth⟩
   clear hb1 r8 hsl hth hmul hd8
   obtain ⟨e1, e2⟩ := HE.out
   go_wp2_with fail
   clear e1 e2 c52 s8
   refine (copied_any wr A8 half d8 wr.heap.size b1 (HB1.out.2.2.1 wr _ (HRDI.out wr HS.out.ch)) (by omega)).mono ?_
   rintro e wc ⟨An, cn, rfl, hoc, hcn, hbc⟩
   have HC : Hd (wc.ownsRow wr.heap.size 5 1 (.slice An half cn) half (cb b1) ∧ Chg [] wr wc) := ⟨hoc, Chg.of_below hbc⟩
   have HV : Hd (V.size = 7 ∧ V.all (·.oneCell') = true) := ⟨HS.out.pr.vals.1, HS.out.pr.vals.2.1⟩
   have hb4 := (HS.out.new HC.out.2).b4
   clear hoc hcn hbc
   go_wp2_with (refine at_load (x := .tmp 4) ?_; refine wpList_load_row rfl 65 (.tmp 4) rfl g4 rfl 65 V (0, 0) _ hb4 Try.underlying65 rfl (by rw [infoRdr7, HV.out.1]) ?_)
   refine (pair_push Z HLW.out.1 HLW.out.2 base wc g X _ V fl' st' (HS.out.pr.new HC.out.2) An half cn b1 (Rd.of_own HC.out.1) HB1.out.2.1 (by have := HB1.out.2.2.2; omega)).mono ?_
   rintro e wd ⟨V', fl2, st2, rfl, hcd, hV', hlen, hlaw⟩
   have HD : Hd (Chg [] wc wd ∧ (V'.size = 7 ∧ V'.all (·.oneCell') = true) ∧ st2.length ≤ st'.length + b1.length) := ⟨hcd, hV', hlen⟩
   have HLAW := Hd.mk hlaw
   have hb4d := (HS.out.new (HC.out.2.trans HD.out.1)).b4
   have HG4 : Hd (g4 < wd.heap.size ∧ g4 ∉ X) := ⟨(HS.out.new (HC.out.2.trans HD.out.1)).own.1, HS.out.boxoff.1⟩
   clear hcd hV' hlen hlaw hb4
   go_upto_region 11 with (first | (refine at_store (x := .tmp 12) ?_; refine wpList_boxed rfl 65 (.tmp 12) (.tmp 61) rfl wd.heap.size rfl V' rfl rfl (by rw [infoRdr7, HD.out.2.1.1]) (by rw [HD.out.2.1.1]; rfl) HD.out.2.1.2 ?_; intro we hBe) | (refine at_load (x := .tmp 12) ?_; refine wpList_load_row rfl 65 (.tmp 12) rfl wd.heap.size rfl 65 V' (0, 0) _ hBe.out.1 Try.underlying65 rfl (by rw [infoRdr7, HD.out.2.1.1]) ?_) | (refine at_store (x := .tmp 4) ?_; refine wpList_stored rfl 65 (.tmp 4) (.tmp 63) rfl g4 V' rfl rfl 65 V ((hBe.out.2.1.block g4 HG4.out.1).trans hb4d) (by rw [infoRdr7, HD.out.2.1.1]) (by rw [HD.out.2.1.1, HV.out.1]) HD.out.2.1.2 ?_; intro wf hBf))
   have HF : Hd (wf.heap[g4]? = some (.cells V' 65) ∧ Chg [g4] wd wf ∧ Chg [g4] wr wf) := ⟨by
    have h1 : Chg [g4] wd wf := (Chg.of_below hBe.out.2.1).trans (Chg.of_grown hBf.out.2.1)
    exact ⟨hBf.out.1, h1, ((HC.out.2.trans HD.out.1).mono (by simp)).trans h1⟩⟩
   clear hBe hBf hb4d
   obtain ⟨xs0, hxs0, ho0⟩ := HS.out.lo
   have hgl4 : gl ≠ g4 := by have := HS.out.q5; have := HS.out.q6; have := HS.out.ql; omega
   have hof : wf.ownsRow (g6 + 1) 5 1 (.slice (some ⟨gl, 0, none⟩) (half + 64) cap) (half + 64) (cb (xs0 ++ marks)) := HF.out.2.2.own ho0 fun q hq hm => by simp only [Value.ownBlock, Option.some.injEq] at hq; subst hq; exact hgl4 (List.mem_singleton.1 hm)
   obtain ⟨cur, hcg, hcl, _⟩ := own_block hof
   have HO := Hd.mk (And.intro hof (And.intro hxs0 hcl))
   have hrn : Rd wf wf.heap.size An half (cb b1) := Rd.of_own (HF.out.2.1.own (HD.out.1.own HC.out.1 fun _ _ => List.not_mem_nil) fun q hq hm => by
    have := (HC.out.1.lt q hq).1; have := HS.out.own.1; rw [List.mem_singleton.1 hm] at *; omega)
   clear ho0 hof hxs0 hgl4 hcl
   go_upto_region 12 with (refine at_copy ?_; refine wpList_copyC rfl (.tmp 64) (.tmp 65) 26 26 rfl 5 Try.underlying26 infoU8 gl half cap An cn rfl rfl cur 5 hcg wf.heap.size (cb b1) hrn (by have := HO.out.2.2; omega) (cb_one _) ?_; intro wg hBg)
   have HG : Hd (wg.ownsRow (g6 + 1) 5 1 (.slice (some ⟨gl, 0, none⟩) (half + 64) cap) (half + 64) (cb (b1 ++ marks)) ∧ Chg [g4, gl] wd wg ∧ wg.heap[g4]? = some (.cells V' 65)) := ⟨by
    refine ⟨?_, (HF.out.2.1.mono (by intro q hq _; simp at hq; simp [hq])).trans (hBg.out.2.mono (by intro q hq _; simp at hq; simp [hq])), (hBg.out.2.block g4 (by have := HG4.out.1; have := HF.out.2.1.size; omega) (by have := HS.out.q5; have := HS.out.q6; have := HS.out.ql; simp; omega)).trans HF.out.1⟩
    have h1 := HO.out.1
    rw [cb_append] at h1 ⊢
    exact own_over h1 (by rw [cb_length]; exact HO.out.2.1) (by rw [cb_length]; exact HB1.out.1) hcg hBg.out.1 (by omega)⟩
   have HRL : Hd (Rd wg wg.heap.size (some ⟨gl, 0, none⟩) half (cb b1)) := ⟨by
    have h1 := (Rd.of_own HG.out.1).take (h := half) (by omega)
    rwa [cb_take, List.take_left' HB1.out.1] at h1⟩
   clear hcg hrn hBg
   go_wp2_with fail
   refine (HLAW.out [g4, gl] wg HG.out.2.1 HS.out.xoff HS.out.hoff (fun y hy => by have := (HS.out.new HC.out.2).own; simp at hy; omega) (some ⟨gl, 0, none⟩) half cap HRL.out).mono ?_
   rintro e wh ⟨rfl, hch, X', hp, hx'⟩
   have HS2 := Hd.mk (HS.out.push HC.out.2 HD.out.1 HG.out.2.1 HG.out.2.2 HG.out.1 HB1.out.1 hch hp hx')
   have HUN : Hd (wh.ownsRow (g6 + 1) 5 1 (.slice (some ⟨gl, 0, none⟩) (half + 64) cap) (half + 64) (cb (b1 ++ marks)) ∧ Rd wh wh.heap.size An half (cb b1)) := ⟨by
    refine ⟨hch.own HG.out.1 fun q hq hm => by simp only [Value.ownBlock, Option.some.injEq] at hq; subst hq; exact HS.out.boxoff.2.2.2 hm, ?_⟩
    refine Rd.of_own (hch.own (HG.out.2.1.own (HD.out.1.own HC.out.1 fun _ _ => List.not_mem_nil) fun q hq hm => ?_) fun q hq hm => ?_)
    ·have h1 := (HC.out.1.lt q hq).1; have h2 := HS.out.own; simp at hm; omega
    ·have h1 := (HC.out.1.lt q hq).1; have h2 := (HS.out.pr.lt hm).2; omega⟩
   clear hch hp hx'
   go_wp2_with fail
   refine (unmarked_any wh (g6 + 1) gl half cap wh.heap.size An cn b1 HUN.out.1 HUN.out.2 (by omega) HCP.out).mono ?_
   rintro e wi ⟨rfl, hwi⟩
   subst hwi
   go_wp2_with fail
   go_roundw
   case rel =>
    refine ⟨t + 1, X', V', fl2, st2, by go_num, by omega, HS2.out, ?_⟩
    have h1 := HD.out.2.2
    have h3 := HB1.out
    rw [Nat.add_mul, Nat.one_mul]; omega
   case measure => simp [intOf]; omega
  ·skip
   have ht2 : t = 2 := by omega
   subst ht2
   obtain ⟨wo, hwo⟩ : ∃ wo : World, wo = wr := ⟨_, rfl⟩
   subst hwo
   have HSL := Hd.mk hsl
   clear hsl ht h2
   go_wp2_with fail
   go_loopw [15] (fun u15 w2 => ∃ i : Nat, u15 = .int .i64 (i : Int) ∧ i ≤ half ∧ Chg [gl] wo w2 ∧ ∃ cur : List Value, w2.heap[gl]? = some (.cells cur.toArray 5 (0, 0)) ∧ half ≤ cur.length) (fun u15 _ => half - (intOf u15).toNat)
   case atStart =>
    obtain ⟨xs0, hxs0, ho0⟩ := HS.out.lo
    obtain ⟨cur, hcg, hcl, _⟩ := own_block ho0
    exact ⟨0, rfl, by omega, Chg.refl _ _, cur, hcg, by omega⟩
   case round =>
    obtain ⟨i, rfl, hi, hc2, cur, hcg, hcl⟩ := hrel
    have HC2 := Hd.mk (And.intro hc2 (And.intro hcg hcl))
    clear hc2 hcg
    by_cases hlt : i < half
    ·skip
     have hii : (i : Int) < (half : Int) := by omega
     obtain ⟨old, hold⟩ : ∃ v, cur[i]? = some v := ⟨_, List.getElem?_eq_getElem (by omega)⟩
     have ci : wr.cell? ⟨gl, i, none⟩ = some old := by rw [cell_of_row wr gl i _ _ (0, 0) HC2.out.2.1]; simpa using hold
     have zi : wr.frozen? ⟨gl, i, none⟩ = false := by simp [World.frozen?, HC2.out.2.1]
     clear hold
     go_wp2_with fail
     go_roundw
     case rel => exact ⟨i + 1, by go_num, by omega, HC2.out.1.setCell (by simp) _, _, by rw [heap_set wr gl i _ _ _ HC2.out.2.1], by simpa using hcl⟩
     case measure => simp [intOf]; omega
    ·skip
     have hih : i = half := by omega
     have hii : ¬ (i : Int) < (half : Int) := by omega
     go_upto_region 19 with fail
     clear hii
     subst hih
     obtain ⟨h2, hh22⟩ : ∃ q, 2 * i = q := ⟨_, rfl⟩
     obtain ⟨n3, hn3⟩ : ∃ q, n - h2 = q := ⟨_, rfl⟩
     obtain ⟨b3, hb3⟩ : ∃ q, bs.drop h2 = q := ⟨_, rfl⟩
     obtain ⟨Hs2, hHs2⟩ : ∃ q : Nat → Prop, (fun k => (Hs k ∨ wl.heap.size ≤ k) ∧ k < wr.heap.size) = q := ⟨_, rfl⟩
     have HE : Hd (IntKind.i64.wrap (2 * (i : Int)) = (h2 : Int)) := ⟨by rw [IntKind.wrap_i64]; omega⟩
     have HN3 : Hd (h2 + n3 = n ∧ 2 * i = h2 ∧ n3 ≤ n) := ⟨by omega, hh22, by omega⟩
     have hcr : Chg X0 w wr := HS.out.ch.newer HC2.out.1 fun y hy => .inr (by have := HS.out.q4; have := HS.out.q5; have := HS.out.q6; have := HS.out.ql; rw [List.mem_singleton.1 hy]; omega)
     have hXg : ∀ x ∈ X, x ∉ [gl] := fun x hx hm => HS.out.xoff x hx (by simp at hm; simp [hm])
     have hHg : ∀ k, (Hs k ∨ wl.heap.size ≤ k) → k ∉ [gl] := fun k hk hm => HS.out.hoff k hk (by simp at hm; simp [hm])
     have hgo : g4 ≠ gl ∧ g5 ≠ gl ∧ g6 ≠ gl := by have := HS.out.q5; have := HS.out.q6; have := HS.out.ql; omega
     have HW : Hd (wr.heap[g4]? = some (.cells V 65) ∧ wr.heap[g5]? = some (.cells TC 68) ∧ wr.heap[g6]? = some (.cells zRdr 65) ∧ PairAt Z base wr g X Hs2 V fl' st' ∧ Chg X0 w wr ∧ (∀ x ∈ X, x < wr.heap.size) ∧ (∀ k, Hs2 k → k < wr.heap.size) ∧ V.size = 7 ∧ b3.length = n3 ∧ (∀ x ∈ b3, x < 256) ∧ g4 < wr.heap.size ∧ g5 < wr.heap.size) := ⟨by
      have o := HS.out.own
      have hz := HC2.out.1.size
      have hp : PairAt Z base wr g X (fun k => Hs k ∨ wl.heap.size ≤ k) V fl' st' := HS.out.pr.keep HC2.out.1 hXg hHg
      refine ⟨(HC2.out.1.block g4 o.1 (by simp [hgo.1])).trans HS.out.b4, (HC2.out.1.block g5 o.2.1 (by simp [hgo.2.1])).trans HS.out.b5, (HC2.out.1.block g6 o.2.2.1 (by simp [hgo.2.2])).trans HS.out.b6, hp.more fun k h1 h2 => by rw [← hHs2]; exact ⟨h2, h1⟩, hcr, fun x hx => (hp.lt hx).2, fun k hk => by rw [← hHs2] at hk; exact hk.2, hp.vals.1, by rw [← hb3, List.length_drop, HI.out.2.2.2]; exact hn3, fun x hx => HI.out.2.1 x (by rw [← hb3] at hx; exact List.mem_of_mem_drop hx), by omega, by omega⟩⟩
     have HCUT : Hd (∃ A9 d9, (∀ W, (Instr.slice 26 (.slice A n c) (some (.int .i64 (h2 : Int))) none none).run Try.prog W = .ok (.slice A9 n3 d9) W) ∧ ∀ W, Chg [] wr W → Rd W W.heap.size A9 n3 (cb b3)) := ⟨by
      refine ⟨cutA A c h2, c - h2, fun W => ?_, fun W b => ?_⟩
      ·have := run_cut_from (w := W) elB A n c h2 (by have := HN3.out; omega)
       rwa [hn3] at this
      ·have h1 := HRDI.out W (HW.out.2.2.2.2.1.newer b (by simp))
       have h3 := h1.cut (c := c) (l := h2) (h := n) (by have := HN3.out; omega) (Nat.le_refl _) HI.out.2.2.1
       rw [hn3, cb_drop, hb3] at h3
       have hl : (cb b3).length = n3 := by rw [cb_length]; exact HW.out.2.2.2.2.2.2.2.2.1
       rwa [List.take_of_length_le (by omega)] at h3⟩
     obtain ⟨A9, d9, s9, r9⟩ := HCUT.out
     have HR9 := Hd.mk r9
     have HS9 := Hd.mk s9
     have HHS2 := Hd.mk hHs2
     clear s9 r9 hh22 hb3 hHs2 hcr hXg hHg hgo hn3 HCUT
     go_cut [16, 17] from 89 to 98 (fun p q wx => ∃ (g16 : Nat) (V2 : Array Value) (fl2 : Int) (st2 : List Nat), p = .pointer (some ⟨g16, 0, none⟩) ∧ q = .int .i64 fl2 ∧ A1 Z base wr wx g g16 X Hs2 st' b3 V2 fl2 st2)
     case first =>
      have e1 := HE.out
      have s9 := HS9.out
      have HCV : Hd (∀ W, Chg [] wr W → W.heap[g4]? = some (.cells V.toList.toArray 65) ∧ W.cell? ⟨g5, 2, none⟩ = some (.slice A n c)) := ⟨fun W b => ⟨by simpa using (b.block g4 HW.out.2.2.2.2.2.2.2.2.2.2.1 List.not_mem_nil).trans HW.out.1, by rw [cell_of_row W g5 2 _ _ (0, 0) ((b.block g5 HW.out.2.2.2.2.2.2.2.2.2.2.2 List.not_mem_nil).trans HW.out.2.1)]; exact HTC.out⟩⟩
      refine wp_region_held_drew (S := fun W => Chg [] wr W) (by kernel_rfl) (Chg.refl [] wr).drew (fun hHeld => ?_)
      obtain ⟨wd, hwd⟩ : ∃ U, wr.drew = U := ⟨_, rfl⟩
      rw [hwd] at hHeld ⊢
      have HWD := Hd.mk hHeld
      clear hwd
      refine wpAnyH_take (i := 0) (oi := ?oiRa) (v := .agg V.toList.toArray) ?hiRa (by kernel_rfl) (by kernel_rfl) (by kernel_rfl) ?hQRa ?hyRa (by assumption) ?restRa
      case hiRa => simp only [List.getElem?_toArray, List.getElem?_cons_succ, List.getElem?_cons_zero]; rfl
      case hQRa => exact fun _ _ _ h => h
      case hyRa => exact yieldsIf_load_mid rfl 65 (.tmp 4) rfl g4 0 rfl V.toList _ (fun W hW => range_of_box (HCV.out W hW).1) Try.underlying65 rfl (by rw [infoRdr7]; simp [HW.out.2.2.2.2.2.2.2.1])
      try simp only [Act.put, List.setIfInBounds_toArray, List.set_cons_zero, List.set_cons_succ]
      refine wpAnyH_take (i := 1) (oi := ?oi201) (v := ?v201) ?hi201 (by kernel_rfl) (by kernel_rfl) (by kernel_rfl) ?hQ201 (Or.inl ⟨?hw201, ?hy201⟩) (by assumption) ?rest201
      case hi201 => simp only [List.getElem?_toArray, List.getElem?_cons_succ, List.getElem?_cons_zero]; rfl
      case hQ201 => exact fun _ _ _ h => h
      case hw201 => rfl
      case hy201 => (intro W hW; go_simp; all_goals rfl)
      simp only [Act.put, List.setIfInBounds_toArray, List.set_cons_zero, List.set_cons_succ]
      refine wpAnyH_take (i := 2) (oi := ?oi202) (v := ?v202) ?hi202 (by kernel_rfl) (by kernel_rfl) (by kernel_rfl) ?hQ202 (Or.inl ⟨?hw202, ?hy202⟩) (by assumption) ?rest202
      case hi202 => simp only [List.getElem?_toArray, List.getElem?_cons_succ, List.getElem?_cons_zero]; rfl
      case hQ202 => exact fun _ _ _ h => h
      case hw202 => rfl
      case hy202 => (intro W hW; have f1 := (HCV.out W hW).2; go_simp; all_goals rfl)
      simp only [Act.put, List.setIfInBounds_toArray, List.set_cons_zero, List.set_cons_succ]
      refine wpAnyH_take (i := 3) (oi := ?oi203) (v := ?v203) ?hi203 (by kernel_rfl) (by kernel_rfl) (by kernel_rfl) ?hQ203 (Or.inl ⟨?hw203, ?hy203⟩) (by assumption) ?rest203
      case hi203 => simp only [List.getElem?_toArray, List.getElem?_cons_succ, List.getElem?_cons_zero]; rfl
      case hQ203 => exact fun _ _ _ h => h
      case hw203 => rfl
      case hy203 => (intro W hW; have f1 := (HCV.out W hW).2; go_simp; all_goals rfl)
      simp only [Act.put, List.setIfInBounds_toArray, List.set_cons_zero, List.set_cons_succ]
      refine wpAnyH_take (i := 4) (oi := ?oi204) (v := ?v204) ?hi204 (by kernel_rfl) (by kernel_rfl) (by kernel_rfl) ?hQ204 (Or.inl ⟨?hw204, ?hy204⟩) (by assumption) ?rest204
      case hi204 => simp only [List.getElem?_toArray, List.getElem?_cons_succ, List.getElem?_cons_zero]; rfl
      case hQ204 => exact fun _ _ _ h => h
      case hw204 => rfl
      case hy204 => (intro W hW; have f1 := (HCV.out W hW).2; go_simp; all_goals rfl)
      simp only [Act.put, List.setIfInBounds_toArray, List.set_cons_zero, List.set_cons_succ]
      refine wpAnyH_take (i := 5) (oi := ?oi205) (v := ?v205) ?hi205 (by kernel_rfl) (by kernel_rfl) (by kernel_rfl) ?hQ205 (Or.inl ⟨?hw205, ?hy205⟩) (by assumption) ?rest205
      case hi205 => simp only [List.getElem?_toArray, List.getElem?_cons_succ, List.getElem?_cons_zero]; rfl
      case hQ205 => exact fun _ _ _ h => h
      case hw205 => rfl
      case hy205 => (intro W hW; have f1 := (HCV.out W hW).2; go_simp; all_goals rfl)
      simp only [Act.put, List.setIfInBounds_toArray, List.set_cons_zero, List.set_cons_succ]
      clear e1 s9
      refine wpAnyH_ready (rs := [6, 10]) (by kernel_rfl) (by simp) ?_
      refine AllReadyH.cons (i := 6) (o := ?oA6) ?hoA6 (fun Kq hK => ?stA6) (AllReadyH.cons (i := 10) (o := ?oA10) ?hoA10 (fun Kq hK => ?stA10) AllReadyH.nil)
      case hoA6 => simp only [List.getElem?_toArray, List.getElem?_cons_succ, List.getElem?_cons_zero]; rfl
      case hoA10 => simp only [List.getElem?_toArray, List.getElem?_cons_succ, List.getElem?_cons_zero]; rfl
      case stA6 =>
       go_simp
       (go_at_call 71; refine (pair_push Z HLW.out.1 HLW.out.2 base wd g X Hs2 V fl' st' (HW.out.2.2.2.1.new HWD.out) A9 n3 d9 b3 (HR9.out wd HWD.out) HW.out.2.2.2.2.2.2.2.2.2.1 (by have := HSL.out; have := HN3.out; omega)).mono ?_; rintro e w' ⟨V2, fl2, st2, rfl, hcd, hV2, hlen, hlaw⟩)
       have HPM := Hd.mk (And.intro hcd (And.intro hV2 (And.intro hlen hlaw)))
       have HSW : Hd (Chg [] wr w') := ⟨HWD.out.trans hcd⟩
       clear hcd hV2 hlen hlaw
       refine hK.out _ _ HSW.out (fun _ => ?_)
       clear hK Kq
       try simp only [Act.put, List.setIfInBounds_toArray, List.set_cons_zero, List.set_cons_succ]
       refine wpAnyH_take (i := 7) (oi := ?oi301) (v := ?v301) ?hi301 (by kernel_rfl) (by kernel_rfl) (by kernel_rfl) ?hQ301 (Or.inl ⟨?hw301, ?hy301⟩) (by assumption) ?rest301
       case hi301 => simp only [List.getElem?_toArray, List.getElem?_cons_succ, List.getElem?_cons_zero]; rfl
       case hQ301 => exact fun _ _ _ h => h
       case hw301 => rfl
       case hy301 => (intro W hW; go_simp; all_goals rfl)
       simp only [Act.put, List.setIfInBounds_toArray, List.set_cons_zero, List.set_cons_succ]
       refine wpAnyH_take (i := 8) (oi := ?oi302) (v := ?v302) ?hi302 (by kernel_rfl) (by kernel_rfl) (by kernel_rfl) ?hQ302 (Or.inl ⟨?hw302, ?hy302⟩) (by assumption) ?rest302
       case hi302 => simp only [List.getElem?_toArray, List.getElem?_cons_succ, List.getElem?_cons_zero]; rfl
       case hQ302 => exact fun _ _ _ h => h
       case hw302 => rfl
       case hy302 => (intro W hW; go_simp; all_goals rfl)
       simp only [Act.put, List.setIfInBounds_toArray, List.set_cons_zero, List.set_cons_succ]
       refine wpAnyH_take (i := 9) (oi := ?oi303) (v := ?v303) ?hi303 (by kernel_rfl) (by kernel_rfl) (by kernel_rfl) ?hQ303 (Or.inl ⟨?hw303, ?hy303⟩) (by assumption) ?rest303
       case hi303 => simp only [List.getElem?_toArray, List.getElem?_cons_succ, List.getElem?_cons_zero]; rfl
       case hQ303 => exact fun _ _ _ h => h
       case hw303 => rfl
       case hy303 => (intro W hW; go_simp; all_goals rfl)
       simp only [Act.put, List.setIfInBounds_toArray, List.set_cons_zero, List.set_cons_succ]
       refine wpAnyH_ready (rs := [10]) (by kernel_rfl) (by simp) ?_
       refine AllReadyH.cons (i := 10) (o := ?oB10) ?hoB10 (fun Kq hK => ?stB10) AllReadyH.nil
       case hoB10 => simp only [List.getElem?_toArray, List.getElem?_cons_succ, List.getElem?_cons_zero]; rfl
       go_simp
       refine hK.out _ _ (HSW.out.alloc _) (fun _ => ?_)
       clear hK Kq
       try simp only [Act.put, List.setIfInBounds_toArray, List.set_cons_zero, List.set_cons_succ]
       refine wpAnyH_ready (rs := [11]) (by kernel_rfl) (by simp) ?_
       refine AllReadyH.cons (i := 11) (o := ?oB11) ?hoB11 (fun Kq hK => ?stB11) AllReadyH.nil
       case hoB11 => simp only [List.getElem?_toArray, List.getElem?_cons_succ, List.getElem?_cons_zero]; rfl
       refine step_store rfl 65 (.tmp 16) (.tmp 97) rfl w'.heap.size V2 rfl rfl 65 _ (heap_alloc_new _ _) (by rw [infoRdr7, HPM.out.2.1.1]) (by rw [HPM.out.2.1.1]; rfl) HPM.out.2.1.2 ?_
       intro wx hsx hgx
       have HFX : Hd (Chg [w'.heap.size] w' wx) := ⟨((Chg.refl _ w').alloc _).trans (Chg.of_grown hgx)⟩
       have HA1 : Hd (A1 Z base wr wx g w'.heap.size X Hs2 st' b3 V2 fl2 st2) := ⟨A1.of HW.out.2.2.2.2.2.1 HW.out.2.2.2.2.2.2.1 HWD.out HPM.out.1 HPM.out.2.1 HPM.out.2.2.1 HPM.out.2.2.2 hsx HSW.out.size HFX.out (.inr (Nat.le_refl _))⟩
       refine hK.out _ _ HA1.out.ch (fun _ => ?_)
       clear hK Kq hsx hgx
       try simp only [Act.put, List.setIfInBounds_toArray, List.set_cons_zero, List.set_cons_succ]
       refine wpAnyH_take (i := 12) (oi := ?oi401) (v := ?v401) ?hi401 (by kernel_rfl) (by kernel_rfl) (by kernel_rfl) ?hQ401 (Or.inl ⟨?hw401, ?hy401⟩) (by assumption) ?rest401
       case hi401 => simp only [List.getElem?_toArray, List.getElem?_cons_succ, List.getElem?_cons_zero]; rfl
       case hQ401 => exact fun _ _ _ h => h
       case hw401 => rfl
       case hy401 => (intro W hW; go_simp; all_goals rfl)
       simp only [Act.put, List.setIfInBounds_toArray, List.set_cons_zero, List.set_cons_succ]
       refine wpAnyH_done (by kernel_rfl) ?_ _
       (try go_wp2_with fail)
       go_meet
       case rel => exact ⟨_, V2, fl2, st2, rfl, rfl, HA1.out⟩
      case stA10 =>
       go_simp
       refine hK.out _ _ (HWD.out.alloc _) (fun _ => ?_)
       clear hK Kq
       try simp only [Act.put, List.setIfInBounds_toArray, List.set_cons_zero, List.set_cons_succ]
       obtain ⟨g16, hg16⟩ : ∃ q, wd.heap.size = q := ⟨_, rfl⟩
       obtain ⟨wa, hwa⟩ : ∃ U, wd.alloc (.cells #[.bool false, .slice none 0 0, .int .i64 0, .slice none 0 0, .slice none 0 0, .int .i64 0, .int .i64 0] 65) = U := ⟨_, rfl⟩
       have HAL : Hd (wa.heap[g16]? = some (.cells #[.bool false, .slice none 0 0, .int .i64 0, .slice none 0 0, .slice none 0 0, .int .i64 0, .int .i64 0] 65) ∧ Chg [] wr wa ∧ wr.heap.size ≤ g16 ∧ g16 < wa.heap.size) := ⟨by rw [← hwa, ← hg16]; exact ⟨heap_alloc_new _ _, HWD.out.alloc _, HWD.out.size, by simp⟩⟩
       rw [hwa]
       try rw [hg16]
       clear hwa hg16 HWD
       have HWD : Hd (Chg [] wr wa) := ⟨HAL.out.2.1⟩
       refine wpAnyH_ready (rs := [6]) (by kernel_rfl) (by simp) ?_
       refine AllReadyH.cons (i := 6) (o := ?oC6) ?hoC6 (fun Kq hK => ?stC6) AllReadyH.nil
       case hoC6 => simp only [List.getElem?_toArray, List.getElem?_cons_succ, List.getElem?_cons_zero]; rfl
       go_simp
       (go_at_call 71; refine (pair_push Z HLW.out.1 HLW.out.2 base wa g X Hs2 V fl' st' (HW.out.2.2.2.1.new HWD.out) A9 n3 d9 b3 (HR9.out wa HWD.out) HW.out.2.2.2.2.2.2.2.2.2.1 (by have := HSL.out; have := HN3.out; omega)).mono ?_; rintro e w' ⟨V2, fl2, st2, rfl, hcd, hV2, hlen, hlaw⟩)
       have HPM := Hd.mk (And.intro hcd (And.intro hV2 (And.intro hlen hlaw)))
       have HSW : Hd (Chg [] wr w') := ⟨HWD.out.trans hcd⟩
       clear hcd hV2 hlen hlaw
       refine hK.out _ _ HSW.out (fun _ => ?_)
       clear hK Kq
       try simp only [Act.put, List.setIfInBounds_toArray, List.set_cons_zero, List.set_cons_succ]
       refine wpAnyH_take (i := 7) (oi := ?oi501) (v := ?v501) ?hi501 (by kernel_rfl) (by kernel_rfl) (by kernel_rfl) ?hQ501 (Or.inl ⟨?hw501, ?hy501⟩) (by assumption) ?rest501
       case hi501 => simp only [List.getElem?_toArray, List.getElem?_cons_succ, List.getElem?_cons_zero]; rfl
       case hQ501 => exact fun _ _ _ h => h
       case hw501 => rfl
       case hy501 => (intro W hW; go_simp; all_goals rfl)
       simp only [Act.put, List.setIfInBounds_toArray, List.set_cons_zero, List.set_cons_succ]
       refine wpAnyH_take (i := 8) (oi := ?oi502) (v := ?v502) ?hi502 (by kernel_rfl) (by kernel_rfl) (by kernel_rfl) ?hQ502 (Or.inl ⟨?hw502, ?hy502⟩) (by assumption) ?rest502
       case hi502 => simp only [List.getElem?_toArray, List.getElem?_cons_succ, List.getElem?_cons_zero]; rfl
       case hQ502 => exact fun _ _ _ h => h
       case hw502 => rfl
       case hy502 => (intro W hW; go_simp; all_goals rfl)
       simp only [Act.put, List.setIfInBounds_toArray, List.set_cons_zero, List.set_cons_succ]
       refine wpAnyH_take (i := 9) (oi := ?oi503) (v := ?v503) ?hi503 (by kernel_rfl) (by kernel_rfl) (by kernel_rfl) ?hQ503 (Or.inl ⟨?hw503, ?hy503⟩) (by assumption) ?rest503
       case hi503 => simp only [List.getElem?_toArray, List.getElem?_cons_succ, List.getElem?_cons_zero]; rfl
       case hQ503 => exact fun _ _ _ h => h
       case hw503 => rfl
       case hy503 => (intro W hW; go_simp; all_goals rfl)
       simp only [Act.put, List.setIfInBounds_toArray, List.set_cons_zero, List.set_cons_succ]
       refine wpAnyH_ready (rs := [11]) (by kernel_rfl) (by simp) ?_
       refine AllReadyH.cons (i := 11) (o := ?oC11) ?hoC11 (fun Kq hK => ?stC11) AllReadyH.nil
       case hoC11 => simp only [List.getElem?_toArray, List.getElem?_cons_succ, List.getElem?_cons_zero]; rfl
       refine step_store rfl 65 (.tmp 16) (.tmp 97) rfl g16 V2 rfl rfl 65 _ ((HPM.out.1.block g16 HAL.out.2.2.2 List.not_mem_nil).trans HAL.out.1) (by rw [infoRdr7, HPM.out.2.1.1]) (by rw [HPM.out.2.1.1]; rfl) HPM.out.2.1.2 ?_
       intro wx hsx hgx
       have HA1 : Hd (A1 Z base wr wx g g16 X Hs2 st' b3 V2 fl2 st2) := ⟨A1.of HW.out.2.2.2.2.2.1 HW.out.2.2.2.2.2.2.1 HWD.out HPM.out.1 HPM.out.2.1 HPM.out.2.2.1 HPM.out.2.2.2 hsx HAL.out.2.2.1 (Chg.of_grown hgx) (.inl HAL.out.2.2.2)⟩
       refine hK.out _ _ HA1.out.ch (fun _ => ?_)
       clear hK Kq hsx hgx
       try simp only [Act.put, List.setIfInBounds_toArray, List.set_cons_zero, List.set_cons_succ]
       refine wpAnyH_take (i := 12) (oi := ?oi601) (v := ?v601) ?hi601 (by kernel_rfl) (by kernel_rfl) (by kernel_rfl) ?hQ601 (Or.inl ⟨?hw601, ?hy601⟩) (by assumption) ?rest601
       case hi601 => simp only [List.getElem?_toArray, List.getElem?_cons_succ, List.getElem?_cons_zero]; rfl
       case hQ601 => exact fun _ _ _ h => h
       case hw601 => rfl
       case hy601 => (intro W hW; go_simp; all_goals rfl)
       simp only [Act.put, List.setIfInBounds_toArray, List.set_cons_zero, List.set_cons_succ]
       refine wpAnyH_done (by kernel_rfl) ?_ _
       (try go_wp2_with fail)
       go_meet
       case rel => exact ⟨_, V2, fl2, st2, rfl, rfl, HA1.out⟩
     case rest =>
      obtain ⟨g16, V2, fl2, st2, h16, h17, hA1⟩ := hcut
      subst h16 h17
      have HA1 := Hd.mk hA1
      clear hA1
      have hX2 : ∀ x ∈ X, (x ∈ X0 ∨ w.heap.size ≤ x) := fun x hx => (HS.out.hx x hx).imp id fun h => by have := HS.out.q4; have := HS.out.q5; have := HS.out.q6; have := HS.out.ql; have := HS.out.qz; omega
      have HOF : Hd (g16 ∉ X ∧ g5 ∉ X ∧ g6 ∉ X ∧ g16 < wc.heap.size ∧ g5 < wc.heap.size ∧ g6 < wc.heap.size) := ⟨by
       have o := HS.out.boxoff
       have k := HS.out.own
       have z1 := HC2.out.1.size
       have z2 := HA1.out.ch.size
       exact ⟨fun hm => by have := HW.out.2.2.2.2.2.1 _ hm; have := HA1.out.lo; omega, o.2.1, o.2.2.1, (Array.getElem?_eq_some_iff.1 HA1.out.b).1, by omega, by omega⟩⟩
      have HCV : Hd (∀ W, Chg (g6 :: X) wc W → W.heap[g16]? = some (.cells V2.toList.toArray 65) ∧ W.cell? ⟨g5, 2, none⟩ = some (.slice A n c)) := ⟨fun W b => ⟨by simpa using (b.block g16 HOF.out.2.2.2.1 (by have := HA1.out.lo; have := HS.out.own; have := HC2.out.1.size; simp only [List.mem_cons, not_or]; exact ⟨by omega, HOF.out.1⟩)).trans HA1.out.b, by
       have h5 : wc.heap[g5]? = some (.cells TC 68) := (HA1.out.ch.block g5 HW.out.2.2.2.2.2.2.2.2.2.2.2 List.not_mem_nil).trans HW.out.2.1
       rw [cell_of_row W g5 2 _ _ (0, 0) ((b.block g5 HOF.out.2.2.2.2.1 (by have := HS.out.q6; simp only [List.mem_cons, not_or]; exact ⟨by omega, HOF.out.2.1⟩)).trans h5)]; exact HTC.out⟩⟩
      have HX2 := Hd.mk hX2
      clear hX2
      go_upto_region 20 with fail
      have e1 := HE.out
      have s9 := HS9.out
      refine wp_region_held_drew (S := fun W => Chg (g6 :: X) wc W) (by kernel_rfl) (Chg.refl (g6 :: X) wc).drew (fun hHeld => ?_)
      obtain ⟨wd, hwd⟩ : ∃ U, wc.drew = U := ⟨_, rfl⟩
      have HWD : Hd (Chg X wc wd ∧ Chg [] wc wd) := ⟨by rw [← hwd]; exact (Chg.refl X wc).drew, by rw [← hwd]; exact (Chg.refl [] wc).drew⟩
      rw [hwd] at hHeld ⊢
      clear hwd
      refine wpAnyH_take (i := 0) (oi := ?oiRq) (v := .agg V2.toList.toArray) ?hiRq (by kernel_rfl) (by kernel_rfl) (by kernel_rfl) ?hQRq ?hyRq (by assumption) ?restRq
      case hiRq => simp only [List.getElem?_toArray, List.getElem?_cons_succ, List.getElem?_cons_zero]; rfl
      case hQRq => exact fun _ _ _ h => h
      case hyRq => exact yieldsIf_load_mid rfl 65 (.tmp 16) rfl g16 0 rfl V2.toList _ (fun W hW => range_of_box (HCV.out W hW).1) Try.underlying65 rfl (by rw [infoRdr7]; simp [HA1.out.sz.1])
      try simp only [Act.put, List.setIfInBounds_toArray, List.set_cons_zero, List.set_cons_succ]
      refine wpAnyH_take (i := 1) (oi := ?oi101) (v := ?v101) ?hi101 (by kernel_rfl) (by kernel_rfl) (by kernel_rfl) ?hQ101 (Or.inl ⟨?hw101, ?hy101⟩) (by assumption) ?rest101
      case hi101 => simp only [List.getElem?_toArray, List.getElem?_cons_succ, List.getElem?_cons_zero]; rfl
      case hQ101 => exact fun _ _ _ h => h
      case hw101 => rfl
      case hy101 => (intro W hW; go_simp; all_goals rfl)
      simp only [Act.put, List.setIfInBounds_toArray, List.set_cons_zero, List.set_cons_succ]
      refine wpAnyH_take (i := 2) (oi := ?oi102) (v := ?v102) ?hi102 (by kernel_rfl) (by kernel_rfl) (by kernel_rfl) ?hQ102 (Or.inl ⟨?hw102, ?hy102⟩) (by assumption) ?rest102
      case hi102 => simp only [List.getElem?_toArray, List.getElem?_cons_succ, List.getElem?_cons_zero]; rfl
      case hQ102 => exact fun _ _ _ h => h
      case hw102 => rfl
      case hy102 => (intro W hW; go_simp; all_goals rfl)
      simp only [Act.put, List.setIfInBounds_toArray, List.set_cons_zero, List.set_cons_succ]
      refine wpAnyH_take (i := 3) (oi := ?oi103) (v := ?v103) ?hi103 (by kernel_rfl) (by kernel_rfl) (by kernel_rfl) ?hQ103 (Or.inl ⟨?hw103, ?hy103⟩) (by assumption) ?rest103
      case hi103 => simp only [List.getElem?_toArray, List.getElem?_cons_succ, List.getElem?_cons_zero]; rfl
      case hQ103 => exact fun _ _ _ h => h
      case hw103 => rfl
      case hy103 => (intro W hW; have f1 := (HCV.out W hW).2; go_simp; all_goals rfl)
      simp only [Act.put, List.setIfInBounds_toArray, List.set_cons_zero, List.set_cons_succ]
      refine wpAnyH_take (i := 4) (oi := ?oi104) (v := ?v104) ?hi104 (by kernel_rfl) (by kernel_rfl) (by kernel_rfl) ?hQ104 (Or.inl ⟨?hw104, ?hy104⟩) (by assumption) ?rest104
      case hi104 => simp only [List.getElem?_toArray, List.getElem?_cons_succ, List.getElem?_cons_zero]; rfl
      case hQ104 => exact fun _ _ _ h => h
      case hw104 => rfl
      case hy104 => (intro W hW; have f1 := (HCV.out W hW).2; go_simp; all_goals rfl)
      simp only [Act.put, List.setIfInBounds_toArray, List.set_cons_zero, List.set_cons_succ]
      refine wpAnyH_take (i := 5) (oi := ?oi105) (v := ?v105) ?hi105 (by kernel_rfl) (by kernel_rfl) (by kernel_rfl) ?hQ105 (Or.inl ⟨?hw105, ?hy105⟩) (by assumption) ?rest105
      case hi105 => simp only [List.getElem?_toArray, List.getElem?_cons_succ, List.getElem?_cons_zero]; rfl
      case hQ105 => exact fun _ _ _ h => h
      case hw105 => rfl
      case hy105 => (intro W hW; have f1 := (HCV.out W hW).2; go_simp; all_goals rfl)
      simp only [Act.put, List.setIfInBounds_toArray, List.set_cons_zero, List.set_cons_succ]
      refine wpAnyH_take (i := 6) (oi := ?oi106) (v := ?v106) ?hi106 (by kernel_rfl) (by kernel_rfl) (by kernel_rfl) ?hQ106 (Or.inl ⟨?hw106, ?hy106⟩) (by assumption) ?rest106
      case hi106 => simp only [List.getElem?_toArray, List.getElem?_cons_succ, List.getElem?_cons_zero]; rfl
      case hQ106 => exact fun _ _ _ h => h
      case hw106 => rfl
      case hy106 => (intro W hW; have f1 := (HCV.out W hW).2; go_simp; all_goals rfl)
      simp only [Act.put, List.setIfInBounds_toArray, List.set_cons_zero, List.set_cons_succ]
      refine wpAnyH_take (i := 9) (oi := ?oi107) (v := ?v107) ?hi107 (by kernel_rfl) (by kernel_rfl) (by kernel_rfl) ?hQ107 (Or.inl ⟨?hw107, ?hy107⟩) (by assumption) ?rest107
      case hi107 => simp only [List.getElem?_toArray, List.getElem?_cons_succ, List.getElem?_cons_zero]; rfl
      case hQ107 => exact fun _ _ _ h => h
      case hw107 => rfl
      case hy107 => (intro W hW; have f1 := (HCV.out W hW).2; go_simp; all_goals rfl)
      simp only [Act.put, List.setIfInBounds_toArray, List.set_cons_zero, List.set_cons_succ]
      clear e1 s9
      refine wpAnyH_ready (rs := [7]) (by kernel_rfl) (by simp) ?_
      refine AllReadyH.cons (i := 7) (o := ?o108) ?ho108 (fun Kq hK => ?step108) AllReadyH.nil
      case ho108 => simp only [List.getElem?_toArray, List.getElem?_cons_succ, List.getElem?_cons_zero]; rfl
      go_simp
      (go_at_call 17; refine (copied_any wd A9 n3 d9 wd.heap.size b3 (HR9.out wd (HA1.out.ch.trans HWD.out.2)) (by have := HN3.out; omega)).mono ?_; rintro e we ⟨An, cn, rfl, hoc, hcn, hbc⟩)
      have HWE : Hd (Chg X wc we ∧ Chg [] wc we ∧ we.ownsRow wd.heap.size 5 1 (.slice An n3 cn) n3 (cb b3)) := ⟨HWD.out.1.trans (Chg.of_below hbc), HWD.out.2.trans (Chg.of_below hbc), hoc⟩
      clear hoc hcn hbc
      refine hK.out _ _ (HWE.out.1.mono fun k hk _ => List.mem_cons_of_mem _ hk) (fun _ => ?_)
      clear hK Kq
      try simp only [Act.put, List.setIfInBounds_toArray, List.set_cons_zero, List.set_cons_succ]
      refine wpAnyH_ready (rs := [8]) (by kernel_rfl) (by simp) ?_
      refine AllReadyH.cons (i := 8) (o := ?o109) ?ho109 (fun Kq hK => ?step109) AllReadyH.nil
      case ho109 => simp only [List.getElem?_toArray, List.getElem?_cons_succ, List.getElem?_cons_zero]; rfl
      go_simp
      (go_at_call 35; refine (HA1.out.law [] we HWE.out.2.1 (fun _ _ => List.not_mem_nil) (fun _ _ => List.not_mem_nil) (fun y hy => absurd hy List.not_mem_nil) An n3 cn (Rd.of_own HWE.out.2.2)).mono ?_; rintro e wf ⟨rfl, hcf, X', hp, hx'⟩)
      have HWF : Hd (Chg X wc wf ∧ PairAt Z base wf g X' (fun k => Hs2 k ∨ wr.heap.size ≤ k) V2 fl2 st2 ∧ (∀ x ∈ X', x ∈ X ∨ wr.heap.size ≤ x)) := ⟨HWE.out.1.trans hcf, hp, hx'⟩
      clear hcf hp hx'
      refine hK.out _ _ (HWF.out.1.mono fun k hk _ => List.mem_cons_of_mem _ hk) (fun _ => ?_)
      clear hK Kq
      try simp only [Act.put, List.setIfInBounds_toArray, List.set_cons_zero, List.set_cons_succ]
      refine wpAnyH_take (i := 10) (oi := ?oi110) (v := ?v110) ?hi110 (by kernel_rfl) (by kernel_rfl) (by kernel_rfl) ?hQ110 (Or.inl ⟨?hw110, ?hy110⟩) (by assumption) ?rest110
      case hi110 => simp only [List.getElem?_toArray, List.getElem?_cons_succ, List.getElem?_cons_zero]; rfl
      case hQ110 => exact fun _ _ _ h => h
      case hw110 => rfl
      case hy110 => (intro W hW; go_simp; all_goals rfl)
      simp only [Act.put, List.setIfInBounds_toArray, List.set_cons_zero, List.set_cons_succ]
      refine wpAnyH_ready (rs := [11]) (by kernel_rfl) (by simp) ?_
      refine AllReadyH.cons (i := 11) (o := ?oS1) ?hoS1 (fun Kq hK => ?stepS1) AllReadyH.nil
      case hoS1 => simp only [List.getElem?_toArray, List.getElem?_cons_succ, List.getElem?_cons_zero]; rfl
      have hb6f : wf.heap[g6]? = some (.cells zRdr 65) := (HWF.out.1.block g6 HOF.out.2.2.2.2.2 HOF.out.2.2.1).trans ((HA1.out.ch.block g6 (by have := HS.out.own; have := HC2.out.1.size; omega) List.not_mem_nil).trans HW.out.2.2.1)
      refine step_store rfl 65 (.tmp 6) (.tmp 99) rfl g6 V2 rfl rfl 65 _ hb6f (by rw [infoRdr7, HA1.out.sz.1]) (by rw [HA1.out.sz.1]; rfl) HA1.out.sz.2 ?_
      intro w9 hs9 hg9
      have HF9 : Hd (w9.heap[g6]? = some (.cells V2 65) ∧ PairAt Z base w9 g X' (fun k => Hs2 k ∨ wr.heap.size ≤ k) V2 fl2 st2 ∧ Chg (g6 :: X) wc w9 ∧ (∀ x ∈ X', x ∈ X ∨ wr.heap.size ≤ x)) := ⟨by
       have k6 : g6 < wr.heap.size := by have := HS.out.own; have := HC2.out.1.size; omega
       refine ⟨hs9, HWF.out.2.1.keep (Chg.of_grown hg9) (fun x hx hm => ?_) (fun k hk hm => ?_), (HWF.out.1.mono (fun k hk _ => List.mem_cons_of_mem _ hk)).trans ((Chg.of_grown hg9).mono (by intro k hk _; simp at hk; simp [hk])), HWF.out.2.2⟩
       ·rw [List.mem_singleton.1 hm] at hx; rcases HWF.out.2.2 _ hx with h1 | h1; exact HOF.out.2.2.1 h1; omega
       ·rw [List.mem_singleton.1 hm] at hk; rcases hk with h1 | h1; rw [← HHS2.out] at h1; rcases h1.1 with h2 | h2; have := HS.out.h0 _ h2; have := HS.out.q5; have := HS.out.q6; omega; have := HS.out.ql; have := HS.out.qz; omega; omega⟩
      refine hK.out _ _ HF9.out.2.2.1 (fun _ => ?_)
      clear hK Kq hs9 hg9
      try simp only [Act.put, List.setIfInBounds_toArray, List.set_cons_zero, List.set_cons_succ]
      refine wpAnyH_take (i := 12) (oi := ?oi111) (v := ?v111) ?hi111 (by kernel_rfl) (by kernel_rfl) (by kernel_rfl) ?hQ111 (Or.inl ⟨?hw111, ?hy111⟩) (by assumption) ?rest111
      case hi111 => simp only [List.getElem?_toArray, List.getElem?_cons_succ, List.getElem?_cons_zero]; rfl
      case hQ111 => exact fun _ _ _ h => h
      case hw111 => rfl
      case hy111 => (intro W hW; go_simp; all_goals rfl)
      simp only [Act.put, List.setIfInBounds_toArray, List.set_cons_zero, List.set_cons_succ]
      refine wpAnyH_done (by kernel_rfl) ?_ _
      clear hHeld
      go_wp2_with fail
      (try simp only [Exit.inBlock, Exit.then])
      refine bodyPost_ret (results_cell_tmp rfl _ _ g6 65 V2 (0, 0) _ rfl HF9.out.1 Try.underlying65 rfl (by rw [infoRdr7, HA1.out.sz.1])) rfl ?_
      obtain ⟨hX0, hHs⟩ := HXH.out
      have q4 := HS.out.q4; have q5 := HS.out.q5; have q6 := HS.out.q6; have ql := HS.out.ql; have qz := HS.out.qz; have qs := HS.out.sz; have qc := HC2.out.1.size
      refine AsDone.ofPair HF9.out.2.1 ?_ ?_ ?_ ?_
      ·rw [hX0]
       refine ((HW.out.2.2.2.2.1.newer HA1.out.ch (by simp)).newer HF9.out.2.2.1 fun y hy => ?_)
       rcases List.mem_cons.1 hy with h1 | h1
       ·exact .inr (by omega)
       ·exact HX2.out y h1
      ·intro x hx
       rw [hX0]
       rcases HF9.out.2.2.2 x hx with h1 | h1
       ·exact HX2.out x h1
       ·exact .inr (by omega)
      ·intro k hk
       rcases hk with hk | hk
       ·rw [← HHS2.out] at hk
        rcases hk.1 with h1 | h1
        ·rw [← hHs] at h1; exact .inl h1.1
        ·exact .inr (by omega)
       ·exact .inr (by omega)
      ·have h1 := HA1.out.len
       have h3 := HSL.out
       have h4 := HN3.out
       have h5 := HW.out.2.2.2.2.2.2.2.2.1
       omega
end Go.Proofs.Ytbcmjjcbjojakaa
