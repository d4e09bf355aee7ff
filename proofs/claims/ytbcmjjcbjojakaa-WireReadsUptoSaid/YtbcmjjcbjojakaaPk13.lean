/- Put together of: ReqW DrP ThrN. -/
import Derived.Test.YtbcmjjcbjojakaaPk12
section
namespace Go.Proofs.Ytbcmjjcbjojakaa
open Go.RowKit
set_option linter.unusedVariables false
set_option linter.unusedSimpArgs false
section
variable {T : Type} {Z : Kd T} {base : Nat} {w w' : World} {g : Nat} {vl vc vq vq' : Value} {L c : List Nat} {S C k p : Nat} {fl : Int} {ws : List Wm} {xs : List T} {W : Wm} {x : T}
/-- The first message is gone. -/
theorem RdS.pop (h : RdS Z base w g vl vc vq L c S C k p fl (W :: ws) (x :: xs)) (hq : Que w base Z.e Z.m vq' ws) (hb : vq'.ownBlock = vq.ownBlock) : RdS Z base (w.setCell ⟨g, (if Z.ans then 9 else 8), none⟩ vq') g vl vc vq' L c S C k p fl ws xs := by
 have b2 : Chg [g] w (w.setCell ⟨g, (if Z.ans then 9 else 8), none⟩ vq') := (Chg.refl [g] w).setCell (by simp) vq'
 have hX : rdX g vl vc vq' = rdX g vl vc vq := by unfold rdX rdY; rw [hb]
 have hg : ∀ V : Wm, V.off (rdX g vl vc vq) → V.off [g] := fun V h => h.mono fun x hx => by rw [List.mem_singleton.1 hx]; exact mem_X.2 (.inr (.inl rfl))
 refine ⟨?_, ?_, ?_, ?_, h.alc, ?_, ?_, h.gl, h.gc, by rw [hb]; exact h.gq, h.bg, fun V hV => (h.ok V (List.mem_cons_of_mem _ hV)).chg b2 (hg V (h.off V (List.mem_cons_of_mem _ hV))), fun V hV => by rw [hX]; exact h.off V (List.mem_cons_of_mem _ hV), h.is.2, h.s, h.c64, h.lb, h.cb_⟩
 ·rw [heap_set w g _ vq' _ _ h.box]
  congr 2
  unfold rdC
  cases Z.ans <;> rfl
 ·exact b2.own h.lo fun y hy hm => h.gl (by rw [hy, List.mem_singleton.1 hm])
 ·exact b2.own h.co fun y hy hm => h.gc (by rw [hy, List.mem_singleton.1 hm])
 ·exact hq.chg b2 fun y hy hm => h.gq (by rw [← hb, hy, List.mem_singleton.1 hm])
 ·exact fun y hy hv => h.alq y hy (by rw [← hb]; exact hv)
 ·exact fun y hy hv => h.acq y hy (by rw [← hb]; exact hv)
/-- A new reader. -/
theorem RdS.start (Z : Kd T) (hg : w.heap[g]? = some (.cells #[.bool Z.ans, .slice none 0 0, .slice none 0 0, .int .u32 0, .int .u64 0, .int .i64 0, .int .i64 0, .int .i64 0, .slice none 0 0, .slice none 0 0] 58)) (hb : base ≤ g) :
  RdS Z base w g (.slice none 0 0) (.slice none 0 0) (.slice none 0 0) [] mid0.c mid0.s 0 mid0.k mid0.p 0 [] [] := by
 refine ⟨?_, World.ownsRow_nil .., World.ownsRow_nil .., Que.nil .., Apart.nil _, Apart.nil _, Apart.nil _, by simp [Value.ownBlock], by simp [Value.ownBlock], by simp [Value.ownBlock], hb, by simp, by simp, trivial, by decide, by decide, by simp, by intro x hx; cases hx⟩
 rw [hg]
 unfold rdC mid0
 cases Z.ans <;> rfl
end
theorem Que_pop_any {P : Program} {t e size bytes n c : Nat} {A : Option Addr} {w0 : World} {v' : Value} (h : (Instr.slice t (.slice A n c) (some (.int .i64 1)) none none).run P w0 = .ok v' w0) (E : ElN P t e size bytes) (U : World) (hn : 0 < n) : (Instr.slice t (.slice A n c) (some (.int .i64 1)) none none).run P U = .ok v' U := by
 have h1 := run_cut_fromN (w := w0) E A n c 1 (by omega)
 have h2 := run_cut_fromN (w := U) E A n c 1 (by omega)
 have h3 := h.symm.trans h1
 injection h3 with h3
 rw [h3]; exact h2
theorem held_any {T : Type} (Z : Kd T) (base : Nat) (w : World) (g : Nat) (vl vc vq : Value) (L c : List Nat) (S C k p : Nat) (fl : Int) (ws : List Wm) (xs : List T) (h : RdS Z base w g vl vc vq L c S C k p fl ws xs) (hp : Hd (fl = 0 → p ≤ 1099511627776)) (hl : L.length ≤ 1099511627776) :
  Calls Try.prog 40 #[.pointer (some ⟨g, 0, none⟩)] w fun e w' => e = .returned (.int .i64 ((if fl = 0 then p + L.length else 0 : Nat) : Int)) ∧ Below w.heap.size w w' := by
 have d7 : w.cell? ⟨g, 7, none⟩ = some (.int .i64 fl) := h.at_ 7 rfl
 have d6 : w.cell? ⟨g, 6, none⟩ = some (.int .i64 (p : Int)) := h.at_ 6 rfl
 obtain ⟨Al, cl, hvl, _, _⟩ := own_form h.lo
 have d1 : w.cell? ⟨g, 1, none⟩ = some (.slice Al L.length cl) := by rw [← hvl]; exact h.at_ 1 rfl
 obtain ⟨lL, hlL⟩ : ∃ l, L.length = l := ⟨_, rfl⟩
 rw [hlL] at d1 hl ⊢
 clear h hvl hlL
 go_enter Try.func40, Try.ntmps40
 by_cases hf : fl = 0
 ·have hfb : (fl == 0) = true := by rw [hf]; rfl
  rw [if_pos hf]
  have hp := hp.out hf
  clear hf
  go_upto_region 3 with fail
  have hsum : IntKind.i64.wrap ((p : Int) + (lL : Int)) = (p : Int) + (lL : Int) := by rw [IntKind.wrap_i64]; omega
  go_quiet (fail)
  go_wp2_with fail
  go_ret
  exact ⟨by congr 2, ⟨rfl, rfl, rfl, Nat.le_refl _, fun _ _ => rfl⟩⟩
 ·have hfb : (fl == 0) = false := beq_eq_false_iff_ne.2 hf
  rw [if_neg hf]
  clear hf hp
  go_wp2_with fail
  go_ret
  exact ⟨rfl, Below.refl _ w⟩
theorem rfault_any {T : Type} (Z : Kd T) (base : Nat) (w : World) (g : Nat) (vl vc vq : Value) (L c : List Nat) (S C k p : Nat) (fl : Int) (ws : List Wm) (xs : List T) (h : RdS Z base w g vl vc vq L c S C k p fl ws xs) :
  Calls Try.prog 70 #[.pointer (some ⟨g, 0, none⟩)] w fun e w' => e = .returned (.int .i64 fl) ∧ w = w' := by
 have d7 : w.cell? ⟨g, 7, none⟩ = some (.int .i64 fl) := h.at_ 7 rfl
 clear h
 go_enter Try.func70, Try.ntmps70
 go_wp2_with fail
 go_ret
 exact ⟨rfl, rfl⟩
theorem held_nil (w : World) : Calls Try.prog 40 #[.pointer none] w fun e w' => e = .returned (.int .i64 0) ∧ w = w' := by
 go_enter Try.func40, Try.ntmps40
 go_wp2_with fail
 go_ret
 exact ⟨rfl, rfl⟩
theorem rfault_nil (w : World) : Calls Try.prog 70 #[.pointer none] w fun e w' => e = .returned (.int .i64 1) ∧ w = w' := by
 go_enter Try.func70, Try.ntmps70
 go_wp2_with fail
 go_ret
 exact ⟨rfl, rfl⟩
theorem asks_new (w : World) : Calls Try.prog 25 #[] w fun e w' => e = .returned (.pointer (some ⟨w.heap.size, 0, none⟩)) ∧ RdS askK w.heap.size w' w.heap.size (.slice none 0 0) (.slice none 0 0) (.slice none 0 0) [] mid0.c mid0.s 0 mid0.k mid0.p 0 [] [] ∧ Below w.heap.size w w' := by
 go_enter Try.func25, Try.ntmps25
 go_wp2_with fail
 go_ret
 exact ⟨rfl, RdS.start askK (heap_alloc_new _ _) (Nat.le_refl _), (Below.refl _ w).alloc (Nat.le_refl _) _⟩
theorem tells_new (w : World) : Calls Try.prog 26 #[] w fun e w' => e = .returned (.pointer (some ⟨w.heap.size, 0, none⟩)) ∧ RdS telK w.heap.size w' w.heap.size (.slice none 0 0) (.slice none 0 0) (.slice none 0 0) [] mid0.c mid0.s 0 mid0.k mid0.p 0 [] [] ∧ Below w.heap.size w w' := by
 go_enter Try.func26, Try.ntmps26
 go_wp2_with fail
 go_ret
 exact ⟨rfl, RdS.start telK (heap_alloc_new _ _) (Nat.le_refl _), (Below.refl _ w).alloc (Nat.le_refl _) _⟩
theorem nil_ask (w : World) : Calls Try.prog 36 #[.pointer none] w fun e w' => e = .returned (.tuple #[.agg rq0, .bool false]) ∧ Below w.heap.size w w' := by
 obtain ⟨gx, hgx⟩ : ∃ gx, w.heap.size = gx := ⟨_, rfl⟩
 obtain ⟨w0, hw0⟩ : ∃ W, w.alloc (.cells #[.int .i64 0, .int .u64 0, .string emS, .string emS, .int .i64 0, .int .i64 0, .int .i64 0, .slice none 0 0] 28) = W := ⟨_, rfl⟩
 have hr0 : w0.heap[gx]? = some (.cells rq0 28) := by rw [← hw0, ← hgx]; exact heap_alloc_new w _
 have hb0 : Below w.heap.size w w0 := by rw [← hw0]; exact (Below.refl _ w).alloc (Nat.le_refl _) _
 have HB := Hd.mk (And.intro hb0 hgx)
 clear hb0
 go_enter Try.func36, Try.ntmps36
 go_upto_region 1 with fail
 have hz : (⟨#[]⟩ : ByteArray) = emS := rfl
 try rw [hz]
 rw [hw0]
 try rw [hgx]
 clear hz hw0 hgx
 go_wp2_with (refine at_store (x := .tmp 2) ?_; refine wpList_stored rfl 28 (.tmp 2) (.tmp 15) rfl gx rq0 rfl rfl 28 rq0 hr0 infoRq8 rfl (by simp [rq0, Value.oneCell']) ?_; intro w6 hB6)
 (try simp only [Exit.inBlock, Exit.then])
 refine bodyPost_ret (results_cell_tmp rfl _ _ gx 28 rq0 (0, 0) _ rfl hB6.out.1 Try.underlying28 rfl infoRq8) rfl ?_
 exact ⟨rfl, HB.out.1.grown hB6.out.2.1 HB.out.1.size (fun k hk => by injection hk with hk; have := HB.out.2; omega)⟩
set_option maxRecDepth 20000 in
set_option maxHeartbeats 4000000 in
/-- The first message is handed out. -/
theorem some_ask (base : Nat) (w : World) (g : Nat) (vl vc vq : Value) (L c : List Nat) (S C k p : Nat) (fl : Int) (W : Wm) (ws : List Wm) (x : Rq) (xs : List Rq) (h : RdS askK base w g vl vc vq L c S C k p fl (W :: ws) (x :: xs)) :
  Calls Try.prog 36 #[.pointer (some ⟨g, 0, none⟩)] w fun e w' => e = .returned (.tuple #[.agg W.cells.toArray, .bool true]) ∧ ∃ vq', RdS askK base w' g vl vc vq' L c S C k p fl ws xs ∧ Chg [g] w w' ∧ vq'.ownBlock = vq.ownBlock := by
 obtain ⟨gx, hgx⟩ : ∃ gx, w.heap.size = gx := ⟨_, rfl⟩
 obtain ⟨w0, hw0⟩ : ∃ U, w.alloc (.cells #[.int .i64 0, .int .u64 0, .string emS, .string emS, .int .i64 0, .int .i64 0, .int .i64 0, .slice none 0 0] 28) = U := ⟨_, rfl⟩
 have hr0 : w0.heap[gx]? = some (.cells rq0 28) := by rw [← hw0, ← hgx]; exact heap_alloc_new w _
 have hb0 : Chg [] w w0 := by rw [← hw0]; exact (Chg.refl [] w).alloc _
 have h0 := h.new hb0
 obtain ⟨gq, oq, cq, hvq, hbq, hlq, hrg⟩ := h0.qu.first (by decide)
 have hcl := h0.qu.1 W (by simp)
 have H0 := Hd.mk (And.intro h0 (And.intro hr0 (And.intro (hb0.mono (L' := [g]) (by simp)) (And.intro hgx h.lt))))
 have HQ := Hd.mk (And.intro hvq (And.intro hrg hcl))
 have d8 : w0.cell? ⟨g, 8, none⟩ = some (.slice (some ⟨gq, oq, none⟩) (ws.length + 1) cq) := by have := h0.at_ 8 (v := vq) rfl; rw [hvq] at this; exact this
 have z8 := h0.z 8
 obtain ⟨vq', hrun, hq', hbk⟩ := h0.qu.pop elRq
 rw [hvq] at hrun
 have HP := Hd.mk (And.intro hrun (And.intro hq' hbk))
 have hlw : (0 : Int) < ((ws.length + 1 : Nat) : Int) := by omega
 obtain ⟨lw, hlw2⟩ : ∃ l, ws.length + 1 = l := ⟨_, rfl⟩
 have HLW := Hd.mk hlw2
 have HX : Hd ((∀ y ∈ rdX g vl vc vq, y < w.heap.size) ∧ ∀ V ∈ ws, ∀ r ∈ V.rows, ∀ y, r.2.1.ownBlock = some y → y < w.heap.size) := ⟨fun y hy => (h.ltX hy).2, fun V hV r hr y hy => ((h.ok V (List.mem_cons_of_mem _ hV)).lt hr hy).2⟩
 rw [hlw2] at d8 hlw HP
 have hlwb : ((lw : Int) == 0) = false := beq_eq_false_iff_ne.2 (by omega)
 have hlwn : 0 < lw := by omega
 clear h h0 hvq hbq hlq hrg hcl hr0 hb0 hrun hq' hbk hlw2
 go_enter Try.func36, Try.ntmps36
 go_upto_region 1 with fail
 have hz : (⟨#[]⟩ : ByteArray) = emS := rfl
 try rw [hz]
 rw [hw0]
 try rw [hgx]
 clear hz hw0
 go_upto_region 4 with (first
  | (refine at_load ?_; refine wpList_load_mid rfl 28 (.tmp 20) rfl gq oq rfl W.cells _ HQ.out.2.1 Try.underlying28 rfl (by rw [infoRq8, HQ.out.2.2.1]; rfl) ?_)
  | (refine at_store (x := .tmp 4) ?_; refine wpList_boxed rfl 28 (.tmp 4) (.tmp 21) rfl w0.heap.size rfl W.cells.toArray rfl rfl (by rw [infoRq8]; simp [HQ.out.2.2.1]; rfl) (by simp [HQ.out.2.2.1]; rfl) (by rw [Array.all_eq_true_iff_forall_mem]; exact fun u hu => HQ.out.2.2.2 u (by simpa using hu)) ?_; intro w1 hB1))
 obtain ⟨gb, hgb⟩ : ∃ gb, w0.heap.size = gb := ⟨_, rfl⟩
 rw [hgb] at hB1 ⊢
 have HGB : Hd (gx < gb ∧ g < gb) := ⟨by rw [← hgb]; exact (Array.getElem?_eq_some_iff.1 H0.out.2.1).1, by rw [← hgb]; exact H0.out.1.lt⟩
 have hb1 : Chg [] w0 w1 := ⟨hB1.out.2.1.os, hB1.out.2.1.tape, hB1.out.2.1.output, hB1.out.2.1.size, fun k hk _ => hB1.out.2.1.block k (by rw [← hgb]; exact hk)⟩
 have H1 : Hd (RdS askK base w1 g vl vc vq L c S C k p fl (W :: ws) (x :: xs) ∧ w1.heap[gx]? = some (.cells rq0 28) ∧ w1.heap[gb]? = some (.cells W.cells.toArray 28) ∧ Chg [g] w w1 ∧ Que w1 base (askK).e (askK).m vq' ws) := ⟨H0.out.1.new hb1, by rw [hb1.block gx (by rw [hgb]; exact HGB.out.1) (by simp)]; exact H0.out.2.1, hB1.out.1, H0.out.2.2.1.trans (hb1.mono (by simp)), HP.out.2.1.chg hb1 (by simp)⟩
 clear hB1 hb1 hgb d8 z8
 have d8 : w1.cell? ⟨g, 8, none⟩ = some (.slice (some ⟨gq, oq, none⟩) lw cq) := by have := H1.out.1.at_ 8 (v := vq) rfl; rw [HQ.out.1] at this; rw [this]; congr 2; exact HLW.out
 have z8 := H1.out.1.z 8
 have hpr : ∀ U, (Instr.slice 55 (.slice (some ⟨gq, oq, none⟩) lw cq) (some (.int .i64 1)) none none).run Try.prog U = .ok vq' U := fun U => Que_pop_any HP.out.1 elRq U hlwn
 obtain ⟨Aq, cq', hvq', _⟩ := H1.out.2.2.2.2.form
 rw [hvq'] at hpr
 go_upto_region 5 with fail
 obtain ⟨w2, hw2⟩ : ∃ U, w1.setCell ⟨g, 8, none⟩ (.slice Aq ws.length cq') = U := ⟨_, rfl⟩
 rw [hw2]
 have H2 : Hd (RdS askK base w2 g vl vc vq' L c S C k p fl ws xs ∧ w2.heap[gx]? = some (.cells rq0 28) ∧ w2.heap[gb]? = some (.cells W.cells.toArray 28) ∧ Chg [g] w w2) := ⟨by rw [← hw2, ← hvq']; exact H1.out.1.pop H1.out.2.2.2.2 HP.out.2.2, by rw [← hw2, Below.heap_setCell _ _ _ _ (by show gx ≠ g; have := H0.out.2.2.2.1; have := H0.out.2.2.2.2; omega)]; exact H1.out.2.1, by rw [← hw2, Below.heap_setCell _ _ _ _ (by show gb ≠ g; have := HGB.out.2; omega)]; exact H1.out.2.2.1, by rw [← hw2]; exact H1.out.2.2.2.1.setCell (by simp) _⟩
 clear hw2 d8 z8 hpr H1
 go_wp2_with (first
  | (refine at_load ?_; refine wpList_load_row rfl 28 (.tmp 4) rfl gb rfl 28 W.cells.toArray (0, 0) _ H2.out.2.2.1 Try.underlying28 rfl (by rw [infoRq8]; simp [HQ.out.2.2.1]; rfl) ?_)
  | (refine at_store (x := .tmp 2) ?_; refine wpList_stored rfl 28 (.tmp 2) (.tmp 30) rfl gx W.cells.toArray rfl rfl 28 rq0 H2.out.2.1 (by rw [infoRq8]; simp [HQ.out.2.2.1]; rfl) (by simp [HQ.out.2.2.1]; rfl) (by rw [Array.all_eq_true_iff_forall_mem]; exact fun u hu => HQ.out.2.2.2 u (by simpa using hu)) ?_; intro w6 hB6))
 (try simp only [Exit.inBlock, Exit.then])
 refine bodyPost_ret (results_cell_tmp rfl _ _ gx 28 W.cells.toArray (0, 0) _ rfl hB6.out.1 Try.underlying28 rfl (by rw [infoRq8]; simp [HQ.out.2.2.1]; rfl)) rfl ?_
 have hgx2 : w.heap.size ≤ gx := by have := H0.out.2.2.2.1; omega
 exact ⟨rfl, vq', H2.out.1.keepN (N := w.heap.size) (Chg.of_grown hB6.out.2.1) (by simpa using hgx2) (fun y hy => HX.out.1 y (by unfold rdX rdY at hy ⊢; rw [HP.out.2.2] at hy; exact hy)) HX.out.2, H2.out.2.2.2.newer (Chg.of_grown hB6.out.2.1) (by simp; exact .inr hgx2), HP.out.2.2⟩
theorem nil_tel (w : World) : Calls Try.prog 37 #[.pointer none] w fun e w' => e = .returned (.tuple #[.agg an0, .bool false]) ∧ Below w.heap.size w w' := by
 obtain ⟨gx, hgx⟩ : ∃ gx, w.heap.size = gx := ⟨_, rfl⟩
 obtain ⟨w0, hw0⟩ : ∃ W, w.alloc (.cells #[.int .i64 0, .int .u64 0, .int .i64 0, .slice none 0 0, .slice none 0 0, .slice none 0 0, .string emS, .bool false, .int .i64 0, .int .i64 0, .int .i64 0, .int .i64 0, .int .i64 0, .int .i64 0, .int .i64 0] 43) = W := ⟨_, rfl⟩
 have hr0 : w0.heap[gx]? = some (.cells an0 43) := by rw [← hw0, ← hgx]; exact heap_alloc_new w _
 have hb0 : Below w.heap.size w w0 := by rw [← hw0]; exact (Below.refl _ w).alloc (Nat.le_refl _) _
 have HB := Hd.mk (And.intro hb0 hgx)
 clear hb0
 go_enter Try.func37, Try.ntmps37
 go_upto_region 1 with fail
 have hz : (⟨#[]⟩ : ByteArray) = emS := rfl
 try rw [hz]
 rw [hw0]
 try rw [hgx]
 clear hz hw0 hgx
 go_wp2_with (refine at_store (x := .tmp 2) ?_; refine wpList_stored rfl 43 (.tmp 2) (.tmp 15) rfl gx an0 rfl rfl 43 an0 hr0 infoAn15 rfl (by simp [an0, Value.oneCell']) ?_; intro w6 hB6)
 (try simp only [Exit.inBlock, Exit.then])
 refine bodyPost_ret (results_cell_tmp rfl _ _ gx 43 an0 (0, 0) _ rfl hB6.out.1 Try.underlying43 rfl infoAn15) rfl ?_
 exact ⟨rfl, HB.out.1.grown hB6.out.2.1 HB.out.1.size (fun k hk => by injection hk with hk; have := HB.out.2; omega)⟩
set_option maxRecDepth 20000 in
set_option maxHeartbeats 4000000 in
/-- The first message is handed out. -/
theorem some_tel (base : Nat) (w : World) (g : Nat) (vl vc vq : Value) (L c : List Nat) (S C k p : Nat) (fl : Int) (W : Wm) (ws : List Wm) (x : An) (xs : List An) (h : RdS telK base w g vl vc vq L c S C k p fl (W :: ws) (x :: xs)) :
  Calls Try.prog 37 #[.pointer (some ⟨g, 0, none⟩)] w fun e w' => e = .returned (.tuple #[.agg W.cells.toArray, .bool true]) ∧ ∃ vq', RdS telK base w' g vl vc vq' L c S C k p fl ws xs ∧ Chg [g] w w' ∧ vq'.ownBlock = vq.ownBlock := by
 obtain ⟨gx, hgx⟩ : ∃ gx, w.heap.size = gx := ⟨_, rfl⟩
 obtain ⟨w0, hw0⟩ : ∃ U, w.alloc (.cells #[.int .i64 0, .int .u64 0, .int .i64 0, .slice none 0 0, .slice none 0 0, .slice none 0 0, .string emS, .bool false, .int .i64 0, .int .i64 0, .int .i64 0, .int .i64 0, .int .i64 0, .int .i64 0, .int .i64 0] 43) = U := ⟨_, rfl⟩
 have hr0 : w0.heap[gx]? = some (.cells an0 43) := by rw [← hw0, ← hgx]; exact heap_alloc_new w _
 have hb0 : Chg [] w w0 := by rw [← hw0]; exact (Chg.refl [] w).alloc _
 have h0 := h.new hb0
 obtain ⟨gq, oq, cq, hvq, hbq, hlq, hrg⟩ := h0.qu.first (by decide)
 have hcl := h0.qu.1 W (by simp)
 have H0 := Hd.mk (And.intro h0 (And.intro hr0 (And.intro (hb0.mono (L' := [g]) (by simp)) (And.intro hgx h.lt))))
 have HQ := Hd.mk (And.intro hvq (And.intro hrg hcl))
 have d8 : w0.cell? ⟨g, 9, none⟩ = some (.slice (some ⟨gq, oq, none⟩) (ws.length + 1) cq) := by have := h0.at_ 9 (v := vq) rfl; rw [hvq] at this; exact this
 have z8 := h0.z 9
 obtain ⟨vq', hrun, hq', hbk⟩ := h0.qu.pop elAn
 rw [hvq] at hrun
 have HP := Hd.mk (And.intro hrun (And.intro hq' hbk))
 have hlw : (0 : Int) < ((ws.length + 1 : Nat) : Int) := by omega
 obtain ⟨lw, hlw2⟩ : ∃ l, ws.length + 1 = l := ⟨_, rfl⟩
 have HLW := Hd.mk hlw2
 have HX : Hd ((∀ y ∈ rdX g vl vc vq, y < w.heap.size) ∧ ∀ V ∈ ws, ∀ r ∈ V.rows, ∀ y, r.2.1.ownBlock = some y → y < w.heap.size) := ⟨fun y hy => (h.ltX hy).2, fun V hV r hr y hy => ((h.ok V (List.mem_cons_of_mem _ hV)).lt hr hy).2⟩
 rw [hlw2] at d8 hlw HP
 have hlwb : ((lw : Int) == 0) = false := beq_eq_false_iff_ne.2 (by omega)
 have hlwn : 0 < lw := by omega
 clear h h0 hvq hbq hlq hrg hcl hr0 hb0 hrun hq' hbk hlw2
 go_enter Try.func37, Try.ntmps37
 go_upto_region 1 with fail
 have hz : (⟨#[]⟩ : ByteArray) = emS := rfl
 try rw [hz]
 rw [hw0]
 try rw [hgx]
 clear hz hw0
 go_upto_region 4 with (first
  | (refine at_load ?_; refine wpList_load_mid rfl 43 (.tmp 20) rfl gq oq rfl W.cells _ HQ.out.2.1 Try.underlying43 rfl (by rw [infoAn15, HQ.out.2.2.1]; rfl) ?_)
  | (refine at_store (x := .tmp 4) ?_; refine wpList_boxed rfl 43 (.tmp 4) (.tmp 21) rfl w0.heap.size rfl W.cells.toArray rfl rfl (by rw [infoAn15]; simp [HQ.out.2.2.1]; rfl) (by simp [HQ.out.2.2.1]; rfl) (by rw [Array.all_eq_true_iff_forall_mem]; exact fun u hu => HQ.out.2.2.2 u (by simpa using hu)) ?_; intro w1 hB1))
 obtain ⟨gb, hgb⟩ : ∃ gb, w0.heap.size = gb := ⟨_, rfl⟩
 rw [hgb] at hB1 ⊢
 have HGB : Hd (gx < gb ∧ g < gb) := ⟨by rw [← hgb]; exact (Array.getElem?_eq_some_iff.1 H0.out.2.1).1, by rw [← hgb]; exact H0.out.1.lt⟩
 have hb1 : Chg [] w0 w1 := ⟨hB1.out.2.1.os, hB1.out.2.1.tape, hB1.out.2.1.output, hB1.out.2.1.size, fun k hk _ => hB1.out.2.1.block k (by rw [← hgb]; exact hk)⟩
 have H1 : Hd (RdS telK base w1 g vl vc vq L c S C k p fl (W :: ws) (x :: xs) ∧ w1.heap[gx]? = some (.cells an0 43) ∧ w1.heap[gb]? = some (.cells W.cells.toArray 43) ∧ Chg [g] w w1 ∧ Que w1 base (telK).e (telK).m vq' ws) := ⟨H0.out.1.new hb1, by rw [hb1.block gx (by rw [hgb]; exact HGB.out.1) (by simp)]; exact H0.out.2.1, hB1.out.1, H0.out.2.2.1.trans (hb1.mono (by simp)), HP.out.2.1.chg hb1 (by simp)⟩
 clear hB1 hb1 hgb d8 z8
 have d8 : w1.cell? ⟨g, 9, none⟩ = some (.slice (some ⟨gq, oq, none⟩) lw cq) := by have := H1.out.1.at_ 9 (v := vq) rfl; rw [HQ.out.1] at this; rw [this]; congr 2; exact HLW.out
 have z8 := H1.out.1.z 9
 have hpr : ∀ U, (Instr.slice 56 (.slice (some ⟨gq, oq, none⟩) lw cq) (some (.int .i64 1)) none none).run Try.prog U = .ok vq' U := fun U => Que_pop_any HP.out.1 elAn U hlwn
 obtain ⟨Aq, cq', hvq', _⟩ := H1.out.2.2.2.2.form
 rw [hvq'] at hpr
 go_upto_region 5 with fail
 obtain ⟨w2, hw2⟩ : ∃ U, w1.setCell ⟨g, 9, none⟩ (.slice Aq ws.length cq') = U := ⟨_, rfl⟩
 rw [hw2]
 have H2 : Hd (RdS telK base w2 g vl vc vq' L c S C k p fl ws xs ∧ w2.heap[gx]? = some (.cells an0 43) ∧ w2.heap[gb]? = some (.cells W.cells.toArray 43) ∧ Chg [g] w w2) := ⟨by rw [← hw2, ← hvq']; exact H1.out.1.pop H1.out.2.2.2.2 HP.out.2.2, by rw [← hw2, Below.heap_setCell _ _ _ _ (by show gx ≠ g; have := H0.out.2.2.2.1; have := H0.out.2.2.2.2; omega)]; exact H1.out.2.1, by rw [← hw2, Below.heap_setCell _ _ _ _ (by show gb ≠ g; have := HGB.out.2; omega)]; exact H1.out.2.2.1, by rw [← hw2]; exact H1.out.2.2.2.1.setCell (by simp) _⟩
 clear hw2 d8 z8 hpr H1
 go_wp2_with (first
  | (refine at_load ?_; refine wpList_load_row rfl 43 (.tmp 4) rfl gb rfl 43 W.cells.toArray (0, 0) _ H2.out.2.2.1 Try.underlying43 rfl (by rw [infoAn15]; simp [HQ.out.2.2.1]; rfl) ?_)
  | (refine at_store (x := .tmp 2) ?_; refine wpList_stored rfl 43 (.tmp 2) (.tmp 30) rfl gx W.cells.toArray rfl rfl 43 an0 H2.out.2.1 (by rw [infoAn15]; simp [HQ.out.2.2.1]; rfl) (by simp [HQ.out.2.2.1]; rfl) (by rw [Array.all_eq_true_iff_forall_mem]; exact fun u hu => HQ.out.2.2.2 u (by simpa using hu)) ?_; intro w6 hB6))
 (try simp only [Exit.inBlock, Exit.then])
 refine bodyPost_ret (results_cell_tmp rfl _ _ gx 43 W.cells.toArray (0, 0) _ rfl hB6.out.1 Try.underlying43 rfl (by rw [infoAn15]; simp [HQ.out.2.2.1]; rfl)) rfl ?_
 have hgx2 : w.heap.size ≤ gx := by have := H0.out.2.2.2.1; omega
 exact ⟨rfl, vq', H2.out.1.keepN (N := w.heap.size) (Chg.of_grown hB6.out.2.1) (by simpa using hgx2) (fun y hy => HX.out.1 y (by unfold rdX rdY at hy ⊢; rw [HP.out.2.2] at hy; exact hy)) HX.out.2, H2.out.2.2.2.newer (Chg.of_grown hB6.out.2.1) (by simp; exact .inr hgx2), HP.out.2.2⟩
end Go.Proofs.Ytbcmjjcbjojakaa
end
section
namespace Go.Proofs.Ytbcmjjcbjojakaa
open Go.RowKit
set_option linter.unusedVariables false
/-- Each message has nine bytes of content at least. -/
def Nine {T : Type} (Z : Kd T) : Prop := ∀ c x, (∀ y ∈ c, y < 256) → Z.rd c = some x → 9 ≤ c.length
structure DrS {T : Type} (Z : Kd T) (base : Nat) (w : World) (g : Nat) (vl vc vq : Value) (L c : List Nat) (S C k p : Nat) (fl : Int) (ws : List Wm) (xs : List T) (vh : Value) (hs : List Wm) (ys : List T) : Prop where
 rd : RdS Z base w g vl vc vq L c S C k p fl ws xs
 qh : Que w base Z.e Z.m vh hs
 hok : ∀ W ∈ hs, W.ok w base
 s1 : ∀ x, vh.ownBlock = some x → x ∉ rdX g vl vc vq
 s2 : ∀ W ∈ hs, W.off (rdX g vl vc vq)
 s3 : ∀ W ∈ hs, W.off vh.ownBlock.toList
 s4 : ∀ W ∈ ws, W.off vh.ownBlock.toList
 his : Alike Z.is hs ys
section
variable {T : Type} {Z : Kd T} {base : Nat} {w w' : World} {g : Nat} {vl vc vq vh vq' : Value} {L c : List Nat} {S C k p : Nat} {fl : Int} {ws hs : List Wm} {xs ys : List T} {W : Wm} {x : T}
end
theorem wpList_qpush {P : Program} {ops : Array Oper} {rest : List Oper} {o1 o2 : Oper} {a : Act} {w : World} {Q : Exit → Act → World → Prop} {t e size bytes base : Nat} (E : ElN P t e size bytes) (hg1 : o1.guard = none) (hg2 : o2.guard = none) (s x : Operand) (d : Nat) (hd : o1.dst = some d) (ho1 : o1.op = .buildSlice t 1 #[(0, x)])
  (ho2 : o2.op = .call { callee := .builtin .append, args := #[s, .tmp d], argTypes := #[t, t] }) (v : Value) (ws : List Wm) (W : Wm) (hx : a.eval x = .agg W.cells.toArray) (hW : W.cells.length = size ∧ ∀ u ∈ W.cells, u.oneCell' = true)
  (hs : (a.put (some d) (.slice (some ⟨w.heap.size, 0, none⟩) 1 1)).eval s = v) (hdv : (a.put (some d) (.slice (some ⟨w.heap.size, 0, none⟩) 1 1)).eval (.tmp d) = .slice (some ⟨w.heap.size, 0, none⟩) 1 1)
  (hq : Que w base e size v ws) (h63 : ws.length + 1 ≤ 1000000000000) (hby : (ws.length + 1) * bytes ≤ 140737488355328) (hbase : base ≤ w.heap.size)
  (h : ∀ v' w', Que w' base e size v' (ws ++ [W]) → w.grownBy w' v.ownBlock → (v'.ownBlock = v.ownBlock ∨ v'.ownBlock = some (w.heap.size + 1)) → wpList P ops Q rest ((a.put (some d) (.slice (some ⟨w.heap.size, 0, none⟩) 1 1)).put o2.dst v') w') :
  wpList P ops Q (o1 :: o2 :: rest) a w := by
 refine wpList_plain hg1 fun K hK => ?_
 have hb1 := run_build1N (w := w) E W.cells.toArray (by simpa using hW.1)
 unfold Oper.wp execOp
 simp only [ho1, List.map_toArray, List.map_cons, List.map_nil, hx, Sem.run_bind, Sem.run_pure, Result.andThen_ok, hb1, Oper.upon, hd]
 refine hK _ _ ?_
 refine wpList_plain hg2 fun K2 hK2 => ?_
 have hq1 : Que (w.alloc (.cells W.cells.toArray e)) base e size v ws := hq.chg ((Chg.refl [] w).alloc _) (by simp)
 obtain ⟨v', w', hrun, h2, h3, h4⟩ := hq1.push (P := P) (ty := o2.type) E hW ⟨w.heap.size, 0, none⟩ 1 (fun j u hj => by
  rw [show (⟨w.heap.size, 0, none⟩ : Addr).add j = ⟨w.heap.size, j, none⟩ by unfold Addr.add; split <;> simp_all, cell_of_row _ _ _ _ _ (0, 0) (heap_alloc_new w _)]
  simpa using hj) h63 hby (by simp; omega)
 unfold Oper.wp execOp
 simp only [ho2, resolve, invoke, builtin, Sem.run_bind, Sem.run_pure, Result.andThen_ok, List.map_toArray, List.map_cons, List.map_nil, hs, hdv, hrun]
 refine hK2 _ _ (h v' w' h2 ((World.grownBy_alloc w _ v.ownBlock).trans h3) (h4.imp id fun e => ?_))
 rw [e]; simp
end Go.Proofs.Ytbcmjjcbjojakaa
end
section
namespace Go.Proofs.Ytbcmjjcbjojakaa
open Go.RowKit
set_option linter.unusedVariables false
/-- What is wanted of the going through, of each kind. -/
def ThruLaw {T : Type} (Z : Kd T) : Prop := ∀ (w : World) (base : Nat) (vs v0 v1 : Value) (hd : Nat) (f0 h0 : Int) (st : List Nat), w.ownsRow base 5 1 vs st.length (cb st) → (∀ x ∈ st, x < 256) → st.length ≤ 67108864 → v0.oneCell' = true → v1.oneCell' = true →
  Calls Try.prog 100 #[.agg #[.bool Z.ans, vs, .int .i64 (hd : Int), v0, v1, .int .i64 f0, .int .i64 h0]] w (ThDone Z w st)
theorem infoRdr7 : (Try.prog.info? 65).map (·.size) = some 7 := by kernel_rfl
theorem results_cell2_tmp {P : Program} {fn : Func} {p q u : Tmp} {ty ty2 : TypeId} (h : fn.results = #[.cell p ty, .cell q ty2, .tmp u]) (tmps : Array Value) (w : World) (g g2 : Nat) (t t2 : TypeId) (cs ds : Array Value) (fr fr2 : Nat × Nat) (d d2 : TypeDesc)
  (hp : tmps.getD p undef = .pointer (some ⟨g, 0, none⟩)) (hg : w.heap[g]? = some (.cells cs t fr)) (hq : tmps.getD q undef = .pointer (some ⟨g2, 0, none⟩)) (hg2 : w.heap[g2]? = some (.cells ds t2 fr2))
  (hu : P.underlying ty = some d) (hd : (match d with | .struct _ | .array _ _ => true | _ => false) = true) (hi : (P.info? ty).map (·.size) = some cs.size)
  (hu2 : P.underlying ty2 = some d2) (hd2 : (match d2 with | .struct _ | .array _ _ => true | _ => false) = true) (hi2 : (P.info? ty2).map (·.size) = some ds.size) :
  (results fn tmps).run P w = .ok (.tuple #[.agg cs, .agg ds, tmps.getD u undef]) w := by
 have hp' : tmps[p]?.getD undef = .pointer (some ⟨g, 0, none⟩) := by simpa using hp
 have hq' : tmps[q]?.getD undef = .pointer (some ⟨g2, 0, none⟩) := by simpa using hq
 simp [results, h, hp', hq', asAddr, run_loadVar_row w g t ty cs fr d hg hu hd hi, run_loadVar_row w g2 t2 ty2 ds fr2 d2 hg2 hu2 hd2 hi2]
theorem wms_get {size : Nat} : ∀ {ws : List Wm} {i j : Nat} {W : Wm}, (∀ V ∈ ws, V.cells.length = size ∧ ∀ u ∈ V.cells, u.oneCell' = true) → ws[i]? = some W → j < size → (Wms ws)[i * size + j]? = W.cells[j]?
 | [], i, j, W, _, h, _ => by simp at h
 | V :: ws, i, j, W, hw, h, hj => by
  have hl := (hw V (by simp)).1
  have e1 : Wms (V :: ws) = V.cells ++ Wms ws := by unfold Wms; rw [List.flatMap_cons]
  rw [e1]
  cases i with
  | zero =>
   simp only [List.getElem?_cons_zero, Option.some.injEq] at h
   subst h
   rw [Nat.zero_mul, Nat.zero_add, List.getElem?_append_left (by omega)]
  | succ i =>
   simp only [List.getElem?_cons_succ] at h
   rw [Nat.add_mul, Nat.one_mul, List.getElem?_append_right (by omega), hl, show i * size + size + j - size = i * size + j by omega]
   exact wms_get (fun U hU => hw U (List.mem_cons_of_mem _ hU)) h hj
theorem que_nth {w : World} {base e size : Nat} {v : Value} {ws : List Wm} {W : Wm} {i : Nat} (h : Que w base e size v ws) (hi : ws[i]? = some W) : ∃ g off cap, v = .slice (some ⟨g, off, none⟩) ws.length cap ∧ base ≤ g ∧ g < w.heap.size ∧ w.rangeAt g (off + i * size) W.cells := by
 rcases h.2 with ⟨_, h0⟩ | ⟨g, off, cap, cur, rfl, hb, hg, h1, h2, h3, h4⟩
 ·subst h0; simp at hi
 ·refine ⟨g, off, cap, rfl, hb, (Array.getElem?_eq_some_iff.1 hg).1, fun j u hj => ?_⟩
  have hmem : W ∈ ws := List.mem_of_getElem? hi
  have hl := (h.1 W hmem).1
  have hjl := (List.getElem?_eq_some_iff.1 hj).1
  have hil := (List.getElem?_eq_some_iff.1 hi).1
  rw [cell_of_row w g (off + i * size + j) cur e (0, 0) hg]
  have e1 := wms_get h.1 hi (show j < size by omega)
  rw [hj] at e1
  have hlt : i * size + j < ws.length * size := by
   have := Nat.mul_le_mul_right size (show i + 1 ≤ ws.length by omega)
   rw [Nat.add_mul, Nat.one_mul] at this; omega
  rw [← h4, List.getElem?_take, if_pos hlt, List.getElem?_drop] at e1
  rw [Nat.add_assoc]
  simpa using e1
theorem alike_nth {α β : Type} {R : α → β → Prop} : ∀ {l : List α} {m : List β} {i : Nat} {a : α}, Alike R l m → l[i]? = some a → ∃ b, m[i]? = some b ∧ R a b
 | [], _, i, a, _, h => by simp at h
 | x :: l, [], i, a, h, _ => by cases h
 | x :: l, y :: m, 0, a, h, hi => by
  simp only [List.getElem?_cons_zero, Option.some.injEq] at hi
  subst hi
  exact ⟨y, rfl, h.1⟩
 | x :: l, y :: m, i + 1, a, h, hi => by
  simp only [List.getElem?_cons_succ] at hi
  obtain ⟨b, h1, h2⟩ := alike_nth h.2 hi
  exact ⟨b, by simpa using h1, h2⟩
/-- What is told fits. -/
theorem que_one {w : World} {base e size : Nat} {v : Value} {ws : List Wm} (h : Que w base e size v ws) : v.oneCell' = true := by
 obtain ⟨A, c, rfl, _⟩ := h.form; rfl
section
variable {T : Type} {Z : Kd T} {base base' : Nat} {w w' : World} {vs vq : Value} {st : List Nat} {ws : List Wm} {xs : List T}
theorem own_lowB {e n : Nat} {v : Value} {ys : List Value} (h : w.ownsRow base e 1 v n ys) (hb : base' ≤ base) : w.ownsRow base' e 1 v n ys := by
 refine ⟨h.1, ?_⟩
 rcases h.2 with h1 | ⟨g, cap, cur, h1, h2, h3⟩
 ·exact .inl h1
 ·exact .inr ⟨g, cap, cur, h1, Nat.le_trans hb h2, h3⟩
theorem ThS.lower (h : ThS Z base w vs vq st ws xs) (hb : base' ≤ base) : ThS Z base' w vs vq st ws xs := ⟨own_lowB h.so hb, h.lb, h.qu.lower hb, fun W hW => (h.ok W hW).lower hb, h.is⟩
/-- The document's reader in memory: what it says is what its stream says. -/
structure ThA {T : Type} (Z : Kd T) (base : Nat) (w : World) (vs vq : Value) (st : List Nat) (ws : List Wm) (xs : List T) : Prop where
 th : ThS Z base w vs vq st ws xs
 is : xs = (go Z.rd mid0 st).ms
/-- What Push answers where no fault is told. -/
def DpPost {T : Type} (Z : Kd T) (w : World) (hd : Nat) (st : List Nat) (e : Ending) (w' : World) : Prop :=
 ∃ vs vq ws xs, e = .returned (.tuple #[.agg (thC Z.ans vs hd vq (go Z.rd mid0 st).fl ((go Z.rd mid0 st).held : Int)), .int .i64 (go Z.rd mid0 st).fl]) ∧ ThA Z w.heap.size w' vs vq st ws xs ∧ Chg [] w w'
end
end Go.Proofs.Ytbcmjjcbjojakaa
end
