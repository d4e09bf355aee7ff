/- Contract of the reader's message. (tools/msggen.py prints it.) -/
import Derived.Test.YtbcmjjcbjojakaaPk9
import Derived.Test.YtbcmjjcbjojakaaPk6
namespace Go.Proofs.Ytbcmjjcbjojakaa
open Go.RowKit
set_option linter.unusedVariables false
set_option linter.unusedSimpArgs false
/-- What message does. -/
def MsgDone {T : Type} (Z : Kd T) (base : Nat) (w : World) (g : Nat) (vl vc vq : Value) (L c : List Nat) (fl : Int) (ws : List Wm) (xs : List T) (e : Ending) (w' : World) : Prop :=
 ∃ (vq' : Value) (fl' : Int) (ws' : List Wm) (xs' : List T), e = .returned (.tuple #[]) ∧ RdS Z base w' g vl (.slice none 0 0) vq' L [] 0 0 0 0 fl' ws' xs' ∧ Chg (rdY g vc vq) w w' ∧ (∀ x, vq'.ownBlock = some x → vq.ownBlock = some x ∨ w.heap.size ≤ x) ∧
  ((∃ x W, Z.rd c = some x ∧ fl' = fl ∧ xs' = xs ++ [x] ∧ ws' = ws ++ [W] ∧ W.ok w' w.heap.size) ∨ (Z.rd c = none ∧ fl' = 300 ∧ ws' = ws ∧ xs' = xs))
theorem Wm_cells {W : Wm} {m : Nat} (h : W.cells.length = m ∧ W.cells.toArray.all (·.oneCell') = true) : W.cells.length = m ∧ ∀ u ∈ W.cells, u.oneCell' = true :=
 ⟨h.1, fun u hu => (Array.all_eq_true_iff_forall_mem.1 h.2) u (by simpa using hu)⟩
theorem Chg.newer {L Y : List Nat} {w w1 w2 : World} (h : Chg L w w1) (b : Chg Y w1 w2) (hY : ∀ y ∈ Y, y ∈ L ∨ w.heap.size ≤ y) : Chg L w w2 :=
 ⟨b.os.trans h.os, b.tape.trans h.tape, b.output.trans h.output, Nat.le_trans h.size b.size, fun k hk hm => (b.block k (Nat.lt_of_lt_of_le hk h.size) fun hy => (hY k hy).elim hm (by omega)).trans (h.block k hk hm)⟩
theorem Chg.of_grown {w w1 : World} {g : Nat} (h : w.grownBy w1 (some g)) : Chg [g] w w1 := ⟨h.os, h.tape, h.output, h.size, fun k hk hm => h.block k hk (by simpa using hm)⟩
theorem RdS.keepN {T : Type} {Z : Kd T} {base : Nat} {w w' : World} {g : Nat} {vl vc vq : Value} {L c : List Nat} {S C k p : Nat} {fl : Int} {ws : List Wm} {xs : List T} (h : RdS Z base w g vl vc vq L c S C k p fl ws xs) {N : Nat} {Y : List Nat} (b : Chg Y w w') (hY : ∀ y ∈ Y, N ≤ y)
  (hX : ∀ x ∈ rdX g vl vc vq, x < N) (hM : ∀ V ∈ ws, ∀ r ∈ V.rows, ∀ x, r.2.1.ownBlock = some x → x < N) : RdS Z base w' g vl vc vq L c S C k p fl ws xs :=
 h.keep b (fun x hx hm => by have := hX x hx; have := hY x hm; omega) fun V hV r hr x hx hm => by have := hM V hV r hr x hx; have := hY x hm; omega
theorem own_higher {w : World} {base base' e n : Nat} {v : Value} {xs : List Value} (h : w.ownsRow base e 1 v n xs) (hb : ∀ x, v.ownBlock = some x → base' ≤ x) : w.ownsRow base' e 1 v n xs :=
 ⟨h.1, h.2.imp id fun ⟨g, cap, cur, hv, hg, r⟩ => ⟨g, cap, cur, hv, hb g (by rw [hv]; rfl), r⟩⟩
theorem Rr.off {w w1 : World} {gr n c at_ : Nat} {A : Option Addr} {fl : Int} {bs : List Nat} {g : Nat} (R : Rr w gr A n c at_ fl bs) (b : Chg [g] w w1) (hg : g < gr) (hA : ∀ gg off, A = some ⟨gg, off, none⟩ → 0 < n → g < gg) : Rr w1 gr A n c at_ fl bs :=
 R.keep b (by simp; omega) fun gg off he hp => by have := hA gg off he hp; simp; omega
set_option maxRecDepth 20000 in
set_option maxHeartbeats 8000000 in
theorem message_ask (base : Nat) (w : World) (g : Nat) (vl vc vq : Value) (L c : List Nat) (S C k p : Nat) (ws : List Wm) (xs : List Rq) (h : RdS askK base w g vl vc vq L c S C k p 0 ws xs) (hc : c.length ≤ 67108864) (hw : ws.length ≤ 274877906944) :
  Calls Try.prog 102 #[.pointer (some ⟨g, 0, none⟩)] w (MsgDone askK base w g vl vc vq L c 0 ws xs) := by
 obtain ⟨fl, hfl⟩ : ∃ fl : Int, fl = 0 := ⟨_, rfl⟩
 rw [← hfl] at h ⊢
 have HFL := Hd.mk hfl
 clear hfl
 obtain ⟨Av, cv, hvc, hcc, _⟩ := own_form h.co
 have H0 := Hd.mk h
 have HV := Hd.mk hvc
 have c2 : w.cell? ⟨g, 2, none⟩ = some (.slice Av c.length cv) := by rw [← hvc]; exact h.at_ 2 rfl
 have HRD : Hd (Rd w w.heap.size Av c.length (cb c)) := ⟨by have := h.co; rw [hvc] at this; exact Rd.of_own this⟩
 have HX : Hd ((∀ x ∈ rdX g vl (.slice none 0 0) vq, x < w.heap.size) ∧ (∀ V ∈ ws, ∀ r ∈ V.rows, ∀ x, r.2.1.ownBlock = some x → x < w.heap.size) ∧ g < w.heap.size) := ⟨fun x hx => by
   rcases mem_X.1 hx with h1 | h1 | h1 | h1
   ·exact (h.lo.lt x h1).2
   ·rw [h1]; exact h.lt
   ·cases h1
   ·exact (h.qu.lt h1).2, fun V hV r hr x hx => ((h.ok V hV).lt hr hx).2, h.lt⟩
 obtain ⟨lc, hlc⟩ : ∃ l, c.length = l := ⟨_, rfl⟩
 rw [hlc] at c2 hc HRD
 clear h hvc hlc hcc
 go_enter Try.func102, Try.ntmps102
 go_wp2_with fail
 refine (open_any w Av lc cv w.heap.size c HRD.out (Nat.le_refl _) (by omega) H0.out.cb_).mono ?_
 rintro e w1 ⟨gr, A', c', rfl, hch, hR, hgr, hA⟩
 have H1 : Hd (RdS askK base w1 g vl vc vq L c S C k p fl ws xs ∧ Rr w1 gr A' lc c' 0 0 c ∧ g < gr ∧ (∀ gg off, A' = some ⟨gg, off, none⟩ → 0 < lc → g < gg) ∧ Chg [g] w w1 ∧ w.heap.size ≤ gr) := ⟨H0.out.new hch, hR, by have := H0.out.lt; omega, fun gg off he hp => by have := hA gg off he hp; have := H0.out.lt; omega, hch.mono (by simp), hgr⟩
 have HA : Hd (g < gr ∧ (∀ gg off, A' = some ⟨gg, off, none⟩ → 0 < lc → g < gg) ∧ w.heap.size ≤ gr) := ⟨H1.out.2.2.1, H1.out.2.2.2.1, hgr⟩
 clear hch hR hgr hA c2 HRD
 have d2 : w1.cell? ⟨g, 2, none⟩ = some vc := H1.out.1.at_ 2 rfl
 have z2 := H1.out.1.z 2
 go_upto_region 2 with fail
 obtain ⟨w2, hw2⟩ : ∃ W, w1.setCell ⟨g, 2, none⟩ (.slice none 0 0) = W := ⟨_, rfl⟩
 rw [hw2]
 have hb2 : Chg [g] w1 w2 := by rw [← hw2]; exact (Chg.refl [g] w1).setCell (by simp) _
 have H2 : Hd (RdS askK base w2 g vl (.slice none 0 0) vq L [] S C k p fl ws xs ∧ Rr w2 gr A' lc c' 0 0 c ∧ Chg [g] w w2) := ⟨by rw [← hw2]; exact H1.out.1.cont (c' := []) (Chg.refl [] w1) (by simp) (World.ownsRow_nil ..) (fun x hx => by cases hx) (by simp), H1.out.2.1.off hb2 HA.out.1 HA.out.2.1, H1.out.2.2.2.2.1.trans hb2⟩
 clear hw2 d2 z2 hb2 H1
 go_wp2_with fail
 refine (sreset_any w2 g 3 58 S C _ H2.out.1.strm).mono ?_
 rintro e w3 ⟨rfl, hs3, hg3⟩
 have H3 : Hd (RdS askK base w3 g vl (.slice none 0 0) vq L [] 0 0 k p fl ws xs ∧ Rr w3 gr A' lc c' 0 0 c ∧ Chg [g] w w3) := ⟨H2.out.1.crc hs3 hg3, H2.out.2.1.off (Chg.of_grown hg3) HA.out.1 HA.out.2.1, H2.out.2.2.trans (Chg.of_grown hg3)⟩
 clear hs3 hg3 H2
 have d5 : w3.cell? ⟨g, 5, none⟩ = some (.int .i64 (k : Int)) := H3.out.1.at_ 5 rfl
 have z5 := H3.out.1.z 5
 have d6 : w3.cell? ⟨g, 6, none⟩ = some (.int .i64 (p : Int)) := H3.out.1.at_ 6 rfl
 have z6 := H3.out.1.z 6
 go_upto_region 6 with fail
 obtain ⟨w4, hw4⟩ : ∃ W, (w3.setCell ⟨g, 5, none⟩ (.int .i64 0)).setCell ⟨g, 6, none⟩ (.int .i64 0) = W := ⟨_, rfl⟩
 rw [hw4]
 have hb4 : Chg [g] w3 w4 := by rw [← hw4]; exact ((Chg.refl [g] w3).setCell (by simp) _).setCell (by simp) _
 have H4 : Hd (RdS askK base w4 g vl (.slice none 0 0) vq L [] 0 0 0 0 fl ws xs ∧ Rr w4 gr A' lc c' 0 0 c ∧ Chg [g] w w4) := ⟨by rw [← hw4]; exact (H3.out.1.put 5 (.int .i64 0) (k' := 0) (p' := p) (fl' := fl) rfl).put 6 (.int .i64 0) (k' := 0) (p' := 0) (fl' := fl) rfl, H3.out.2.1.off hb4 HA.out.1 HA.out.2.1, H3.out.2.2.trans hb4⟩
 clear hw4 d5 z5 d6 z6 hb4 H3
 have d0 : w4.cell? ⟨g, 0, none⟩ = some (.bool false) := H4.out.1.at_ 0 rfl
 go_upto_region 12 with fail
 have hz : (⟨#[]⟩ : ByteArray) = emS := rfl
 try rw [hz]
 obtain ⟨gb, hgb⟩ : ∃ gb, w4.heap.size = gb := ⟨_, rfl⟩
 obtain ⟨w5, hw5⟩ : ∃ W, w4.alloc (.cells #[.int .i64 0, .int .u64 0, .string emS, .string emS, .int .i64 0, .int .i64 0, .int .i64 0, .slice none 0 0] 28) = W := ⟨_, rfl⟩
 rw [hw5]
 try rw [hgb]
 have H5 : Hd (RdS askK base w5 g vl (.slice none 0 0) vq L [] 0 0 0 0 fl ws xs ∧ Rr w5 gr A' lc c' 0 0 c ∧ Chg [g] w w5 ∧ w5.heap[gb]? = some (.cells rq0 28)) := ⟨by rw [← hw5]; exact H4.out.1.new ((Chg.refl [] _).alloc _), by rw [← hw5]; exact H4.out.2.1.keep ((Chg.refl [] _).alloc _) (by simp) (by simp), by rw [← hw5]; exact H4.out.2.2.alloc _, by rw [← hw5, ← hgb]; exact heap_alloc_new _ _⟩
 obtain ⟨N5, hN5⟩ : ∃ N, w5.heap.size = N := ⟨_, rfl⟩
 have HB : Hd (gr < gb ∧ w.heap.size ≤ gb ∧ gb < N5 ∧ w.heap.size ≤ N5) := ⟨by rw [← hgb]; exact H4.out.2.1.lt, by rw [← hgb]; exact H4.out.2.2.size, by rw [← hN5, ← hw5, ← hgb]; simp, by rw [← hN5]; exact H5.out.2.2.1.size⟩
 have HN5 := Hd.mk hN5
 clear hN5
 clear hw5 hgb hz d0 H4
 go_wp2_with fail
 refine (request_any w5 gr lc c' A' c H5.out.2.1).mono ?_
 rintro e w6 ⟨W, ok, rfl, hc6, hm1, hm2, hcase⟩
 have HW := Hd.mk (And.intro hm1 hm2)
 have H6 : Hd (RdS askK base w6 g vl (.slice none 0 0) vq L [] 0 0 0 0 fl ws xs ∧ Chg [g] w w6 ∧ w6.heap[gb]? = some (.cells rq0 28)) := ⟨H5.out.1.keepN hc6 (by have := HA.out.2.2; simp; omega) HX.out.1 HX.out.2.1, H5.out.2.2.1.newer hc6 (by have := HA.out.2.2; simp; omega), by rw [hc6.block gb (Array.getElem?_eq_some_iff.1 H5.out.2.2.2).1 (by have := HB.out.1; simp; omega)]; exact H5.out.2.2.2⟩
 have HC : Hd ((∃ x, ok = true ∧ (askK).rd c = some x ∧ (askK).is W x ∧ W.ok w6 N5) ∨ (ok = false ∧ (askK).rd c = none)) := ⟨hcase.imp (fun ⟨x, a1, a2, a3, a4⟩ => ⟨x, a1, a2, a3, by rw [← HN5.out]; exact a4⟩) id⟩
 clear hm1 hm2 hcase hc6 H5
 have hrow := H6.out.2.2
 rcases hok : ok with _ | _
 ·subst hok
  have HN : Hd ((askK).rd c = none) := ⟨HC.out.elim (fun ⟨_, h, _⟩ => by cases h) (·.2)⟩
  clear HC
  go_upto_region 16 with (refine at_store (x := .tmp 5) ?_; refine wpList_stored rfl 28 (.tmp 5) (.tmp 47) rfl gb W.cells.toArray rfl rfl 28 rq0 hrow (by rw [infoRq8]; simp [HW.out.1]) (by simp [HW.out.1]; rfl) HW.out.2 ?_; intro w7 hB7)
  have H7 : Hd (RdS askK base w7 g vl (.slice none 0 0) vq L [] 0 0 0 0 fl ws xs ∧ Chg [g] w w7) := ⟨H6.out.1.keepN (Chg.of_grown hB7.out.2.1) (by have := HB.out.2.1; simp; omega) HX.out.1 HX.out.2.1, H6.out.2.1.newer (Chg.of_grown hB7.out.2.1) (by have := HB.out.2.1; simp; omega)⟩
  clear hB7 hrow H6
  have d7 : w7.cell? ⟨g, 7, none⟩ = some (.int .i64 fl) := H7.out.1.at_ 7 rfl
  have z7 := H7.out.1.z 7
  go_wp2_with fail
  go_end0
  exact ⟨vq, 300, ws, xs, rfl, H7.out.1.put 7 (.int .i64 300) (k' := 0) (p' := 0) (fl' := 300) rfl, (H7.out.2.setCell (p := ⟨g, 7, none⟩) (by simp) _).mono (fun x hx _ => by rw [List.mem_singleton.1 hx]; exact mem_Y.2 (.inl rfl)), fun x hx => .inl hx, .inr ⟨HN.out, rfl, rfl, rfl⟩⟩
 ·subst hok
  obtain ⟨x0, hx0⟩ : ∃ x, (askK).rd c = some x ∧ (askK).is W x ∧ W.ok w6 N5 := HC.out.elim (fun ⟨x, _, h⟩ => ⟨x, h⟩) (fun h => by cases h.1)
  have HM := Hd.mk hx0
  clear HC hx0
  go_upto_region 14 with (refine at_store (x := .tmp 5) ?_; refine wpList_stored rfl 28 (.tmp 5) (.tmp 47) rfl gb W.cells.toArray rfl rfl 28 rq0 hrow (by rw [infoRq8]; simp [HW.out.1]) (by simp [HW.out.1]; rfl) HW.out.2 ?_; intro w7 hB7)
  have H7 : Hd (RdS askK base w7 g vl (.slice none 0 0) vq L [] 0 0 0 0 fl ws xs ∧ Chg [g] w w7 ∧ w7.heap[gb]? = some (.cells W.cells.toArray 28) ∧ W.ok w7 N5) := ⟨H6.out.1.keepN (Chg.of_grown hB7.out.2.1) (by have := HB.out.2.1; simp; omega) HX.out.1 HX.out.2.1, H6.out.2.1.newer (Chg.of_grown hB7.out.2.1) (by have := HB.out.2.1; simp; omega), hB7.out.1, HM.out.2.2.chg (Chg.of_grown hB7.out.2.1) (fun r hr x hx hm => by have := (HM.out.2.2.lt hr hx).1; have := HB.out.2.2.1; rw [List.mem_singleton.1 hm] at *; omega)⟩
  clear hB7 hrow H6
  have H8 : Hd (RdS askK base w7.drew g vl (.slice none 0 0) vq L [] 0 0 0 0 fl ws xs ∧ Chg [g] w w7.drew ∧ w7.drew.heap[gb]? = some (.cells W.cells.toArray 28) ∧ W.ok w7.drew N5) := ⟨H7.out.1.drew, H7.out.2.1.drew, H7.out.2.2.1, fun r hr => own_below' (H7.out.2.2.2 r hr) (Below.refl _ _).drew⟩
  clear H7
  refine wp_region_held_drew (S := fun U => U.heap[gb]? = some (.cells W.cells.toArray 28)) (by kernel_rfl) H8.out.2.2.1 (fun hHeld => ?_)
  obtain ⟨w8, hw8⟩ : ∃ U, w7.drew = U := ⟨_, rfl⟩
  rw [hw8] at H8 hHeld ⊢
  clear hw8
  refine wpAnyH_take (i := 0) (oi := ?oi101) (v := ?v101) ?hi101 (by kernel_rfl) (by kernel_rfl) (by kernel_rfl) ?hQ101 (Or.inl ⟨?hw101, ?hy101⟩) (by assumption) ?rest101
  case hi101 => simp only [List.getElem?_toArray, List.getElem?_cons_succ, List.getElem?_cons_zero]; rfl
  case hQ101 => exact fun _ _ _ h => h
  case hw101 => rfl
  case hy101 => (intro W hW; skip; go_simp; all_goals rfl)
  simp only [Act.put, List.setIfInBounds_toArray, List.set_cons_zero, List.set_cons_succ]
  refine wpAnyH_take (i := 1) (oi := ?oi102) (v := ?v102) ?hi102 (by kernel_rfl) (by kernel_rfl) (by kernel_rfl) ?hQ102 (Or.inl ⟨?hw102, ?hy102⟩) (by assumption) ?rest102
  case hi102 => simp only [List.getElem?_toArray, List.getElem?_cons_succ, List.getElem?_cons_zero]; rfl
  case hQ102 => exact fun _ _ _ h => h
  case hw102 => rfl
  case hy102 => (intro W hW; skip; go_simp; all_goals rfl)
  simp only [Act.put, List.setIfInBounds_toArray, List.set_cons_zero, List.set_cons_succ]
  refine wpAnyH_take (i := 2) (oi := ?oi103) (v := ?v103) ?hi103 (by kernel_rfl) (by kernel_rfl) (by kernel_rfl) ?hQ103 (Or.inl ⟨?hw103, ?hy103⟩) (by assumption) ?rest103
  case hi103 => simp only [List.getElem?_toArray, List.getElem?_cons_succ, List.getElem?_cons_zero]; rfl
  case hQ103 => exact fun _ _ _ h => h
  case hw103 => rfl
  case hy103 => (intro W hW; skip; go_simp; all_goals rfl)
  simp only [Act.put, List.setIfInBounds_toArray, List.set_cons_zero, List.set_cons_succ]
  refine wpAnyH_take (i := 3) (oi := ?oi104) (v := ?v104) ?hi104 (by kernel_rfl) (by kernel_rfl) (by kernel_rfl) ?hQ104 (Or.inl ⟨?hw104, ?hy104⟩) (by assumption) ?rest104
  case hi104 => simp only [List.getElem?_toArray, List.getElem?_cons_succ, List.getElem?_cons_zero]; rfl
  case hQ104 => exact fun _ _ _ h => h
  case hw104 => rfl
  case hy104 => (intro W hW; skip; go_simp; all_goals rfl)
  simp only [Act.put, List.setIfInBounds_toArray, List.set_cons_zero, List.set_cons_succ]
  refine wpAnyH_take (i := 5) (oi := ?oiR) (v := .agg W.cells.toArray) ?hiR (by kernel_rfl) (by kernel_rfl) (by kernel_rfl) ?hQR ?hyR (by assumption) ?restR
  case hiR => simp only [List.getElem?_toArray, List.getElem?_cons_succ, List.getElem?_cons_zero]; rfl
  case hQR => exact fun _ _ _ h => h
  case hyR => exact yieldsIf_load_mid rfl 28 (.tmp 5) rfl gb 0 rfl W.cells _ (fun U hU j v hj => by rw [Nat.zero_add, cell_of_row U gb j _ _ (0, 0) hU]; simpa using hj) Try.underlying28 rfl (by rw [infoRq8, HW.out.1])
  simp only [Act.put, List.setIfInBounds_toArray, List.set_cons_zero, List.set_cons_succ]
  have hcl := Wm_cells HW.out
  have HCL := Hd.mk hcl
  clear hcl
  have hd8 : w8.cell? ⟨g, 8, none⟩ = some vq := H8.out.1.at_ 8 rfl
  refine wpAnyH_ready (rs := [4, 6]) (by kernel_rfl) (by simp) ?_
  refine AllReadyH.cons (i := 4) (o := ?oA) ?hoA (fun Kq hK => ?stepA) (AllReadyH.cons (i := 6) (o := ?oB) ?hoB (fun Kq hK => ?stepB) AllReadyH.nil)
  case hoA => simp only [List.getElem?_toArray, List.getElem?_cons_succ, List.getElem?_cons_zero]; rfl
  case hoB => simp only [List.getElem?_toArray, List.getElem?_cons_succ, List.getElem?_cons_zero]; rfl
  case stepA =>
   go_simp
   refine hK.out _ _ hHeld (fun _ => ?_)
   clear hK Kq
   try simp only [Act.put, List.setIfInBounds_toArray, List.set_cons_zero, List.set_cons_succ]
   refine wpAnyH_ready (rs := [6]) (by kernel_rfl) (by simp) ?_
   refine AllReadyH.cons (i := 6) (o := ?oA6) ?hoA6 (fun Kq hK => ?stepA6) AllReadyH.nil
   case hoA6 => simp only [List.getElem?_toArray, List.getElem?_cons_succ, List.getElem?_cons_zero]; rfl
   refine step_build1 elRq rfl (.tmp 55) rfl W.cells.toArray rfl (by simpa using HW.out.1) ?_
   obtain ⟨N8, hN8⟩ : ∃ N, w8.heap.size = N := ⟨_, rfl⟩
   obtain ⟨w9, hw9⟩ : ∃ U, w8.alloc (.cells W.cells.toArray 28) = U := ⟨_, rfl⟩
   rw [hw9]
   try rw [hN8]
   have hb9 : Below w8.heap.size w8 w9 := by rw [← hw9]; exact (Below.refl _ _).alloc (Nat.le_refl _) _
   have HN9 : Hd (w9.heap[N8]? = some (.cells W.cells.toArray 28) ∧ Chg [] w8 w9 ∧ w8.heap.size = N8 ∧ w9.heap.size = N8 + 1) := ⟨by rw [← hw9, ← hN8]; exact heap_alloc_new _ _, Chg.of_below hb9, hN8, by rw [← hw9, ← hN8]; simp⟩
   have hF : w9.heap[gb]? = some (.cells W.cells.toArray 28) := by rw [hb9.block gb (Array.getElem?_eq_some_iff.1 hHeld).1]; exact hHeld
   clear hw9 hN8 hb9
   refine hK.out _ _ hF (fun _ => ?_)
   clear hK Kq hHeld
   have hHeld := hF
   clear hF
   try simp only [Act.put, List.setIfInBounds_toArray, List.set_cons_zero, List.set_cons_succ]
   refine wpAnyH_ready (rs := [7]) (by kernel_rfl) (by simp) ?_
   refine AllReadyH.cons (i := 7) (o := ?oA7) ?hoA7 (fun Kq hK => ?stepA7) AllReadyH.nil
   case hoA7 => simp only [List.getElem?_toArray, List.getElem?_cons_succ, List.getElem?_cons_zero]; rfl
   refine step_qpush elRq rfl (.tmp 54) (.tmp 56) rfl vq ws W rfl (H8.out.1.new HN9.out.2.1).qu HCL.out ⟨N8, 0, none⟩ 1 rfl (fun j u hj => ?_) (by omega) (by omega) (by have := (H8.out.1.new HN9.out.2.1).bg; have := (H8.out.1.new HN9.out.2.1).lt; omega) ?_
   ·rw [show (⟨N8, 0, none⟩ : Addr).add j = ⟨N8, j, none⟩ by unfold Addr.add; split <;> simp_all, cell_of_row w9 N8 j _ _ (0, 0) HN9.out.1]; simpa using hj
   intro v' w10 hq10 hgr hor
   have hlt8 : g < w9.heap.size := by have := H8.out.1.lt; have := HN9.out.2.2; omega
   have hc10 : w10.cell? ⟨g, 8, none⟩ = some vq := (World.cell?_of_block (a := ⟨g, 8, none⟩) (hgr.block g hlt8 (fun e => H8.out.1.gq e.symm))).trans ((H8.out.1.new HN9.out.2.1).at_ 8 rfl)
   have hz10 : w10.frozen? ⟨g, 8, none⟩ = false := (World.frozen?_of_block (a := ⟨g, 8, none⟩) (hgr.block g hlt8 (fun e => H8.out.1.gq e.symm))).trans ((H8.out.1.new HN9.out.2.1).z 8)
   have hF : w10.heap[gb]? = some (.cells W.cells.toArray 28) := by rw [hgr.block gb (Array.getElem?_eq_some_iff.1 hHeld).1 (fun e => by have := HX.out.1 gb (mem_X.2 (.inr (.inr (.inr e.symm)))); have := HB.out.2.1; omega)]; exact hHeld
   have HQ := Hd.mk (And.intro hq10 (And.intro hgr (And.intro hor (And.intro hc10 hz10))))
   clear hq10 hgr hor hc10 hz10 hd8 hlt8
   refine hK.out _ _ hF (fun _ => ?_)
   clear hK Kq hHeld
   have hHeld := hF
   clear hF
   try simp only [Act.put, List.setIfInBounds_toArray, List.set_cons_zero, List.set_cons_succ]
   refine wpAnyH_take (i := 8) (oi := ?oi201) (v := ?v201) ?hi201 (by kernel_rfl) (by kernel_rfl) (by kernel_rfl) ?hQ201 (Or.inl ⟨?hw201, ?hy201⟩) (by assumption) ?rest201
   case hi201 => simp only [List.getElem?_toArray, List.getElem?_cons_succ, List.getElem?_cons_zero]; rfl
   case hQ201 => exact fun _ _ _ h => h
   case hw201 => rfl
   case hy201 => (intro W hW; skip; go_simp; all_goals rfl)
   simp only [Act.put, List.setIfInBounds_toArray, List.set_cons_zero, List.set_cons_succ]
   refine wpAnyH_take (i := 9) (oi := ?oi202) (v := ?v202) ?hi202 (by kernel_rfl) (by kernel_rfl) (by kernel_rfl) ?hQ202 (Or.inl ⟨?hw202, ?hy202⟩) (by assumption) ?rest202
   case hi202 => simp only [List.getElem?_toArray, List.getElem?_cons_succ, List.getElem?_cons_zero]; rfl
   case hQ202 => exact fun _ _ _ h => h
   case hw202 => rfl
   case hy202 => (intro W hW; skip; go_simp; all_goals rfl)
   simp only [Act.put, List.setIfInBounds_toArray, List.set_cons_zero, List.set_cons_succ]
   refine wpAnyH_ready (rs := [10]) (by kernel_rfl) (by simp) ?_
   refine AllReadyH.cons (i := 10) (o := ?oA10) ?hoA10 (fun Kq hK => ?stepA10) AllReadyH.nil
   case hoA10 => simp only [List.getElem?_toArray, List.getElem?_cons_succ, List.getElem?_cons_zero]; rfl
   obtain ⟨Aq, cq, hvq, _⟩ := HQ.out.1.form
   refine step_set rfl 55 (.tmp 59) (.tmp 57) rfl g 8 v' rfl rfl (by rw [hvq]; rfl) (by rw [hvq]; rfl) vq HQ.out.2.2.2.1 HQ.out.2.2.2.2 infoSlR ?_
   obtain ⟨w11, hw11⟩ : ∃ U, w10.setCell ⟨g, 8, none⟩ v' = U := ⟨_, rfl⟩
   rw [hw11]
   have hvn : v'.ownBlock = vq.ownBlock ∨ ∃ x, v'.ownBlock = some x ∧ w8.heap.size ≤ x := HQ.out.2.2.1.imp id fun e => ⟨_, e, HN9.out.2.1.size⟩
   have hne : ∀ r ∈ W.rows, ∀ x, r.2.1.ownBlock = some x → v'.ownBlock ≠ some x := by
    intro r hr x hx e
    have h1 := (H8.out.2.2.2.lt hr hx)
    rcases HQ.out.2.2.1 with h2 | h2
    ·rw [h2] at e; have := HX.out.1 x (mem_X.2 (.inr (.inr (.inr e)))); have := HB.out.2.2.2; omega
    ·rw [h2] at e
     injection e with e
     have := HN9.out.2.1.size
     omega
   have HR : Hd (RdS askK base w11 g vl (.slice none 0 0) v' L [] 0 0 0 0 fl (ws ++ [W]) (xs ++ [x0])) := ⟨by rw [← hw11]; exact H8.out.1.more HN9.out.2.1 HQ.out.1 HQ.out.2.1 hvn (H8.out.2.2.2.chg HN9.out.2.1 (fun r _ x _ hm => absurd hm List.not_mem_nil)) (fun x hx => Nat.lt_of_lt_of_le (HX.out.1 x hx) HB.out.2.2.2) (by have := H0.out.bg; have := H0.out.lt; have := HB.out.2.2.2; omega) hne HM.out.2.1⟩
   have HCH : Hd (Chg (rdY g vc vq) w w11) := ⟨by rw [← hw11]; exact (((H8.out.2.1.newer HN9.out.2.1 (by simp)).mono (L' := rdY g vc vq) (fun x hx _ => by rw [List.mem_singleton.1 hx]; exact mem_Y.2 (.inl rfl))).trans ⟨HQ.out.2.1.os, HQ.out.2.1.tape, HQ.out.2.1.output, HQ.out.2.1.size, fun x hx hm => HQ.out.2.1.block x hx fun e => hm (mem_Y.2 (.inr (.inr e.symm)))⟩).setCell (mem_Y.2 (.inl rfl)) _⟩
   have HWO : Hd (W.ok w11 w.heap.size) := ⟨fun r hr => own_higher (HR.out.ok W (by simp) r hr) (fun x hx => Nat.le_trans HB.out.2.2.2 (H8.out.2.2.2.lt hr hx).1)⟩
   have hF : w11.heap[gb]? = some (.cells W.cells.toArray 28) := by rw [← hw11, Below.heap_setCell _ _ _ _ (by show gb ≠ g; have := HB.out.2.1; have := HX.out.2.2; omega)]; exact hHeld
   clear hw11 hne hvn
   refine hK.out _ _ hF (fun _ => ?_)
   clear hK Kq hHeld hF
   try simp only [Act.put, List.setIfInBounds_toArray, List.set_cons_zero, List.set_cons_succ]
   refine wpAnyH_done (by kernel_rfl) ?_ _
   go_wp2_with fail
   go_end0
   exact ⟨v', fl, ws ++ [W], xs ++ [x0], rfl, HR.out, HCH.out, fun x hx => HQ.out.2.2.1.elim (fun e => .inl (e ▸ hx)) (fun e => .inr (by rw [e] at hx; injection hx; have := H8.out.2.1.size; have := HN9.out.2.1.size; omega)), .inl ⟨x0, W, HM.out.1, rfl, rfl, rfl, HWO.out⟩⟩
  case stepB =>
   refine step_build1 elRq rfl (.tmp 55) rfl W.cells.toArray rfl (by simpa using HW.out.1) ?_
   obtain ⟨N8, hN8⟩ : ∃ N, w8.heap.size = N := ⟨_, rfl⟩
   obtain ⟨w9, hw9⟩ : ∃ U, w8.alloc (.cells W.cells.toArray 28) = U := ⟨_, rfl⟩
   rw [hw9]
   try rw [hN8]
   have hb9 : Below w8.heap.size w8 w9 := by rw [← hw9]; exact (Below.refl _ _).alloc (Nat.le_refl _) _
   have HN9 : Hd (w9.heap[N8]? = some (.cells W.cells.toArray 28) ∧ Chg [] w8 w9 ∧ w8.heap.size = N8 ∧ w9.heap.size = N8 + 1) := ⟨by rw [← hw9, ← hN8]; exact heap_alloc_new _ _, Chg.of_below hb9, hN8, by rw [← hw9, ← hN8]; simp⟩
   have hF : w9.heap[gb]? = some (.cells W.cells.toArray 28) := by rw [hb9.block gb (Array.getElem?_eq_some_iff.1 hHeld).1]; exact hHeld
   clear hw9 hN8 hb9
   refine hK.out _ _ hF (fun _ => ?_)
   clear hK Kq hHeld
   have hHeld := hF
   clear hF
   try simp only [Act.put, List.setIfInBounds_toArray, List.set_cons_zero, List.set_cons_succ]
   have hd9 : w9.cell? ⟨g, 8, none⟩ = some vq := (H8.out.1.new HN9.out.2.1).at_ 8 rfl
   refine wpAnyH_ready (rs := [4]) (by kernel_rfl) (by simp) ?_
   refine AllReadyH.cons (i := 4) (o := ?oB4) ?hoB4 (fun Kq hK => ?stepB4) AllReadyH.nil
   case hoB4 => simp only [List.getElem?_toArray, List.getElem?_cons_succ, List.getElem?_cons_zero]; rfl
   go_simp
   refine hK.out _ _ hHeld (fun _ => ?_)
   clear hK Kq
   try simp only [Act.put, List.setIfInBounds_toArray, List.set_cons_zero, List.set_cons_succ]
   refine wpAnyH_ready (rs := [7]) (by kernel_rfl) (by simp) ?_
   refine AllReadyH.cons (i := 7) (o := ?oB7) ?hoB7 (fun Kq hK => ?stepB7) AllReadyH.nil
   case hoB7 => simp only [List.getElem?_toArray, List.getElem?_cons_succ, List.getElem?_cons_zero]; rfl
   refine step_qpush elRq rfl (.tmp 54) (.tmp 56) rfl vq ws W rfl (H8.out.1.new HN9.out.2.1).qu HCL.out ⟨N8, 0, none⟩ 1 rfl (fun j u hj => ?_) (by omega) (by omega) (by have := (H8.out.1.new HN9.out.2.1).bg; have := (H8.out.1.new HN9.out.2.1).lt; omega) ?_
   ·rw [show (⟨N8, 0, none⟩ : Addr).add j = ⟨N8, j, none⟩ by unfold Addr.add; split <;> simp_all, cell_of_row w9 N8 j _ _ (0, 0) HN9.out.1]; simpa using hj
   intro v' w10 hq10 hgr hor
   have hlt8 : g < w9.heap.size := by have := H8.out.1.lt; have := HN9.out.2.2; omega
   have hc10 : w10.cell? ⟨g, 8, none⟩ = some vq := (World.cell?_of_block (a := ⟨g, 8, none⟩) (hgr.block g hlt8 (fun e => H8.out.1.gq e.symm))).trans ((H8.out.1.new HN9.out.2.1).at_ 8 rfl)
   have hz10 : w10.frozen? ⟨g, 8, none⟩ = false := (World.frozen?_of_block (a := ⟨g, 8, none⟩) (hgr.block g hlt8 (fun e => H8.out.1.gq e.symm))).trans ((H8.out.1.new HN9.out.2.1).z 8)
   have hF : w10.heap[gb]? = some (.cells W.cells.toArray 28) := by rw [hgr.block gb (Array.getElem?_eq_some_iff.1 hHeld).1 (fun e => by have := HX.out.1 gb (mem_X.2 (.inr (.inr (.inr e.symm)))); have := HB.out.2.1; omega)]; exact hHeld
   have HQ := Hd.mk (And.intro hq10 (And.intro hgr (And.intro hor (And.intro hc10 hz10))))
   clear hq10 hgr hor hc10 hz10 hd8 hd9 hlt8
   refine hK.out _ _ hF (fun _ => ?_)
   clear hK Kq hHeld
   have hHeld := hF
   clear hF
   try simp only [Act.put, List.setIfInBounds_toArray, List.set_cons_zero, List.set_cons_succ]
   refine wpAnyH_take (i := 8) (oi := ?oi401) (v := ?v401) ?hi401 (by kernel_rfl) (by kernel_rfl) (by kernel_rfl) ?hQ401 (Or.inl ⟨?hw401, ?hy401⟩) (by assumption) ?rest401
   case hi401 => simp only [List.getElem?_toArray, List.getElem?_cons_succ, List.getElem?_cons_zero]; rfl
   case hQ401 => exact fun _ _ _ h => h
   case hw401 => rfl
   case hy401 => (intro W hW; skip; go_simp; all_goals rfl)
   simp only [Act.put, List.setIfInBounds_toArray, List.set_cons_zero, List.set_cons_succ]
   refine wpAnyH_take (i := 9) (oi := ?oi402) (v := ?v402) ?hi402 (by kernel_rfl) (by kernel_rfl) (by kernel_rfl) ?hQ402 (Or.inl ⟨?hw402, ?hy402⟩) (by assumption) ?rest402
   case hi402 => simp only [List.getElem?_toArray, List.getElem?_cons_succ, List.getElem?_cons_zero]; rfl
   case hQ402 => exact fun _ _ _ h => h
   case hw402 => rfl
   case hy402 => (intro W hW; skip; go_simp; all_goals rfl)
   simp only [Act.put, List.setIfInBounds_toArray, List.set_cons_zero, List.set_cons_succ]
   refine wpAnyH_ready (rs := [10]) (by kernel_rfl) (by simp) ?_
   refine AllReadyH.cons (i := 10) (o := ?oB10) ?hoB10 (fun Kq hK => ?stepB10) AllReadyH.nil
   case hoB10 => simp only [List.getElem?_toArray, List.getElem?_cons_succ, List.getElem?_cons_zero]; rfl
   obtain ⟨Aq, cq, hvq, _⟩ := HQ.out.1.form
   refine step_set rfl 55 (.tmp 59) (.tmp 57) rfl g 8 v' rfl rfl (by rw [hvq]; rfl) (by rw [hvq]; rfl) vq HQ.out.2.2.2.1 HQ.out.2.2.2.2 infoSlR ?_
   obtain ⟨w11, hw11⟩ : ∃ U, w10.setCell ⟨g, 8, none⟩ v' = U := ⟨_, rfl⟩
   rw [hw11]
   have hvn : v'.ownBlock = vq.ownBlock ∨ ∃ x, v'.ownBlock = some x ∧ w8.heap.size ≤ x := HQ.out.2.2.1.imp id fun e => ⟨_, e, HN9.out.2.1.size⟩
   have hne : ∀ r ∈ W.rows, ∀ x, r.2.1.ownBlock = some x → v'.ownBlock ≠ some x := by
    intro r hr x hx e
    have h1 := (H8.out.2.2.2.lt hr hx)
    rcases HQ.out.2.2.1 with h2 | h2
    ·rw [h2] at e; have := HX.out.1 x (mem_X.2 (.inr (.inr (.inr e)))); have := HB.out.2.2.2; omega
    ·rw [h2] at e
     injection e with e
     have := HN9.out.2.1.size
     omega
   have HR : Hd (RdS askK base w11 g vl (.slice none 0 0) v' L [] 0 0 0 0 fl (ws ++ [W]) (xs ++ [x0])) := ⟨by rw [← hw11]; exact H8.out.1.more HN9.out.2.1 HQ.out.1 HQ.out.2.1 hvn (H8.out.2.2.2.chg HN9.out.2.1 (fun r _ x _ hm => absurd hm List.not_mem_nil)) (fun x hx => Nat.lt_of_lt_of_le (HX.out.1 x hx) HB.out.2.2.2) (by have := H0.out.bg; have := H0.out.lt; have := HB.out.2.2.2; omega) hne HM.out.2.1⟩
   have HCH : Hd (Chg (rdY g vc vq) w w11) := ⟨by rw [← hw11]; exact (((H8.out.2.1.newer HN9.out.2.1 (by simp)).mono (L' := rdY g vc vq) (fun x hx _ => by rw [List.mem_singleton.1 hx]; exact mem_Y.2 (.inl rfl))).trans ⟨HQ.out.2.1.os, HQ.out.2.1.tape, HQ.out.2.1.output, HQ.out.2.1.size, fun x hx hm => HQ.out.2.1.block x hx fun e => hm (mem_Y.2 (.inr (.inr e.symm)))⟩).setCell (mem_Y.2 (.inl rfl)) _⟩
   have HWO : Hd (W.ok w11 w.heap.size) := ⟨fun r hr => own_higher (HR.out.ok W (by simp) r hr) (fun x hx => Nat.le_trans HB.out.2.2.2 (H8.out.2.2.2.lt hr hx).1)⟩
   have hF : w11.heap[gb]? = some (.cells W.cells.toArray 28) := by rw [← hw11, Below.heap_setCell _ _ _ _ (by show gb ≠ g; have := HB.out.2.1; have := HX.out.2.2; omega)]; exact hHeld
   clear hw11 hne hvn
   refine hK.out _ _ hF (fun _ => ?_)
   clear hK Kq hHeld hF
   try simp only [Act.put, List.setIfInBounds_toArray, List.set_cons_zero, List.set_cons_succ]
   refine wpAnyH_done (by kernel_rfl) ?_ _
   go_wp2_with fail
   go_end0
   exact ⟨v', fl, ws ++ [W], xs ++ [x0], rfl, HR.out, HCH.out, fun x hx => HQ.out.2.2.1.elim (fun e => .inl (e ▸ hx)) (fun e => .inr (by rw [e] at hx; injection hx; have := H8.out.2.1.size; have := HN9.out.2.1.size; omega)), .inl ⟨x0, W, HM.out.1, rfl, rfl, rfl, HWO.out⟩⟩
end Go.Proofs.Ytbcmjjcbjojakaa
