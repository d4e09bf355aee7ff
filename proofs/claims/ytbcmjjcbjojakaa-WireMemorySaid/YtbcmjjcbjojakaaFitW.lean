/- Contracts of the laws' fit and fitAnswer: out of any message one that may be. (tools/fitgen.py prints it.) -/
import Derived.Test.YtbcmjjcbjojakaaPk11
import Derived.Test.YtbcmjjcbjojakaaRqW
import Derived.Test.YtbcmjjcbjojakaaPk8
import Derived.Test.YtbcmjjcbjojakaaTellC
import Derived.Deep.Cut
namespace Go.Proofs.Ytbcmjjcbjojakaa
open Go.RowKit
set_option linter.unusedVariables false
set_option linter.unusedSimpArgs false
/-- Where fit stands: the box of what came in, the result's, the new message's. -/
structure Ft (w W : World) (t g1 gx gq : Nat) (c1 : List Value) (zs : Array Value) (M : Wm) : Prop where
 b1 : W.heap[g1]? = some (.cells c1.toArray t)
 res : W.heap[gx]? = some (.cells zs t)
 box : W.heap[gq]? = some (.cells M.cells.toArray t)
 be : Below w.heap.size w W
 ok : M.ok W (gq + 1)
 l1 : w.heap.size ≤ g1
 l2 : g1 < gx
 l3 : gx < gq
/-- Ahead of the new message. -/
structure Fa (w W : World) (t g1 gx : Nat) (c1 : List Value) (zs : Array Value) : Prop where
 b1 : W.heap[g1]? = some (.cells c1.toArray t)
 res : W.heap[gx]? = some (.cells zs t)
 be : Below w.heap.size w W
 l1 : w.heap.size ≤ g1
 l2 : g1 < gx
section
variable {w W W' : World} {t g1 gx gq : Nat} {c1 : List Value} {zs : Array Value} {M M' : Wm}
theorem Fa.start (w : World) (t : Nat) (c1 : List Value) (zs : Array Value) : Fa w ((w.alloc (.cells c1.toArray t)).alloc (.cells zs t)) t w.heap.size (w.heap.size + 1) c1 zs where
 b1 := by
  have b := (Below.refl _ (w.alloc (.cells c1.toArray t))).alloc (Nat.le_refl _) (.cells zs t)
  rw [b.block w.heap.size (by simp)]; exact heap_alloc_new w _
 res := by have := heap_alloc_new (w.alloc (.cells c1.toArray t)) (.cells zs t); simpa using this
 be := ((Below.refl _ w).alloc (Nat.le_refl _) _).alloc (by simp) _
 l1 := Nat.le_refl _
 l2 := by omega
theorem Fa.at1 (h : Fa w W t g1 gx c1 zs) (i : Nat) {v : Value} (hv : c1[i]? = some v) : W.cell? ⟨g1, i, none⟩ = some v := by rw [cell_of_row W g1 i _ _ (0, 0) h.b1]; simpa using hv
theorem Fa.z1 (h : Fa w W t g1 gx c1 zs) (i : Nat) : W.frozen? ⟨g1, i, none⟩ = false := by simp [World.frozen?, h.b1]
theorem Fa.below (h : Fa w W t g1 gx c1 zs) (b : Below W.heap.size W W') : Fa w W' t g1 gx c1 zs where
 b1 := by rw [b.block g1 (Array.getElem?_eq_some_iff.1 h.b1).1]; exact h.b1
 res := by rw [b.block gx (Array.getElem?_eq_some_iff.1 h.res).1]; exact h.res
 be := h.be.trans (b.mono h.be.size)
 l1 := h.l1
 l2 := h.l2
theorem Fa.set (h : Fa w W t g1 gx c1 zs) (i : Nat) (u : Value) : Fa w (W.setCell ⟨g1, i, none⟩ u) t g1 gx (c1.set i u) zs where
 b1 := by rw [heap_set W g1 i u _ _ h.b1]; simp
 res := by rw [Below.heap_setCell _ _ _ _ (by show gx ≠ g1; have := h.l2; omega)]; exact h.res
 be := h.be.setCell h.l1 _
 l1 := h.l1
 l2 := h.l2
theorem Fa.boxed (h : Fa w W t g1 gx c1 zs) (hB : W'.heap[W.heap.size]? = some (.cells M.cells.toArray t) ∧ Below W.heap.size W W' ∧ W'.heap.size = W.heap.size + 1) (hok : ∀ b, M.ok W' b) : Ft w W' t g1 gx W.heap.size c1 zs M where
 b1 := (h.below hB.2.1).b1
 res := (h.below hB.2.1).res
 box := hB.1
 be := (h.below hB.2.1).be
 ok := hok _
 l1 := h.l1
 l2 := h.l2
 l3 := (Array.getElem?_eq_some_iff.1 h.res).1
theorem Ft.lt (h : Ft w W t g1 gx gq c1 zs M) : gq < W.heap.size := (Array.getElem?_eq_some_iff.1 h.box).1
theorem Ft.below (h : Ft w W t g1 gx gq c1 zs M) (b : Below W.heap.size W W') : Ft w W' t g1 gx gq c1 zs M where
 b1 := by rw [b.block g1 (Array.getElem?_eq_some_iff.1 h.b1).1]; exact h.b1
 res := by rw [b.block gx (Array.getElem?_eq_some_iff.1 h.res).1]; exact h.res
 box := by rw [b.block gq h.lt]; exact h.box
 be := h.be.trans (b.mono h.be.size)
 ok := h.ok.below b
 l1 := h.l1
 l2 := h.l2
 l3 := h.l3
theorem Ft.set (h : Ft w W t g1 gx gq c1 zs M) (i : Nat) (u : Value) (hM : M'.cells = M.cells.set i u) (hok : M'.ok W (gq + 1)) : Ft w (W.setCell ⟨gq, i, none⟩ u) t g1 gx gq c1 zs M' where
 b1 := by rw [Below.heap_setCell _ _ _ _ (by show g1 ≠ gq; have := h.l2; have := h.l3; omega)]; exact h.b1
 res := by rw [Below.heap_setCell _ _ _ _ (by show gx ≠ gq; have := h.l3; omega)]; exact h.res
 box := by rw [heap_set W gq i u _ _ h.box, hM]; simp
 be := h.be.setCell (by show w.heap.size ≤ gq; have := h.l1; have := h.l2; have := h.l3; omega) _
 ok := hok.chg ((Chg.refl [gq] W).setCell (by simp) u) fun r hr k hk => by have := (hok.lt hr hk).1; simp; omega
 l1 := h.l1
 l2 := h.l2
 l3 := h.l3
theorem Ft.at1 (h : Ft w W t g1 gx gq c1 zs M) (i : Nat) {v : Value} (hv : c1[i]? = some v) : W.cell? ⟨g1, i, none⟩ = some v := by rw [cell_of_row W g1 i _ _ (0, 0) h.b1]; simpa using hv
theorem Ft.at3 (h : Ft w W t g1 gx gq c1 zs M) (i : Nat) {v : Value} (hv : M.cells[i]? = some v) : W.cell? ⟨gq, i, none⟩ = some v := by rw [cell_of_row W gq i _ _ (0, 0) h.box]; simpa using hv
theorem Ft.z3 (h : Ft w W t g1 gx gq c1 zs M) (i : Nat) : W.frozen? ⟨gq, i, none⟩ = false := by simp [World.frozen?, h.box]
/-- What fit answers. -/
theorem Ft.done (h : Ft w W t g1 gx gq c1 zs M) (hg : W.grownBy W' (some gx)) : M.ok W' w.heap.size ∧ Below w.heap.size w W' := by
 have hc : Chg [gx] W W' := ⟨hg.os, hg.tape, hg.output, hg.size, fun k hk hm => hg.block k hk (by simpa using hm)⟩
 have h1 := h.l1; have h2 := h.l2; have h3 := h.l3
 refine ⟨(h.ok.chg hc fun r hr k hk => by have := (h.ok.lt hr hk).1; simp; omega).lower (by omega), ?_⟩
 exact h.be.trans ⟨hg.os, hg.tape, hg.output, hg.size, fun k hk => hg.block k (Nat.lt_of_lt_of_le hk h.be.size) (by intro e; injection e; omega)⟩
end
theorem rqW_ok0 (R : Rq) (w : World) (hb : R.body = []) (b : Nat) : (rqW R (.slice none 0 0)).ok w b := fun r hr => by
 rw [List.mem_singleton.1 hr, hb]; exact World.ownsRow_nil _ _ _ _
theorem rqW_ok1 {R : Rq} {w : World} {b : Nat} {v : Value} {l : List Nat} (hb : R.body = l) (h : w.ownsRow b 5 1 v l.length (cb l)) : (rqW R v).ok w b := fun r hr => by
 rw [List.mem_singleton.1 hr, hb]; simp only [cb_length]; exact h
theorem anW_ok {a : An} {w : World} {b : Nat} {v1 v2 v3 : Value} (h1 : w.ownsRow b 5 1 v1 a.body.length (cb a.body)) (h2 : w.ownsRow b 9 1 v2 a.keys.length (cs a.keys)) (h3 : w.ownsRow b 9 1 v3 a.groups.length (cs a.groups)) : (anW a v1 v2 v3).ok w b := fun r hr => by
 unfold anW at hr
 simp only [List.mem_cons, List.not_mem_nil, or_false] at hr
 rcases hr with rfl | rfl | rfl
 ·simp only [cb_length]; exact h1
 ·simp only [cs_len]; exact h2
 ·simp only [cs_len]; exact h3
theorem anW_ok0 (a : An) (w : World) (h1 : a.body = []) (h2 : a.keys = []) (h3 : a.groups = []) (b : Nat) : (anW a (.slice none 0 0) (.slice none 0 0) (.slice none 0 0)).ok w b :=
 anW_ok (by rw [h1]; exact World.ownsRow_nil _ _ _ _) (by rw [h2]; exact World.ownsRow_nil _ _ _ _) (by rw [h3]; exact World.ownsRow_nil _ _ _ _)
theorem fitK_in {k : Int} (h : ¬ (k < 1 ∨ 8 < k)) : fitK k = k := if_neg h
theorem fitK_out {k : Int} (h : k < 1 ∨ 8 < k) : fitK k = 1 + k % 8 := if_pos h
theorem cut_run {w : World} (A : Option Addr) (n c most : Nat) (body : List Nat) {B : Nat} (hr : Rd w B A n (cb body)) (hnc : n ≤ c) :
  (Instr.slice 26 (.slice A n c) none (some (.int .i64 ((min n most : Nat) : Int))) none).run Try.prog w = .ok (.slice A (min n most) c) w ∧ Rd w B A (min n most) (cb (body.take most)) := by
 refine ⟨run_cut_to elB A n c (min n most) (by omega), ?_⟩
 have h1 := hr.take (show min n most ≤ n by omega)
 rw [cb, List.map_take]
 have hl : (cb body).length = n := hr.1
 have : (cb body).take (min n most) = (cb body).take most := by
  by_cases hm : n ≤ most
  ·rw [Nat.min_eq_left hm, List.take_of_length_le (by omega), List.take_of_length_le (by omega)]
  ·rw [Nat.min_eq_right (by omega)]
 rw [this] at h1
 exact h1
set_option maxRecDepth 20000 in
set_option maxHeartbeats 8000000 in
theorem fit_any0 (w : World) (R : Rq) (k off num delim : Int) (tag : Nat) (key after : ByteArray) (body : List Nat) (hR : R = ⟨k, tag, key, after, off, num, delim, body⟩) (A : Option Addr) (n c : Nat) (hr : Rd w w.heap.size A n (cb body)) (hnc : n ≤ c) (hk : I64 k) (h1 : key.size ≤ maxLen) (h2 : after.size ≤ maxLen) :
  Calls Try.prog 33 #[.agg #[.int .i64 k, .int .u64 (tag : Int), .string key, .string after, .int .i64 off, .int .i64 num, .int .i64 delim, .slice A n c]] w fun e w' => ∃ vb, e = .returned (.agg (rqW (fitP R) vb).cells.toArray) ∧ (rqW (fitP R) vb).ok w' w.heap.size ∧ Below w.heap.size w w' := by
 obtain ⟨c1, hc1⟩ : ∃ c1 : List Value, c1 = [.int .i64 k, .int .u64 (tag : Int), .string key, .string after, .int .i64 off, .int .i64 num, .int .i64 delim, .slice A n c] := ⟨_, rfl⟩
 obtain ⟨w0, hw0⟩ : ∃ U, (w.alloc (.cells #[.int .i64 k, .int .u64 (tag : Int), .string key, .string after, .int .i64 off, .int .i64 num, .int .i64 delim, .slice A n c] 28)).alloc (.cells #[.int .i64 0, .int .u64 0, .string emS, .string emS, .int .i64 0, .int .i64 0, .int .i64 0, .slice none 0 0] 28) = U := ⟨_, rfl⟩
 obtain ⟨g1, hg1⟩ : ∃ q, w.heap.size = q := ⟨_, rfl⟩
 obtain ⟨gx, hgx⟩ : ∃ q, g1 + 1 = q := ⟨_, rfl⟩
 have H0 : Hd (Fa w w0 28 g1 gx c1 rq0) := ⟨by rw [← hw0, ← hgx, ← hg1, hc1]; exact Fa.start w _ _ _⟩
 have HH : Hd (Rd w w.heap.size A n (cb body) ∧ n ≤ c ∧ I64 k ∧ key.size ≤ maxLen ∧ after.size ≤ maxLen ∧ c1 = [.int .i64 k, .int .u64 (tag : Int), .string key, .string after, .int .i64 off, .int .i64 num, .int .i64 delim, .slice A n c]) := ⟨hr, hnc, hk, h1, h2, hc1⟩
 have HR := Hd.mk hR
 clear hr hnc hk h1 h2 hc1 hR
 go_enter Try.func33, Try.ntmps33
 go_upto_region 1 with fail
 have hz : (⟨#[]⟩ : ByteArray) = emS := rfl
 try rw [hz]
 rw [hw0]
 try rw [hg1]
 try rw [hgx]
 clear hw0 hz hg1 hgx
 have c0 : w0.cell? ⟨g1, 0, none⟩ = some (.int .i64 k) := H0.out.at1 0 (by rw [HH.out.2.2.2.2.2]; rfl)
 obtain ⟨b0, hb0⟩ : ∃ b, decide (k < 1 ∨ 8 < k) = b := ⟨_, rfl⟩
 have HB0 := Hd.mk hb0
 clear hb0
 go_cut [11] from 4 (fun r wx => r = .bool b0 ∧ wx = w0)
 case first =>
  by_cases q1 : k < 1
  ·have e1 : b0 = true := by rw [← HB0.out]; exact decide_eq_true (.inl q1)
   subst e1
   go_wp2_with fail
   go_meet
   case rel => exact ⟨rfl, rfl⟩
  ·by_cases q2 : 8 < k
   ·have e1 : b0 = true := by rw [← HB0.out]; exact decide_eq_true (.inr q2)
    subst e1
    go_wp2_with fail
    go_meet
    case rel => exact ⟨rfl, rfl⟩
   ·have e1 : b0 = false := by rw [← HB0.out]; exact decide_eq_false (fun h => h.elim q1 q2)
    subst e1
    go_wp2_with fail
    go_meet
    case rel => exact ⟨rfl, rfl⟩
 case rest =>
  obtain ⟨hr11, hwc⟩ := hcut
  subst hr11
  rw [hwc]
  clear hwc
  go_upto_if 11 with fail
  go_cut [] from 12 (fun wx => Fa w wx 28 g1 gx (c1.set 0 (.int .i64 (fitK k))) rq0)
  case first =>
   rcases hbb : b0 with _ | _
   ·subst hbb
    go_wp2_with fail
    go_meet
    case rel =>
     have hs : c1.set 0 (.int .i64 (fitK k)) = c1 := by rw [fitK_in (of_decide_eq_false HB0.out), HH.out.2.2.2.2.2]; rfl
     rw [hs]; exact H0.out
   ·subst hbb
    go_wp2_with fail
    refine (pick_any w0 k 8 HH.out.2.2.1 (by omega) (by omega)).mono ?_
    rintro e wz ⟨rfl, hw9⟩
    subst hw9
    have h88 := And.intro (Int.emod_nonneg k (b := 8) (by omega)) (Int.emod_lt_of_pos k (b := 8) (by omega))
    obtain ⟨m, hm⟩ : ∃ m, k % 8 = m := ⟨_, rfl⟩
    rw [hm] at h88 ⊢
    have hwr : IntKind.i64.wrap (1 + m) = 1 + m := by rw [IntKind.wrap_i64]; omega
    have z0 := H0.out.z1 0
    go_upto_region 3 with fail
    go_meet
    case rel =>
     rw [fitK_out (of_decide_eq_true HB0.out), hm]
     (first | exact H0.out.set 0 _ | (simp only [hwr]; exact H0.out.set 0 _))
  case rest =>
   have HF := Hd.mk hcut
   clear hcut H0 c0 HB0
   obtain ⟨w1, hw1⟩ : ∃ U : World, wc = U := ⟨_, rfl⟩
   subst hw1
   obtain ⟨K, hK⟩ : ∃ K, fitK k = K := ⟨_, rfl⟩
   have HK := Hd.mk hK
   have hKl := fitK_le k
   rw [hK] at hKl HF
   clear hK
   obtain ⟨cK, hcK⟩ : ∃ c2, c1.set 0 (.int .i64 K) = c2 := ⟨_, rfl⟩
   rw [hcK] at HF
   have HCK : Hd (cK = [.int .i64 K, .int .u64 (tag : Int), .string key, .string after, .int .i64 off, .int .i64 num, .int .i64 delim, .slice A n c]) := ⟨by rw [← hcK, HH.out.2.2.2.2.2]; rfl⟩
   clear hcK
   have c0 : wc.cell? ⟨g1, 0, none⟩ = some (.int .i64 K) := HF.out.at1 0 (by rw [HCK.out]; rfl)
   have c1_ : wc.cell? ⟨g1, 1, none⟩ = some (.int .u64 (tag : Int)) := HF.out.at1 1 (by rw [HCK.out]; rfl)
   go_upto_region 4 with (refine at_store (x := .tmp 3) ?_; refine wpList_boxed rfl 28 (.tmp 3) (.tmp 21) rfl wc.heap.size rfl (rqW (⟨K, tag, emS, emS, 0, 0, 0, []⟩ : Rq) (.slice none 0 0)).cells.toArray rfl rfl infoRq8 rfl (by simp [rqW, Value.oneCell']) ?_; intro w3 hB3)
   have HS := Hd.mk (HF.out.boxed (M := rqW (⟨K, tag, emS, emS, 0, 0, 0, []⟩ : Rq) (.slice none 0 0)) hB3.out (fun b => rqW_ok0 _ _ rfl b))
   obtain ⟨gq, hgq⟩ : ∃ q, wc.heap.size = q := ⟨_, rfl⟩
   rw [hgq] at HS ⊢
   clear hB3 hgq HF c0 c1_
   obtain ⟨cKs, hKs⟩ : ∃ l : List Int, l = [1, 2, 3, 4, 5, 6, 7, 8] := ⟨_, rfl⟩
   clear hKs cKs
   have hcase : K = 1 ∨ K = 2 ∨ K = 3 ∨ K = 4 ∨ K = 5 ∨ K = 6 ∨ K = 7 ∨ K = 8 := by omega
   clear hKl
   rcases hcase with rfl | rfl | rfl | rfl | rfl | rfl | rfl | rfl
   ·skip
    have c0 : w3.cell? ⟨g1, 0, none⟩ = some (.int .i64 1) := HS.out.at1 0 (by rw [HCK.out]; rfl)
    have c2 : w3.cell? ⟨g1, 2, none⟩ = some (.string key) := HS.out.at1 2 (by rw [HCK.out]; rfl)
    go_wp2_with fail
    refine (cut_any w3 key 1024 HH.out.2.2.2.1 (by omega)).mono ?_
    rintro e z1 ⟨rfl, hz1⟩
    subst hz1
    have z9 := HS.out.z3 2
    have d9 : w3.cell? ⟨gq, 2, none⟩ = some (.string emS) := HS.out.at3 2 rfl
    go_upto_region 6 with fail
    obtain ⟨u2, hu2⟩ : ∃ U, w3.setCell ⟨gq, 2, none⟩ (.string (cutP key 1024)) = U := ⟨_, rfl⟩
    rw [hu2]
    have HU2 : Hd (Ft w u2 28 g1 gx gq cK rq0 (rqW (⟨1, tag, (cutP key 1024), emS, 0, 0, 0, []⟩ : Rq) (.slice none 0 0))) := ⟨by rw [← hu2]; exact HS.out.set (M' := (rqW (⟨1, tag, (cutP key 1024), emS, 0, 0, 0, []⟩ : Rq) (.slice none 0 0))) 2 _ rfl (fun r hr => HS.out.ok r hr)⟩
    clear hu2 z9 d9 HS c0 c2
    have c0 : u2.cell? ⟨g1, 0, none⟩ = some (.int .i64 1) := HU2.out.at1 0 (by rw [HCK.out]; rfl)
    have c7 : u2.cell? ⟨g1, 7, none⟩ = some (.slice A n c) := HU2.out.at1 7 (by rw [HCK.out]; rfl)
    obtain ⟨hcut, hrc⟩ := cut_run A n c 1048576 body ((HH.out.1.below HU2.out.be)) HH.out.2.1
    have HRC := Hd.mk hrc
    clear hrc
    by_cases hle : n ≤ 1048576
    ·skip
     have hmn : min n 1048576 = n := by omega
     rw [hmn] at hcut HRC
     clear hmn
     have HLE := Hd.mk hle
     have hle2 : (n : Int) ≤ 1048576 := by omega
     clear hle
     go_wp2_with fail
     refine (copyB_any u2 A n c w.heap.size _ HRC.out (by have := HLE.out; omega)).mono ?_
     rintro e wz ⟨A3, c3, rfl, ho3, hn3, hb3⟩
     have HZ := Hd.mk (HU2.out.below hb3)
     have HO3 : Hd (wz.ownsRow (gq + 1) 5 1 (.slice A3 n c3) (body.take 1048576).length (cb (body.take 1048576))) := ⟨by have hl := HRC.out.1; rw [cb_length] at hl; rw [hl]; exact own_base ho3 HU2.out.lt⟩
     clear ho3 hn3 hb3 hcut HU2 c0 c7
     have c0 : wz.cell? ⟨g1, 0, none⟩ = some (.int .i64 1) := HZ.out.at1 0 (by rw [HCK.out]; rfl)
     have z9 := HZ.out.z3 7
     have d9 : wz.cell? ⟨gq, 7, none⟩ = some (.slice none 0 0) := HZ.out.at3 7 rfl
     go_upto_region 8 with fail
     obtain ⟨u3, hu3⟩ : ∃ U, wz.setCell ⟨gq, 7, none⟩ (.slice A3 n c3) = U := ⟨_, rfl⟩
     rw [hu3]
     have HU3 : Hd (Ft w u3 28 g1 gx gq cK rq0 (rqW (⟨1, tag, (cutP key 1024), emS, 0, 0, 0, (body.take 1048576)⟩ : Rq) (.slice A3 n c3))) := ⟨by rw [← hu3]; exact HZ.out.set (M' := (rqW (⟨1, tag, (cutP key 1024), emS, 0, 0, 0, (body.take 1048576)⟩ : Rq) (.slice A3 n c3))) 7 _ rfl (rqW_ok1 rfl HO3.out)⟩
     clear hu3 z9 d9 HZ c0
     have c0 : u3.cell? ⟨g1, 0, none⟩ = some (.int .i64 1) := HU3.out.at1 0 (by rw [HCK.out]; rfl)
     go_upto_region 15 with fail
     have hbx := HU3.out.box
     have hrs := HU3.out.res
     go_wp2_with (first | (refine at_load (x := .tmp 3) ?_; refine wpList_load_row rfl 28 (.tmp 3) rfl gq rfl 28 (rqW (⟨1, tag, (cutP key 1024), emS, 0, 0, 0, (body.take 1048576)⟩ : Rq) (.slice A3 n c3)).cells.toArray (0, 0) _ hbx Try.underlying28 rfl infoRq8 ?_) | (refine at_store (x := .tmp 2) ?_; refine wpList_stored rfl 28 (.tmp 2) (.tmp 68) rfl gx (rqW (⟨1, tag, (cutP key 1024), emS, 0, 0, 0, (body.take 1048576)⟩ : Rq) (.slice A3 n c3)).cells.toArray rfl rfl 28 rq0 hrs infoRq8 rfl (by simp [rqW, Value.oneCell']) ?_; intro wy hBy))
     (try simp only [Exit.inBlock, Exit.then])
     refine bodyPost_ret (results_cell1 rfl _ _ gx 28 (rqW (⟨1, tag, (cutP key 1024), emS, 0, 0, 0, (body.take 1048576)⟩ : Rq) (.slice A3 n c3)).cells.toArray (0, 0) _ rfl hBy.out.1 Try.underlying28 rfl infoRq8) rfl ?_
     have hRR : fitP R = (⟨1, tag, (cutP key 1024), emS, 0, 0, 0, (body.take 1048576)⟩ : Rq) := by rw [HR.out]; unfold fitP; simp only [HK.out]; rfl
     rw [hRR]
     exact ⟨(.slice A3 n c3), rfl, HU3.out.done hBy.out.2.1⟩
    ·skip
     have hmn : min n 1048576 = 1048576 := by omega
     rw [hmn] at hcut HRC
     clear hmn
     have hcut2 : (Instr.slice 26 (.slice A n c) none (some (.int .i64 1048576)) none).run Try.prog u2 = .ok (.slice A 1048576 c) u2 := hcut
     have HLE := Hd.mk hle
     have hle2 : ¬ ((n : Int) ≤ 1048576) := by omega
     have hle3 : ¬ ((n : Int) < 1048576) := by omega
     clear hle
     go_wp2_with fail
     refine (copyB_any u2 A 1048576 c w.heap.size _ HRC.out (by have := HLE.out; omega)).mono ?_
     rintro e wz ⟨A3, c3, rfl, ho3, hn3, hb3⟩
     have HZ := Hd.mk (HU2.out.below hb3)
     have HO3 : Hd (wz.ownsRow (gq + 1) 5 1 (.slice A3 1048576 c3) (body.take 1048576).length (cb (body.take 1048576))) := ⟨by have hl := HRC.out.1; rw [cb_length] at hl; rw [hl]; exact own_base ho3 HU2.out.lt⟩
     clear ho3 hn3 hb3 hcut HU2 c0 c7
     have c0 : wz.cell? ⟨g1, 0, none⟩ = some (.int .i64 1) := HZ.out.at1 0 (by rw [HCK.out]; rfl)
     have z9 := HZ.out.z3 7
     have d9 : wz.cell? ⟨gq, 7, none⟩ = some (.slice none 0 0) := HZ.out.at3 7 rfl
     go_upto_region 8 with fail
     obtain ⟨u3, hu3⟩ : ∃ U, wz.setCell ⟨gq, 7, none⟩ (.slice A3 1048576 c3) = U := ⟨_, rfl⟩
     rw [hu3]
     have HU3 : Hd (Ft w u3 28 g1 gx gq cK rq0 (rqW (⟨1, tag, (cutP key 1024), emS, 0, 0, 0, (body.take 1048576)⟩ : Rq) (.slice A3 1048576 c3))) := ⟨by rw [← hu3]; exact HZ.out.set (M' := (rqW (⟨1, tag, (cutP key 1024), emS, 0, 0, 0, (body.take 1048576)⟩ : Rq) (.slice A3 1048576 c3))) 7 _ rfl (rqW_ok1 rfl HO3.out)⟩
     clear hu3 z9 d9 HZ c0
     have c0 : u3.cell? ⟨g1, 0, none⟩ = some (.int .i64 1) := HU3.out.at1 0 (by rw [HCK.out]; rfl)
     go_upto_region 15 with fail
     have hbx := HU3.out.box
     have hrs := HU3.out.res
     go_wp2_with (first | (refine at_load (x := .tmp 3) ?_; refine wpList_load_row rfl 28 (.tmp 3) rfl gq rfl 28 (rqW (⟨1, tag, (cutP key 1024), emS, 0, 0, 0, (body.take 1048576)⟩ : Rq) (.slice A3 1048576 c3)).cells.toArray (0, 0) _ hbx Try.underlying28 rfl infoRq8 ?_) | (refine at_store (x := .tmp 2) ?_; refine wpList_stored rfl 28 (.tmp 2) (.tmp 68) rfl gx (rqW (⟨1, tag, (cutP key 1024), emS, 0, 0, 0, (body.take 1048576)⟩ : Rq) (.slice A3 1048576 c3)).cells.toArray rfl rfl 28 rq0 hrs infoRq8 rfl (by simp [rqW, Value.oneCell']) ?_; intro wy hBy))
     (try simp only [Exit.inBlock, Exit.then])
     refine bodyPost_ret (results_cell1 rfl _ _ gx 28 (rqW (⟨1, tag, (cutP key 1024), emS, 0, 0, 0, (body.take 1048576)⟩ : Rq) (.slice A3 1048576 c3)).cells.toArray (0, 0) _ rfl hBy.out.1 Try.underlying28 rfl infoRq8) rfl ?_
     have hRR : fitP R = (⟨1, tag, (cutP key 1024), emS, 0, 0, 0, (body.take 1048576)⟩ : Rq) := by rw [HR.out]; unfold fitP; simp only [HK.out]; rfl
     rw [hRR]
     exact ⟨(.slice A3 1048576 c3), rfl, HU3.out.done hBy.out.2.1⟩
   ·skip
    have c0 : w3.cell? ⟨g1, 0, none⟩ = some (.int .i64 2) := HS.out.at1 0 (by rw [HCK.out]; rfl)
    have c2 : w3.cell? ⟨g1, 2, none⟩ = some (.string key) := HS.out.at1 2 (by rw [HCK.out]; rfl)
    go_wp2_with fail
    refine (cut_any w3 key 1024 HH.out.2.2.2.1 (by omega)).mono ?_
    rintro e z1 ⟨rfl, hz1⟩
    subst hz1
    have z9 := HS.out.z3 2
    have d9 : w3.cell? ⟨gq, 2, none⟩ = some (.string emS) := HS.out.at3 2 rfl
    go_upto_region 6 with fail
    obtain ⟨u2, hu2⟩ : ∃ U, w3.setCell ⟨gq, 2, none⟩ (.string (cutP key 1024)) = U := ⟨_, rfl⟩
    rw [hu2]
    have HU2 : Hd (Ft w u2 28 g1 gx gq cK rq0 (rqW (⟨2, tag, (cutP key 1024), emS, 0, 0, 0, []⟩ : Rq) (.slice none 0 0))) := ⟨by rw [← hu2]; exact HS.out.set (M' := (rqW (⟨2, tag, (cutP key 1024), emS, 0, 0, 0, []⟩ : Rq) (.slice none 0 0))) 2 _ rfl (fun r hr => HS.out.ok r hr)⟩
    clear hu2 z9 d9 HS c0 c2
    have c0 : u2.cell? ⟨g1, 0, none⟩ = some (.int .i64 2) := HU2.out.at1 0 (by rw [HCK.out]; rfl)
    go_upto_region 15 with fail
    have hbx := HU2.out.box
    have hrs := HU2.out.res
    go_wp2_with (first | (refine at_load (x := .tmp 3) ?_; refine wpList_load_row rfl 28 (.tmp 3) rfl gq rfl 28 (rqW (⟨2, tag, (cutP key 1024), emS, 0, 0, 0, []⟩ : Rq) (.slice none 0 0)).cells.toArray (0, 0) _ hbx Try.underlying28 rfl infoRq8 ?_) | (refine at_store (x := .tmp 2) ?_; refine wpList_stored rfl 28 (.tmp 2) (.tmp 68) rfl gx (rqW (⟨2, tag, (cutP key 1024), emS, 0, 0, 0, []⟩ : Rq) (.slice none 0 0)).cells.toArray rfl rfl 28 rq0 hrs infoRq8 rfl (by simp [rqW, Value.oneCell']) ?_; intro wy hBy))
    (try simp only [Exit.inBlock, Exit.then])
    refine bodyPost_ret (results_cell1 rfl _ _ gx 28 (rqW (⟨2, tag, (cutP key 1024), emS, 0, 0, 0, []⟩ : Rq) (.slice none 0 0)).cells.toArray (0, 0) _ rfl hBy.out.1 Try.underlying28 rfl infoRq8) rfl ?_
    have hRR : fitP R = (⟨2, tag, (cutP key 1024), emS, 0, 0, 0, []⟩ : Rq) := by rw [HR.out]; unfold fitP; simp only [HK.out]; rfl
    rw [hRR]
    exact ⟨(.slice none 0 0), rfl, HU2.out.done hBy.out.2.1⟩
   ·skip
    have c0 : w3.cell? ⟨g1, 0, none⟩ = some (.int .i64 3) := HS.out.at1 0 (by rw [HCK.out]; rfl)
    have c2 : w3.cell? ⟨g1, 2, none⟩ = some (.string key) := HS.out.at1 2 (by rw [HCK.out]; rfl)
    go_wp2_with fail
    refine (cut_any w3 key 1024 HH.out.2.2.2.1 (by omega)).mono ?_
    rintro e z1 ⟨rfl, hz1⟩
    subst hz1
    have z9 := HS.out.z3 2
    have d9 : w3.cell? ⟨gq, 2, none⟩ = some (.string emS) := HS.out.at3 2 rfl
    go_upto_region 6 with fail
    obtain ⟨u2, hu2⟩ : ∃ U, w3.setCell ⟨gq, 2, none⟩ (.string (cutP key 1024)) = U := ⟨_, rfl⟩
    rw [hu2]
    have HU2 : Hd (Ft w u2 28 g1 gx gq cK rq0 (rqW (⟨3, tag, (cutP key 1024), emS, 0, 0, 0, []⟩ : Rq) (.slice none 0 0))) := ⟨by rw [← hu2]; exact HS.out.set (M' := (rqW (⟨3, tag, (cutP key 1024), emS, 0, 0, 0, []⟩ : Rq) (.slice none 0 0))) 2 _ rfl (fun r hr => HS.out.ok r hr)⟩
    clear hu2 z9 d9 HS c0 c2
    have c0 : u2.cell? ⟨g1, 0, none⟩ = some (.int .i64 3) := HU2.out.at1 0 (by rw [HCK.out]; rfl)
    have c5 : u2.cell? ⟨g1, 5, none⟩ = some (.int .i64 num) := HU2.out.at1 5 (by rw [HCK.out]; rfl)
    have z9 := HU2.out.z3 5
    have d9 : u2.cell? ⟨gq, 5, none⟩ = some (.int .i64 0) := HU2.out.at3 5 rfl
    go_upto_region 10 with fail
    obtain ⟨u3, hu3⟩ : ∃ U, u2.setCell ⟨gq, 5, none⟩ (.int .i64 num) = U := ⟨_, rfl⟩
    rw [hu3]
    have HU3 : Hd (Ft w u3 28 g1 gx gq cK rq0 (rqW (⟨3, tag, (cutP key 1024), emS, 0, num, 0, []⟩ : Rq) (.slice none 0 0))) := ⟨by rw [← hu3]; exact HU2.out.set (M' := (rqW (⟨3, tag, (cutP key 1024), emS, 0, num, 0, []⟩ : Rq) (.slice none 0 0))) 5 _ rfl (fun r hr => HU2.out.ok r hr)⟩
    clear hu3 z9 d9 HU2 c0 c5
    have c0 : u3.cell? ⟨g1, 0, none⟩ = some (.int .i64 3) := HU3.out.at1 0 (by rw [HCK.out]; rfl)
    have c4 : u3.cell? ⟨g1, 4, none⟩ = some (.int .i64 off) := HU3.out.at1 4 (by rw [HCK.out]; rfl)
    have z9 := HU3.out.z3 4
    have d9 : u3.cell? ⟨gq, 4, none⟩ = some (.int .i64 0) := HU3.out.at3 4 rfl
    go_upto_region 12 with fail
    obtain ⟨u4, hu4⟩ : ∃ U, u3.setCell ⟨gq, 4, none⟩ (.int .i64 off) = U := ⟨_, rfl⟩
    rw [hu4]
    have HU4 : Hd (Ft w u4 28 g1 gx gq cK rq0 (rqW (⟨3, tag, (cutP key 1024), emS, off, num, 0, []⟩ : Rq) (.slice none 0 0))) := ⟨by rw [← hu4]; exact HU3.out.set (M' := (rqW (⟨3, tag, (cutP key 1024), emS, off, num, 0, []⟩ : Rq) (.slice none 0 0))) 4 _ rfl (fun r hr => HU3.out.ok r hr)⟩
    clear hu4 z9 d9 HU3 c0 c4
    have c0 : u4.cell? ⟨g1, 0, none⟩ = some (.int .i64 3) := HU4.out.at1 0 (by rw [HCK.out]; rfl)
    go_upto_region 15 with fail
    have hbx := HU4.out.box
    have hrs := HU4.out.res
    go_wp2_with (first | (refine at_load (x := .tmp 3) ?_; refine wpList_load_row rfl 28 (.tmp 3) rfl gq rfl 28 (rqW (⟨3, tag, (cutP key 1024), emS, off, num, 0, []⟩ : Rq) (.slice none 0 0)).cells.toArray (0, 0) _ hbx Try.underlying28 rfl infoRq8 ?_) | (refine at_store (x := .tmp 2) ?_; refine wpList_stored rfl 28 (.tmp 2) (.tmp 68) rfl gx (rqW (⟨3, tag, (cutP key 1024), emS, off, num, 0, []⟩ : Rq) (.slice none 0 0)).cells.toArray rfl rfl 28 rq0 hrs infoRq8 rfl (by simp [rqW, Value.oneCell']) ?_; intro wy hBy))
    (try simp only [Exit.inBlock, Exit.then])
    refine bodyPost_ret (results_cell1 rfl _ _ gx 28 (rqW (⟨3, tag, (cutP key 1024), emS, off, num, 0, []⟩ : Rq) (.slice none 0 0)).cells.toArray (0, 0) _ rfl hBy.out.1 Try.underlying28 rfl infoRq8) rfl ?_
    have hRR : fitP R = (⟨3, tag, (cutP key 1024), emS, off, num, 0, []⟩ : Rq) := by rw [HR.out]; unfold fitP; simp only [HK.out]; rfl
    rw [hRR]
    exact ⟨(.slice none 0 0), rfl, HU4.out.done hBy.out.2.1⟩
   ·skip
    have c0 : w3.cell? ⟨g1, 0, none⟩ = some (.int .i64 4) := HS.out.at1 0 (by rw [HCK.out]; rfl)
    have c2 : w3.cell? ⟨g1, 2, none⟩ = some (.string key) := HS.out.at1 2 (by rw [HCK.out]; rfl)
    go_wp2_with fail
    refine (cut_any w3 key 1024 HH.out.2.2.2.1 (by omega)).mono ?_
    rintro e z1 ⟨rfl, hz1⟩
    subst hz1
    have z9 := HS.out.z3 2
    have d9 : w3.cell? ⟨gq, 2, none⟩ = some (.string emS) := HS.out.at3 2 rfl
    go_upto_region 6 with fail
    obtain ⟨u2, hu2⟩ : ∃ U, w3.setCell ⟨gq, 2, none⟩ (.string (cutP key 1024)) = U := ⟨_, rfl⟩
    rw [hu2]
    have HU2 : Hd (Ft w u2 28 g1 gx gq cK rq0 (rqW (⟨4, tag, (cutP key 1024), emS, 0, 0, 0, []⟩ : Rq) (.slice none 0 0))) := ⟨by rw [← hu2]; exact HS.out.set (M' := (rqW (⟨4, tag, (cutP key 1024), emS, 0, 0, 0, []⟩ : Rq) (.slice none 0 0))) 2 _ rfl (fun r hr => HS.out.ok r hr)⟩
    clear hu2 z9 d9 HS c0 c2
    have c0 : u2.cell? ⟨g1, 0, none⟩ = some (.int .i64 4) := HU2.out.at1 0 (by rw [HCK.out]; rfl)
    go_upto_region 15 with fail
    have hbx := HU2.out.box
    have hrs := HU2.out.res
    go_wp2_with (first | (refine at_load (x := .tmp 3) ?_; refine wpList_load_row rfl 28 (.tmp 3) rfl gq rfl 28 (rqW (⟨4, tag, (cutP key 1024), emS, 0, 0, 0, []⟩ : Rq) (.slice none 0 0)).cells.toArray (0, 0) _ hbx Try.underlying28 rfl infoRq8 ?_) | (refine at_store (x := .tmp 2) ?_; refine wpList_stored rfl 28 (.tmp 2) (.tmp 68) rfl gx (rqW (⟨4, tag, (cutP key 1024), emS, 0, 0, 0, []⟩ : Rq) (.slice none 0 0)).cells.toArray rfl rfl 28 rq0 hrs infoRq8 rfl (by simp [rqW, Value.oneCell']) ?_; intro wy hBy))
    (try simp only [Exit.inBlock, Exit.then])
    refine bodyPost_ret (results_cell1 rfl _ _ gx 28 (rqW (⟨4, tag, (cutP key 1024), emS, 0, 0, 0, []⟩ : Rq) (.slice none 0 0)).cells.toArray (0, 0) _ rfl hBy.out.1 Try.underlying28 rfl infoRq8) rfl ?_
    have hRR : fitP R = (⟨4, tag, (cutP key 1024), emS, 0, 0, 0, []⟩ : Rq) := by rw [HR.out]; unfold fitP; simp only [HK.out]; rfl
    rw [hRR]
    exact ⟨(.slice none 0 0), rfl, HU2.out.done hBy.out.2.1⟩
   ·skip
    have c0 : w3.cell? ⟨g1, 0, none⟩ = some (.int .i64 5) := HS.out.at1 0 (by rw [HCK.out]; rfl)
    have c2 : w3.cell? ⟨g1, 2, none⟩ = some (.string key) := HS.out.at1 2 (by rw [HCK.out]; rfl)
    go_wp2_with fail
    refine (cut_any w3 key 1024 HH.out.2.2.2.1 (by omega)).mono ?_
    rintro e z1 ⟨rfl, hz1⟩
    subst hz1
    have z9 := HS.out.z3 2
    have d9 : w3.cell? ⟨gq, 2, none⟩ = some (.string emS) := HS.out.at3 2 rfl
    go_upto_region 6 with fail
    obtain ⟨u2, hu2⟩ : ∃ U, w3.setCell ⟨gq, 2, none⟩ (.string (cutP key 1024)) = U := ⟨_, rfl⟩
    rw [hu2]
    have HU2 : Hd (Ft w u2 28 g1 gx gq cK rq0 (rqW (⟨5, tag, (cutP key 1024), emS, 0, 0, 0, []⟩ : Rq) (.slice none 0 0))) := ⟨by rw [← hu2]; exact HS.out.set (M' := (rqW (⟨5, tag, (cutP key 1024), emS, 0, 0, 0, []⟩ : Rq) (.slice none 0 0))) 2 _ rfl (fun r hr => HS.out.ok r hr)⟩
    clear hu2 z9 d9 HS c0 c2
    have c0 : u2.cell? ⟨g1, 0, none⟩ = some (.int .i64 5) := HU2.out.at1 0 (by rw [HCK.out]; rfl)
    go_upto_region 15 with fail
    have hbx := HU2.out.box
    have hrs := HU2.out.res
    go_wp2_with (first | (refine at_load (x := .tmp 3) ?_; refine wpList_load_row rfl 28 (.tmp 3) rfl gq rfl 28 (rqW (⟨5, tag, (cutP key 1024), emS, 0, 0, 0, []⟩ : Rq) (.slice none 0 0)).cells.toArray (0, 0) _ hbx Try.underlying28 rfl infoRq8 ?_) | (refine at_store (x := .tmp 2) ?_; refine wpList_stored rfl 28 (.tmp 2) (.tmp 68) rfl gx (rqW (⟨5, tag, (cutP key 1024), emS, 0, 0, 0, []⟩ : Rq) (.slice none 0 0)).cells.toArray rfl rfl 28 rq0 hrs infoRq8 rfl (by simp [rqW, Value.oneCell']) ?_; intro wy hBy))
    (try simp only [Exit.inBlock, Exit.then])
    refine bodyPost_ret (results_cell1 rfl _ _ gx 28 (rqW (⟨5, tag, (cutP key 1024), emS, 0, 0, 0, []⟩ : Rq) (.slice none 0 0)).cells.toArray (0, 0) _ rfl hBy.out.1 Try.underlying28 rfl infoRq8) rfl ?_
    have hRR : fitP R = (⟨5, tag, (cutP key 1024), emS, 0, 0, 0, []⟩ : Rq) := by rw [HR.out]; unfold fitP; simp only [HK.out]; rfl
    rw [hRR]
    exact ⟨(.slice none 0 0), rfl, HU2.out.done hBy.out.2.1⟩
   ·skip
    have c0 : w3.cell? ⟨g1, 0, none⟩ = some (.int .i64 6) := HS.out.at1 0 (by rw [HCK.out]; rfl)
    have c2 : w3.cell? ⟨g1, 2, none⟩ = some (.string key) := HS.out.at1 2 (by rw [HCK.out]; rfl)
    go_wp2_with fail
    refine (cut_any w3 key 1024 HH.out.2.2.2.1 (by omega)).mono ?_
    rintro e z1 ⟨rfl, hz1⟩
    subst hz1
    have z9 := HS.out.z3 2
    have d9 : w3.cell? ⟨gq, 2, none⟩ = some (.string emS) := HS.out.at3 2 rfl
    go_upto_region 6 with fail
    obtain ⟨u2, hu2⟩ : ∃ U, w3.setCell ⟨gq, 2, none⟩ (.string (cutP key 1024)) = U := ⟨_, rfl⟩
    rw [hu2]
    have HU2 : Hd (Ft w u2 28 g1 gx gq cK rq0 (rqW (⟨6, tag, (cutP key 1024), emS, 0, 0, 0, []⟩ : Rq) (.slice none 0 0))) := ⟨by rw [← hu2]; exact HS.out.set (M' := (rqW (⟨6, tag, (cutP key 1024), emS, 0, 0, 0, []⟩ : Rq) (.slice none 0 0))) 2 _ rfl (fun r hr => HS.out.ok r hr)⟩
    clear hu2 z9 d9 HS c0 c2
    have c0 : u2.cell? ⟨g1, 0, none⟩ = some (.int .i64 6) := HU2.out.at1 0 (by rw [HCK.out]; rfl)
    go_upto_region 15 with fail
    have hbx := HU2.out.box
    have hrs := HU2.out.res
    go_wp2_with (first | (refine at_load (x := .tmp 3) ?_; refine wpList_load_row rfl 28 (.tmp 3) rfl gq rfl 28 (rqW (⟨6, tag, (cutP key 1024), emS, 0, 0, 0, []⟩ : Rq) (.slice none 0 0)).cells.toArray (0, 0) _ hbx Try.underlying28 rfl infoRq8 ?_) | (refine at_store (x := .tmp 2) ?_; refine wpList_stored rfl 28 (.tmp 2) (.tmp 68) rfl gx (rqW (⟨6, tag, (cutP key 1024), emS, 0, 0, 0, []⟩ : Rq) (.slice none 0 0)).cells.toArray rfl rfl 28 rq0 hrs infoRq8 rfl (by simp [rqW, Value.oneCell']) ?_; intro wy hBy))
    (try simp only [Exit.inBlock, Exit.then])
    refine bodyPost_ret (results_cell1 rfl _ _ gx 28 (rqW (⟨6, tag, (cutP key 1024), emS, 0, 0, 0, []⟩ : Rq) (.slice none 0 0)).cells.toArray (0, 0) _ rfl hBy.out.1 Try.underlying28 rfl infoRq8) rfl ?_
    have hRR : fitP R = (⟨6, tag, (cutP key 1024), emS, 0, 0, 0, []⟩ : Rq) := by rw [HR.out]; unfold fitP; simp only [HK.out]; rfl
    rw [hRR]
    exact ⟨(.slice none 0 0), rfl, HU2.out.done hBy.out.2.1⟩
   ·skip
    have c0 : w3.cell? ⟨g1, 0, none⟩ = some (.int .i64 7) := HS.out.at1 0 (by rw [HCK.out]; rfl)
    have c2 : w3.cell? ⟨g1, 2, none⟩ = some (.string key) := HS.out.at1 2 (by rw [HCK.out]; rfl)
    go_wp2_with fail
    refine (cut_any w3 key 1024 HH.out.2.2.2.1 (by omega)).mono ?_
    rintro e z1 ⟨rfl, hz1⟩
    subst hz1
    have z9 := HS.out.z3 2
    have d9 : w3.cell? ⟨gq, 2, none⟩ = some (.string emS) := HS.out.at3 2 rfl
    go_upto_region 6 with fail
    obtain ⟨u2, hu2⟩ : ∃ U, w3.setCell ⟨gq, 2, none⟩ (.string (cutP key 1024)) = U := ⟨_, rfl⟩
    rw [hu2]
    have HU2 : Hd (Ft w u2 28 g1 gx gq cK rq0 (rqW (⟨7, tag, (cutP key 1024), emS, 0, 0, 0, []⟩ : Rq) (.slice none 0 0))) := ⟨by rw [← hu2]; exact HS.out.set (M' := (rqW (⟨7, tag, (cutP key 1024), emS, 0, 0, 0, []⟩ : Rq) (.slice none 0 0))) 2 _ rfl (fun r hr => HS.out.ok r hr)⟩
    clear hu2 z9 d9 HS c0 c2
    have c0 : u2.cell? ⟨g1, 0, none⟩ = some (.int .i64 7) := HU2.out.at1 0 (by rw [HCK.out]; rfl)
    have c5 : u2.cell? ⟨g1, 5, none⟩ = some (.int .i64 num) := HU2.out.at1 5 (by rw [HCK.out]; rfl)
    have z9 := HU2.out.z3 5
    have d9 : u2.cell? ⟨gq, 5, none⟩ = some (.int .i64 0) := HU2.out.at3 5 rfl
    go_upto_region 10 with fail
    obtain ⟨u3, hu3⟩ : ∃ U, u2.setCell ⟨gq, 5, none⟩ (.int .i64 num) = U := ⟨_, rfl⟩
    rw [hu3]
    have HU3 : Hd (Ft w u3 28 g1 gx gq cK rq0 (rqW (⟨7, tag, (cutP key 1024), emS, 0, num, 0, []⟩ : Rq) (.slice none 0 0))) := ⟨by rw [← hu3]; exact HU2.out.set (M' := (rqW (⟨7, tag, (cutP key 1024), emS, 0, num, 0, []⟩ : Rq) (.slice none 0 0))) 5 _ rfl (fun r hr => HU2.out.ok r hr)⟩
    clear hu3 z9 d9 HU2 c0 c5
    have c0 : u3.cell? ⟨g1, 0, none⟩ = some (.int .i64 7) := HU3.out.at1 0 (by rw [HCK.out]; rfl)
    have c3 : u3.cell? ⟨g1, 3, none⟩ = some (.string after) := HU3.out.at1 3 (by rw [HCK.out]; rfl)
    go_wp2_with fail
    refine (cut_any u3 after 1024 HH.out.2.2.2.2.1 (by omega)).mono ?_
    rintro e z4 ⟨rfl, hz4⟩
    subst hz4
    have z9 := HU3.out.z3 3
    have d9 : u3.cell? ⟨gq, 3, none⟩ = some (.string emS) := HU3.out.at3 3 rfl
    go_upto_region 14 with fail
    obtain ⟨u5, hu5⟩ : ∃ U, u3.setCell ⟨gq, 3, none⟩ (.string (cutP after 1024)) = U := ⟨_, rfl⟩
    rw [hu5]
    have HU5 : Hd (Ft w u5 28 g1 gx gq cK rq0 (rqW (⟨7, tag, (cutP key 1024), (cutP after 1024), 0, num, 0, []⟩ : Rq) (.slice none 0 0))) := ⟨by rw [← hu5]; exact HU3.out.set (M' := (rqW (⟨7, tag, (cutP key 1024), (cutP after 1024), 0, num, 0, []⟩ : Rq) (.slice none 0 0))) 3 _ rfl (fun r hr => HU3.out.ok r hr)⟩
    clear hu5 z9 d9 HU3 c0 c3
    have c0 : u5.cell? ⟨g1, 0, none⟩ = some (.int .i64 7) := HU5.out.at1 0 (by rw [HCK.out]; rfl)
    have c6 : u5.cell? ⟨g1, 6, none⟩ = some (.int .i64 delim) := HU5.out.at1 6 (by rw [HCK.out]; rfl)
    have z9 := HU5.out.z3 6
    have d9 : u5.cell? ⟨gq, 6, none⟩ = some (.int .i64 0) := HU5.out.at3 6 rfl
    go_upto_region 15 with fail
    obtain ⟨u6, hu6⟩ : ∃ U, u5.setCell ⟨gq, 6, none⟩ (.int .i64 delim) = U := ⟨_, rfl⟩
    rw [hu6]
    have HU6 : Hd (Ft w u6 28 g1 gx gq cK rq0 (rqW (⟨7, tag, (cutP key 1024), (cutP after 1024), 0, num, delim, []⟩ : Rq) (.slice none 0 0))) := ⟨by rw [← hu6]; exact HU5.out.set (M' := (rqW (⟨7, tag, (cutP key 1024), (cutP after 1024), 0, num, delim, []⟩ : Rq) (.slice none 0 0))) 6 _ rfl (fun r hr => HU5.out.ok r hr)⟩
    clear hu6 z9 d9 HU5 c0 c6
    have c0 : u6.cell? ⟨g1, 0, none⟩ = some (.int .i64 7) := HU6.out.at1 0 (by rw [HCK.out]; rfl)
    go_upto_region 15 with fail
    have hbx := HU6.out.box
    have hrs := HU6.out.res
    go_wp2_with (first | (refine at_load (x := .tmp 3) ?_; refine wpList_load_row rfl 28 (.tmp 3) rfl gq rfl 28 (rqW (⟨7, tag, (cutP key 1024), (cutP after 1024), 0, num, delim, []⟩ : Rq) (.slice none 0 0)).cells.toArray (0, 0) _ hbx Try.underlying28 rfl infoRq8 ?_) | (refine at_store (x := .tmp 2) ?_; refine wpList_stored rfl 28 (.tmp 2) (.tmp 68) rfl gx (rqW (⟨7, tag, (cutP key 1024), (cutP after 1024), 0, num, delim, []⟩ : Rq) (.slice none 0 0)).cells.toArray rfl rfl 28 rq0 hrs infoRq8 rfl (by simp [rqW, Value.oneCell']) ?_; intro wy hBy))
    (try simp only [Exit.inBlock, Exit.then])
    refine bodyPost_ret (results_cell1 rfl _ _ gx 28 (rqW (⟨7, tag, (cutP key 1024), (cutP after 1024), 0, num, delim, []⟩ : Rq) (.slice none 0 0)).cells.toArray (0, 0) _ rfl hBy.out.1 Try.underlying28 rfl infoRq8) rfl ?_
    have hRR : fitP R = (⟨7, tag, (cutP key 1024), (cutP after 1024), 0, num, delim, []⟩ : Rq) := by rw [HR.out]; unfold fitP; simp only [HK.out]; rfl
    rw [hRR]
    exact ⟨(.slice none 0 0), rfl, HU6.out.done hBy.out.2.1⟩
   ·skip
    have c0 : w3.cell? ⟨g1, 0, none⟩ = some (.int .i64 8) := HS.out.at1 0 (by rw [HCK.out]; rfl)
    go_upto_region 15 with fail
    have hbx := HS.out.box
    have hrs := HS.out.res
    go_wp2_with (first | (refine at_load (x := .tmp 3) ?_; refine wpList_load_row rfl 28 (.tmp 3) rfl gq rfl 28 (rqW (⟨8, tag, emS, emS, 0, 0, 0, []⟩ : Rq) (.slice none 0 0)).cells.toArray (0, 0) _ hbx Try.underlying28 rfl infoRq8 ?_) | (refine at_store (x := .tmp 2) ?_; refine wpList_stored rfl 28 (.tmp 2) (.tmp 68) rfl gx (rqW (⟨8, tag, emS, emS, 0, 0, 0, []⟩ : Rq) (.slice none 0 0)).cells.toArray rfl rfl 28 rq0 hrs infoRq8 rfl (by simp [rqW, Value.oneCell']) ?_; intro wy hBy))
    (try simp only [Exit.inBlock, Exit.then])
    refine bodyPost_ret (results_cell1 rfl _ _ gx 28 (rqW (⟨8, tag, emS, emS, 0, 0, 0, []⟩ : Rq) (.slice none 0 0)).cells.toArray (0, 0) _ rfl hBy.out.1 Try.underlying28 rfl infoRq8) rfl ?_
    have hRR : fitP R = (⟨8, tag, emS, emS, 0, 0, 0, []⟩ : Rq) := by rw [HR.out]; unfold fitP; simp only [HK.out]; rfl
    rw [hRR]
    exact ⟨(.slice none 0 0), rfl, HS.out.done hBy.out.2.1⟩
end Go.Proofs.Ytbcmjjcbjojakaa
