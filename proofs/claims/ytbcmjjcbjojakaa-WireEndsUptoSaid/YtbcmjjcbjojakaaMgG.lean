/- Put together of: TalkW EndsW EndsEnd ArgTalk Weigh. -/
import Derived.Test.YtbcmjjcbjojakaaMgE
import Derived.Test.YtbcmjjcbjojakaaHeldBy
import Derived.Deep.Cut
import Derived.Deep.CutRange
import Derived.Test.YtbcmjjcbjojakaaMgD
import Derived.Test.YtbcmjjcbjojakaaMgC
import Derived.Test.YtbcmjjcbjojakaaArgs
import Derived.Test.YtbcmjjcbjojakaaProg
import Derived.KernelRfl
section
/- The walk of WireBack: it returns true. -/
namespace Go.Proofs.Ytbcmjjcbjojakaa
open Go.RowKit
set_option linter.unusedVariables false
set_option linter.unusedSimpArgs false
theorem talk_ok : (Try.prog.info? 95).map (·.size) = some 4 := infoTalk
/-- All the forms are read as their messages. -/
theorem go_all {T : Type} {Z : Kd T} {cont : T → List Nat} {ms : List T} {w : World} {arg : Array Value} (h : TL Z cont ms w arg) : go Z.rd mid0 (preF cont ms ms.length) = ⟨ms, 0, mid0, []⟩ := by
  have := go_puts (rd := Z.rd) (cont := cont) [] ms h.ok
  rw [List.append_nil] at this
  unfold preF
  rw [List.take_length, this]
  have e : go Z.rd mid0 [] = ⟨[], 0, mid0, []⟩ := go_wait (ckP_nil _ _)
  rw [e]; simp
set_option maxRecDepth 20000 in
set_option maxHeartbeats 8000000 in
theorem back_gen {T : Type} (Z : Kd T) (cont : T → List Nat) (ms : List T) (w : World) (t : Bool) (hz : Z.ans = t) (A1 A2 A3 : Option Addr) (n1 c1 n2 c2 n3 c3 : Nat) (tl : TL Z cont ms w #[.bool t, .slice A1 n1 c1, .slice A2 n2 c2, .slice A3 n3 c3]) (cuts : List Int) (hcu : Rd w w.heap.size A3 n3 (cuts.map (.int .i64))) (hci : ∀ k ∈ cuts, I64 k) (hn3 : n3 ≤ 140737488355328) (each : Bool) :
    Calls Try.prog 10 #[.agg #[.bool t, .slice A1 n1 c1, .slice A2 n2 c2, .slice A3 n3 c3], .bool each] w fun e w' => e = .returned (.bool true) ∧ Below w.heap.size w w' := by
  obtain ⟨l, hl0⟩ : ∃ l : Array Value, l = #[.bool t, .slice A1 n1 c1, .slice A2 n2 c2, .slice A3 n3 c3] := ⟨_, rfl⟩
  obtain ⟨w0, hw0⟩ : ∃ U, w.alloc (.cells #[.bool t, .slice A1 n1 c1, .slice A2 n2 c2, .slice A3 n3 c3] 95) = U := ⟨_, rfl⟩
  obtain ⟨g1, hg1⟩ : ∃ q, w.heap.size = q := ⟨_, rfl⟩
  have H0 : Hd (Va w w0 g1 l) := ⟨by rw [← hw0, ← hg1, hl0]; exact ⟨heap_alloc_new w _, (Below.refl _ w).alloc (Nat.le_refl _) _, Nat.le_refl _⟩⟩
  have HH : Hd (TL Z cont ms w #[.bool t, .slice A1 n1 c1, .slice A2 n2 c2, .slice A3 n3 c3] ∧ l = #[.bool t, .slice A1 n1 c1, .slice A2 n2 c2, .slice A3 n3 c3] ∧ Rd w w.heap.size A3 n3 (cuts.map (.int .i64)) ∧ (∀ k ∈ cuts, I64 k) ∧ Z.ans = t) := ⟨tl, hl0, hcu, hci, hz⟩
  clear tl hl0 hcu hci hz
  go_enter Try.func10, Try.ntmps10
  go_upto_region 1 with fail
  try rw [hw0]
  try rw [hg1]
  clear hw0 hg1
  have hbx : w0.heap[g1]? = some (.cells #[.bool t, .slice A1 n1 c1, .slice A2 n2 c2, .slice A3 n3 c3] 95) := by rw [← HH.out.2.1]; exact H0.out.b1
  have HBX := Hd.mk hbx
  clear hbx
  go_wp2_with (refine at_load (x := .tmp 2) ?_; refine wpList_load_row rfl 95 (.tmp 2) rfl g1 rfl 95 #[.bool t, .slice A1 n1 c1, .slice A2 n2 c2, .slice A3 n3 c3] (0, 0) _ HBX.out Try.underlying95 rfl infoTalk ?_)
  refine (HH.out.1.vast w0 H0.out.be).mono ?_
  rintro e w1 ⟨b, rfl, hb1, hv⟩
  have H1 := Hd.mk (H0.out.below hb1)
  have HV := Hd.mk hv
  clear hb1 hv H0 HBX
  rcases b with _ | _
  · have HPL : Hd ((preF cont ms ms.length).length ≤ 34359738368) := ⟨HV.out rfl⟩
    clear HV
    go_wp2_with fail
    refine (awake_any w1).mono ?_
    rintro e w2 ⟨rfl, hb2⟩
    have H2 := Hd.mk (H1.out.below hb2)
    clear hb2 H1
    have hbx : w2.heap[g1]? = some (.cells #[.bool t, .slice A1 n1 c1, .slice A2 n2 c2, .slice A3 n3 c3] 95) := by rw [← HH.out.2.1]; exact H2.out.b1
    have HBX := Hd.mk hbx
    clear hbx
    go_upto_region 5 with fail
    go_wp2_with (refine at_load (x := .tmp 2) ?_; refine wpList_load_row rfl 95 (.tmp 2) rfl g1 rfl 95 #[.bool t, .slice A1 n1 c1, .slice A2 n2 c2, .slice A3 n3 c3] (0, 0) _ HBX.out Try.underlying95 rfl infoTalk ?_)
    refine (HH.out.1.said HPL.out w2 H2.out.be).mono ?_
    rintro e w3 ⟨v, ve, rfl, ho, hoe, hap, hb3⟩
    have H3 := Hd.mk (H2.out.below hb3)
    obtain ⟨Ab, cb1, hvb, hnb, _⟩ := own_form ho
    obtain ⟨Ae, ce1, hve, _, _⟩ := own_form hoe
    obtain ⟨lb, hlb⟩ : ∃ q, (preF cont ms ms.length).length = q := ⟨_, rfl⟩
    obtain ⟨le, hle⟩ : ∃ q, ms.length = q := ⟨_, rfl⟩
    have hRd : Rd w3 w3.heap.size Ab lb (cb (preF cont ms ms.length)) := by rw [← hlb]; rw [hvb] at ho; exact Rd.of_own ho
    have HR := Hd.mk (And.intro hRd (And.intro hlb hle))
    have hlb2 : lb ≤ 34359738368 := by rw [← hlb]; exact HPL.out
    have hle2 : le ≤ 1466015503701 := by rw [← hle]; exact HH.out.1.len
    have hlc : lb ≤ cb1 := by rw [← hlb]; exact hnb
    rw [hlb] at hvb
    rw [hle] at hve
    subst hvb hve
    clear ho hoe hap hb3 H2 HBX hnb hRd hlb hle
    have d0 : w3.cell? ⟨g1, 0, none⟩ = some (.bool t) := H3.out.at_ 0 (by rw [HH.out.2.1]; rfl)
    have d3 : w3.cell? ⟨g1, 3, none⟩ = some (.slice A3 n3 c3) := H3.out.at_ 3 (by rw [HH.out.2.1]; rfl)
    go_upto_region 8 with fail
    go_wp2_with fail
    have hcall := hear_any Z HH.out.1.hear.1 HH.out.1.hear.2.1 HH.out.1.hear.2.2.1 HH.out.1.hear.2.2.2 w3 Ab lb cb1 (preF cont ms ms.length) HR.out.1 HH.out.1.lt hlc hlb2 A3 n3 c3 cuts ((HH.out.2.2.1.below H3.out.be).more H3.out.be.size) HH.out.2.2.2.1 hn3 each
    rw [HH.out.2.2.2.2] at hcall
    refine hcall.mono ?_
    rintro e w4 ⟨vh, hs, rfl, hq, hok, hal, hb4⟩
    rw [go_all HH.out.1] at hal ⊢
    have hone := hd_one (ans := Z.ans) (fl := 0) (held := 0) hq.one
    obtain ⟨Q7, k7, hvq, _⟩ := hq.form
    have hln : hs.length = le := by rw [hal.len]; exact HR.out.2.2
    rw [hln] at hvq
    subst hvq
    obtain ⟨x0, x1, hx⟩ : ∃ x0 x1, hdC Z.ans (.slice Q7 le k7) 0 0 = #[x0, x1, .int .i64 0, .int .i64 0] := ⟨_, _, rfl⟩
    have hheld : ((heldN (⟨ms, 0, mid0, []⟩ : Out T) : Nat) : Int) = 0 := rfl
    simp only [hheld]
    rw [hx] at hone ⊢
    have H4 : Hd (Va w w4 g1 l ∧ Que w4 w.heap.size Z.e Z.m (.slice Q7 le k7) hs ∧ (∀ V ∈ hs, V.ok w4 w.heap.size) ∧ Alike Z.is hs ms) := ⟨H3.out.below hb4, hq.lower H3.out.be.size, fun V hV => (hok V hV).lower H3.out.be.size, hal⟩
    have HX := Hd.mk hx
    have HO := Hd.mk hone
    clear hq hok hal hb4 hln hheld hone H3 d0 d3 hx hcall
    go_upto_region 9 with (refine at_store (x := .tmp 8) ?_; refine wpList_boxed rfl 75 (.tmp 8) (.tmp 29) rfl w4.heap.size rfl #[x0, x1, .int .i64 0, .int .i64 0] rfl rfl infoHd rfl HO.out ?_; intro w5 hB5)
    obtain ⟨g8, hg8⟩ : ∃ q, w4.heap.size = q := ⟨_, rfl⟩
    rw [hg8] at hB5 ⊢
    have b5 : Below w4.heap.size w4 w5 := by rw [hg8]; exact hB5.out.2.1
    have H5 : Hd (Va w w5 g1 l ∧ Que w5 w.heap.size Z.e Z.m (.slice Q7 le k7) hs ∧ (∀ V ∈ hs, V.ok w5 w.heap.size) ∧ Alike Z.is hs ms ∧ w5.heap[g8]? = some (.cells #[x0, x1, .int .i64 0, .int .i64 0] 75)) := ⟨H4.out.1.below b5, H4.out.2.1.chg (Chg.of_below (L := []) b5) (by simp), fun V hV => (H4.out.2.2.1 V hV).below b5, H4.out.2.2.2, hB5.out.1⟩
    clear hB5 hg8 b5 H4
    have hcc : ∀ W, Below w5.heap.size w5 W → W.cell? ⟨g1, 0, none⟩ = some (.bool t) ∧ W.cell? ⟨g1, 1, none⟩ = some (.slice A1 n1 c1) ∧ W.cell? ⟨g1, 2, none⟩ = some (.slice A2 n2 c2) ∧ W.cell? ⟨g1, 3, none⟩ = some (.slice A3 n3 c3) ∧ W.cell? ⟨g8, 0, none⟩ = some x0 ∧ W.cell? ⟨g8, 1, none⟩ = some x1 ∧ W.cell? ⟨g8, 2, none⟩ = some (.int .i64 0) ∧ W.cell? ⟨g8, 3, none⟩ = some (.int .i64 0) := fun W hW => by
      have e8 : W.heap[g8]? = _ := (hW.block g8 (Array.getElem?_eq_some_iff.1 H5.out.2.2.2.2).1).trans H5.out.2.2.2.2
      have hS := H5.out.1.below hW
      refine ⟨hS.at_ 0 (by rw [HH.out.2.1]; rfl), hS.at_ 1 (by rw [HH.out.2.1]; rfl), hS.at_ 2 (by rw [HH.out.2.1]; rfl), hS.at_ 3 (by rw [HH.out.2.1]; rfl), ?_, ?_, ?_, ?_⟩ <;> (rw [cell_of_row W g8 _ _ _ (0, 0) e8]; rfl)
    have HCC := Hd.mk hcc
    clear hcc
    obtain ⟨e0, e1, e2, e3, f0, f1, f2, f3⟩ := HCC.out w5 (Below.refl _ w5)
    go_wp2_with fail
    have hcall := HH.out.1.first w5 H5.out.1.be x0 x1 Q7 le k7 0 0 hs HX.out H5.out.2.1 H5.out.2.2.1 (by rw [← HR.out.2.2, List.take_length]; exact H5.out.2.2.2.1) (by rw [HR.out.2.2]; exact Nat.le_refl _)
    refine hcall.mono ?_
    rintro e w6 ⟨rfl, hb6⟩
    clear hcall e0 e1 e2 e3 f0 f1 f2 f3
    obtain ⟨e0, e1, e2, e3, f0, f1, f2, f3⟩ := HCC.out w6 hb6
    have HB6 := Hd.mk (H5.out.1.be.trans (hb6.mono H5.out.1.be.size))
    clear hb6
    go_wp2_with fail
    go_ret
    exact ⟨rfl, HB6.out⟩
  · go_wp2_with fail
    go_ret
    exact ⟨rfl, H1.out.be⟩
end Go.Proofs.Ytbcmjjcbjojakaa
end
section
/- The walk of WireEnds: it returns true. (tools/endsgen.py prints it.) -/
namespace Go.Proofs.Ytbcmjjcbjojakaa
open Go.RowKit
set_option linter.unusedVariables false
set_option linter.unusedSimpArgs false
theorem step_boxedT {P : Program} {ops : Array Oper} {o : Oper} {a : Act} {w : World} {Q : Exit → Act → World → Prop} {K : Act → World → Prop} {Z : Prop} (hgd : o.guard = none) (ty : TypeId) (x y : Operand) (ho : o.op = .store ty x y)
    (g : Nat) (cells : Array Value) (hx : a.eval x = .pointer (some ⟨g, 0, none⟩)) (hy : a.eval y = .agg cells) (t : TypeId) (old : Array Value) (hg : w.heap[g]? = some (.cells old t (0, 0))) (hi : (P.info? ty).map (·.size) = some cells.size)
    (hold : old.size = cells.size) (h1 : cells.all (·.oneCell') = true)
    (h : ∀ w2, Hd (w2.heap[g]? = some (.cells cells t (0, 0)) ∧ w.grownBy w2 (some g) ∧ w2.heap.size = w.heap.size) → K (a.put o.dst undef) w2) :
    if Region.wanted o (yielded ops a.tmps) = true then Oper.wp P o a w K Q else Z := by
  have hw : Region.wanted o (yielded ops a.tmps) = true := by simp [Region.wanted, hgd]
  rw [if_pos hw]
  exact wp_store_row ty x y ho g cells hx hy t old hg hi hold h1 (h _ ⟨setRow_heap _ _ _ _ _ _ hg, ⟨rfl, rfl, rfl, by simp [World.setRow], fun k _ hk => setRow_other w g k cells (fun e => hk (by rw [e]))⟩, by simp [World.setRow]⟩)
/-- The forms' ends grow. -/
theorem preF_mono {M : Type} (cont : M → List Nat) (ms : List M) {i j : Nat} (h : i ≤ j) : (preF cont ms i).length ≤ (preF cont ms j).length := by
  unfold preF
  have e : ms.take i = (ms.take j).take i := by rw [List.take_take, Nat.min_eq_left h]
  rw [e]
  conv => rhs; rw [← List.take_append_drop i (ms.take j), List.flatMap_append, List.length_append]
  omega
/-- The same place. -/
theorem ends_one {M : Type} {cont : M → List Nat} {ms : List M} {i n a : Nat} (h1 : n ≤ ms.length) (h2 : (preF cont ms n).length ≤ a) (h3 : n < ms.length → a < (preF cont ms (n + 1)).length) (k1 : i ≤ ms.length) (k2 : (preF cont ms i).length ≤ a) (k3 : i < ms.length → a < (preF cont ms (i + 1)).length) : i = n := by
  rcases Nat.lt_trichotomy i n with h | h | h
  · have := preF_mono cont ms (show i + 1 ≤ n by omega); have := k3 (by omega); omega
  · exact h
  · have := preF_mono cont ms (show n + 1 ≤ i by omega); have := h3 (by omega); omega
/-- What hear answers of a beginning. -/
structure EndH {T : Type} (Z : Kd T) (ms : List T) (w3 wx : World) (w : World) (n0 : Nat) (hd : Int) (p : Value) (fl : Int) : Prop where
  ex : ∃ (g8 : Nat) (Q7 : Option Addr) (k7 : Nat) (hs : List Wm) (x0 x1 : Value), p = .pointer (some ⟨g8, 0, none⟩) ∧ hdC Z.ans (.slice Q7 n0 k7) fl hd = #[x0, x1, .int .i64 fl, .int .i64 hd] ∧ wx.heap[g8]? = some (.cells #[x0, x1, .int .i64 fl, .int .i64 hd] 75) ∧
    Que wx w.heap.size Z.e Z.m (.slice Q7 n0 k7) hs ∧ (∀ V ∈ hs, V.ok wx w.heap.size) ∧ Alike Z.is hs (ms.take n0)
  be : Below w3.heap.size w3 wx
theorem hd_parts {T : Type} {Z : Kd T} {w : World} {base : Nat} {v : Value} {hs : List Wm} {n0 : Nat} {fl hd : Int} (hq : Que w base Z.e Z.m v hs) (hl : hs.length = n0) : ∃ (Q7 : Option Addr) (k7 : Nat) (x0 x1 : Value), v = .slice Q7 n0 k7 ∧ hdC Z.ans (.slice Q7 n0 k7) fl hd = #[x0, x1, .int .i64 fl, .int .i64 hd] ∧ (#[x0, x1, .int .i64 fl, .int .i64 hd] : Array Value).all (·.oneCell') = true := by
  obtain ⟨Q7, k7, hv, _⟩ := hq.form
  rw [hl] at hv
  have hone := hd_one (ans := Z.ans) (fl := fl) (held := hd) hq.one
  rw [hv] at hone
  exact ⟨Q7, k7, _, _, hv, rfl, hone⟩
set_option maxRecDepth 20000 in
set_option maxHeartbeats 8000000 in
theorem ends_gen {T : Type} (Z : Kd T) (cont : T → List Nat) (ms : List T) (w : World) (t : Bool) (hz : Z.ans = t) (A1 A2 A3 : Option Addr) (n1 c1 n2 c2 n3 c3 : Nat) (tl : TL Z cont ms w #[.bool t, .slice A1 n1 c1, .slice A2 n2 c2, .slice A3 n3 c3]) (cuts : List Int) (hcu : Rd w w.heap.size A3 n3 (cuts.map (.int .i64))) (hci : ∀ k ∈ cuts, I64 k) (hn3 : n3 ≤ 140737488355328) (at_ : Int) (hat : I64 at_) :
    Calls Try.prog 12 #[.agg #[.bool t, .slice A1 n1 c1, .slice A2 n2 c2, .slice A3 n3 c3], .int .i64 at_] w fun e w' => e = .returned (.bool true) ∧ Below w.heap.size w w' := by
  obtain ⟨l, hl0⟩ : ∃ l : Array Value, l = #[.bool t, .slice A1 n1 c1, .slice A2 n2 c2, .slice A3 n3 c3] := ⟨_, rfl⟩
  obtain ⟨w0, hw0⟩ : ∃ U, w.alloc (.cells #[.bool t, .slice A1 n1 c1, .slice A2 n2 c2, .slice A3 n3 c3] 95) = U := ⟨_, rfl⟩
  obtain ⟨g1, hg1⟩ : ∃ q, w.heap.size = q := ⟨_, rfl⟩
  have H0 : Hd (Va w w0 g1 l) := ⟨by rw [← hw0, ← hg1, hl0]; exact ⟨heap_alloc_new w _, (Below.refl _ w).alloc (Nat.le_refl _) _, Nat.le_refl _⟩⟩
  have HH : Hd (TL Z cont ms w #[.bool t, .slice A1 n1 c1, .slice A2 n2 c2, .slice A3 n3 c3] ∧ l = #[.bool t, .slice A1 n1 c1, .slice A2 n2 c2, .slice A3 n3 c3] ∧ Rd w w.heap.size A3 n3 (cuts.map (.int .i64)) ∧ (∀ k ∈ cuts, I64 k) ∧ Z.ans = t) := ⟨tl, hl0, hcu, hci, hz⟩
  clear tl hl0 hcu hci hz
  go_enter Try.func12, Try.ntmps12
  go_upto_region 1 with fail
  try rw [hw0]
  try rw [hg1]
  clear hw0 hg1
  have hbx : w0.heap[g1]? = some (.cells #[.bool t, .slice A1 n1 c1, .slice A2 n2 c2, .slice A3 n3 c3] 95) := by rw [← HH.out.2.1]; exact H0.out.b1
  have HBX := Hd.mk hbx
  clear hbx
  go_wp2_with (refine at_load (x := .tmp 2) ?_; refine wpList_load_row rfl 95 (.tmp 2) rfl g1 rfl 95 #[.bool t, .slice A1 n1 c1, .slice A2 n2 c2, .slice A3 n3 c3] (0, 0) _ HBX.out Try.underlying95 rfl infoTalk ?_)
  refine (HH.out.1.vast w0 H0.out.be).mono ?_
  rintro e w1 ⟨b, rfl, hb1, hv⟩
  have H1 := Hd.mk (H0.out.below hb1)
  have HV := Hd.mk hv
  clear hb1 hv H0 HBX
  rcases b with _ | _
  · have HPL : Hd ((preF cont ms ms.length).length ≤ 34359738368) := ⟨HV.out rfl⟩
    clear HV
    go_wp2_with fail
    refine (awake_any w1).mono ?_
    rintro e w2 ⟨rfl, hb2⟩
    have H2 := Hd.mk (H1.out.below hb2)
    clear hb2 H1
    have hbx : w2.heap[g1]? = some (.cells #[.bool t, .slice A1 n1 c1, .slice A2 n2 c2, .slice A3 n3 c3] 95) := by rw [← HH.out.2.1]; exact H2.out.b1
    have HBX := Hd.mk hbx
    clear hbx
    go_upto_region 5 with fail
    go_wp2_with (refine at_load (x := .tmp 2) ?_; refine wpList_load_row rfl 95 (.tmp 2) rfl g1 rfl 95 #[.bool t, .slice A1 n1 c1, .slice A2 n2 c2, .slice A3 n3 c3] (0, 0) _ HBX.out Try.underlying95 rfl infoTalk ?_)
    refine (HH.out.1.said HPL.out w2 H2.out.be).mono ?_
    rintro e w3 ⟨v, ve, rfl, ho, hoe, hap, hb3⟩
    have H3 := Hd.mk (H2.out.below hb3)
    obtain ⟨Ab, cb1, hvb, hnb, _⟩ := own_form ho
    obtain ⟨Ae, ce1, hve, _, _⟩ := own_form hoe
    obtain ⟨lb, hlb⟩ : ∃ q, (preF cont ms ms.length).length = q := ⟨_, rfl⟩
    obtain ⟨le, hle⟩ : ∃ q, ms.length = q := ⟨_, rfl⟩
    have hRd : Rd w3 w3.heap.size Ab lb (cb (preF cont ms ms.length)) := by rw [← hlb]; rw [hvb] at ho; exact Rd.of_own ho
    have HR := Hd.mk (And.intro hRd (And.intro hlb hle))
    have hlb2 : lb ≤ 34359738368 := by rw [← hlb]; exact HPL.out
    have hle2 : le ≤ 1466015503701 := by rw [← hle]; exact HH.out.1.len
    have hlc : lb ≤ cb1 := by rw [← hlb]; exact hnb
    have HE3 : Hd (Rd w3 w3.heap.size Ae le (endsC cont ms le)) := ⟨by rw [hle] at hoe; rw [hve, hle] at hoe; exact Rd.of_own hoe⟩
    rw [hlb] at hvb
    rw [hle] at hve
    subst hvb hve
    clear ho hoe hap hb3 H2 HBX hnb hRd hlb hle
    have HCC : Hd (∀ W, Below w3.heap.size w3 W → W.cell? ⟨g1, 0, none⟩ = some (.bool t) ∧ W.cell? ⟨g1, 3, none⟩ = some (.slice A3 n3 c3)) := ⟨fun W hW => by
      have hS := H3.out.below hW
      exact ⟨hS.at_ 0 (by rw [HH.out.2.1]; rfl), hS.at_ 3 (by rw [HH.out.2.1]; rfl)⟩⟩
    have hl1 : IntKind.i64.wrap ((lb : Int) + 1) = (lb : Int) + 1 := by rw [IntKind.wrap_i64]; omega
    go_upto_region 8 with fail
    go_wp2_with fail
    refine (pick_any w3 at_ ((lb : Int) + 1) hat (by omega) (by omega)).mono ?_
    rintro e wz ⟨rfl, hw9⟩
    subst hw9
    obtain ⟨a, ha⟩ : ∃ q : Nat, at_ % ((lb : Int) + 1) = (q : Int) := ⟨(at_ % ((lb : Int) + 1)).toNat, by have := Int.emod_nonneg at_ (b := (lb : Int) + 1) (by omega); omega⟩
    have hal : a ≤ lb := by have := Int.emod_lt_of_pos at_ (b := (lb : Int) + 1) (by omega); omega
    rw [ha]
    clear ha hl1
    obtain ⟨n0, z1, z2, z3, z4, z5, z6⟩ := go_ends (rd := Z.rd) (cont := cont) ms a HH.out.1.ok
    have efl : (ms.flatMap fun x => formP (cont x)) = preF cont ms ms.length := by unfold preF; rw [List.take_length]
    rw [efl] at z4 z5 z6
    rw [HR.out.2.1] at z6
    obtain ⟨hd, hhd⟩ : ∃ q : Int, ((a - (preF cont ms n0).length : Nat) : Int) = q := ⟨_, rfl⟩
    have HGO : Hd ((go Z.rd mid0 ((preF cont ms ms.length).take a)).ms = ms.take n0 ∧ (go Z.rd mid0 ((preF cont ms ms.length).take a)).fl = 0 ∧ ((heldN (go Z.rd mid0 ((preF cont ms ms.length).take a)) : Nat) : Int) = hd) := ⟨z4, z5, by rw [z6, Nat.min_eq_left hal]; exact hhd⟩
    have HGO2 : Hd ((ms.take n0).length = n0) := ⟨by rw [List.length_take]; omega⟩
    have HN0 : Hd (n0 ≤ ms.length ∧ (preF cont ms n0).length ≤ a ∧ (n0 < ms.length → a < (preF cont ms (n0 + 1)).length) ∧ hd = ((a - (preF cont ms n0).length : Nat) : Int)) := ⟨z1, z2, z3, hhd.symm⟩
    clear z1 z2 z3 z4 z5 z6 hhd efl
    have hac : a ≤ cb1 := by omega
    have HCUT : Hd (∀ W, (Instr.slice 26 (.slice Ab lb cb1) none (some (.int .i64 (a : Int))) none).run Try.prog W = .ok (.slice Ab a cb1) W) := ⟨fun W => run_cut_to elB Ab lb cb1 a hac⟩
    have HCALL : Hd (∀ W, Below w3.heap.size w3 W → Calls Try.prog 30 #[.slice Ab a cb1, .bool t, .slice A3 n3 c3, .bool true] W (HearDone Z W ((preF cont ms ms.length).take a))) := ⟨fun W hW => by
      have hr : Rd W W.heap.size Ab a (cb ((preF cont ms ms.length).take a)) := by
        have h1 := ((HR.out.1.below hW).more hW.size).take hal
        unfold cb at h1 ⊢
        rw [List.map_take]; exact h1
      have hcall := hear_any Z HH.out.1.hear.1 HH.out.1.hear.2.1 HH.out.1.hear.2.2.1 HH.out.1.hear.2.2.2 W Ab a cb1 ((preF cont ms ms.length).take a) hr (fun y hy => HH.out.1.lt y (List.mem_of_mem_take hy)) hac (by omega) A3 n3 c3 cuts ((HH.out.2.2.1.below (H3.out.be.trans (hW.mono H3.out.be.size))).more (Nat.le_trans H3.out.be.size hW.size)) HH.out.2.2.2.1 hn3 true
      rw [HH.out.2.2.2.2] at hcall
      exact hcall⟩
    go_upto_region 9 with fail
    go_cut [7, 8] from 28 to 38 (fun r p wx => r = .bool true ∧ EndH Z ms w3 wx w n0 hd p 0)
    case first =>
      refine wp_region_held_drew (S := fun W => Below w3.heap.size w3 W) (by kernel_rfl) ((Below.refl _ _).drew) (fun hHeld => ?_)
      refine wpAnyH_take (i := 0) (oi := ?oi1) (v := ?v1) ?hi1 (by kernel_rfl) (by kernel_rfl) (by kernel_rfl) ?hQ1 (Or.inl ⟨?hw1, ?hy1⟩) (by assumption) ?rest1
      case hi1 => simp only [List.getElem?_toArray, List.getElem?_cons_succ, List.getElem?_cons_zero]; rfl
      case hQ1 => exact fun _ _ _ h => h
      case hw1 => rfl
      case hy1 => (intro W hW; obtain ⟨d0, d3⟩ := HCC.out W hW; have hcut := HCUT.out W; go_simp; all_goals rfl)
      simp only [Act.put, List.setIfInBounds_toArray, List.set_cons_zero, List.set_cons_succ]
      refine wpAnyH_take (i := 1) (oi := ?oi2) (v := ?v2) ?hi2 (by kernel_rfl) (by kernel_rfl) (by kernel_rfl) ?hQ2 (Or.inl ⟨?hw2, ?hy2⟩) (by assumption) ?rest2
      case hi2 => simp only [List.getElem?_toArray, List.getElem?_cons_succ, List.getElem?_cons_zero]; rfl
      case hQ2 => exact fun _ _ _ h => h
      case hw2 => rfl
      case hy2 => (intro W hW; obtain ⟨d0, d3⟩ := HCC.out W hW; have hcut := HCUT.out W; go_simp; all_goals rfl)
      simp only [Act.put, List.setIfInBounds_toArray, List.set_cons_zero, List.set_cons_succ]
      refine wpAnyH_take (i := 2) (oi := ?oi3) (v := ?v3) ?hi3 (by kernel_rfl) (by kernel_rfl) (by kernel_rfl) ?hQ3 (Or.inl ⟨?hw3, ?hy3⟩) (by assumption) ?rest3
      case hi3 => simp only [List.getElem?_toArray, List.getElem?_cons_succ, List.getElem?_cons_zero]; rfl
      case hQ3 => exact fun _ _ _ h => h
      case hw3 => rfl
      case hy3 => (intro W hW; obtain ⟨d0, d3⟩ := HCC.out W hW; have hcut := HCUT.out W; go_simp; all_goals rfl)
      simp only [Act.put, List.setIfInBounds_toArray, List.set_cons_zero, List.set_cons_succ]
      refine wpAnyH_take (i := 3) (oi := ?oi4) (v := ?v4) ?hi4 (by kernel_rfl) (by kernel_rfl) (by kernel_rfl) ?hQ4 (Or.inl ⟨?hw4, ?hy4⟩) (by assumption) ?rest4
      case hi4 => simp only [List.getElem?_toArray, List.getElem?_cons_succ, List.getElem?_cons_zero]; rfl
      case hQ4 => exact fun _ _ _ h => h
      case hw4 => rfl
      case hy4 => (intro W hW; obtain ⟨d0, d3⟩ := HCC.out W hW; have hcut := HCUT.out W; go_simp; all_goals rfl)
      simp only [Act.put, List.setIfInBounds_toArray, List.set_cons_zero, List.set_cons_succ]
      refine wpAnyH_take (i := 4) (oi := ?oi5) (v := ?v5) ?hi5 (by kernel_rfl) (by kernel_rfl) (by kernel_rfl) ?hQ5 (Or.inl ⟨?hw5, ?hy5⟩) (by assumption) ?rest5
      case hi5 => simp only [List.getElem?_toArray, List.getElem?_cons_succ, List.getElem?_cons_zero]; rfl
      case hQ5 => exact fun _ _ _ h => h
      case hw5 => rfl
      case hy5 => (intro W hW; obtain ⟨d0, d3⟩ := HCC.out W hW; have hcut := HCUT.out W; go_simp; all_goals rfl)
      simp only [Act.put, List.setIfInBounds_toArray, List.set_cons_zero, List.set_cons_succ]
      refine wpAnyH_take (i := 5) (oi := ?oi6) (v := ?v6) ?hi6 (by kernel_rfl) (by kernel_rfl) (by kernel_rfl) ?hQ6 (Or.inl ⟨?hw6, ?hy6⟩) (by assumption) ?rest6
      case hi6 => simp only [List.getElem?_toArray, List.getElem?_cons_succ, List.getElem?_cons_zero]; rfl
      case hQ6 => exact fun _ _ _ h => h
      case hw6 => rfl
      case hy6 => (intro W hW; obtain ⟨d0, d3⟩ := HCC.out W hW; have hcut := HCUT.out W; go_simp; all_goals rfl)
      simp only [Act.put, List.setIfInBounds_toArray, List.set_cons_zero, List.set_cons_succ]
      refine wpAnyH_take (i := 6) (oi := ?oi7) (v := ?v7) ?hi7 (by kernel_rfl) (by kernel_rfl) (by kernel_rfl) ?hQ7 (Or.inl ⟨?hw7, ?hy7⟩) (by assumption) ?rest7
      case hi7 => simp only [List.getElem?_toArray, List.getElem?_cons_succ, List.getElem?_cons_zero]; rfl
      case hQ7 => exact fun _ _ _ h => h
      case hw7 => rfl
      case hy7 => (intro W hW; obtain ⟨d0, d3⟩ := HCC.out W hW; have hcut := HCUT.out W; go_simp; all_goals rfl)
      simp only [Act.put, List.setIfInBounds_toArray, List.set_cons_zero, List.set_cons_succ]
      refine wpAnyH_ready (rs := [7, 11]) (by kernel_rfl) (by simp) ?_
      refine (AllReadyH.cons (i := 7) (o := ?oo00_7) ?ho00_7 (fun Kq hK => ?step00_7) (AllReadyH.cons (i := 11) (o := ?oo00_11) ?ho00_11 (fun Kq hK => ?step00_11) AllReadyH.nil))
      case ho00_7 => (simp only [List.getElem?_toArray, List.getElem?_cons_succ, List.getElem?_cons_zero] <;> rfl)
      case ho00_11 => (simp only [List.getElem?_toArray, List.getElem?_cons_succ, List.getElem?_cons_zero] <;> rfl)
      case step00_7 =>
        go_simp
        have hcall := HCALL.out _ hHeld
        refine hcall.mono ?_
        rintro e w4 ⟨vh, hs, rfl, hq, hok, hal, hb⟩
        clear hcall
        rw [HGO.out.1] at hal
        simp only [HGO.out.2.1, HGO.out.2.2]
        have hln : hs.length = n0 := by rw [hal.len]; exact HGO2.out
        obtain ⟨Q7, k7, x0, x1, hvq, hx, hone⟩ := hd_parts (fl := 0) (hd := hd) hq hln
        subst hvq
        rw [hx]
        have HX := Hd.mk (And.intro hx hone)
        have hB4 : Below w3.heap.size w3 w4 := hHeld.trans (hb.mono hHeld.size)
        have HQ : Hd (Que w4 w.heap.size Z.e Z.m (.slice Q7 n0 k7) hs ∧ (∀ V ∈ hs, V.ok w4 w.heap.size) ∧ Alike Z.is hs (ms.take n0)) := ⟨hq.lower (Nat.le_trans H3.out.be.size hHeld.size), fun V hV => (hok V hV).lower (Nat.le_trans H3.out.be.size hHeld.size), hal⟩
        refine hK.out _ _ hB4 (fun _ => ?_)
        clear hK Kq hHeld hb hq hok hal hln hone
        try simp only [Act.put, List.setIfInBounds_toArray, List.set_cons_zero, List.set_cons_succ]
        have hHeld := hB4
        clear hB4
        refine wpAnyH_take (i := 8) (oi := ?oi501) (v := ?v501) ?hi501 (by kernel_rfl) (by kernel_rfl) (by kernel_rfl) ?hQ501 (Or.inl ⟨?hw501, ?hy501⟩) (by assumption) ?rest501
        case hi501 => simp only [List.getElem?_toArray, List.getElem?_cons_succ, List.getElem?_cons_zero]; rfl
        case hQ501 => exact fun _ _ _ h => h
        case hw501 => rfl
        case hy501 => (intro W hW; go_simp; all_goals rfl)
        simp only [Act.put, List.setIfInBounds_toArray, List.set_cons_zero, List.set_cons_succ]
        refine wpAnyH_take (i := 9) (oi := ?oi502) (v := ?v502) ?hi502 (by kernel_rfl) (by kernel_rfl) (by kernel_rfl) ?hQ502 (Or.inl ⟨?hw502, ?hy502⟩) (by assumption) ?rest502
        case hi502 => simp only [List.getElem?_toArray, List.getElem?_cons_succ, List.getElem?_cons_zero]; rfl
        case hQ502 => exact fun _ _ _ h => h
        case hw502 => rfl
        case hy502 => (intro W hW; go_simp; all_goals rfl)
        simp only [Act.put, List.setIfInBounds_toArray, List.set_cons_zero, List.set_cons_succ]
        refine wpAnyH_take (i := 10) (oi := ?oi503) (v := ?v503) ?hi503 (by kernel_rfl) (by kernel_rfl) (by kernel_rfl) ?hQ503 (Or.inl ⟨?hw503, ?hy503⟩) (by assumption) ?rest503
        case hi503 => simp only [List.getElem?_toArray, List.getElem?_cons_succ, List.getElem?_cons_zero]; rfl
        case hQ503 => exact fun _ _ _ h => h
        case hw503 => rfl
        case hy503 => (intro W hW; go_simp; all_goals rfl)
        simp only [Act.put, List.setIfInBounds_toArray, List.set_cons_zero, List.set_cons_succ]
        refine wpAnyH_ready (rs := [11]) (by kernel_rfl) (by simp) ?_
        refine (AllReadyH.cons (i := 11) (o := ?oo10_11) ?ho10_11 (fun Kq hK => ?step10_11) AllReadyH.nil)
        case ho10_11 => (simp only [List.getElem?_toArray, List.getElem?_cons_succ, List.getElem?_cons_zero] <;> rfl)
        case step10_11 =>
          go_simp
          refine hK.out _ _ (hHeld.alloc hHeld.size _) (fun _ => ?_)
          clear hK Kq
          try simp only [Act.put, List.setIfInBounds_toArray, List.set_cons_zero, List.set_cons_succ]
          obtain ⟨g8, hg8⟩ : ∃ q, w4.heap.size = q := ⟨_, rfl⟩
          obtain ⟨wb, hwa⟩ : ∃ U, w4.alloc (.cells #[.slice none 0 0, .slice none 0 0, .int .i64 0, .int .i64 0] 75) = U := ⟨_, rfl⟩
          have hba : Below w4.heap.size w4 wb := by rw [← hwa]; exact (Below.refl _ _).alloc (Nat.le_refl _) _
          have hg8l : w3.heap.size ≤ g8 := by rw [← hg8]; exact hHeld.size
          have hHeld : Below w3.heap.size w3 wb := hHeld.trans (hba.mono hHeld.size)
          have hZ : wb.heap[g8]? = some (.cells #[.slice none 0 0, .slice none 0 0, .int .i64 0, .int .i64 0] 75 (0, 0)) := by rw [← hwa, ← hg8]; exact heap_alloc_new _ _
          have hzl : g8 < wb.heap.size := by rw [← hwa, ← hg8]; simp
          have HN8 : Hd ((∀ k, (Value.slice Q7 n0 k7).ownBlock = some k → k ∉ [g8]) ∧ ∀ V ∈ hs, V.off [g8]) := ⟨fun k hk => by have := (HQ.out.1.lt hk).2; rw [List.mem_singleton]; omega, fun V hV r hr k hk => by have := ((HQ.out.2.1 V hV).lt hr hk).2; rw [List.mem_singleton]; omega⟩
          have HQ : Hd (Que wb w.heap.size Z.e Z.m (.slice Q7 n0 k7) hs ∧ (∀ V ∈ hs, V.ok wb w.heap.size) ∧ Alike Z.is hs (ms.take n0)) := ⟨HQ.out.1.chg (Chg.of_below (L := []) hba) (by simp), fun V hV => (HQ.out.2.1 V hV).below hba, HQ.out.2.2⟩
          rw [hwa]
          try rw [hg8]
          clear hwa hg8 hba
          refine wpAnyH_ready (rs := [12]) (by kernel_rfl) (by simp) ?_
          refine (AllReadyH.cons (i := 12) (o := ?oo11_12) ?ho11_12 (fun Kq hK => ?step11_12) AllReadyH.nil)
          case ho11_12 => (simp only [List.getElem?_toArray, List.getElem?_cons_succ, List.getElem?_cons_zero] <;> rfl)
          case step11_12 =>
            refine step_boxedT rfl 75 (.tmp 8) (.tmp 37) rfl (g8) #[x0, x1, .int .i64 0, .int .i64 hd] rfl rfl 75 #[.slice none 0 0, .slice none 0 0, .int .i64 0, .int .i64 0] hZ infoHd rfl HX.out.2 (fun w8 HW8 => ?_)
            have HB8 : Hd (Below w3.heap.size w3 w8) := ⟨hHeld.grown HW8.out.2.1 hHeld.size (fun g e => by injection e with e; omega)⟩
            refine hK.out _ _ HB8.out (fun _ => ?_)
            clear hK Kq
            try simp only [Act.put, List.setIfInBounds_toArray, List.set_cons_zero, List.set_cons_succ]
            refine wpAnyH_take (i := 13) (oi := ?oizwb) (v := ?vzwb) ?hizwb (by kernel_rfl) (by kernel_rfl) (by kernel_rfl) ?hQzwb (Or.inl ⟨?hwzwb, ?hyzwb⟩) (by assumption) ?restzwb
            case hizwb => simp only [List.getElem?_toArray, List.getElem?_cons_succ, List.getElem?_cons_zero]; rfl
            case hQzwb => exact fun _ _ _ h => h
            case hwzwb => rfl
            case hyzwb => (intro W hW; go_simp; all_goals rfl)
            simp only [Act.put, List.setIfInBounds_toArray, List.set_cons_zero, List.set_cons_succ]
            refine wpAnyH_done (by kernel_rfl) ?_ _
            (try go_wp2_with fail)
            go_meet
            case rel =>
              have hc8 : Chg [g8] wb w8 := ⟨HW8.out.2.1.os, HW8.out.2.1.tape, HW8.out.2.1.output, HW8.out.2.1.size, fun k hk hm => HW8.out.2.1.block k hk (by simpa using hm)⟩
              exact ⟨rfl, ⟨g8, Q7, k7, hs, x0, x1, rfl, HX.out.1, HW8.out.1, HQ.out.1.chg hc8 HN8.out.1, fun V hV => (HQ.out.2.1 V hV).chg hc8 (HN8.out.2 V hV), HQ.out.2.2⟩, HB8.out⟩
      case step00_11 =>
        go_simp
        refine hK.out _ _ (hHeld.alloc hHeld.size _) (fun _ => ?_)
        clear hK Kq
        try simp only [Act.put, List.setIfInBounds_toArray, List.set_cons_zero, List.set_cons_succ]
        obtain ⟨wa, hwa⟩ : ∃ U, (w3.alloc (.cells #[.slice none 0 0, .slice none 0 0, .int .i64 0, .int .i64 0] 75)).drew = U := ⟨_, rfl⟩
        have hHeld : Below w3.heap.size w3 wa := by rw [← hwa]; exact ((Below.refl _ _).alloc (Nat.le_refl _) _).drew
        have hZ : wa.heap[w3.heap.size]? = some (.cells #[.slice none 0 0, .slice none 0 0, .int .i64 0, .int .i64 0] 75 (0, 0)) := by rw [← hwa]; exact heap_alloc_new _ _
        have hzl : w3.heap.size < wa.heap.size := by rw [← hwa]; simp
        have hg8l : w3.heap.size ≤ w3.heap.size := Nat.le_refl _
        first | rw [hwa] | (change wpAnyH _ _ _ _ _ _ _ _ (w3.alloc (.cells #[.slice none 0 0, .slice none 0 0, .int .i64 0, .int .i64 0] 75)).drew; rw [hwa])
        clear hwa
        refine wpAnyH_ready (rs := [7]) (by kernel_rfl) (by simp) ?_
        refine (AllReadyH.cons (i := 7) (o := ?oo01_7) ?ho01_7 (fun Kq hK => ?step01_7) AllReadyH.nil)
        case ho01_7 => (simp only [List.getElem?_toArray, List.getElem?_cons_succ, List.getElem?_cons_zero] <;> rfl)
        case step01_7 =>
          go_simp
          have hcall := HCALL.out _ hHeld
          refine hcall.mono ?_
          rintro e w4 ⟨vh, hs, rfl, hq, hok, hal, hb⟩
          clear hcall
          rw [HGO.out.1] at hal
          simp only [HGO.out.2.1, HGO.out.2.2]
          have hln : hs.length = n0 := by rw [hal.len]; exact HGO2.out
          obtain ⟨Q7, k7, x0, x1, hvq, hx, hone⟩ := hd_parts (fl := 0) (hd := hd) hq hln
          subst hvq
          rw [hx]
          have HX := Hd.mk (And.intro hx hone)
          have hB4 : Below w3.heap.size w3 w4 := hHeld.trans (hb.mono hHeld.size)
          have HN8 : Hd ((∀ k, (Value.slice Q7 n0 k7).ownBlock = some k → k ∉ [w3.heap.size]) ∧ ∀ V ∈ hs, V.off [w3.heap.size]) := ⟨fun k hk hm => by have := (hq.lt hk).1; rw [List.mem_singleton] at hm; omega, fun V hV r hr k hk hm => by have := ((hok V hV).lt hr hk).1; rw [List.mem_singleton] at hm; omega⟩
          have HQ : Hd (Que w4 w.heap.size Z.e Z.m (.slice Q7 n0 k7) hs ∧ (∀ V ∈ hs, V.ok w4 w.heap.size) ∧ Alike Z.is hs (ms.take n0)) := ⟨hq.lower (Nat.le_trans H3.out.be.size hHeld.size), fun V hV => (hok V hV).lower (Nat.le_trans H3.out.be.size hHeld.size), hal⟩
          have hZ := (hb.block _ hzl).trans hZ
          have hzl := Nat.lt_of_lt_of_le hzl hb.size
          refine hK.out _ _ hB4 (fun _ => ?_)
          clear hK Kq hHeld hb hq hok hal hln hone
          try simp only [Act.put, List.setIfInBounds_toArray, List.set_cons_zero, List.set_cons_succ]
          have hHeld := hB4
          clear hB4
          refine wpAnyH_take (i := 8) (oi := ?oi601) (v := ?v601) ?hi601 (by kernel_rfl) (by kernel_rfl) (by kernel_rfl) ?hQ601 (Or.inl ⟨?hw601, ?hy601⟩) (by assumption) ?rest601
          case hi601 => simp only [List.getElem?_toArray, List.getElem?_cons_succ, List.getElem?_cons_zero]; rfl
          case hQ601 => exact fun _ _ _ h => h
          case hw601 => rfl
          case hy601 => (intro W hW; go_simp; all_goals rfl)
          simp only [Act.put, List.setIfInBounds_toArray, List.set_cons_zero, List.set_cons_succ]
          refine wpAnyH_take (i := 9) (oi := ?oi602) (v := ?v602) ?hi602 (by kernel_rfl) (by kernel_rfl) (by kernel_rfl) ?hQ602 (Or.inl ⟨?hw602, ?hy602⟩) (by assumption) ?rest602
          case hi602 => simp only [List.getElem?_toArray, List.getElem?_cons_succ, List.getElem?_cons_zero]; rfl
          case hQ602 => exact fun _ _ _ h => h
          case hw602 => rfl
          case hy602 => (intro W hW; go_simp; all_goals rfl)
          simp only [Act.put, List.setIfInBounds_toArray, List.set_cons_zero, List.set_cons_succ]
          refine wpAnyH_take (i := 10) (oi := ?oi603) (v := ?v603) ?hi603 (by kernel_rfl) (by kernel_rfl) (by kernel_rfl) ?hQ603 (Or.inl ⟨?hw603, ?hy603⟩) (by assumption) ?rest603
          case hi603 => simp only [List.getElem?_toArray, List.getElem?_cons_succ, List.getElem?_cons_zero]; rfl
          case hQ603 => exact fun _ _ _ h => h
          case hw603 => rfl
          case hy603 => (intro W hW; go_simp; all_goals rfl)
          simp only [Act.put, List.setIfInBounds_toArray, List.set_cons_zero, List.set_cons_succ]
          refine wpAnyH_ready (rs := [12]) (by kernel_rfl) (by simp) ?_
          refine (AllReadyH.cons (i := 12) (o := ?oo11_12) ?ho11_12 (fun Kq hK => ?step11_12) AllReadyH.nil)
          case ho11_12 => (simp only [List.getElem?_toArray, List.getElem?_cons_succ, List.getElem?_cons_zero] <;> rfl)
          case step11_12 =>
            refine step_boxedT rfl 75 (.tmp 8) (.tmp 37) rfl (w3.heap.size) #[x0, x1, .int .i64 0, .int .i64 hd] rfl rfl 75 #[.slice none 0 0, .slice none 0 0, .int .i64 0, .int .i64 0] hZ infoHd rfl HX.out.2 (fun w8 HW8 => ?_)
            have HB8 : Hd (Below w3.heap.size w3 w8) := ⟨hHeld.grown HW8.out.2.1 hHeld.size (fun g e => by injection e with e; omega)⟩
            refine hK.out _ _ HB8.out (fun _ => ?_)
            clear hK Kq
            try simp only [Act.put, List.setIfInBounds_toArray, List.set_cons_zero, List.set_cons_succ]
            refine wpAnyH_take (i := 13) (oi := ?oizw4) (v := ?vzw4) ?hizw4 (by kernel_rfl) (by kernel_rfl) (by kernel_rfl) ?hQzw4 (Or.inl ⟨?hwzw4, ?hyzw4⟩) (by assumption) ?restzw4
            case hizw4 => simp only [List.getElem?_toArray, List.getElem?_cons_succ, List.getElem?_cons_zero]; rfl
            case hQzw4 => exact fun _ _ _ h => h
            case hwzw4 => rfl
            case hyzw4 => (intro W hW; go_simp; all_goals rfl)
            simp only [Act.put, List.setIfInBounds_toArray, List.set_cons_zero, List.set_cons_succ]
            refine wpAnyH_done (by kernel_rfl) ?_ _
            (try go_wp2_with fail)
            go_meet
            case rel =>
              have hc8 : Chg [w3.heap.size] w4 w8 := ⟨HW8.out.2.1.os, HW8.out.2.1.tape, HW8.out.2.1.output, HW8.out.2.1.size, fun k hk hm => HW8.out.2.1.block k hk (by simpa using hm)⟩
              exact ⟨rfl, ⟨w3.heap.size, Q7, k7, hs, x0, x1, rfl, HX.out.1, HW8.out.1, HQ.out.1.chg hc8 HN8.out.1, fun V hV => (HQ.out.2.1 V hV).chg hc8 (HN8.out.2 V hV), HQ.out.2.2⟩, HB8.out⟩
    case rest =>
      obtain ⟨hr7, hE⟩ := hcut
      subst hr7
      obtain ⟨g8, Q7, k7, hs, x0, x1, hp, hx, hbx, hq, hok, hal8⟩ := hE.ex
      subst hp
      obtain ⟨w5, hw5⟩ : ∃ U : World, U = wc := ⟨_, rfl⟩
      subst hw5
      have H5 : Hd (Va w w5 g1 l ∧ Que w5 w.heap.size Z.e Z.m (.slice Q7 n0 k7) hs ∧ (∀ V ∈ hs, V.ok w5 w.heap.size) ∧ Alike Z.is hs (ms.take n0) ∧ w5.heap[g8]? = some (.cells #[x0, x1, .int .i64 0, .int .i64 hd] 75)) := ⟨H3.out.below hE.be, hq, hok, hal8, hbx⟩
      have HX := Hd.mk hx
      have HROW : Hd (Rd w5 w3.heap.size Ae le (endsC cont ms le)) := ⟨HE3.out.below hE.be⟩
      have hcc : ∀ W, Below w5.heap.size w5 W → W.cell? ⟨g1, 0, none⟩ = some (.bool t) ∧ W.cell? ⟨g1, 1, none⟩ = some (.slice A1 n1 c1) ∧ W.cell? ⟨g1, 2, none⟩ = some (.slice A2 n2 c2) ∧ W.cell? ⟨g1, 3, none⟩ = some (.slice A3 n3 c3) ∧ W.cell? ⟨g8, 0, none⟩ = some x0 ∧ W.cell? ⟨g8, 1, none⟩ = some x1 ∧ W.cell? ⟨g8, 2, none⟩ = some (.int .i64 0) ∧ W.cell? ⟨g8, 3, none⟩ = some (.int .i64 hd) := fun W hW => by
        have e8 : W.heap[g8]? = _ := (hW.block g8 (Array.getElem?_eq_some_iff.1 H5.out.2.2.2.2).1).trans H5.out.2.2.2.2
        have hS := H5.out.1.below hW
        refine ⟨hS.at_ 0 (by rw [HH.out.2.1]; rfl), hS.at_ 1 (by rw [HH.out.2.1]; rfl), hS.at_ 2 (by rw [HH.out.2.1]; rfl), hS.at_ 3 (by rw [HH.out.2.1]; rfl), ?_, ?_, ?_, ?_⟩ <;> (rw [cell_of_row W g8 _ _ _ (0, 0) e8]; rfl)
      have HCC5 := Hd.mk hcc
      clear hcc hE hx hbx hq hok hal8 HCC HCUT HCALL HGO HGO2 H3 HE3
      go_wp2_with fail
      go_loopw [9, 10] (fun u9 u10 wr => ∃ i : Nat, u9 = .int .i64 (i : Int) ∧ u10 = .int .i64 ((preF cont ms i).length : Int) ∧ i ≤ le ∧ (preF cont ms i).length ≤ a ∧ wr = w5) (fun u9 _ _ => le - (intOf u9).toNat)
      case atStart => exact ⟨0, rfl, rfl, Nat.zero_le _, Nat.zero_le _, rfl⟩
      case round =>
        obtain ⟨i, rfl, rfl, hi, hpi, hw⟩ := hrel
        obtain ⟨lw, hlw⟩ : ∃ q, (preF cont ms i).length = q := ⟨_, rfl⟩
        rw [hlw] at hpi ⊢
        have HLW := Hd.mk hlw
        subst hw
        clear hlw
        by_cases hgo : i < le ∧ (preF cont ms (i + 1)).length ≤ a
        · have hki : (i : Int) < (le : Int) := by omega
          obtain ⟨ln, hln⟩ : ∃ q, (preF cont ms (i + 1)).length = q := ⟨_, rfl⟩
          have hla : (ln : Int) ≤ (a : Int) := by omega
          obtain ⟨ge, oe, hAe, hge, hce⟩ := HROW.out.2 (by omega)
          subst hAe
          have dc : wr.cell? ⟨ge, oe + i, none⟩ = some (.int .i64 (ln : Int)) := by rw [hce i hgo.1, endsC_get hgo.1, hln]
          have HLN := Hd.mk (And.intro hln hgo)
          clear hce hge hgo hln
          go_wp2_with fail
          go_roundw
          case rel => exact ⟨i + 1, by go_num, by rw [HLN.out.1], HLN.out.2.1, HLN.out.2.2, (by first | rfl | trivial)⟩
          case measure => simp [intOf]; have := HLN.out.2.1; omega
        · have hin : i = n0 := ends_one HN0.out.1 HN0.out.2.1 HN0.out.2.2.1 (by rw [HR.out.2.2]; exact hi) (by rw [HLW.out]; exact hpi) (fun h => by
            rw [HR.out.2.2] at h
            have := hgo
            by_cases hh : (preF cont ms (i + 1)).length ≤ a
            · exact absurd ⟨h, hh⟩ this
            · omega)
          have HNG := Hd.mk (And.intro hgo hin)
          go_upto_region 12 with fail
          go_cut [50] from 39 to 56 (fun r wx => r = .bool false ∧ wx = wr)
          case first =>
            by_cases h : i < le
            · have hki : (i : Int) < (le : Int) := by omega
              obtain ⟨ln, hln⟩ : ∃ q, (preF cont ms (i + 1)).length = q := ⟨_, rfl⟩
              have hla : ¬ (ln : Int) ≤ (a : Int) := by have := hgo; intro hh; exact this ⟨h, by omega⟩
              have hd2 : decide ((ln : Int) ≤ (a : Int)) = false := decide_eq_false hla
              obtain ⟨ge, oe, hAe, hge, hce⟩ := HROW.out.2 (by omega)
              subst hAe
              have dc : wr.cell? ⟨ge, oe + i, none⟩ = some (.int .i64 (ln : Int)) := by rw [hce i h, endsC_get h, hln]
              have hdN : decide (ln ≤ a) = false := decide_eq_false (by omega)
              clear hgo h hla hce hge hln hin
              go_wp2_with fail
              go_meet
              case rel => first | exact ⟨rfl, rfl⟩ | exact ⟨congrArg Value.bool hdN, rfl⟩ | exact ⟨congrArg Value.bool hd2, rfl⟩
            · have hki : ¬ (i : Int) < (le : Int) := by omega
              clear hgo h hin
              go_wp2_with fail
              go_meet
              case rel => exact ⟨rfl, rfl⟩
          case rest =>
            obtain ⟨hr50, hwc⟩ := hcut
            subst hr50
            rw [hwc]
            clear hwc hgo
            subst hin
            obtain ⟨e0, e1, e2, e3, f0, f1, f2, f3⟩ := HCC5.out wr (Below.refl _ wr)
            go_wp2_with fail
            have hcall := HH.out.1.first wr H5.out.1.be x0 x1 Q7 i k7 0 hd hs HX.out H5.out.2.1 H5.out.2.2.1 H5.out.2.2.2.1 HN0.out.1
            refine hcall.mono ?_
            rintro e w6 ⟨rfl, hb6⟩
            clear hcall e0 e1 e2 e3 f0 f1 f2 f3
            obtain ⟨e0, e1, e2, e3, f0, f1, f2, f3⟩ := HCC5.out w6 hb6
            have HB6 := Hd.mk (H5.out.1.be.trans (hb6.mono H5.out.1.be.size))
            have hsub : IntKind.i64.wrap ((a : Int) - (lw : Int)) = hd := by
              rw [HN0.out.2.2.2, HLW.out, IntKind.wrap_i64]; omega
            clear hb6
            go_wp2_with fail
            go_ret
            exact ⟨rfl, HB6.out⟩
  · go_wp2_with fail
    go_ret
    exact ⟨rfl, H1.out.be⟩
end Go.Proofs.Ytbcmjjcbjojakaa
end
section
/- The walk of WireEnds for both kinds. -/
namespace Go.Proofs.Ytbcmjjcbjojakaa
open Go.RowKit
set_option linter.unusedVariables false
theorem ends_walk (w : World) (t : Bool) (A1 A2 A3 : Option Addr) (n1 c1 n2 c2 n3 c3 : Nat) (rs : List Rq) (ys : List An) (h1 : Lst RqA w w.heap.size 8 A1 n1 rs) (h2 : Lst AnA w w.heap.size 15 A2 n2 ys) (hn1 : n1 ≤ 1466015503701) (hn2 : n2 ≤ 1466015503701) (cuts : List Int) (hcu : Rd w w.heap.size A3 n3 (cuts.map (.int .i64))) (hci : ∀ k ∈ cuts, I64 k) (hn3 : n3 ≤ 140737488355328) (at_ : Int) (hat : (Lit.int .i64 at_).wf = true) :
    Calls Try.prog 12 #[.agg #[.bool t, .slice A1 n1 c1, .slice A2 n2 c2, .slice A3 n3 c3], .int .i64 at_] w fun e w' => e = .returned (.bool true) ∧ Below w.heap.size w w' := by
  have ha : I64 at_ := by simpa [I64, Lit.wf, IntKind.min, IntKind.max, IntKind.signed, IntKind.bits] using hat
  cases t with
  | false => exact ends_gen askK rqC (rs.map fitP) w false rfl A1 A2 A3 n1 c1 n2 c2 n3 c3 (tl_ask h1 h2 hn1 hn2) cuts hcu hci hn3 at_ ha
  | true => exact ends_gen telK anC (ys.map fitAnP) w true rfl A1 A2 A3 n1 c1 n2 c2 n3 c3 (tl_tel h1 h2 hn1 hn2) cuts hcu hci hn3 at_ ha
end Go.Proofs.Ytbcmjjcbjojakaa
end
section
/- An argument of the laws' type Talk. -/
namespace Go.Proofs.Ytbcmjjcbjojakaa
open Go.ChangeShapes Go.WideShapes Go.ChangeAt Go.RowKit
set_option linter.unusedVariables false
section
variable {H : Type} {enc : TypeId × Value → H} {w : World} {base : Nat} {held : Bool}
theorem cells_talk : Try.prog.cellsOf 95 = 4 := by kernel_rfl
theorem cells_rqs : Try.prog.cellsOf 55 = 1 := by kernel_rfl
theorem cells_ans : Try.prog.cellsOf 56 = 1 := by kernel_rfl
theorem cells_ints : Try.prog.cellsOf 73 = 1 := by kernel_rfl
set_option maxRecDepth 8000 in
theorem open_talk {fuel : Nat} {cs : List Value} {x : DataW H × List MemPlace} (h : DataW.trod enc Try.prog w base (fun _ => true) held fuel 95 cs = some x) (hw : ∀ m ∈ x.1.weights Try.prog 95, m ≤ 140737488351232) :
    ∃ (t : Bool) (A1 : Option Addr) (n1 c1 : Nat) (rs : List Rq) (A2 : Option Addr) (n2 c2 : Nat) (ys : List An) (A3 : Option Addr) (n3 c3 : Nat) (cuts : List Int), cs = [.bool t, .slice A1 n1 c1, .slice A2 n2 c2, .slice A3 n3 c3] ∧
      Lst RqA w w.heap.size 8 A1 n1 rs ∧ Lst AnA w w.heap.size 15 A2 n2 ys ∧ n1 ≤ 1466015503701 ∧ n2 ≤ 1466015503701 ∧ Rd w w.heap.size A3 n3 (cuts.map (.int .i64)) ∧ (∀ k ∈ cuts, I64 k) ∧ n3 ≤ 140737488355328 := by
  obtain ⟨xs, m, rfl, hxe, hlen, hl, hf⟩ := DataW.trod_struct Try.underlying95 h
  rw [cells_talk] at hlen
  obtain ⟨v0, v1, v2, v3, rfl⟩ : ∃ v0 v1 v2 v3, cs = [v0, v1, v2, v3] := by
    match cs, hlen with
    | [a, b, c, d], _ => exact ⟨a, b, c, d, rfl⟩
  obtain ⟨y0, h0⟩ := get_some xs 4 0 hl (by omega)
  obtain ⟨y1, h1⟩ := get_some xs 4 1 hl (by omega)
  obtain ⟨y2, h2⟩ := get_some xs 4 2 hl (by omega)
  obtain ⟨y3, h3⟩ := get_some xs 4 3 hl (by omega)
  have g0 := fld hf 0 4 0 rfl rfl rfl
  have g1 := fld hf 1 55 1 rfl rfl rfl
  have g2 := fld hf 2 56 2 rfl rfl rfl
  have g3 := fld hf 3 73 3 rfl rfl rfl
  rw [cells_bool] at g0
  rw [cells_rqs] at g1
  rw [cells_ans] at g2
  rw [cells_ints] at g3
  have hwx : ∀ (j : Nat) (t : TypeId) (y : DataW H × List MemPlace), xs[j]? = some y → ([4, 55, 56, 73] : List TypeId)[j]? = some t → ∀ m ∈ y.1.weights Try.prog t, m ≤ 140737488351232 := fun j t y hj ht m hm => by
    refine hw m ?_
    rw [hxe]
    simp only [DataW.weights, Try.underlying95]
    exact DataW.weights_mem_each (j := j) (t := t) (d := y.1) ht (by rw [List.getElem?_map, hj]; rfl) m hm
  obtain ⟨t, rfl⟩ := open_flag Try.underlying4 (part_of g0 (cs2 := [v0]) rfl h0)
  obtain ⟨A1, n1, c1, rs, e1, l1, L1, b1⟩ := open_list (Q := RqA) Try.underlying55 cells_rq (by omega) open_rqA (part_of g1 (cs2 := [v1]) rfl h1) (hwx 1 _ y1 h1 rfl)
  obtain ⟨A2, n2, c2, ys, e2, l2, L2, b2⟩ := open_list (Q := AnA) Try.underlying56 cells_an (by omega) open_anA (part_of g2 (cs2 := [v2]) rfl h2) (hwx 2 _ y2 h2 rfl)
  obtain rfl := (List.cons.inj e1).1
  obtain rfl := (List.cons.inj e2).1
  rw [show Try.prog.bytesOf 28 = 96 by kernel_rfl] at b1
  rw [show Try.prog.bytesOf 43 = 176 by kernel_rfl] at b2
  obtain ⟨A3, n3, c3, cuts, rfl, hc, hk, hn⟩ : ∃ (A3 : Option Addr) (n3 c3 : Nat) (cuts : List Int), v3 = .slice A3 n3 c3 ∧ Rd w w.heap.size A3 n3 (cuts.map (.int .i64)) ∧ (∀ k ∈ cuts, I64 k) ∧ n3 ≤ 140737488355328 := by
    rcases open_ints Try.underlying73 Try.underlying3 cells_int (part_of g3 (cs2 := [v3]) rfl h3) with ⟨hcs, _⟩ | ⟨x3, l, c, zs, hcs, _, hl', hm, hz, hx, hcell, hwz⟩
    · obtain rfl := (List.cons.inj hcs).1
      exact ⟨none, 0, 0, [], rfl, Rd.nil, (fun y hy => absurd hy List.not_mem_nil), by omega⟩
    · obtain rfl := (List.cons.inj hcs).1
      have hrow : IsRow .i64 w (some x3) l c zs := .inr ⟨_, rfl, hl', hm, by simpa using hz, hcell, hwz⟩
      refine ⟨some x3, l, c, zs.take l, rfl, hrow.rd, fun k hk => ?_, ?_⟩
      · have := hrow.wf k (List.mem_of_mem_take hk)
        simpa [I64, Lit.wf, IntKind.min, IntKind.max, IntKind.signed, IntKind.bits] using this
      · have h8 := hwx 3 _ y3 h3 rfl (c * 8) (by
          rw [hx]
          simp only [DataW.weights, Try.underlying73, List.mem_cons]
          left
          rw [show Try.prog.bytesOf 3 = 8 by kernel_rfl]
          have : zs.length = c := by simpa using hz
          have e : (lits (H := H) .i64 (zs.take l)).length + (lits (H := H) .i64 (zs.drop l)).length = c := by simp only [lits, List.length_map, List.length_take, List.length_drop]; omega
          rw [e])
        omega
  exact ⟨t, A1, n1, c1, rs, A2, n2, c2, ys, A3, n3, c3, cuts, rfl, L1, L2, by omega, by omega, hc, hk, hn⟩
end
end Go.Proofs.Ytbcmjjcbjojakaa
end
section
/- What is of bulk at most 1048576 weighs little. -/
namespace Go.Proofs.Ytbcmjjcbjojakaa
open Go.ChangeShapes Go.WideShapes Go.ChangeAt Go.RowKit
set_option linter.unusedVariables false
/-- From a type of the table only types of the table are reached, and none is greater than K bytes. -/
def stepOk (P : Program) (K : Nat) (t : TypeId) : Bool :=
  match P.underlying t with
  | some (.pointer e) => decide (e < P.types.size)
  | some (.slice e) => decide (e < P.types.size) && decide (P.bytesOf e ≤ K)
  | some (.struct fs) => fs.all fun f => decide (f.type < P.types.size)
  | some (.array _ e) => decide (e < P.types.size)
  | some (.map k e) => decide (e < P.types.size) && decide (P.bytesOf k + P.bytesOf e ≤ 2 * K)
  | _ => true
section
variable {H : Type} {P : Program} {K : Nat}
theorem bulk_lenE : ∀ (l : List (Lit × DataW H)), l.length ≤ Rows.uptoBulkEntries l
  | [] => by simp [Rows.uptoBulkEntries]
  | x :: r => by
    have h := bulk_lenE r
    have hp : 1 ≤ Rows.uptoBulkEntry x := by
      obtain ⟨k, d⟩ := x
      cases k <;> simp [Rows.uptoBulkEntry]
    simp only [Rows.uptoBulkEntries, List.length_cons]; omega
mutual
theorem weigh (hK : ∀ t, t < P.types.size → stepOk P K t = true) : ∀ (d : DataW H) (t : TypeId) (m : Nat), t < P.types.size → m ∈ d.weights P t → m ≤ Rows.uptoBulk d * (2 * K + 1)
  | .lit (.string bytes), t, m, ht, h => by
    simp only [DataW.weights, List.mem_singleton] at h
    simp only [Rows.uptoBulk]
    subst h
    rw [Nat.mul_add, Nat.mul_one]; omega
  | .lit (.bool _), t, m, ht, h => by simp [DataW.weights] at h
  | .lit (.int _ _), t, m, ht, h => by simp [DataW.weights] at h
  | .lit (.float _ _), t, m, ht, h => by simp [DataW.weights] at h
  | .nil, t, m, ht, h => by simp [DataW.weights] at h
  | .held _, t, m, ht, h => by simp [DataW.weights] at h
  | .iface _ _, t, m, ht, h => by simp [DataW.weights] at h
  | .ptr d, t, m, ht, h => by
    simp only [DataW.weights] at h
    split at h
    · rename_i e he
      have hs := hK t ht
      unfold stepOk at hs
      rw [he] at hs
      have := weigh hK d _ m (of_decide_eq_true hs) h
      simp only [Rows.uptoBulk]
      exact Nat.le_trans this (Nat.mul_le_mul_right _ (Nat.le_succ _))
    · simp at h
  | .slice elems spare, t, m, ht, h => by
    simp only [DataW.weights] at h
    simp only [Rows.uptoBulk]
    split at h
    · rename_i e he
      have hs := hK t ht
      unfold stepOk at hs
      rw [he] at hs
      simp only [Bool.and_eq_true, decide_eq_true_eq] at hs
      rcases List.mem_cons.1 h with h1 | h1
      · have l1 := bulk_len elems
        have l2 := bulk_len spare
        subst h1
        have a : (elems.length + spare.length) * P.bytesOf e ≤ (elems.length + spare.length) * (2 * K + 1) := Nat.mul_le_mul_left _ (by have := hs.2; omega)
        exact Nat.le_trans a (Nat.mul_le_mul_right _ (by omega))
      · rcases List.mem_append.1 h1 with h2 | h2
        · exact Nat.le_trans (weighAll hK elems _ m hs.1 h2) (Nat.mul_le_mul_right _ (by omega))
        · exact Nat.le_trans (weighAll hK spare _ m hs.1 h2) (Nat.mul_le_mul_right _ (by omega))
    · simp at h
  | .agg parts, t, m, ht, h => by
    simp only [DataW.weights] at h
    simp only [Rows.uptoBulk]
    split at h
    · rename_i fs he
      have hs := hK t ht
      unfold stepOk at hs
      rw [he] at hs
      refine Nat.le_trans (weighEach hK parts _ m (fun u hu => ?_) h) (Nat.mul_le_mul_right _ (by omega))
      obtain ⟨f, hf, rfl⟩ := List.mem_map.1 hu
      exact of_decide_eq_true (Array.all_eq_true'.1 hs f (by simpa using hf))
    · rename_i e he
      have hs := hK t ht
      unfold stepOk at hs
      rw [he] at hs
      exact Nat.le_trans (weighAll hK parts _ m (of_decide_eq_true hs) h) (Nat.mul_le_mul_right _ (by omega))
    · simp at h
  | .map entries, t, m, ht, h => by
    simp only [DataW.weights] at h
    simp only [Rows.uptoBulk]
    split at h
    · rename_i k e he
      have hs := hK t ht
      unfold stepOk at hs
      rw [he] at hs
      simp only [Bool.and_eq_true, decide_eq_true_eq] at hs
      rcases List.mem_cons.1 h with h1 | h1
      · have l1 := bulk_lenE entries
        subst h1
        have a : entries.length * (P.bytesOf k + P.bytesOf e) ≤ entries.length * (2 * K + 1) := Nat.mul_le_mul_left _ (by have := hs.2; omega)
        exact Nat.le_trans a (Nat.mul_le_mul_right _ (by omega))
      · exact Nat.le_trans (weighEntries hK entries _ m hs.1 h1) (Nat.mul_le_mul_right _ (by omega))
    · simp at h
theorem weighAll (hK : ∀ t, t < P.types.size → stepOk P K t = true) : ∀ (l : List (DataW H)) (e : TypeId) (m : Nat), e < P.types.size → m ∈ DataW.weightsAll P e l → m ≤ Rows.uptoBulkAll l * (2 * K + 1)
  | [], e, m, ht, h => by simp [DataW.weightsAll] at h
  | d :: r, e, m, ht, h => by
    simp only [DataW.weightsAll, List.mem_append] at h
    simp only [Rows.uptoBulkAll]
    rcases h with h1 | h1
    · exact Nat.le_trans (weigh hK d e m ht h1) (Nat.mul_le_mul_right _ (by omega))
    · exact Nat.le_trans (weighAll hK r e m ht h1) (Nat.mul_le_mul_right _ (by omega))
theorem weighEach (hK : ∀ t, t < P.types.size → stepOk P K t = true) : ∀ (l : List (DataW H)) (ts : List TypeId) (m : Nat), (∀ t ∈ ts, t < P.types.size) → m ∈ DataW.weightsEach P ts l → m ≤ Rows.uptoBulkAll l * (2 * K + 1)
  | [], ts, m, ht, h => by cases ts <;> simp [DataW.weightsEach] at h
  | d :: r, [], m, ht, h => by simp [DataW.weightsEach] at h
  | d :: r, t :: ts, m, ht, h => by
    simp only [DataW.weightsEach, List.mem_append] at h
    simp only [Rows.uptoBulkAll]
    rcases h with h1 | h1
    · exact Nat.le_trans (weigh hK d t m (ht t (List.mem_cons_self ..)) h1) (Nat.mul_le_mul_right _ (by omega))
    · exact Nat.le_trans (weighEach hK r ts m (fun u hu => ht u (List.mem_cons_of_mem _ hu)) h1) (Nat.mul_le_mul_right _ (by omega))
theorem weighEntries (hK : ∀ t, t < P.types.size → stepOk P K t = true) : ∀ (l : List (Lit × DataW H)) (e : TypeId) (m : Nat), e < P.types.size → m ∈ DataW.weightsEntries P e l → m ≤ Rows.uptoBulkEntries l * (2 * K + 1)
  | [], e, m, ht, h => by simp [DataW.weightsEntries] at h
  | x :: r, e, m, ht, h => by
    simp only [DataW.weightsEntries, List.mem_append] at h
    simp only [Rows.uptoBulkEntries]
    rcases h with h1 | h1
    · exact Nat.le_trans (weighEntry hK x e m ht h1) (Nat.mul_le_mul_right _ (by omega))
    · exact Nat.le_trans (weighEntries hK r e m ht h1) (Nat.mul_le_mul_right _ (by omega))
theorem weighEntry (hK : ∀ t, t < P.types.size → stepOk P K t = true) : ∀ (x : Lit × DataW H) (e : TypeId) (m : Nat), e < P.types.size → m ∈ DataW.weightsEntry P e x → m ≤ Rows.uptoBulkEntry x * (2 * K + 1)
  | (.string bytes, d), e, m, ht, h => by
    simp only [DataW.weightsEntry, List.mem_cons] at h
    simp only [Rows.uptoBulkEntry]
    rcases h with h1 | h1
    · subst h1
      refine Nat.le_trans ?_ (Nat.mul_le_mul_right (2 * K + 1) (show bytes.length ≤ bytes.length + Rows.uptoBulk d + 1 by omega))
      exact Nat.le_mul_of_pos_right _ (by omega)
    · exact Nat.le_trans (weigh hK d e m ht h1) (Nat.mul_le_mul_right _ (by omega))
  | (.bool _, d), e, m, ht, h => by
    simp only [DataW.weightsEntry] at h
    simp only [Rows.uptoBulkEntry]
    exact Nat.le_trans (weigh hK d e m ht h) (Nat.mul_le_mul_right _ (by omega))
  | (.int _ _, d), e, m, ht, h => by
    simp only [DataW.weightsEntry] at h
    simp only [Rows.uptoBulkEntry]
    exact Nat.le_trans (weigh hK d e m ht h) (Nat.mul_le_mul_right _ (by omega))
  | (.nil, d), e, m, ht, h => by
    simp only [DataW.weightsEntry] at h
    simp only [Rows.uptoBulkEntry]
    exact Nat.le_trans (weigh hK d e m ht h) (Nat.mul_le_mul_right _ (by omega))
  | (.float _ _, d), e, m, ht, h => by
    simp only [DataW.weightsEntry] at h
    simp only [Rows.uptoBulkEntry]
    exact Nat.le_trans (weigh hK d e m ht h) (Nat.mul_le_mul_right _ (by omega))
end
end
set_option maxRecDepth 100000 in
theorem steps_all : (List.range Try.prog.types.size).all (fun t => stepOk Try.prog 1024 t) = true := by kernel_rfl
theorem steps_ok (t : TypeId) (h : t < Try.prog.types.size) : stepOk Try.prog 1024 t = true := List.all_eq_true.1 steps_all t (List.mem_range.2 h)
/-- What weighs at the second form. -/
theorem weigh_upto {H : Type} {ds : List (DataW H)} {i : Nat} {d : DataW H} {t : TypeId} (ht : t < Try.prog.types.size) (hk : Rows.uptoSmall H ds = true) (hd : ds[i]? = some d) : ∀ m ∈ d.weights Try.prog t, m ≤ 140737488351232 := fun m hm => by
  have hb : Rows.uptoBulkAll ds ≤ 1048576 := of_decide_eq_true hk
  have h1 := bulk_part hd
  have h2 := weigh steps_ok d t m ht hm
  have h3 : Rows.uptoBulk d * (2 * 1024 + 1) ≤ 1048576 * (2 * 1024 + 1) := Nat.mul_le_mul_right _ (by omega)
  omega
end Go.Proofs.Ytbcmjjcbjojakaa
end
