/- Put together of: StrmF FormWalk FormEnd. -/
import Derived.Test.YtbcmjjcbjojakaaMgB
import Derived.Test.YtbcmjjcbjojakaaMgA
import Derived.Test.YtbcmjjcbjojakaaMgC
import Derived.Test.YtbcmjjcbjojakaaTellC
import Derived.Test.YtbcmjjcbjojakaaArgs
section
/- Plain: what a stream's messages are written as is the stream, ahead of what is held. -/
namespace Go.Proofs.Ytbcmjjcbjojakaa
open Go.RowKit
set_option linter.unusedVariables false
theorem seg_all {b : List Nat} {i n j : Nat} (k : Nat) (hj : i + n = j) : seg b i n ++ seg b j k = seg b i (n + k) := by
  subst hj
  unfold seg
  rw [List.take_add, List.drop_drop]
theorem seg_zero (b : List Nat) (n : Nat) : seg b 0 n = b.take n := rfl
theorem seg_len' {b : List Nat} {i n : Nat} (h : i + n ≤ b.length) : (seg b i n).length = n := by
  unfold seg; rw [List.length_take, List.length_drop]; omega
theorem seg_byte {b : List Nat} (hb : ∀ x ∈ b, x < 256) (i n : Nat) : ∀ x ∈ seg b i n, x < 256 := fun x hx => hb x (List.mem_of_mem_drop (List.mem_of_mem_take hx))
theorem seg_fx {b : List Nat} {i n : Nat} (hb : ∀ x ∈ b, x < 256) (h : i + n ≤ b.length) : seg b i n = fx n (le256 (seg b i n)) := by
  have := fx_le256 (seg b i n) (seg_byte hb i n)
  rw [seg_len' h] at this
  exact this.symm
theorem le_one {b : List Nat} (h : 1 ≤ b.length) : le256 (seg b 0 1) = b.getD 0 0 := by
  rcases b with _ | ⟨x, b⟩
  · simp at h
  · simp [seg, le256]
theorem le_two {b : List Nat} (h : 3 ≤ b.length) : le256 (seg b 1 2) = ckN b := by
  rcases b with _ | ⟨x, _ | ⟨y, _ | ⟨z, b⟩⟩⟩ <;> simp at h
  simp [seg, le256, ckN]
/-- The bytes of a chunk that stands. -/
theorem ck_bytes {s k : Nat} {b : List Nat} {l : Bool} {n : Nat} (hb : ∀ x ∈ b, x < 256) (h : ckP s k b = .ok l n) :
    b.take (n + 11) = (fx 1 (if l = true then 2 else 1) ++ fx 2 n) ++ fx 4 (Crc.more 0 (fx 1 (if l = true then 2 else 1) ++ fx 2 n)) ++ seg b 7 n ++ fx 4 (Crc.more s (seg b 7 n)) := by
  obtain ⟨h1, h2, h3, h4, h5, h6, h7, h8, h9⟩ := ckP_ok h
  have e0 : fx 1 (if l = true then 2 else 1) = seg b 0 1 := by
    rw [seg_fx hb (by omega), le_one (by omega)]
    have h5' : ¬ ckOdd k b := fun hh => by rw [h5] at hh; exact hh
    unfold ckOdd at h5'
    by_cases hd : b.getD 0 0 = 2
    · rw [h6, hd]; rfl
    · rw [h6]
      have : b.getD 0 0 = 1 := by omega
      rw [this]; rfl
  have e1 : fx 2 n = seg b 1 2 := by rw [seg_fx hb (by omega), le_two (by omega), ← h4]
  have e3 : b.take 3 = seg b 0 1 ++ seg b 1 2 := by rw [seg_all 2 rfl]; rfl
  have e4 : fx 4 (Crc.more 0 (b.take 3)) = seg b 3 4 := by rw [h7]; exact (seg_fx hb (by omega)).symm
  have e5 : fx 4 (Crc.more s (seg b 7 n)) = seg b (7 + n) 4 := by rw [h8]; exact (seg_fx hb (by omega)).symm
  rw [e0, e1, ← e3, e4, e5, e3, seg_all 2 rfl, seg_all 4 rfl, seg_all n rfl, seg_all 4 (by omega)]
  rw [← seg_zero]; congr 1; omega
theorem fmF_fuel : ∀ (f g s : Nat) (c : List Nat), c.length ≤ f → c.length ≤ g → fmF f s c = fmF g s c
  | 0, g, s, c, h1, _ => by
    have : c = [] := List.eq_nil_of_length_eq_zero (by omega)
    subst this; rw [fmF_nil, fmF_nil]
  | f + 1, 0, s, c, _, h2 => by
    have : c = [] := List.eq_nil_of_length_eq_zero (by omega)
    subst this; rw [fmF_nil, fmF_nil]
  | f + 1, g + 1, s, c, h1, h2 => by
    by_cases hc : 0 < c.length
    · rw [fmF_step f s c hc, fmF_step g s c hc, fmF_fuel f g _ _ (by rw [List.length_drop]; omega) (by rw [List.length_drop]; omega)]
    · have : c = [] := List.eq_nil_of_length_eq_zero (by omega)
      subst this; rw [fmF_nil, fmF_nil]
/-- P are the bytes of the message under way. -/
def Pend (m : Mid) (P : List Nat) : Prop := P.length = m.p ∧ ∀ c', 0 < c'.length → formP (m.c ++ c') = P ++ fmF c'.length m.s c'
theorem Pend.zero : Pend mid0 [] := ⟨rfl, fun c' _ => rfl⟩
theorem Pend.more {m : Mid} {P b : List Nat} {n : Nat} (h : Pend m P) (hb : ∀ x ∈ b, x < 256) (hc : ckP m.s m.k b = .ok false n) : Pend (m.next b n) (P ++ b.take (n + 11)) := by
  have h1 := (ckP_ok hc).1
  have hn := ((ckP_ok hc).2.2.2.2.2.2.2.2 rfl).2.1
  have hl : (seg b 7 n).length = n := seg_len' (by omega)
  refine ⟨by rw [List.length_append, h.1, List.length_take]; unfold Mid.next; simp only; omega, fun c' h0 => ?_⟩
  have e1 : (m.next b n).c ++ c' = m.c ++ (seg b 7 n ++ c') := by unfold Mid.next; simp only [List.append_assoc]
  have hlc : (seg b 7 n ++ c').length = n + c'.length := by rw [List.length_append, hl]
  rw [e1, h.2 _ (by omega), hlc]
  obtain ⟨f, hf⟩ : ∃ f, n + c'.length = f + 1 := ⟨n + c'.length - 1, by omega⟩
  rw [hf, fmF_step _ _ _ (by omega)]
  have e2 : min (seg b 7 n ++ c').length 16384 = n := by omega
  have e3 : (seg b 7 n ++ c').take n = seg b 7 n := List.take_left' hl
  have e4 : (seg b 7 n ++ c').drop n = c' := List.drop_left' hl
  have e5 : hd3 (seg b 7 n ++ c') = fx 1 1 ++ fx 2 n := by unfold hd3; rw [e2, if_neg (by omega)]
  have e6 : chk m.s (seg b 7 n ++ c') = b.take (n + 11) := by
    rw [ck_bytes hb hc]; unfold chk; rw [e5, e2, e3]; rfl
  rw [e6, e2, e3, e4, fmF_fuel f c'.length _ _ (by omega) (Nat.le_refl _), List.append_assoc]
  rfl
theorem Pend.last {m : Mid} {P b : List Nat} {n : Nat} (h : Pend m P) (hb : ∀ x ∈ b, x < 256) (hc : ckP m.s m.k b = .ok true n) : formP (m.next b n).c = P ++ b.take (n + 11) := by
  have h1 := (ckP_ok hc).1
  have h0 := (ckP_ok hc).2.1
  have hn := (ckP_ok hc).2.2.1
  have hl : (seg b 7 n).length = n := seg_len' (by omega)
  have e1 : (m.next b n).c = m.c ++ seg b 7 n := rfl
  rw [e1, h.2 _ (by omega), hl]
  obtain ⟨f, hf⟩ : ∃ f, n = f + 1 := ⟨n - 1, by omega⟩
  have e2 : min (seg b 7 n).length 16384 = n := by omega
  have e3 : (seg b 7 n).take n = seg b 7 n := List.take_of_length_le (by omega)
  have e4 : (seg b 7 n).drop n = [] := List.drop_eq_nil_of_le (by omega)
  have e5 : hd3 (seg b 7 n) = fx 1 2 ++ fx 2 n := by unfold hd3; rw [e2, if_pos (by omega)]
  have e6 : chk m.s (seg b 7 n) = b.take (n + 11) := by
    rw [ck_bytes hb hc]; unfold chk; rw [e5, e2, e3]; rfl
  have e7 : fmF n m.s (seg b 7 n) = b.take (n + 11) := by
    conv => lhs; arg 1; rw [hf]
    rw [fmF_step _ _ _ (by omega), e6, e2, e3, e4, fmF_nil, List.append_nil]
  rw [e7]
section
variable {M : Type} {rd : List Nat → Option M} {cont : M → List Nat}
/-- The messages' forms are the bytes, ahead of those that are held. -/
theorem go_form (hrd : ∀ c x, (∀ y ∈ c, y < 256) → rd c = some x → c = cont x) : ∀ (m : Mid) (b : List Nat), ∀ P, Pend m P → (∀ y ∈ m.c, y < 256) → (∀ y ∈ b, y < 256) →
    ∃ P', P ++ b = (go rd m b).ms.flatMap (fun x => formP (cont x)) ++ (P' ++ (go rd m b).rest) ∧ ((go rd m b).fl = 0 → Pend (go rd m b).mid P') := by
  refine go_ind (rd := rd) ?_ ?_ ?_ ?_ ?_
  · intro m b h P hP _ _
    rw [go_wait h]
    exact ⟨P, by simp, fun _ => hP⟩
  · intro m b e h P hP _ _
    have he := ckP_bad h
    rw [go_bad h]
    exact ⟨P, by simp, fun h0 => absurd h0 (by simp only; omega)⟩
  · intro m b n h ih P hP hc hb
    rw [go_more h]
    obtain ⟨P', h1, h2⟩ := ih (P ++ b.take (n + 11)) (hP.more hb h) (fun y hy => (List.mem_append.1 hy).elim (hc y) (seg_byte hb 7 n y)) (fun y hy => hb y (List.mem_of_mem_drop hy))
    refine ⟨P', ?_, h2⟩
    rw [← h1, List.append_assoc, List.take_append_drop]
  · intro m b n h hr P hP hc hb
    rw [go_none h hr]
    exact ⟨P ++ b.take (n + 11), by simp, fun h0 => absurd h0 (by simp only; omega)⟩
  · intro m b n x h hr ih P hP hc hb
    rw [go_some h hr]
    obtain ⟨P', h1, h2⟩ := ih [] Pend.zero (by intro y hy; cases hy) (fun y hy => hb y (List.mem_of_mem_drop hy))
    have hx : (m.next b n).c = cont x := hrd (m.next b n).c x (fun y hy => (List.mem_append.1 hy).elim (hc y) (seg_byte hb 7 n y)) hr
    have hf := hP.last hb h
    rw [hx] at hf
    refine ⟨P', ?_, h2⟩
    unfold Out.pre
    simp only [List.flatMap_cons]
    rw [hf, List.append_assoc, List.append_assoc, ← h1, List.nil_append, List.take_append_drop]
end
end Go.Proofs.Ytbcmjjcbjojakaa
end
section
/- The walk of WireForm: it returns true. (tools/formwgen.py prints it.) -/
namespace Go.Proofs.Ytbcmjjcbjojakaa
open Go.RowKit
set_option linter.unusedVariables false
set_option linter.unusedSimpArgs false
/-- Each message that is told was a content. -/
theorem go_from {M : Type} {rd : List Nat → Option M} (bs : List Nat) (hb : ∀ y ∈ bs, y < 256) : ∀ x ∈ (go rd mid0 bs).ms, ∃ c, (∀ y ∈ c, y < 256) ∧ rd c = some x := by
  have : ∀ (m : Mid) (b : List Nat), (∀ y ∈ m.c, y < 256) → (∀ y ∈ b, y < 256) → ∀ x ∈ (go rd m b).ms, ∃ c, (∀ y ∈ c, y < 256) ∧ rd c = some x := by
    refine go_ind (rd := rd) ?_ ?_ ?_ ?_ ?_
    · intro m b h _ _ x hx; rw [go_wait h] at hx; cases hx
    · intro m b e h _ _ x hx; rw [go_bad h] at hx; cases hx
    · intro m b n h ih h1 h2 x hx
      rw [go_more h] at hx
      exact ih (fun y hy => (List.mem_append.1 hy).elim (h1 y) (seg_lt h2 7 n y)) (fun y hy => h2 y (List.mem_of_mem_drop hy)) x hx
    · intro m b n h hr _ _ x hx; rw [go_none h hr] at hx; cases hx
    · intro m b n z h hr ih h1 h2 x hx
      rw [go_some h hr] at hx
      rcases List.mem_cons.1 hx with e | e
      · rw [e]; exact ⟨_, fun y hy => (List.mem_append.1 hy).elim (h1 y) (seg_lt h2 7 n y), hr⟩
      · exact ih (by intro y hy; cases hy) (fun y hy => h2 y (List.mem_of_mem_drop hy)) x e
  exact this mid0 bs (by intro y hy; cases hy) hb
/-- The forms of the first so many messages. -/
def preF {M : Type} (cont : M → List Nat) (ms : List M) (i : Nat) : List Nat := (ms.take i).flatMap fun x => formP (cont x)
theorem preF_next {M : Type} {cont : M → List Nat} {ms : List M} {i : Nat} {x : M} (h : ms[i]? = some x) : preF cont ms (i + 1) = preF cont ms i ++ formP (cont x) := by
  unfold preF
  rw [List.take_add_one, h, List.flatMap_append]
  simp
theorem preF_len {M : Type} (cont : M → List Nat) (ms : List M) (i : Nat) : (preF cont ms i).length ≤ (preF cont ms ms.length).length := by
  unfold preF
  conv => rhs; rw [List.take_length, ← List.take_append_drop i ms, List.flatMap_append, List.length_append]
  omega
/-- What WireForm says of the bytes. -/
theorem form_law {T : Type} (Z : Kd T) (cont : T → List Nat) (hrd : ∀ c x, (∀ y ∈ c, y < 256) → Z.rd c = some x → c = cont x) (bs : List Nat) (hb : ∀ y ∈ bs, y < 256) (ms : List T) (hms : (go Z.rd mid0 bs).ms = ms) :
    (preF cont ms ms.length).length ≤ bs.length ∧ bs.take (preF cont ms ms.length).length = preF cont ms ms.length ∧ ((go Z.rd mid0 bs).fl = 0 → heldN (go Z.rd mid0 bs) = bs.length - (preF cont ms ms.length).length) := by
  obtain ⟨P, h1, h2⟩ := go_form hrd mid0 bs [] Pend.zero (by intro y hy; cases hy) hb
  rw [List.nil_append, hms] at h1
  have e : preF cont ms ms.length = ms.flatMap fun x => formP (cont x) := by unfold preF; rw [List.take_length]
  rw [e]
  have hl := congrArg List.length h1
  rw [List.length_append, List.length_append] at hl
  refine ⟨by omega, ?_, fun h0 => ?_⟩
  · conv => lhs; rw [h1]
    rw [List.take_left' rfl]
  · have := (h2 h0).1
    unfold heldN
    rw [if_pos h0]; omega
set_option maxRecDepth 20000 in
set_option maxHeartbeats 8000000 in
theorem form_ask (w : World) (A : Option Addr) (n c : Nat) (bs : List Nat) (hr : Rd w w.heap.size A n (cb bs)) (hb : ∀ x ∈ bs, x < 256) (hnc : n ≤ c) (hn : n ≤ 34359738368) :
    Calls Try.prog 11 #[.slice A n c, .bool false] w fun e w' => e = .returned (.bool true) ∧ Below w.heap.size w w' := by
  have hbl : bs.length = n := by have := hr.1; rwa [cb_length] at this
  have HR : Hd (Rd w w.heap.size A n (cb bs) ∧ (∀ x ∈ bs, x < 256) ∧ n ≤ c ∧ bs.length = n) := ⟨hr, hb, hnc, hbl⟩
  clear hr hb hnc hbl
  go_enter Try.func11, Try.ntmps11
  go_wp2_with fail
  refine (awake_any w).mono ?_
  rintro e w1 ⟨rfl, hb1⟩
  have H1 := Hd.mk hb1
  clear hb1
  go_wp2_with fail
  refine (hear_any askK msgLaw_ask drainLaw_ask readerLaw_ask nine_ask w1 A n c bs ((HR.out.1.below H1.out).more H1.out.size) HR.out.2.1 HR.out.2.2.1 hn none 0 0 [] Rd.nil (by simp) (by omega) false).mono ?_
  rintro e w2 ⟨vh1, hs1, rfl, hq1, hok1, hal1, hb2⟩
  obtain ⟨ms, hms⟩ : ∃ q, (go (askK).rd mid0 bs).ms = q := ⟨_, rfl⟩
  have hlaw := form_law askK rqC (fun c x hb h => (rdRq_form c x hb h).1) bs HR.out.2.1 ms hms
  have hfrom := go_from (rd := (askK).rd) bs HR.out.2.1
  have hml := go_len20 nine_ask mid0 bs (by intro y hy; cases hy) HR.out.2.1
  rw [hms] at hal1 hfrom hml
  obtain ⟨fl, hfl⟩ : ∃ q, (go (askK).rd mid0 bs).fl = q := ⟨_, rfl⟩
  obtain ⟨hd, hhd⟩ : ∃ q : Nat, heldN (go (askK).rd mid0 bs) = q := ⟨_, rfl⟩
  rw [hfl, hhd] at hlaw ⊢
  have hone1 := hd_one (ans := false) (fl := fl) (held := (hd : Int)) hq1.one
  have H2 := Hd.mk (And.intro hq1 (And.intro hok1 (And.intro hal1 (And.intro (H1.out.trans (hb2.mono H1.out.size)) hone1))))
  have HLW := Hd.mk (And.intro hlaw hfrom)
  obtain ⟨lh, hlh⟩ : ∃ l, ms.length = l := ⟨_, rfl⟩
  have hlb : lh ≤ 34359738368 := by have e0 : mid0.c.length = 0 := rfl; have := HR.out.2.2.2; omega
  have HL := Hd.mk hlh
  clear hq1 hok1 hal1 hb2 hone1 hfl hhd hms hlaw hfrom hml hlh
  go_upto_region 4 with (refine at_store (x := .tmp 5) ?_; refine wpList_boxed rfl 75 (.tmp 5) (.tmp 20) rfl w2.heap.size rfl (hdC false vh1 fl (hd : Int)) rfl rfl infoHd rfl H2.out.2.2.2.2 ?_; intro w3 hB3)
  obtain ⟨g5, hg5⟩ : ∃ q, w2.heap.size = q := ⟨_, rfl⟩
  rw [hg5] at hB3 ⊢
  have H3 : Hd (w3.heap[g5]? = some (.cells (hdC false vh1 fl (hd : Int)) 75) ∧ Que w3 w1.heap.size (askK).e (askK).m vh1 hs1 ∧ (∀ V ∈ hs1, V.ok w3 w1.heap.size) ∧ Alike (askK).is hs1 ms ∧ Below w.heap.size w w3) := by
    have b3 : Below w2.heap.size w2 w3 := by rw [hg5]; exact hB3.out.2.1
    exact ⟨⟨hB3.out.1, H2.out.1.chg (Chg.of_below (L := []) b3) (by simp), fun V hV => (H2.out.2.1 V hV).below b3, H2.out.2.2.1, H2.out.2.2.2.1.trans (b3.mono H2.out.2.2.2.1.size)⟩⟩
  obtain ⟨Q5, k5, hv5, _⟩ := H3.out.2.1.form
  rw [H3.out.2.2.2.1.len, HL.out] at hv5
  clear hB3 hg5 H2
  subst hv5
  have HCC : Hd (∀ W, Below w3.heap.size w3 W → W.cell? ⟨g5, 0, none⟩ = some (.slice Q5 lh k5) ∧ W.cell? ⟨g5, 1, none⟩ = some (.slice none 0 0) ∧ W.cell? ⟨g5, 2, none⟩ = some (.int .i64 fl) ∧ W.cell? ⟨g5, 3, none⟩ = some (.int .i64 (hd : Int))) := ⟨fun W hW => by
    have e5 : W.heap[g5]? = _ := (hW.block g5 (Array.getElem?_eq_some_iff.1 H3.out.1).1).trans H3.out.1
    refine ⟨?_, ?_, ?_, ?_⟩ <;> (rw [cell_of_row W g5 _ _ _ (0, 0) e5]; rfl)⟩
  go_wp2_with fail
  go_loopw [7, 8] (fun u7 u8 wr => ∃ i : Nat, u8 = .int .i64 (i : Int) ∧ i ≤ lh ∧ Below w3.heap.size w3 wr ∧ wr.ownsRow w3.heap.size 5 1 u7 (preF rqC ms i).length (cb (preF rqC ms i))) (fun _ u8 _ => lh - (intOf u8).toNat)
  case atStart => exact ⟨0, rfl, by omega, Below.refl _ w3, World.ownsRow_nil ..⟩
  case round =>
    obtain ⟨i, rfl, hi, hbl, hown⟩ := hrel
    have HB := Hd.mk (And.intro hbl hown)
    obtain ⟨c50, c51, c52, c53⟩ := HCC.out wr hbl
    obtain ⟨AO, cO, hvO, _⟩ := own_form hown
    obtain ⟨lO, hlO⟩ : ∃ l, (preF rqC ms i).length = l := ⟨_, rfl⟩
    have HLO := Hd.mk hlO
    rw [hlO] at hvO
    clear hbl hown hlO
    subst hvO
    by_cases hlt : i < lh
    · have hki : (i : Int) < (lh : Int) := by omega
      have HLT := Hd.mk hlt
      obtain ⟨V1, hV1⟩ : ∃ V, hs1[i]? = some V := ⟨_, List.getElem?_eq_getElem (by rw [H3.out.2.2.2.1.len, HL.out]; exact hlt)⟩
      obtain ⟨x1, hx1, hi1⟩ := H3.out.2.2.2.1.nth hV1
      obtain ⟨q7, o7, k7', hq7, _, hl7, hr7⟩ := H3.out.2.1.nth hV1
      have hok1 := H3.out.2.2.1 V1 (List.mem_of_getElem? hV1)
      injection hq7 with hq7 hj1 hj2
      clear hj1 hj2
      subst hq7
      obtain ⟨vb1, hv1⟩ : ∃ vb, V1 = rqW x1 vb := hi1
      subst hv1
      have ho1 := hok1 _ (List.mem_singleton.2 rfl)
      obtain ⟨Ab1, cb1, hf1, hnb, _⟩ := own_form ho1
      simp only at hf1
      subst hf1
      have HRL : Hd (wr.rangeAt q7 (o7 + i * 8) (rqW x1 (.slice Ab1 (cb x1.body).length cb1)).cells) := ⟨fun j v hv => (HB.out.1.cell (p := ⟨q7, _, none⟩) hl7).trans (hr7 j v hv)⟩
      obtain ⟨cc, hcb, hcr⟩ := HLW.out.2 x1 (List.mem_of_getElem? hx1)
      have hfm := rdRq_form cc x1 hcb hcr
      have HOK : Hd (Rd wr wr.heap.size Ab1 (cb x1.body).length (cb x1.body) ∧ RqB x1 ∧ (cb x1.body).length ≤ cb1 ∧ askP x1 = (formP (rqC x1), 0)) := ⟨((Rd.of_own ho1).below HB.out.1).more HB.out.1.size, hfm.2.2.2, hnb, by unfold askP; rw [if_pos hfm.2.1, if_pos hfm.2.2.1]⟩
      have HX := Hd.mk hx1
      clear hr7 hok1 hV1 hl7 ho1 hnb hcb hcr hfm
      go_upto_region 10 with fail
      go_wp2_with (refine at_load (x := .tmp 35) ?_; refine wpList_load_mid rfl 28 (.tmp 35) rfl q7 (o7 + i * 8) rfl (rqW x1 (.slice Ab1 (cb x1.body).length cb1)).cells _ HRL.out Try.underlying28 rfl infoRq8 ?_)
      refine (ask_any wr x1 Ab1 _ cb1 HOK.out.1 HOK.out.2.1 HOK.out.2.2.1).mono ?_
      rintro e w4 ⟨v4, rfl, hO⟩
      rw [HOK.out.2.2.2] at hO ⊢
      simp only at hO
      have hOb := hO.below (fun k h => by cases h) (Nat.le_refl wr.heap.size)
      obtain ⟨A4, c4, hv4, _⟩ := own_form hO.own
      subst hv4
      have H4 : Hd (Below w3.heap.size w3 w4 ∧ w4.ownsRow w3.heap.size 5 1 (.slice AO lO cO) lO (cb (preF rqC ms i)) ∧ Rd w4 w4.heap.size A4 (formP (rqC x1)).length (cb (formP (rqC x1)))) := ⟨HB.out.1.trans (hOb.mono HB.out.1.size), own_below' (by have := HB.out.2; rw [HLO.out] at this; exact this) hOb, Rd.of_own hO.own⟩
      obtain ⟨l4, hl4⟩ : ∃ l, (formP (rqC x1)).length = l := ⟨_, rfl⟩
      have hsum : lO + l4 ≤ 34359738368 := by
        have h1 := preF_len rqC ms (i + 1)
        rw [preF_next hx1, List.length_append, hl4, HLO.out] at h1
        have h2 := HLW.out.1.1
        have h3 := HR.out.2.2.2
        omega
      have HL4 := Hd.mk hl4
      rw [hl4] at H4 ⊢
      clear hO hOb hl4 c50 c51 c52 c53
      go_wp2_with (at_builtin; refine wpList_app elB rfl (.tmp 42) (.tmp 43) rfl w3.heap.size (.slice AO lO cO) lO (cb (preF rqC ms i)) rfl H4.out.2.1 w4.heap.size A4 l4 c4 (cb (formP (rqC x1))) rfl H4.out.2.2 (cb_one _) (by unfold maxLen; omega) (by omega) H4.out.1.size ?_; intro v5 w5 hO5; have H5 := Hd.mk hO5; clear hO5)
      go_roundw
      case rel =>
        have h5 := H5.out.own
        have hb5 : Below w3.heap.size w4 w5 := H5.out.below (fun k hk => (H4.out.2.1.lt k hk).1) H4.out.1.size
        refine ⟨i + 1, by go_num, Nat.succ_le_of_lt HLT.out, H4.out.1.trans hb5, ?_⟩
        rw [preF_next HX.out, List.length_append, HL4.out, HLO.out]
        unfold cb at h5 ⊢
        rw [List.map_append]
        exact h5
      case measure => simp [intOf]; have := HLT.out; omega
    · have hki : ¬ (i : Int) < (lh : Int) := by omega
      have hil : i = ms.length := by have := HL.out; omega
      have HP : Hd (lO ≤ n ∧ bs.take lO = preF rqC ms i ∧ (fl = 0 → hd = n - lO)) := ⟨by have := HLW.out.1; rw [← hil, HLO.out, HR.out.2.2.2] at this; exact this⟩
      clear hil
      go_wp2_with fail
      clear c50 c51 c52 c53
      obtain ⟨wo, hwo⟩ : ∃ wo, wo = wr := ⟨_, rfl⟩
      subst hwo
      have HO := HB
      clear HB
      go_loopw [7, 11] (fun u7 u wr => u7 = .slice AO lO cO ∧ u = .int .i64 0 ∧ Below wo.heap.size wo wr) (fun _ u _ => 0)
      case atStart => exact ⟨rfl, rfl, Below.refl _ wo⟩
      case round =>
        obtain ⟨rfl, rfl, hbl⟩ := hrel
        have hb3 : Below w3.heap.size w3 wr := HO.out.1.trans (hbl.mono HO.out.1.size)
        obtain ⟨c50, c51, c52, c53⟩ := HCC.out wr hb3
        have HB : Hd (Below w3.heap.size w3 wr ∧ wr.ownsRow w3.heap.size 5 1 (.slice AO lO cO) lO (cb (preF rqC ms i))) := ⟨hb3, own_below' (by have := HO.out.2; rw [HLO.out] at this; exact this) hbl⟩
        clear hbl hb3 HO
        go_upto_region 21 with fail
        have hgt : ¬ (n : Int) < (lO : Int) := by have := HP.out.1; omega
        have hle : (lO : Int) ≤ (n : Int) := by omega
        obtain ⟨S, hS⟩ : ∃ S, bstr (preF rqC ms i) = S := ⟨_, rfl⟩
        have hcut : ∀ W, (Instr.slice 26 (.slice A n c) none (some (.int .i64 (lO : Int))) none).run Try.prog W = .ok (.slice A lO c) W := fun W => run_cut_to elB A n c lO (by have := HR.out.2.2.1; omega)
        have f1 : ∀ k, (convert 26 9 (.slice A lO c)).run Try.prog (wr.drewN k) = .ok (.string S) (wr.drewN k) := fun k => by
          rw [← hS, ← HP.out.2.1]
          have h1 : Rd (wr.drewN k) w.heap.size A lO (cb (bs.take lO)) := by
            have h2 := (HR.out.1.below (H3.out.2.2.2.2.trans (HB.out.1.mono H3.out.2.2.2.2.size))).take HP.out.1
            rw [cb_take] at h2
            exact h2
          exact conv_any h1
        have f2 : ∀ k, (convert 26 9 (.slice AO lO cO)).run Try.prog (wr.drewN k) = .ok (.string S) (wr.drewN k) := fun k => by
          rw [← hS]
          have h1 : Rd (wr.drewN k) wr.heap.size AO lO (cb (preF rqC ms i)) := Rd.of_own HB.out.2
          exact conv_any h1
        clear hS
        have HW : Hd (Below w.heap.size w wr) := ⟨H3.out.2.2.2.2.trans (HB.out.1.mono H3.out.2.2.2.2.size)⟩
        go_quiet (fail)
        by_cases hf : fl = 0
        · have hhd := HP.out.2.2 hf
          have hsub : IntKind.i64.wrap ((n : Int) - (lO : Int)) = (hd : Int) := by rw [IntKind.wrap_i64]; omega
          have hsub2 : wrap64 ((n : Int) - (lO : Int)) = (hd : Int) := by unfold wrap64; omega
          clear hhd
          subst hf
          go_wp2_with fail
          go_ret
          exact ⟨by first | rfl | (congr 1; simp; done), ⟨HW.out.os, HW.out.tape, HW.out.output, HW.out.size, HW.out.block⟩⟩
        · have hfb : (fl == 0) = false := beq_eq_false_iff_ne.2 hf
          go_wp2_with fail
          go_ret
          exact ⟨by first | rfl | (congr 1; simp; done), ⟨HW.out.os, HW.out.tape, HW.out.output, HW.out.size, HW.out.block⟩⟩
set_option maxRecDepth 20000 in
set_option maxHeartbeats 8000000 in
theorem form_tel (w : World) (A : Option Addr) (n c : Nat) (bs : List Nat) (hr : Rd w w.heap.size A n (cb bs)) (hb : ∀ x ∈ bs, x < 256) (hnc : n ≤ c) (hn : n ≤ 34359738368) :
    Calls Try.prog 11 #[.slice A n c, .bool true] w fun e w' => e = .returned (.bool true) ∧ Below w.heap.size w w' := by
  have hbl : bs.length = n := by have := hr.1; rwa [cb_length] at this
  have HR : Hd (Rd w w.heap.size A n (cb bs) ∧ (∀ x ∈ bs, x < 256) ∧ n ≤ c ∧ bs.length = n) := ⟨hr, hb, hnc, hbl⟩
  clear hr hb hnc hbl
  go_enter Try.func11, Try.ntmps11
  go_wp2_with fail
  refine (awake_any w).mono ?_
  rintro e w1 ⟨rfl, hb1⟩
  have H1 := Hd.mk hb1
  clear hb1
  go_wp2_with fail
  refine (hear_any telK msgLaw_tel drainLaw_tel readerLaw_tel nine_tel w1 A n c bs ((HR.out.1.below H1.out).more H1.out.size) HR.out.2.1 HR.out.2.2.1 hn none 0 0 [] Rd.nil (by simp) (by omega) false).mono ?_
  rintro e w2 ⟨vh1, hs1, rfl, hq1, hok1, hal1, hb2⟩
  obtain ⟨ms, hms⟩ : ∃ q, (go (telK).rd mid0 bs).ms = q := ⟨_, rfl⟩
  have hlaw := form_law telK anC (fun c x hb h => (rdAn_form c x hb h).1) bs HR.out.2.1 ms hms
  have hfrom := go_from (rd := (telK).rd) bs HR.out.2.1
  have hml := go_len20 nine_tel mid0 bs (by intro y hy; cases hy) HR.out.2.1
  rw [hms] at hal1 hfrom hml
  obtain ⟨fl, hfl⟩ : ∃ q, (go (telK).rd mid0 bs).fl = q := ⟨_, rfl⟩
  obtain ⟨hd, hhd⟩ : ∃ q : Nat, heldN (go (telK).rd mid0 bs) = q := ⟨_, rfl⟩
  rw [hfl, hhd] at hlaw ⊢
  have hone1 := hd_one (ans := true) (fl := fl) (held := (hd : Int)) hq1.one
  have H2 := Hd.mk (And.intro hq1 (And.intro hok1 (And.intro hal1 (And.intro (H1.out.trans (hb2.mono H1.out.size)) hone1))))
  have HLW := Hd.mk (And.intro hlaw hfrom)
  obtain ⟨lh, hlh⟩ : ∃ l, ms.length = l := ⟨_, rfl⟩
  have hlb : lh ≤ 34359738368 := by have e0 : mid0.c.length = 0 := rfl; have := HR.out.2.2.2; omega
  have HL := Hd.mk hlh
  clear hq1 hok1 hal1 hb2 hone1 hfl hhd hms hlaw hfrom hml hlh
  go_upto_region 4 with (refine at_store (x := .tmp 5) ?_; refine wpList_boxed rfl 75 (.tmp 5) (.tmp 20) rfl w2.heap.size rfl (hdC true vh1 fl (hd : Int)) rfl rfl infoHd rfl H2.out.2.2.2.2 ?_; intro w3 hB3)
  obtain ⟨g5, hg5⟩ : ∃ q, w2.heap.size = q := ⟨_, rfl⟩
  rw [hg5] at hB3 ⊢
  have H3 : Hd (w3.heap[g5]? = some (.cells (hdC true vh1 fl (hd : Int)) 75) ∧ Que w3 w1.heap.size (telK).e (telK).m vh1 hs1 ∧ (∀ V ∈ hs1, V.ok w3 w1.heap.size) ∧ Alike (telK).is hs1 ms ∧ Below w.heap.size w w3) := by
    have b3 : Below w2.heap.size w2 w3 := by rw [hg5]; exact hB3.out.2.1
    exact ⟨⟨hB3.out.1, H2.out.1.chg (Chg.of_below (L := []) b3) (by simp), fun V hV => (H2.out.2.1 V hV).below b3, H2.out.2.2.1, H2.out.2.2.2.1.trans (b3.mono H2.out.2.2.2.1.size)⟩⟩
  obtain ⟨Q5, k5, hv5, _⟩ := H3.out.2.1.form
  rw [H3.out.2.2.2.1.len, HL.out] at hv5
  clear hB3 hg5 H2
  subst hv5
  have HCC : Hd (∀ W, Below w3.heap.size w3 W → W.cell? ⟨g5, 0, none⟩ = some (.slice none 0 0) ∧ W.cell? ⟨g5, 1, none⟩ = some (.slice Q5 lh k5) ∧ W.cell? ⟨g5, 2, none⟩ = some (.int .i64 fl) ∧ W.cell? ⟨g5, 3, none⟩ = some (.int .i64 (hd : Int))) := ⟨fun W hW => by
    have e5 : W.heap[g5]? = _ := (hW.block g5 (Array.getElem?_eq_some_iff.1 H3.out.1).1).trans H3.out.1
    refine ⟨?_, ?_, ?_, ?_⟩ <;> (rw [cell_of_row W g5 _ _ _ (0, 0) e5]; rfl)⟩
  go_wp2_with fail
  go_loopw [7, 8] (fun u7 u wr => u7 = .slice none 0 0 ∧ u = .int .i64 0 ∧ Below w3.heap.size w3 wr) (fun _ u _ => 0)
  case atStart => exact ⟨rfl, rfl, Below.refl _ w3⟩
  case round =>
    obtain ⟨rfl, rfl, hbl⟩ := hrel
    have HB := Hd.mk hbl
    obtain ⟨c50, c51, c52, c53⟩ := HCC.out wr hbl
    clear hbl
    go_wp2_with fail
    clear c50 c51 c52 c53
    obtain ⟨wo, hwo⟩ : ∃ wo, wo = wr := ⟨_, rfl⟩
    subst hwo
    have HO := HB
    clear HB
    go_loopw [7, 11] (fun u7 u8 wr => ∃ i : Nat, u8 = .int .i64 (i : Int) ∧ i ≤ lh ∧ Below w3.heap.size w3 wr ∧ wr.ownsRow w3.heap.size 5 1 u7 (preF anC ms i).length (cb (preF anC ms i))) (fun _ u8 _ => lh - (intOf u8).toNat)
    case atStart => exact ⟨0, rfl, by omega, HO.out, World.ownsRow_nil ..⟩
    case round =>
      obtain ⟨i, rfl, hi, hbl, hown⟩ := hrel
      have HB := Hd.mk (And.intro hbl hown)
      obtain ⟨c50, c51, c52, c53⟩ := HCC.out wr hbl
      obtain ⟨AO, cO, hvO, _⟩ := own_form hown
      obtain ⟨lO, hlO⟩ : ∃ l, (preF anC ms i).length = l := ⟨_, rfl⟩
      have HLO := Hd.mk hlO
      rw [hlO] at hvO
      clear hbl hown hlO
      subst hvO
      by_cases hlt : i < lh
      · have hki : (i : Int) < (lh : Int) := by omega
        have HLT := Hd.mk hlt
        obtain ⟨V1, hV1⟩ : ∃ V, hs1[i]? = some V := ⟨_, List.getElem?_eq_getElem (by rw [H3.out.2.2.2.1.len, HL.out]; exact hlt)⟩
        obtain ⟨x1, hx1, hi1⟩ := H3.out.2.2.2.1.nth hV1
        obtain ⟨q7, o7, k7', hq7, _, hl7, hr7⟩ := H3.out.2.1.nth hV1
        have hok1 := H3.out.2.2.1 V1 (List.mem_of_getElem? hV1)
        injection hq7 with hq7 hj1 hj2
        clear hj1 hj2
        subst hq7
        obtain ⟨va1, va2, va3, hv1⟩ : ∃ v1 v2 v3, V1 = anW x1 v1 v2 v3 := hi1
        subst hv1
        have ho1 := hok1 _ (show _ ∈ (anW x1 va1 va2 va3).rows from List.mem_cons_self)
        have ho2 := hok1 _ (show _ ∈ (anW x1 va1 va2 va3).rows from List.mem_cons_of_mem _ List.mem_cons_self)
        have ho3 := hok1 _ (show _ ∈ (anW x1 va1 va2 va3).rows from List.mem_cons_of_mem _ (List.mem_cons_of_mem _ List.mem_cons_self))
        obtain ⟨P1, d1, hf1, _⟩ := own_form ho1
        obtain ⟨P2, d2, hf2, _⟩ := own_form ho2
        obtain ⟨P3, d3, hf3, _⟩ := own_form ho3
        simp only at hf1 hf2 hf3
        subst hf1 hf2 hf3
        have HRL : Hd (wr.rangeAt q7 (o7 + i * 15) (anW x1 (.slice P1 (cb x1.body).length d1) (.slice P2 (cs x1.keys).length d2) (.slice P3 (cs x1.groups).length d3)).cells) := ⟨fun j v hv => (HB.out.1.cell (p := ⟨q7, _, none⟩) hl7).trans (hr7 j v hv)⟩
        obtain ⟨cc, hcb, hcr⟩ := HLW.out.2 x1 (List.mem_of_getElem? hx1)
        have hfm := rdAn_form cc x1 hcb hcr
        have hk1 : (cs x1.keys).length ≤ 8796093022000 := by rw [cs_len]; have := hfm.2.2.1.2.1.1; split at this <;> omega
        have hk2 : (cs x1.groups).length ≤ 8796093022000 := by rw [cs_len]; have := hfm.2.2.1.2.2.1.1; omega
        have hq1 : -9223372036854775808 ≤ x1.kind ∧ x1.kind ≤ 9223372036854775807 := ⟨by have := hfm.2.1.1; omega, by have := hfm.2.1.2.1; omega⟩
        have hq2 : -9223372036854775808 ≤ x1.code ∧ x1.code ≤ 9223372036854775807 := ⟨by have := hfm.2.1.2.2.1; omega, by have := hfm.2.1.2.2.2.1; omega⟩
        have HOK : Hd ((Rd wr wr.heap.size P1 (cb x1.body).length (cb x1.body) ∧ Rd wr wr.heap.size P2 (cs x1.keys).length (cs x1.keys) ∧ Rd wr wr.heap.size P3 (cs x1.groups).length (cs x1.groups)) ∧ AnB x1 ∧ ((cs x1.keys).length ≤ 8796093022000 ∧ (cs x1.groups).length ≤ 8796093022000 ∧ (-9223372036854775808 ≤ x1.kind ∧ x1.kind ≤ 9223372036854775807) ∧ (-9223372036854775808 ≤ x1.code ∧ x1.code ≤ 9223372036854775807)) ∧ tellP x1 = (formP (anC x1), 0)) := ⟨⟨((Rd.of_own ho1).below HB.out.1).more HB.out.1.size, ((Rd.of_own ho2).below HB.out.1).more HB.out.1.size, ((Rd.of_own ho3).below HB.out.1).more HB.out.1.size⟩, hfm.2.2.2, ⟨hk1, hk2, hq1, hq2⟩, by unfold tellP; rw [if_pos hfm.2.1, if_pos hfm.2.2.1]⟩
        have HX := Hd.mk hx1
        clear hr7 hok1 hV1 hl7 ho1 ho2 ho3 hcb hcr hfm hk1 hk2 hq1 hq2
        go_upto_region 17 with fail
        go_wp2_with (refine at_load (x := .tmp 56) ?_; refine wpList_load_mid rfl 43 (.tmp 56) rfl q7 (o7 + i * 15) rfl (anW x1 (.slice P1 (cb x1.body).length d1) (.slice P2 (cs x1.keys).length d2) (.slice P3 (cs x1.groups).length d3)).cells _ HRL.out Try.underlying43 rfl infoAn15 ?_)
        refine (tell_any wr x1 P1 P2 P3 _ d1 _ d2 _ d3 HOK.out.1.1 HOK.out.1.2.1 HOK.out.1.2.2 HOK.out.2.1 HOK.out.2.2.1.1 HOK.out.2.2.1.2.1 HOK.out.2.2.1.2.2.1 HOK.out.2.2.1.2.2.2).mono ?_
        rintro e w4 ⟨v4, rfl, hO⟩
        rw [HOK.out.2.2.2] at hO ⊢
        simp only at hO
        have hOb := hO.below (fun k h => by cases h) (Nat.le_refl wr.heap.size)
        obtain ⟨A4, c4, hv4, _⟩ := own_form hO.own
        subst hv4
        have H4 : Hd (Below w3.heap.size w3 w4 ∧ w4.ownsRow w3.heap.size 5 1 (.slice AO lO cO) lO (cb (preF anC ms i)) ∧ Rd w4 w4.heap.size A4 (formP (anC x1)).length (cb (formP (anC x1)))) := ⟨HB.out.1.trans (hOb.mono HB.out.1.size), own_below' (by have := HB.out.2; rw [HLO.out] at this; exact this) hOb, Rd.of_own hO.own⟩
        obtain ⟨l4, hl4⟩ : ∃ l, (formP (anC x1)).length = l := ⟨_, rfl⟩
        have hsum : lO + l4 ≤ 34359738368 := by
          have h1 := preF_len anC ms (i + 1)
          rw [preF_next hx1, List.length_append, hl4, HLO.out] at h1
          have h2 := HLW.out.1.1
          have h3 := HR.out.2.2.2
          omega
        have HL4 := Hd.mk hl4
        rw [hl4] at H4 ⊢
        clear hO hOb hl4 c50 c51 c52 c53
        go_wp2_with (at_builtin; refine wpList_app elB rfl (.tmp 63) (.tmp 64) rfl w3.heap.size (.slice AO lO cO) lO (cb (preF anC ms i)) rfl H4.out.2.1 w4.heap.size A4 l4 c4 (cb (formP (anC x1))) rfl H4.out.2.2 (cb_one _) (by unfold maxLen; omega) (by omega) H4.out.1.size ?_; intro v5 w5 hO5; have H5 := Hd.mk hO5; clear hO5)
        go_roundw
        case rel =>
          have h5 := H5.out.own
          have hb5 : Below w3.heap.size w4 w5 := H5.out.below (fun k hk => (H4.out.2.1.lt k hk).1) H4.out.1.size
          refine ⟨i + 1, by go_num, Nat.succ_le_of_lt HLT.out, H4.out.1.trans hb5, ?_⟩
          rw [preF_next HX.out, List.length_append, HL4.out, HLO.out]
          unfold cb at h5 ⊢
          rw [List.map_append]
          exact h5
        case measure => simp [intOf]; have := HLT.out; omega
      · have hki : ¬ (i : Int) < (lh : Int) := by omega
        have hil : i = ms.length := by have := HL.out; omega
        have HP : Hd (lO ≤ n ∧ bs.take lO = preF anC ms i ∧ (fl = 0 → hd = n - lO)) := ⟨by have := HLW.out.1; rw [← hil, HLO.out, HR.out.2.2.2] at this; exact this⟩
        clear hil
        go_wp2_with fail
        clear c50 c51 c52 c53
        have HB9 : Hd (Below w3.heap.size w3 wr ∧ wr.ownsRow w3.heap.size 5 1 (.slice AO lO cO) lO (cb (preF anC ms i))) := ⟨HB.out.1, by have := HB.out.2; rw [HLO.out] at this; exact this⟩
        clear HB
        have HB := HB9
        clear HB9
        obtain ⟨c50, c51, c52, c53⟩ := HCC.out wr HB.out.1
        go_upto_region 21 with fail
        have hgt : ¬ (n : Int) < (lO : Int) := by have := HP.out.1; omega
        have hle : (lO : Int) ≤ (n : Int) := by omega
        obtain ⟨S, hS⟩ : ∃ S, bstr (preF anC ms i) = S := ⟨_, rfl⟩
        have hcut : ∀ W, (Instr.slice 26 (.slice A n c) none (some (.int .i64 (lO : Int))) none).run Try.prog W = .ok (.slice A lO c) W := fun W => run_cut_to elB A n c lO (by have := HR.out.2.2.1; omega)
        have f1 : ∀ k, (convert 26 9 (.slice A lO c)).run Try.prog (wr.drewN k) = .ok (.string S) (wr.drewN k) := fun k => by
          rw [← hS, ← HP.out.2.1]
          have h1 : Rd (wr.drewN k) w.heap.size A lO (cb (bs.take lO)) := by
            have h2 := (HR.out.1.below (H3.out.2.2.2.2.trans (HB.out.1.mono H3.out.2.2.2.2.size))).take HP.out.1
            rw [cb_take] at h2
            exact h2
          exact conv_any h1
        have f2 : ∀ k, (convert 26 9 (.slice AO lO cO)).run Try.prog (wr.drewN k) = .ok (.string S) (wr.drewN k) := fun k => by
          rw [← hS]
          have h1 : Rd (wr.drewN k) wr.heap.size AO lO (cb (preF anC ms i)) := Rd.of_own HB.out.2
          exact conv_any h1
        clear hS
        have HW : Hd (Below w.heap.size w wr) := ⟨H3.out.2.2.2.2.trans (HB.out.1.mono H3.out.2.2.2.2.size)⟩
        go_quiet (fail)
        by_cases hf : fl = 0
        · have hhd := HP.out.2.2 hf
          have hsub : IntKind.i64.wrap ((n : Int) - (lO : Int)) = (hd : Int) := by rw [IntKind.wrap_i64]; omega
          have hsub2 : wrap64 ((n : Int) - (lO : Int)) = (hd : Int) := by unfold wrap64; omega
          clear hhd
          subst hf
          go_wp2_with fail
          go_ret
          exact ⟨by first | rfl | (congr 1; simp; done), ⟨HW.out.os, HW.out.tape, HW.out.output, HW.out.size, HW.out.block⟩⟩
        · have hfb : (fl == 0) = false := beq_eq_false_iff_ne.2 hf
          go_wp2_with fail
          go_ret
          exact ⟨by first | rfl | (congr 1; simp; done), ⟨HW.out.os, HW.out.tape, HW.out.output, HW.out.size, HW.out.block⟩⟩
end Go.Proofs.Ytbcmjjcbjojakaa
end
section
/- The walk of WireForm upon the arguments that come in. -/
namespace Go.Proofs.Ytbcmjjcbjojakaa
open Go.RowKit
set_option linter.unusedVariables false
theorem form_walk (A : Option Addr) (n c : Nat) (z : List Int) (t : Bool) (w : World) (h1 : IsRow .u8 w A n c z) (b1 : c ≤ 1048576) :
    Calls Try.prog 11 #[.slice A n c, .bool t] w fun e w' => e = .returned (.bool true) ∧ Below w.heap.size w w' := by
  obtain ⟨l, hr, hl, hll, hlc⟩ := h1.bytes
  have hr2 : Rd w w.heap.size A n (cb (l.take n)) := by rw [cb, List.map_take]; exact hr.take hlc
  have hl2 : ∀ x ∈ l.take n, x < 256 := fun x hx => hl x (List.mem_of_mem_take hx)
  cases t with
  | false => exact form_ask w A n c (l.take n) hr2 hl2 hlc (by omega)
  | true => exact form_tel w A n c (l.take n) hr2 hl2 hlc (by omega)
end Go.Proofs.Ytbcmjjcbjojakaa
end
