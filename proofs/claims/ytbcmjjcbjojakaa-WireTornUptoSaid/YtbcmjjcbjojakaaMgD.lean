/- Put together of: StrmF FormWalk FitA StrmB FitP ArgRq ArgAn VastW SaidP FitW. -/
import Derived.Test.YtbcmjjcbjojakaaMgB
import Derived.Test.YtbcmjjcbjojakaaMgA
import Derived.Test.YtbcmjjcbjojakaaMgC
import Derived.Test.YtbcmjjcbjojakaaTellC
import Derived.Test.YtbcmjjcbjojakaaPutsL
import Derived.Test.YtbcmjjcbjojakaaArgs
import Derived.Test.YtbcmjjcbjojakaaTellT
import Derived.Test.YtbcmjjcbjojakaaAskP
import Derived.SliceStrings
import Derived.Deep.Slices
import Derived.Deep.MidRow
import Derived.Test.YtbcmjjcbjojakaaHeldBy
import Derived.Deep.Cut
import Derived.Deep.CutRange
section
/- Plain: what a stream's messages are written as is the stream, ahead of what is held. -/
namespace Go.Proofs.Ytbcmjjcbjojakaa
open Go.RowKit
set_option linter.unusedVariables false
theorem seg_all {b : List Nat} {i n j : Nat} (k : Nat) (hj : i + n = j) : seg b i n ++ seg b j k = seg b i (n + k) := by
  subst hj
  unfold seg
  rw [List.take_add, List.drop_drop]
theorem seg_zero (b : List Nat) (n : Nat) : seg b 0 n = b.take n := rfl
theorem seg_len' {b : List Nat} {i n : Nat} (h : i + n ≤ b.length) : (seg b i n).length = n := by
  unfold seg; rw [List.length_take, List.length_drop]; omega
theorem seg_byte {b : List Nat} (hb : ∀ x ∈ b, x < 256) (i n : Nat) : ∀ x ∈ seg b i n, x < 256 := fun x hx => hb x (List.mem_of_mem_drop (List.mem_of_mem_take hx))
theorem seg_fx {b : List Nat} {i n : Nat} (hb : ∀ x ∈ b, x < 256) (h : i + n ≤ b.length) : seg b i n = fx n (le256 (seg b i n)) := by
  have := fx_le256 (seg b i n) (seg_byte hb i n)
  rw [seg_len' h] at this
  exact this.symm
theorem le_one {b : List Nat} (h : 1 ≤ b.length) : le256 (seg b 0 1) = b.getD 0 0 := by
  rcases b with _ | ⟨x, b⟩
  · simp at h
  · simp [seg, le256]
theorem le_two {b : List Nat} (h : 3 ≤ b.length) : le256 (seg b 1 2) = ckN b := by
  rcases b with _ | ⟨x, _ | ⟨y, _ | ⟨z, b⟩⟩⟩ <;> simp at h
  simp [seg, le256, ckN]
/-- The bytes of a chunk that stands. -/
theorem ck_bytes {s k : Nat} {b : List Nat} {l : Bool} {n : Nat} (hb : ∀ x ∈ b, x < 256) (h : ckP s k b = .ok l n) :
    b.take (n + 11) = (fx 1 (if l = true then 2 else 1) ++ fx 2 n) ++ fx 4 (Crc.more 0 (fx 1 (if l = true then 2 else 1) ++ fx 2 n)) ++ seg b 7 n ++ fx 4 (Crc.more s (seg b 7 n)) := by
  obtain ⟨h1, h2, h3, h4, h5, h6, h7, h8, h9⟩ := ckP_ok h
  have e0 : fx 1 (if l = true then 2 else 1) = seg b 0 1 := by
    rw [seg_fx hb (by omega), le_one (by omega)]
    have h5' : ¬ ckOdd k b := fun hh => by rw [h5] at hh; exact hh
    unfold ckOdd at h5'
    by_cases hd : b.getD 0 0 = 2
    · rw [h6, hd]; rfl
    · rw [h6]
      have : b.getD 0 0 = 1 := by omega
      rw [this]; rfl
  have e1 : fx 2 n = seg b 1 2 := by rw [seg_fx hb (by omega), le_two (by omega), ← h4]
  have e3 : b.take 3 = seg b 0 1 ++ seg b 1 2 := by rw [seg_all 2 rfl]; rfl
  have e4 : fx 4 (Crc.more 0 (b.take 3)) = seg b 3 4 := by rw [h7]; exact (seg_fx hb (by omega)).symm
  have e5 : fx 4 (Crc.more s (seg b 7 n)) = seg b (7 + n) 4 := by rw [h8]; exact (seg_fx hb (by omega)).symm
  rw [e0, e1, ← e3, e4, e5, e3, seg_all 2 rfl, seg_all 4 rfl, seg_all n rfl, seg_all 4 (by omega)]
  rw [← seg_zero]; congr 1; omega
theorem fmF_fuel : ∀ (f g s : Nat) (c : List Nat), c.length ≤ f → c.length ≤ g → fmF f s c = fmF g s c
  | 0, g, s, c, h1, _ => by
    have : c = [] := List.eq_nil_of_length_eq_zero (by omega)
    subst this; rw [fmF_nil, fmF_nil]
  | f + 1, 0, s, c, _, h2 => by
    have : c = [] := List.eq_nil_of_length_eq_zero (by omega)
    subst this; rw [fmF_nil, fmF_nil]
  | f + 1, g + 1, s, c, h1, h2 => by
    by_cases hc : 0 < c.length
    · rw [fmF_step f s c hc, fmF_step g s c hc, fmF_fuel f g _ _ (by rw [List.length_drop]; omega) (by rw [List.length_drop]; omega)]
    · have : c = [] := List.eq_nil_of_length_eq_zero (by omega)
      subst this; rw [fmF_nil, fmF_nil]
/-- P are the bytes of the message under way. -/
def Pend (m : Mid) (P : List Nat) : Prop := P.length = m.p ∧ ∀ c', 0 < c'.length → formP (m.c ++ c') = P ++ fmF c'.length m.s c'
theorem Pend.zero : Pend mid0 [] := ⟨rfl, fun c' _ => rfl⟩
theorem Pend.more {m : Mid} {P b : List Nat} {n : Nat} (h : Pend m P) (hb : ∀ x ∈ b, x < 256) (hc : ckP m.s m.k b = .ok false n) : Pend (m.next b n) (P ++ b.take (n + 11)) := by
  have h1 := (ckP_ok hc).1
  have hn := ((ckP_ok hc).2.2.2.2.2.2.2.2 rfl).2.1
  have hl : (seg b 7 n).length = n := seg_len' (by omega)
  refine ⟨by rw [List.length_append, h.1, List.length_take]; unfold Mid.next; simp only; omega, fun c' h0 => ?_⟩
  have e1 : (m.next b n).c ++ c' = m.c ++ (seg b 7 n ++ c') := by unfold Mid.next; simp only [List.append_assoc]
  have hlc : (seg b 7 n ++ c').length = n + c'.length := by rw [List.length_append, hl]
  rw [e1, h.2 _ (by omega), hlc]
  obtain ⟨f, hf⟩ : ∃ f, n + c'.length = f + 1 := ⟨n + c'.length - 1, by omega⟩
  rw [hf, fmF_step _ _ _ (by omega)]
  have e2 : min (seg b 7 n ++ c').length 16384 = n := by omega
  have e3 : (seg b 7 n ++ c').take n = seg b 7 n := List.take_left' hl
  have e4 : (seg b 7 n ++ c').drop n = c' := List.drop_left' hl
  have e5 : hd3 (seg b 7 n ++ c') = fx 1 1 ++ fx 2 n := by unfold hd3; rw [e2, if_neg (by omega)]
  have e6 : chk m.s (seg b 7 n ++ c') = b.take (n + 11) := by
    rw [ck_bytes hb hc]; unfold chk; rw [e5, e2, e3]; rfl
  rw [e6, e2, e3, e4, fmF_fuel f c'.length _ _ (by omega) (Nat.le_refl _), List.append_assoc]
  rfl
theorem Pend.last {m : Mid} {P b : List Nat} {n : Nat} (h : Pend m P) (hb : ∀ x ∈ b, x < 256) (hc : ckP m.s m.k b = .ok true n) : formP (m.next b n).c = P ++ b.take (n + 11) := by
  have h1 := (ckP_ok hc).1
  have h0 := (ckP_ok hc).2.1
  have hn := (ckP_ok hc).2.2.1
  have hl : (seg b 7 n).length = n := seg_len' (by omega)
  have e1 : (m.next b n).c = m.c ++ seg b 7 n := rfl
  rw [e1, h.2 _ (by omega), hl]
  obtain ⟨f, hf⟩ : ∃ f, n = f + 1 := ⟨n - 1, by omega⟩
  have e2 : min (seg b 7 n).length 16384 = n := by omega
  have e3 : (seg b 7 n).take n = seg b 7 n := List.take_of_length_le (by omega)
  have e4 : (seg b 7 n).drop n = [] := List.drop_eq_nil_of_le (by omega)
  have e5 : hd3 (seg b 7 n) = fx 1 2 ++ fx 2 n := by unfold hd3; rw [e2, if_pos (by omega)]
  have e6 : chk m.s (seg b 7 n) = b.take (n + 11) := by
    rw [ck_bytes hb hc]; unfold chk; rw [e5, e2, e3]; rfl
  have e7 : fmF n m.s (seg b 7 n) = b.take (n + 11) := by
    conv => lhs; arg 1; rw [hf]
    rw [fmF_step _ _ _ (by omega), e6, e2, e3, e4, fmF_nil, List.append_nil]
  rw [e7]
section
variable {M : Type} {rd : List Nat → Option M} {cont : M → List Nat}
/-- The messages' forms are the bytes, ahead of those that are held. -/
theorem go_form (hrd : ∀ c x, (∀ y ∈ c, y < 256) → rd c = some x → c = cont x) : ∀ (m : Mid) (b : List Nat), ∀ P, Pend m P → (∀ y ∈ m.c, y < 256) → (∀ y ∈ b, y < 256) →
    ∃ P', P ++ b = (go rd m b).ms.flatMap (fun x => formP (cont x)) ++ (P' ++ (go rd m b).rest) ∧ ((go rd m b).fl = 0 → Pend (go rd m b).mid P') := by
  refine go_ind (rd := rd) ?_ ?_ ?_ ?_ ?_
  · intro m b h P hP _ _
    rw [go_wait h]
    exact ⟨P, by simp, fun _ => hP⟩
  · intro m b e h P hP _ _
    have he := ckP_bad h
    rw [go_bad h]
    exact ⟨P, by simp, fun h0 => absurd h0 (by simp only; omega)⟩
  · intro m b n h ih P hP hc hb
    rw [go_more h]
    obtain ⟨P', h1, h2⟩ := ih (P ++ b.take (n + 11)) (hP.more hb h) (fun y hy => (List.mem_append.1 hy).elim (hc y) (seg_byte hb 7 n y)) (fun y hy => hb y (List.mem_of_mem_drop hy))
    refine ⟨P', ?_, h2⟩
    rw [← h1, List.append_assoc, List.take_append_drop]
  · intro m b n h hr P hP hc hb
    rw [go_none h hr]
    exact ⟨P ++ b.take (n + 11), by simp, fun h0 => absurd h0 (by simp only; omega)⟩
  · intro m b n x h hr ih P hP hc hb
    rw [go_some h hr]
    obtain ⟨P', h1, h2⟩ := ih [] Pend.zero (by intro y hy; cases hy) (fun y hy => hb y (List.mem_of_mem_drop hy))
    have hx : (m.next b n).c = cont x := hrd (m.next b n).c x (fun y hy => (List.mem_append.1 hy).elim (hc y) (seg_byte hb 7 n y)) hr
    have hf := hP.last hb h
    rw [hx] at hf
    refine ⟨P', ?_, h2⟩
    unfold Out.pre
    simp only [List.flatMap_cons]
    rw [hf, List.append_assoc, List.append_assoc, ← h1, List.nil_append, List.take_append_drop]
end
end Go.Proofs.Ytbcmjjcbjojakaa
end
section
/- The walk of WireForm: it returns true. (tools/formwgen.py prints it.) -/
namespace Go.Proofs.Ytbcmjjcbjojakaa
open Go.RowKit
set_option linter.unusedVariables false
set_option linter.unusedSimpArgs false
/-- Each message that is told was a content. -/
theorem go_from {M : Type} {rd : List Nat → Option M} (bs : List Nat) (hb : ∀ y ∈ bs, y < 256) : ∀ x ∈ (go rd mid0 bs).ms, ∃ c, (∀ y ∈ c, y < 256) ∧ rd c = some x := by
  have : ∀ (m : Mid) (b : List Nat), (∀ y ∈ m.c, y < 256) → (∀ y ∈ b, y < 256) → ∀ x ∈ (go rd m b).ms, ∃ c, (∀ y ∈ c, y < 256) ∧ rd c = some x := by
    refine go_ind (rd := rd) ?_ ?_ ?_ ?_ ?_
    · intro m b h _ _ x hx; rw [go_wait h] at hx; cases hx
    · intro m b e h _ _ x hx; rw [go_bad h] at hx; cases hx
    · intro m b n h ih h1 h2 x hx
      rw [go_more h] at hx
      exact ih (fun y hy => (List.mem_append.1 hy).elim (h1 y) (seg_lt h2 7 n y)) (fun y hy => h2 y (List.mem_of_mem_drop hy)) x hx
    · intro m b n h hr _ _ x hx; rw [go_none h hr] at hx; cases hx
    · intro m b n z h hr ih h1 h2 x hx
      rw [go_some h hr] at hx
      rcases List.mem_cons.1 hx with e | e
      · rw [e]; exact ⟨_, fun y hy => (List.mem_append.1 hy).elim (h1 y) (seg_lt h2 7 n y), hr⟩
      · exact ih (by intro y hy; cases hy) (fun y hy => h2 y (List.mem_of_mem_drop hy)) x e
  exact this mid0 bs (by intro y hy; cases hy) hb
/-- The forms of the first so many messages. -/
def preF {M : Type} (cont : M → List Nat) (ms : List M) (i : Nat) : List Nat := (ms.take i).flatMap fun x => formP (cont x)
theorem preF_next {M : Type} {cont : M → List Nat} {ms : List M} {i : Nat} {x : M} (h : ms[i]? = some x) : preF cont ms (i + 1) = preF cont ms i ++ formP (cont x) := by
  unfold preF
  rw [List.take_add_one, h, List.flatMap_append]
  simp
theorem preF_len {M : Type} (cont : M → List Nat) (ms : List M) (i : Nat) : (preF cont ms i).length ≤ (preF cont ms ms.length).length := by
  unfold preF
  conv => rhs; rw [List.take_length, ← List.take_append_drop i ms, List.flatMap_append, List.length_append]
  omega
/-- What WireForm says of the bytes. -/
theorem form_law {T : Type} (Z : Kd T) (cont : T → List Nat) (hrd : ∀ c x, (∀ y ∈ c, y < 256) → Z.rd c = some x → c = cont x) (bs : List Nat) (hb : ∀ y ∈ bs, y < 256) (ms : List T) (hms : (go Z.rd mid0 bs).ms = ms) :
    (preF cont ms ms.length).length ≤ bs.length ∧ bs.take (preF cont ms ms.length).length = preF cont ms ms.length ∧ ((go Z.rd mid0 bs).fl = 0 → heldN (go Z.rd mid0 bs) = bs.length - (preF cont ms ms.length).length) := by
  obtain ⟨P, h1, h2⟩ := go_form hrd mid0 bs [] Pend.zero (by intro y hy; cases hy) hb
  rw [List.nil_append, hms] at h1
  have e : preF cont ms ms.length = ms.flatMap fun x => formP (cont x) := by unfold preF; rw [List.take_length]
  rw [e]
  have hl := congrArg List.length h1
  rw [List.length_append, List.length_append] at hl
  refine ⟨by omega, ?_, fun h0 => ?_⟩
  · conv => lhs; rw [h1]
    rw [List.take_left' rfl]
  · have := (h2 h0).1
    unfold heldN
    rw [if_pos h0]; omega
end Go.Proofs.Ytbcmjjcbjojakaa
end
section
/- Contract of the laws' cut. -/
namespace Go.Proofs.Ytbcmjjcbjojakaa
open Go.RowKit
set_option linter.unusedVariables false
set_option linter.unusedSimpArgs false
/-- At most so many bytes of a text. -/
def cutP (s : ByteArray) (most : Nat) : ByteArray := if most < s.size then s.extract 0 most else s
theorem cutP_size (s : ByteArray) (most : Nat) : (cutP s most).size ≤ most := by
  unfold cutP
  split
  · rw [ByteArray.size_extract]; omega
  · omega
theorem cutP_same {s : ByteArray} {most : Nat} (h : s.size ≤ most) : cutP s most = s := by unfold cutP; rw [if_neg (by omega)]
theorem cut_any (w : World) (s : ByteArray) (most : Nat) (hs : s.size ≤ maxLen) (hm : most ≤ 1048576) :
    Calls Try.prog 76 #[.string s, .int .i64 (most : Int)] w fun e w' => e = .returned (.string (cutP s most)) ∧ w = w' := by
  go_enter Try.func76, Try.ntmps76
  go_wp2_with fail
  all_goals
    go_ret
    refine ⟨?_, rfl⟩
    unfold cutP
    first | (rw [if_pos h]; rfl) | (rw [if_neg h]; rfl)
/-- At most so many texts, each cut. -/
def textsP (ts : List ByteArray) (most : Nat) : List ByteArray := (ts.take most).map fun t => cutP t 255
theorem cutTexts_any (w : World) (A : Option Addr) (n c B : Nat) (ts : List ByteArray) (hr : Rd w B A n (cs ts)) (hn : n ≤ 8796093022000) (hB : B ≤ w.heap.size) (most : Nat) (hm : most ≤ 65536) (hsz : ∀ t ∈ ts, t.size ≤ maxLen) :
    Calls Try.prog 77 #[.slice A n c, .int .i64 (most : Int)] w fun e w' => ∃ v, e = .returned v ∧ w'.ownsRow w.heap.size 9 1 v (textsP ts most).length (cs (textsP ts most)) ∧ Below w.heap.size w w' := by
  have hl : ts.length = n := by have := hr.1; rwa [cs_len] at this
  have HH : Hd (Rd w B A n (cs ts) ∧ B ≤ w.heap.size ∧ (∀ t ∈ ts, t.size ≤ maxLen) ∧ ts.length = n) := ⟨hr, hB, hsz, hl⟩
  clear hr hB hsz hl
  go_enter Try.func77, Try.ntmps77
  go_wp2_with fail
  go_loopw [5, 6] (fun u5 u6 wr => ∃ k : Nat, u6 = .int .i64 (k : Int) ∧ k ≤ n ∧ k ≤ most ∧ wr.ownsRow w.heap.size 9 1 u5 k (cs ((ts.take k).map fun t => cutP t 255)) ∧ Below w.heap.size w wr) (fun _ u6 _ => n - (intOf u6).toNat)
  case atStart => exact ⟨0, rfl, Nat.zero_le _, Nat.zero_le _, World.ownsRow_nil .., Below.refl _ w⟩
  case round =>
    obtain ⟨k, rfl, hk, hkm, hown, hbl⟩ := hrel
    have HB := Hd.mk (And.intro hown hbl)
    obtain ⟨AO, cO, hvO, _⟩ := own_form hown
    clear hown hbl
    subst hvO
    by_cases hlt : k < n ∧ k < most
    · have hki : (k : Int) < (n : Int) := by omega
      have hkm2 : (k : Int) < (most : Int) := by omega
      have HLT := Hd.mk hlt
      obtain ⟨g, off, hA, hg, hc⟩ := HH.out.1.2 (by omega)
      subst hA
      obtain ⟨t, ht⟩ : ∃ t, ts[k]? = some t := ⟨_, List.getElem?_eq_getElem (by have := HH.out.2.2.2; omega)⟩
      have dc : wr.cell? ⟨g, off + k, none⟩ = some (.string t) := by
        rw [HB.out.2.cell (show g < w.heap.size by have := HH.out.2.1; omega), hc k hlt.1]
        unfold cs; rw [List.getElem?_map, ht]; rfl
      have HT : Hd (ts[k]? = some t ∧ t.size ≤ maxLen) := ⟨ht, HH.out.2.2.1 t (List.mem_of_getElem? ht)⟩
      clear hlt hc hg ht
      go_wp2_with fail
      refine (cut_any wr t 255 HT.out.2 (by omega)).mono ?_
      rintro e w2 ⟨rfl, hw2⟩
      subst hw2
      clear dc
      go_wp2_with (refine wpList_push elS rfl rfl (.tmp 18) (.tmp 23) 24 rfl rfl rfl w.heap.size (.slice AO k cO) _ _ _ rfl rfl rfl rfl HB.out.1 (by unfold maxLen; omega) (by omega) HB.out.2.size ?_; intro v3 w3 hO; have H3 := Hd.mk hO; clear hO)
      go_roundw
      case rel =>
        refine ⟨k + 1, by go_num, HLT.out.1, HLT.out.2, ?_, HB.out.2.trans (H3.out.below (fun x hx => (HB.out.1.lt x hx).1) HB.out.2.size)⟩
        have h3 := H3.out.own
        rw [List.take_add_one, HT.out.1, List.map_append]
        unfold cs at h3 ⊢
        rw [List.map_append]
        exact h3
      case measure => simp [intOf]; have := HLT.out.1; omega
    · have hE : k = min most n := by omega
      have HE := Hd.mk hE
      clear hE
      by_cases h1 : k < n
      · have hki : (k : Int) < (n : Int) := by omega
        have hkm2 : ¬ (k : Int) < (most : Int) := by omega
        clear hlt
        go_wp2_with fail
        go_ret
        refine ⟨_, rfl, ?_, HB.out.2⟩
        have hk2 : k = most := by omega
        have := HB.out.1
        unfold textsP
        rw [List.length_map, List.length_take, HH.out.2.2.2, ← HE.out, ← hk2]
        exact this
      · have hki : ¬ (k : Int) < (n : Int) := by omega
        clear hlt
        go_wp2_with fail
        go_ret
        refine ⟨_, rfl, ?_, HB.out.2⟩
        have := HB.out.1
        unfold textsP
        rw [List.length_map, List.length_take, HH.out.2.2.2, ← HE.out]
        have e1 : ts.take k = ts.take most := by rw [List.take_of_length_le (by have := HH.out.2.2.2; omega), List.take_of_length_le (by have := HH.out.2.2.2; omega)]
        rw [← e1]
        exact this
end Go.Proofs.Ytbcmjjcbjojakaa
end
section
/- Plain: a message's form, ahead of any bytes, is read as the message. -/
namespace Go.Proofs.Ytbcmjjcbjojakaa
open Go.RowKit
set_option linter.unusedVariables false
theorem seg_mid {p q r : List Nat} {i n : Nat} (hi : p.length = i) (hn : q.length = n) : seg (p ++ (q ++ r)) i n = q := by
  unfold seg
  rw [List.drop_left' hi, List.take_left' hn]
theorem le_fx4 {v : Nat} (h : v < 4294967296) : le256 (fx 4 v) = v := by rw [le256_fx]; exact Nat.mod_eq_of_lt h
/-- A chunk that was put stands. -/
theorem ck_put (s k : Nat) (c r : List Nat) (h0 : 0 < c.length) (hk : 16384 < c.length → k ≠ 2047) : ckP s k (chk s c ++ r) = .ok (decide (c.length ≤ 16384)) (min c.length 16384) := by
  obtain ⟨n, hn⟩ : ∃ n, min c.length 16384 = n := ⟨_, rfl⟩
  obtain ⟨kd, hkd⟩ : ∃ q, (if c.length ≤ 16384 then 2 else 1 : Nat) = q := ⟨_, rfl⟩
  have hkd2 : kd = 2 ∧ c.length ≤ 16384 ∨ kd = 1 ∧ 16384 < c.length := by
    by_cases h : c.length ≤ 16384
    · rw [if_pos h] at hkd; exact .inl ⟨hkd.symm, h⟩
    · rw [if_neg h] at hkd; exact .inr ⟨hkd.symm, by omega⟩
  have hn1 : 0 < n ∧ n ≤ 16384 ∧ n ≤ c.length := by omega
  have hd : hd3 c = fx 1 kd ++ fx 2 n := by unfold hd3; rw [hkd, hn]
  have hdl : (hd3 c).length = 3 := by rw [hd, List.length_append, fx_len, fx_len]
  obtain ⟨q1, hq1⟩ : ∃ q, Crc.more 0 (hd3 c) = q := ⟨_, rfl⟩
  obtain ⟨q2, hq2⟩ : ∃ q, Crc.more s (c.take n) = q := ⟨_, rfl⟩
  have b1 : q1 < 4294967296 := by rw [← hq1]; exact Crc.more_lt _ _
  have b2 : q2 < 4294967296 := by rw [← hq2]; exact Crc.more_lt _ _
  have hct : (c.take n).length = n := by rw [List.length_take]; omega
  have hX : chk s c ++ r = hd3 c ++ (fx 4 q1 ++ (c.take n ++ (fx 4 q2 ++ r))) := by
    unfold chk; rw [hn, hq1, hq2]; simp only [List.append_assoc]
  have hlen : (chk s c ++ r).length = n + 11 + r.length := by rw [List.length_append, chk_len, hn]
  have t3 : (chk s c ++ r).take 3 = hd3 c := by rw [hX, List.take_left' hdl]
  have s3 : seg (chk s c ++ r) 3 4 = fx 4 q1 := by rw [hX]; exact seg_mid hdl (fx_len 4 q1)
  have s7 : seg (chk s c ++ r) 7 n = c.take n := by
    rw [hX, ← List.append_assoc]; exact seg_mid (by rw [List.length_append, hdl, fx_len]) hct
  have s8 : seg (chk s c ++ r) (7 + n) 4 = fx 4 q2 := by
    rw [hX, ← List.append_assoc, ← List.append_assoc]; exact seg_mid (by rw [List.length_append, List.length_append, hdl, fx_len, hct]) (fx_len 4 q2)
  have g0 : (chk s c ++ r).getD 0 0 = kd := by
    have e : (chk s c ++ r).getD 0 0 = (hd3 c).getD 0 0 := by rw [hX, getD_app _ (by omega)]
    rw [e, hd, getD_app _ (by rw [fx_len]; omega)]
    rcases hkd2 with ⟨rfl, _⟩ | ⟨rfl, _⟩ <;> rfl
  have gN : ckN (chk s c ++ r) = n := by
    have h1 := le_two (b := chk s c ++ r) (by omega)
    rw [← h1]
    have : seg (chk s c ++ r) 1 2 = fx 2 n := by
      rw [hX, hd, List.append_assoc]; exact seg_mid (fx_len 1 kd) (fx_len 2 n)
    rw [this, le256_fx]
    exact Nat.mod_eq_of_lt (by omega)
  unfold ckP
  rw [if_neg (by omega), t3, s3, hq1, le_fx4 b1, if_neg (by simp), gN, s7, s8, hq2, le_fx4 b2, g0]
  rw [if_neg (by unfold ckOdd; rw [gN, g0]; rcases hkd2 with ⟨rfl, h⟩ | ⟨rfl, h⟩ <;> omega), if_neg (by omega), if_neg (by simp)]
  rw [hn]
  congr 1
  rcases hkd2 with ⟨rfl, h⟩ | ⟨rfl, h⟩
  · simp [h]
  · have : ¬ c.length ≤ 16384 := by omega
    simp [this]
section
variable {M : Type} {rd : List Nat → Option M}
theorem chks_num {k l n M : Nat} (h : n < l) (h3 : k * n + l ≤ M) : (k + 1) * n + (l - n) ≤ M := by rw [Nat.succ_mul]; omega
theorem go_chks (r : List Nat) (x : M) : ∀ (f : Nat) (m : Mid) (c : List Nat), c.length ≤ f → 0 < c.length → m.k * 16384 + c.length ≤ 33554432 → rd (m.c ++ c) = some x → go rd m (fmF f m.s c ++ r) = (go rd mid0 r).pre x := by
  intro f
  induction f with
  | zero => intro m c h1 h2 _ _; omega
  | succ f ih =>
    intro m c h1 h2 h3 h4
    rw [fmF_step f m.s c h2, List.append_assoc]
    obtain ⟨n, hn⟩ : ∃ n, min c.length 16384 = n := ⟨_, rfl⟩
    have hck := ck_put m.s m.k c (fmF f (Crc.more m.s (c.take (min c.length 16384))) (c.drop (min c.length 16384)) ++ r) h2 (fun h e => by omega)
    rw [hn] at hck ⊢
    have hl : (chk m.s c).length = n + 11 := by rw [chk_len, hn]
    have hs7 : ∀ r', seg (chk m.s c ++ r') 7 n = c.take n := fun r' => by
      have hX : chk m.s c ++ r' = (hd3 c ++ fx 4 (Crc.more 0 (hd3 c))) ++ (c.take n ++ (fx 4 (Crc.more m.s (c.take n)) ++ r')) := by unfold chk; rw [hn]; simp only [List.append_assoc]
      rw [hX]
      exact seg_mid (by unfold hd3; simp only [List.length_append, fx_len]) (by rw [List.length_take]; omega)
    by_cases hle : c.length ≤ 16384
    · rw [show decide (c.length ≤ 16384) = true from decide_eq_true hle] at hck
      have hnc : n = c.length := by omega
      have hnx : (m.next (chk m.s c ++ (fmF f (Crc.more m.s (c.take n)) (c.drop n) ++ r)) n).c = m.c ++ c := by
        unfold Mid.next; simp only; rw [hs7, hnc, List.take_length]
      rw [go_some (x := x) hck (by rw [hnx]; exact h4), List.drop_left' hl, hnc, List.drop_length, fmF_nil, List.nil_append]
    · rw [show decide (c.length ≤ 16384) = false from decide_eq_false hle] at hck
      rw [go_more hck, List.drop_left' hl]
      have hnx : m.next (chk m.s c ++ (fmF f (Crc.more m.s (c.take n)) (c.drop n) ++ r)) n = ⟨m.c ++ c.take n, Crc.more m.s (c.take n), m.k + 1, m.p + (n + 11)⟩ := by
        unfold Mid.next; rw [hs7]
      have hk3 : (m.k + 1) * 16384 + (c.drop n).length ≤ 33554432 := by
        have hn16 : n = 16384 := by omega
        rw [List.length_drop, hn16]
        exact chks_num (by omega) h3
      rw [hnx]
      exact ih ⟨m.c ++ c.take n, Crc.more m.s (c.take n), m.k + 1, m.p + (n + 11)⟩ (c.drop n) (by rw [List.length_drop]; omega) (by rw [List.length_drop]; omega) hk3 (by show rd ((m.c ++ c.take n) ++ c.drop n) = some x; rw [List.append_assoc, List.take_append_drop]; exact h4)
/-- A form, ahead of any bytes, is one message. -/
theorem go_put (c r : List Nat) (x : M) (h0 : 0 < c.length) (h1 : c.length ≤ 33554432) (hx : rd c = some x) : go rd mid0 (formP c ++ r) = (go rd mid0 r).pre x :=
  go_chks r x c.length mid0 c (Nat.le_refl _) h0 (by show 0 * 16384 + c.length ≤ 33554432; omega) hx
/-- Many forms, ahead of any bytes. -/
theorem go_puts {cont : M → List Nat} (r : List Nat) : ∀ (ms : List M), (∀ x ∈ ms, 0 < (cont x).length ∧ (cont x).length ≤ 33554432 ∧ rd (cont x) = some x) →
    go rd mid0 ((ms.flatMap fun x => formP (cont x)) ++ r) = ⟨ms ++ (go rd mid0 r).ms, (go rd mid0 r).fl, (go rd mid0 r).mid, (go rd mid0 r).rest⟩
  | [], _ => rfl
  | x :: ms, h => by
    have hx := h x (by simp)
    rw [List.flatMap_cons, List.append_assoc, go_put _ _ x hx.1 hx.2.1 hx.2.2, go_puts r ms fun y hy => h y (List.mem_cons_of_mem _ hy)]
    rfl
/-- A beginning of a chunk, not the whole: it is waited for. -/
theorem ck_part (s k : Nat) (c p q : List Nat) (h0 : 0 < c.length) (hk : 16384 < c.length → k ≠ 2047) (h : chk s c = p ++ q) (hq : 0 < q.length) : ckP s k p = .wait := by
  by_cases hw : ckP s k p = .wait
  · exact hw
  · have h1 := ckP_app q hw
    rw [← h] at h1
    have h2 := ck_put s k c [] h0 hk
    rw [List.append_nil, h1] at h2
    have h3 := (ckP_ok h2).1
    have h4 := chk_len s c
    rw [h, List.length_append] at h4
    omega
/-- A beginning of a form, not the whole: nothing is told, and all is held. -/
theorem go_part : ∀ (f : Nat) (m : Mid) (c p q : List Nat), c.length ≤ f → 0 < c.length → m.k * 16384 + c.length ≤ 33554432 → fmF f m.s c = p ++ q → 0 < q.length →
    (go rd m p).ms = [] ∧ (go rd m p).fl = 0 ∧ (go rd m p).mid.p + (go rd m p).rest.length = m.p + p.length := by
  intro f
  induction f with
  | zero => intro m c p q h1 h2; omega
  | succ f ih =>
    intro m c p q h1 h2 h3 h4 h5
    rw [fmF_step f m.s c h2] at h4
    obtain ⟨n, hn⟩ : ∃ n, min c.length 16384 = n := ⟨_, rfl⟩
    rw [hn] at h4
    have hk : 16384 < c.length → m.k ≠ 2047 := fun h e => by rw [e] at h3; omega
    have hl : (chk m.s c).length = n + 11 := by rw [chk_len, hn]
    by_cases hp : p.length < n + 11
    · have e1 : chk m.s c = p ++ q.take (n + 11 - p.length) := by
        have := congrArg (List.take (n + 11)) h4
        rw [List.take_left' hl, List.take_append, List.take_of_length_le (by omega)] at this
        exact this
      have hw := ck_part m.s m.k c p _ h2 hk e1 (by have := congrArg List.length e1; rw [List.length_append, hl] at this; omega)
      rw [go_wait hw]
      exact ⟨rfl, rfl, rfl⟩
    · obtain ⟨p', hp'⟩ : ∃ p', p = chk m.s c ++ p' := ⟨p.drop (n + 11), by
        have := congrArg (List.take (n + 11)) h4
        rw [List.take_left' hl, List.take_append_of_le_length (by omega)] at this
        rw [this, List.take_append_drop]⟩
      subst hp'
      rw [List.append_assoc] at h4
      have h6 := List.append_cancel_left h4
      by_cases hle : c.length ≤ 16384
      · rw [List.drop_eq_nil_of_le (by omega), fmF_nil] at h6
        have := congrArg List.length h6
        rw [List.length_append] at this
        simp only [List.length_nil] at this
        omega
      · have hck := ck_put m.s m.k c p' h2 hk
        rw [hn, show decide (c.length ≤ 16384) = false from decide_eq_false hle] at hck
        have hs7 : seg (chk m.s c ++ p') 7 n = c.take n := by
          have hX : chk m.s c ++ p' = (hd3 c ++ fx 4 (Crc.more 0 (hd3 c))) ++ (c.take n ++ (fx 4 (Crc.more m.s (c.take n)) ++ p')) := by unfold chk; rw [hn]; simp only [List.append_assoc]
          rw [hX]
          exact seg_mid (by unfold hd3; simp only [List.length_append, fx_len]) (by rw [List.length_take]; omega)
        have hnx : m.next (chk m.s c ++ p') n = ⟨m.c ++ c.take n, Crc.more m.s (c.take n), m.k + 1, m.p + (n + 11)⟩ := by
          unfold Mid.next; rw [hs7]
        have hk3 : (m.k + 1) * 16384 + (c.drop n).length ≤ 33554432 := by
          have hn16 : n = 16384 := by omega
          rw [List.length_drop, hn16]
          exact chks_num (by omega) h3
        have := ih ⟨m.c ++ c.take n, Crc.more m.s (c.take n), m.k + 1, m.p + (n + 11)⟩ (c.drop n) p' q (by rw [List.length_drop]; omega) (by rw [List.length_drop]; omega) hk3 h6 h5
        rw [go_more hck, List.drop_left' hl, hnx]
        refine ⟨this.1, this.2.1, ?_⟩
        rw [this.2.2, List.length_append, hl]
        simp only
        omega
end
end Go.Proofs.Ytbcmjjcbjojakaa
end
section
/- Plain: a request that may be, out of any. -/
namespace Go.Proofs.Ytbcmjjcbjojakaa
open Go.RowKit
set_option linter.unusedVariables false
def fitK (k : Int) : Int := if k < 1 ∨ 8 < k then 1 + k % 8 else k
theorem fitK_le (k : Int) : 1 ≤ fitK k ∧ fitK k ≤ 8 := by
  unfold fitK
  have h1 := Int.emod_nonneg k (b := 8) (by omega)
  have h2 := Int.emod_lt_of_pos k (b := 8) (by omega)
  split <;> omega
def fitP (R : Rq) : Rq :=
  ⟨fitK R.kind, R.tag, if fitK R.kind < 8 then cutP R.key 1024 else emS, if fitK R.kind = 7 then cutP R.after 1024 else emS, if fitK R.kind = 3 then R.off else 0, if fitK R.kind = 3 ∨ fitK R.kind = 7 then R.num else 0, if fitK R.kind = 7 then R.delim else 0, if fitK R.kind = 1 then R.body.take 1048576 else []⟩
theorem fitP_fit (R : Rq) : rqFit (fitP R) := by
  unfold rqFit fitP
  refine ⟨?_, ?_, ?_⟩ <;> simp only <;> split
  · exact cutP_size _ _
  · exact Nat.zero_le _
  · exact cutP_size _ _
  · exact Nat.zero_le _
  · rw [List.length_take]; omega
  · exact Nat.zero_le _
theorem fitP_b (R : Rq) (h : RqB R) : RqB (fitP R) := by
  obtain ⟨h1, h2, h3, h4, h5, h6, h7, h8⟩ := h
  unfold fitP
  refine ⟨h1, ?_, ?_, ?_, ?_, ?_, ?_, ?_⟩ <;> simp only <;> split <;> first | assumption | omega | (intro x hx; exact h8 x (List.mem_of_mem_take hx)) | (intro x hx; cases hx)
theorem fitP_ok (R : Rq) : rqOk (fitP R) := by
  have hk := fitK_le R.kind
  unfold rqOk fitP cKey cBody cAfter cOff cNum cDelim
  simp only [decide_eq_false_iff_not]
  refine ⟨hk.1, hk.2, fun h => if_neg (by omega), fun h => if_neg h, fun h => if_neg h, fun h => if_neg h, fun h => if_neg h, fun h => if_neg h⟩
/-- Its form is read as it. -/
theorem fitP_rd (R : Rq) (h : RqB R) : rdRq (rqC (fitP R)) = some (fitP R) := rdRq_put _ (fitP_ok R) (fitP_fit R) (fitP_b R h)
theorem fitP_ask (R : Rq) : askP (fitP R) = (formP (rqC (fitP R)), 0) := by unfold askP; rw [if_pos (fitP_ok R), if_pos (fitP_fit R)]
def fitC (c : Int) : Int := if c < 0 ∨ 2147483647 < c then c % 2147483648 else c
theorem fitC_le (c : Int) : 0 ≤ fitC c ∧ fitC c ≤ 2147483647 := by
  unfold fitC
  have h1 := Int.emod_nonneg c (b := 2147483648) (by omega)
  have h2 := Int.emod_lt_of_pos c (b := 2147483648) (by omega)
  split <;> omega
theorem textsP_short (ts : List ByteArray) (most : Nat) : shortL (textsP ts most) most := by
  unfold shortL textsP
  refine ⟨by rw [List.length_map, List.length_take]; omega, fun t ht => ?_⟩
  obtain ⟨s, _, rfl⟩ := List.mem_map.1 ht
  exact cutP_size s 255
def fitAnP (a : An) : An :=
  { kind := fitK a.kind, tag := a.tag, code := fitC a.code,
    body := if fitC a.code = 0 ∧ (fitK a.kind = 2 ∨ fitK a.kind = 3) then a.body.take 1048576 else [],
    keys := if fitC a.code = 0 ∧ fitK a.kind = 6 then textsP a.keys 65536 else if fitC a.code = 0 ∧ fitK a.kind = 7 then textsP a.keys 1000 else [],
    groups := if fitC a.code = 0 ∧ fitK a.kind = 7 then textsP a.groups 1000 else [],
    next := if fitC a.code = 0 ∧ fitK a.kind = 7 then cutP a.next 255 else emS,
    more := if fitC a.code = 0 ∧ fitK a.kind = 7 then a.more else false,
    ge := if fitC a.code = 0 ∧ fitK a.kind = 4 then a.ge else 0, gc := if fitC a.code = 0 ∧ fitK a.kind = 4 then a.gc else 0, size := if fitC a.code = 0 ∧ fitK a.kind = 4 then a.size else 0,
    h1 := if fitK a.kind = 8 then a.h1 else 0, h2 := if fitK a.kind = 8 then a.h2 else 0, h3 := if fitK a.kind = 8 then a.h3 else 0, h4 := if fitK a.kind = 8 then a.h4 else 0 }
theorem fitAnP_fit (a : An) : anFit (fitAnP a) := by
  unfold anFit fitAnP
  simp only
  refine ⟨?_, ?_, ?_, ?_⟩
  · split
    · rw [List.length_take]; omega
    · exact Nat.zero_le _
  · by_cases h6 : fitK a.kind = 6
    · rw [if_pos h6]
      split
      · exact textsP_short _ _
      · rw [if_neg (by omega)]; exact ⟨Nat.zero_le _, fun t ht => by cases ht⟩
    · rw [if_neg h6, if_neg (fun h => h6 h.2)]
      split
      · exact textsP_short _ _
      · exact ⟨Nat.zero_le _, fun t ht => by cases ht⟩
  · split
    · exact textsP_short _ _
    · exact ⟨Nat.zero_le _, fun t ht => by cases ht⟩
  · split
    · exact cutP_size _ _
    · exact Nat.zero_le _
theorem fitAnP_ok (a : An) : anOk (fitAnP a) := by
  have hk := fitK_le a.kind
  have hc := fitC_le a.code
  unfold anOk tBody tGen tKeys tPage fitAnP
  simp only
  refine ⟨hk.1, hk.2, hc.1, hc.2, fun h => if_neg h, fun h => ⟨if_neg h, if_neg h, if_neg h⟩, fun h => ?_, fun h => ⟨if_neg h, if_neg h, if_neg h⟩, fun h => ⟨if_neg h, if_neg h, if_neg h, if_neg h⟩⟩
  rw [if_neg (fun e => h ⟨e.1, .inl e.2⟩), if_neg (fun e => h ⟨e.1, .inr e.2⟩)]
theorem fitAnP_b (a : An) (h : AnB a) : AnB (fitAnP a) := by
  refine ⟨h.tag, ?_, ?_⟩
  · unfold fitAnP
    simp only
    split
    · intro x hx; exact h.b x (List.mem_of_mem_take hx)
    · intro x hx; cases hx
  · unfold fitAnP
    intro v hv
    simp only at hv
    rcases hv with rfl | rfl | rfl | rfl | rfl | rfl | rfl <;> split <;> first | (exact h.n _ (by simp)) | omega
theorem fitAnP_rd (a : An) (h : AnB a) : rdAn (anC (fitAnP a)) = some (fitAnP a) := rdAn_put _ (fitAnP_ok a) (fitAnP_fit a) (fitAnP_b a h)
theorem fitAnP_tell (a : An) : tellP (fitAnP a) = (formP (anC (fitAnP a)), 0) := by unfold tellP; rw [if_pos (fitAnP_ok a), if_pos (fitAnP_fit a)]
/-- A beginning of many forms: the whole ones are told, the rest is held. -/
theorem go_ends {M : Type} {rd : List Nat → Option M} {cont : M → List Nat} : ∀ (ms : List M) (a : Nat), (∀ x ∈ ms, 0 < (cont x).length ∧ (cont x).length ≤ 33554432 ∧ rd (cont x) = some x) →
    ∃ n, n ≤ ms.length ∧ (preF cont ms n).length ≤ a ∧ (n < ms.length → a < (preF cont ms (n + 1)).length) ∧ (go rd mid0 ((ms.flatMap fun x => formP (cont x)).take a)).ms = ms.take n ∧ (go rd mid0 ((ms.flatMap fun x => formP (cont x)).take a)).fl = 0 ∧
      heldN (go rd mid0 ((ms.flatMap fun x => formP (cont x)).take a)) = min a (ms.flatMap fun x => formP (cont x)).length - (preF cont ms n).length
  | [], a, _ => ⟨0, Nat.le_refl _, Nat.zero_le _, fun h => absurd h (by simp), by simp [go_wait (ckP_nil _ _)], by simp [go_wait (ckP_nil _ _)], by simp [go_wait (ckP_nil _ _), heldN, mid0]⟩
  | x :: ms, a, h => by
    have hx := h x (by simp)
    by_cases ha : (formP (cont x)).length ≤ a
    · obtain ⟨n, h1, h2, h3, h4, h5, h6⟩ := go_ends ms (a - (formP (cont x)).length) fun y hy => h y (List.mem_cons_of_mem _ hy)
      have e1 : ((x :: ms).flatMap fun x => formP (cont x)).take a = formP (cont x) ++ (ms.flatMap fun x => formP (cont x)).take (a - (formP (cont x)).length) := by
        rw [List.flatMap_cons, List.take_append, List.take_of_length_le ha]
      have e2 : ∀ k, (preF cont (x :: ms) (k + 1)).length = (formP (cont x)).length + (preF cont ms k).length := fun k => by
        unfold preF; rw [List.take_succ_cons, List.flatMap_cons, List.length_append]
      refine ⟨n + 1, by simpa using h1, by rw [e2]; omega, fun hn => by rw [e2]; have := h3 (by simpa using hn); omega, ?_, ?_, ?_⟩
      · rw [e1, go_put _ _ x hx.1 hx.2.1 hx.2.2]; unfold Out.pre; simp only; rw [h4, List.take_succ_cons]
      · rw [e1, go_put _ _ x hx.1 hx.2.1 hx.2.2]; exact h5
      · rw [e1, go_put _ _ x hx.1 hx.2.1 hx.2.2]
        have : heldN ((go rd mid0 ((ms.flatMap fun x => formP (cont x)).take (a - (formP (cont x)).length))).pre x) = heldN (go rd mid0 ((ms.flatMap fun x => formP (cont x)).take (a - (formP (cont x)).length))) := rfl
        rw [this, h6, e2, List.flatMap_cons, List.length_append]
        omega
    · have e1 : ((x :: ms).flatMap fun x => formP (cont x)).take a = (formP (cont x)).take a := by
        rw [List.flatMap_cons, List.take_append_of_le_length (by omega)]
      have hp := go_part (rd := rd) (cont x).length mid0 (cont x) ((formP (cont x)).take a) ((formP (cont x)).drop a) (Nat.le_refl _) hx.1 (by show 0 * 16384 + (cont x).length ≤ 33554432; omega) (by rw [List.take_append_drop]; rfl) (by rw [List.length_drop]; omega)
      have e2 : preF cont (x :: ms) 0 = [] := rfl
      have e3 : (preF cont (x :: ms) 1).length = (formP (cont x)).length := by unfold preF; simp
      refine ⟨0, Nat.zero_le _, by rw [e2]; exact Nat.zero_le _, fun _ => by rw [Nat.zero_add, e3]; omega, by rw [e1, hp.1]; rfl, by rw [e1]; exact hp.2.1, ?_⟩
      rw [e1, e2, List.flatMap_cons, List.length_append]
      unfold heldN
      rw [if_pos hp.2.1, hp.2.2, List.length_take]
      simp only [mid0, List.length_nil]
      omega
end Go.Proofs.Ytbcmjjcbjojakaa
end
section
/- Arguments that are requests. -/
namespace Go.Proofs.Ytbcmjjcbjojakaa
open Go.ChangeShapes Go.WideShapes Go.ChangeAt Go.RowKit
set_option linter.unusedVariables false
section
variable {H : Type} {enc : TypeId × Value → H} {w : World} {base : Nat} {held : Bool}
theorem part_of {P : Program} {t : TypeId} {fuel : Nat} {cs cs2 : List Value} {xs : List (DataW H × List MemPlace)} {i : Nat} {y : DataW H × List MemPlace} (h : DataW.trod enc P w base (fun _ => true) held fuel t cs = xs[i]?) (e : cs = cs2) (hy : xs[i]? = some y) :
    DataW.trod enc P w base (fun _ => true) held fuel t cs2 = some y := by rw [← e, h, hy]
theorem fld {P : Program} {m : Nat} {cs : List Value} {fs : Array Field} {xs : List (DataW H × List MemPlace)} (hf : ∀ (i : Nat) (f : Field), fs[i]? = some f → DataW.trod enc P w base (fun _ => true) held m f.type ((cs.drop f.offset).take (P.cellsOf f.type)) = xs[i]?) (i t o : Nat) {f : Field} (h : fs[i]? = some f) (ht : f.type = t) (ho : f.offset = o) :
    DataW.trod enc P w base (fun _ => true) held m t ((cs.drop o).take (P.cellsOf t)) = xs[i]? := by subst ht ho; exact hf i f h
theorem open_num {fuel : Nat} {v : Value} {k : IntKind} {t : TypeId} {x : DataW H × List MemPlace} (ht : Try.prog.underlying t = some (.int k)) (h : DataW.trod enc Try.prog w base (fun _ => true) held fuel t [v] = some x) : ∃ z : Int, v = .int k z ∧ (Lit.int k z).wf = true := by
  obtain ⟨z, e, _, hw⟩ := DataW.trod_int ht h
  exact ⟨z, (List.cons.inj e).1, hw⟩
theorem open_txt {fuel : Nat} {v : Value} {t : TypeId} {x : DataW H × List MemPlace} (ht : Try.prog.underlying t = some .string) (h : DataW.trod enc Try.prog w base (fun _ => true) held fuel t [v] = some x) : ∃ s : ByteArray, v = .string s ∧ s.size ≤ maxLen := by
  obtain ⟨z, e, _, hw⟩ := DataW.trod_string ht h
  exact ⟨z, (List.cons.inj e).1, hw⟩
theorem get_some {α : Type} (l : List α) (n i : Nat) (h : l.length = n) (hi : i < n) : ∃ y, l[i]? = some y := ⟨_, List.getElem?_eq_getElem (by omega)⟩
theorem cells_rq : Try.prog.cellsOf 28 = 8 := by kernel_rfl
theorem cells_u8 : Try.prog.cellsOf 5 = 1 := by kernel_rfl
theorem cells_u64 : Try.prog.cellsOf 25 = 1 := by kernel_rfl
theorem cells_int : Try.prog.cellsOf 3 = 1 := by kernel_rfl
theorem cells_str : Try.prog.cellsOf 9 = 1 := by kernel_rfl
theorem cells_bytes : Try.prog.cellsOf 26 = 1 := by kernel_rfl
/-- A slice of bytes that came in. -/
theorem open_bytes {fuel : Nat} {v : Value} {x : DataW H × List MemPlace} (h : DataW.trod enc Try.prog w base (fun _ => true) held fuel 26 [v] = some x) (hw : ∀ m ∈ x.1.weights Try.prog 26, m ≤ 140737488351232) :
    ∃ (A : Option Addr) (n c : Nat) (bs : List Nat), v = .slice A n c ∧ Rd w w.heap.size A n (cb bs) ∧ (∀ y ∈ bs, y < 256) ∧ n ≤ 140737488351232 := by
  rcases open_ints Try.underlying26 Try.underlying5 cells_u8 h with ⟨hcs, _⟩ | ⟨x3, l, c, zs, hcs, _, hl', hm, hz, hx, hcell, hwz⟩
  · obtain rfl := (List.cons.inj hcs).1
    exact ⟨none, 0, 0, [], rfl, Rd.nil, (fun y hy => absurd hy List.not_mem_nil), by omega⟩
  · obtain rfl := (List.cons.inj hcs).1
    have hrow : IsRow .u8 w (some x3) l c zs := .inr ⟨_, rfl, hl', hm, by simpa using hz, hcell, hwz⟩
    obtain ⟨bs, hr, hb, hbl, hlc⟩ := hrow.bytes
    refine ⟨some x3, l, c, bs.take l, rfl, by rw [show cb (bs.take l) = (cb bs).take l by unfold cb; rw [List.map_take]]; exact hr.take hlc, fun y hy => hb y (List.mem_of_mem_take hy), ?_⟩
    have h8 := hw (c * 1) (by
      rw [hx]
      simp only [DataW.weights, Try.underlying26, List.mem_cons]
      left
      rw [show Try.prog.bytesOf 5 = 1 by kernel_rfl]
      have : zs.length = c := by simpa using hz
      have e : (lits (H := H) .u8 (zs.take l)).length + (lits (H := H) .u8 (zs.drop l)).length = c := by simp only [lits, List.length_map, List.length_take, List.length_drop]; omega
      rw [e])
    omega
set_option maxRecDepth 8000 in
theorem open_rq {fuel : Nat} {cs : List Value} {x : DataW H × List MemPlace} (h : DataW.trod enc Try.prog w base (fun _ => true) held fuel 28 cs = some x) (hw : ∀ m ∈ x.1.weights Try.prog 28, m ≤ 140737488351232) :
    ∃ (k tag : Int) (key after : ByteArray) (off num delim : Int) (A : Option Addr) (n c : Nat) (bs : List Nat), cs = [.int .i64 k, .int .u64 tag, .string key, .string after, .int .i64 off, .int .i64 num, .int .i64 delim, .slice A n c] ∧ Rd w w.heap.size A n (cb bs) ∧ (∀ y ∈ bs, y < 256) ∧ n ≤ 140737488351232 ∧
      (Lit.int .i64 k).wf = true ∧ (Lit.int .u64 tag).wf = true ∧ (Lit.int .i64 off).wf = true ∧ (Lit.int .i64 num).wf = true ∧ (Lit.int .i64 delim).wf = true ∧ key.size ≤ maxLen ∧ after.size ≤ maxLen := by
  obtain ⟨xs, m, rfl, hxe, hlen, hl, hf⟩ := DataW.trod_struct Try.underlying28 h
  rw [cells_rq] at hlen
  obtain ⟨v0, v1, v2, v3, v4, v5, v6, v7, rfl⟩ : ∃ v0 v1 v2 v3 v4 v5 v6 v7, cs = [v0, v1, v2, v3, v4, v5, v6, v7] := by
    match cs, hlen with
    | [a, b, c, d, e, f, g, h], _ => exact ⟨a, b, c, d, e, f, g, h, rfl⟩
  obtain ⟨y0, h0⟩ := get_some xs 8 0 hl (by omega)
  obtain ⟨y1, h1⟩ := get_some xs 8 1 hl (by omega)
  obtain ⟨y2, h2⟩ := get_some xs 8 2 hl (by omega)
  obtain ⟨y3, h3⟩ := get_some xs 8 3 hl (by omega)
  obtain ⟨y4, h4⟩ := get_some xs 8 4 hl (by omega)
  obtain ⟨y5, h5⟩ := get_some xs 8 5 hl (by omega)
  obtain ⟨y6, h6⟩ := get_some xs 8 6 hl (by omega)
  obtain ⟨y7, h7⟩ := get_some xs 8 7 hl (by omega)
  have g0 := fld hf 0 3 0 rfl rfl rfl
  have g1 := fld hf 1 25 1 rfl rfl rfl
  have g2 := fld hf 2 9 2 rfl rfl rfl
  have g3 := fld hf 3 9 3 rfl rfl rfl
  have g4 := fld hf 4 3 4 rfl rfl rfl
  have g5 := fld hf 5 3 5 rfl rfl rfl
  have g6 := fld hf 6 3 6 rfl rfl rfl
  have g7 := fld hf 7 26 7 rfl rfl rfl
  rw [cells_int] at g0 g4 g5 g6
  rw [cells_u64] at g1
  rw [cells_str] at g2 g3
  rw [cells_bytes] at g7
  obtain ⟨k, rfl, wk⟩ := open_num Try.underlying3 (part_of g0 (cs2 := [v0]) rfl h0)
  obtain ⟨tag, rfl, wt⟩ := open_num Try.underlying25 (part_of g1 (cs2 := [v1]) rfl h1)
  obtain ⟨key, rfl, wy⟩ := open_txt Try.underlying9 (part_of g2 (cs2 := [v2]) rfl h2)
  obtain ⟨after, rfl, wa⟩ := open_txt Try.underlying9 (part_of g3 (cs2 := [v3]) rfl h3)
  obtain ⟨off, rfl, wo⟩ := open_num Try.underlying3 (part_of g4 (cs2 := [v4]) rfl h4)
  obtain ⟨num, rfl, wn⟩ := open_num Try.underlying3 (part_of g5 (cs2 := [v5]) rfl h5)
  obtain ⟨delim, rfl, wd⟩ := open_num Try.underlying3 (part_of g6 (cs2 := [v6]) rfl h6)
  obtain ⟨A, n, c, bs, rfl, hr, hb, hn⟩ := open_bytes (part_of g7 (cs2 := [v7]) rfl h7) (fun m hm => by
    refine hw m ?_
    rw [hxe]
    simp only [DataW.weights, Try.underlying28]
    exact DataW.weights_mem_each (j := 7) (t := 26) (d := y7.1) rfl (by rw [List.getElem?_map, h7]; rfl) m hm)
  exact ⟨k, tag, key, after, off, num, delim, A, n, c, bs, rfl, hr, hb, hn, wk, wt, wo, wn, wd, wy, wa⟩
end
end Go.Proofs.Ytbcmjjcbjojakaa
end
section
/- Arguments that are answers, and lists of messages. -/
namespace Go.Proofs.Ytbcmjjcbjojakaa
open Go.ChangeShapes Go.WideShapes Go.ChangeAt Go.RowKit
set_option linter.unusedVariables false
instance : Inhabited Rq := ⟨⟨0, 0, emS, emS, 0, 0, 0, []⟩⟩
instance : Inhabited An := ⟨⟨0, 0, 0, [], [], [], emS, false, 0, 0, 0, 0, 0, 0, 0⟩⟩
def J64 (x : Int) : Prop := -9223372036854775808 ≤ x ∧ x ≤ 9223372036854775807
theorem wfj {z : Int} (h : (Lit.int .i64 z).wf = true) : J64 z := by unfold J64; simpa [Lit.wf, IntKind.min, IntKind.max, IntKind.signed, IntKind.bits] using h
theorem wfu {z : Int} (h : (Lit.int .u64 z).wf = true) : 0 ≤ z ∧ z ≤ 18446744073709551615 := by simpa [Lit.wf, IntKind.min, IntKind.max, IntKind.signed, IntKind.bits] using h
/-- The cells of a request that came in. -/
def RqA (w : World) (B : Nat) (cells : List Value) (R : Rq) : Prop :=
  ∃ A n c, cells = [.int .i64 R.kind, .int .u64 (R.tag : Int), .string R.key, .string R.after, .int .i64 R.off, .int .i64 R.num, .int .i64 R.delim, .slice A n c] ∧ Rd w B A n (cb R.body) ∧ n ≤ c ∧ RqB R ∧ J64 R.kind ∧ R.key.size ≤ 140737488351232 ∧ R.after.size ≤ 140737488351232 ∧ n ≤ 140737488351232
/-- The cells of an answer that came in. -/
def AnA (w : World) (B : Nat) (cells : List Value) (a : An) : Prop :=
  ∃ A n c A2 n2 c2 A3 n3 c3, cells = [.int .i64 a.kind, .int .u64 (a.tag : Int), .int .i64 a.code, .slice A n c, .slice A2 n2 c2, .slice A3 n3 c3, .string a.next, .bool a.more, .int .i64 a.ge, .int .i64 a.gc, .int .i64 a.size, .int .i64 a.h1, .int .i64 a.h2, .int .i64 a.h3, .int .i64 a.h4] ∧
    Rd w B A n (cb a.body) ∧ Rd w B A2 n2 (cs a.keys) ∧ Rd w B A3 n3 (cs a.groups) ∧ n ≤ c ∧ n ≤ 140737488351232 ∧ n2 ≤ c2 ∧ n2 ≤ 8796093022000 ∧ n3 ≤ c3 ∧ n3 ≤ 8796093022000 ∧ AnB a ∧ J64 a.kind ∧ J64 a.code ∧ a.next.size ≤ 140737488351232 ∧ (∀ t ∈ a.keys, t.size ≤ 140737488351232) ∧ ∀ t ∈ a.groups, t.size ≤ 140737488351232
/-- A list of messages that came in. -/
def Lst {M : Type} (Q : World → Nat → List Value → M → Prop) (w : World) (B size : Nat) (A : Option Addr) (n : Nat) (ms : List M) : Prop :=
  ms.length = n ∧ ∀ (i : Nat) (x : M), ms[i]? = some x → ∃ g off cells, A = some ⟨g, off, none⟩ ∧ g < B ∧ w.rangeAt g (off + i * size) cells ∧ cells.length = size ∧ Q w B cells x
theorem RqA.below {w w' : World} {B : Nat} {l : List Value} {R : Rq} (h : RqA w B l R) (b : Below B w w') : RqA w' B l R := by
  obtain ⟨A, n, c, e, hr, h⟩ := h; exact ⟨A, n, c, e, hr.below b, h⟩
theorem AnA.below {w w' : World} {B : Nat} {l : List Value} {a : An} (h : AnA w B l a) (b : Below B w w') : AnA w' B l a := by
  obtain ⟨A, n, c, A2, n2, c2, A3, n3, c3, e, h1, h2, h3, h⟩ := h; exact ⟨A, n, c, A2, n2, c2, A3, n3, c3, e, h1.below b, h2.below b, h3.below b, h⟩
theorem Lst.at_ {M : Type} {Q : World → Nat → List Value → M → Prop} {w w' : World} {B size n i : Nat} {A : Option Addr} {ms : List M} {x : M} (h : Lst Q w B size A n ms) (hQ : ∀ l x, Q w B l x → Q w' B l x) (b : Below B w w') (hx : ms[i]? = some x) :
    ∃ g off cells, A = some ⟨g, off, none⟩ ∧ g < B ∧ w'.rangeAt g (off + i * size) cells ∧ cells.length = size ∧ Q w' B cells x := by
  obtain ⟨g, off, l, e, hg, hr, hl, hq⟩ := h.2 i x hx
  exact ⟨g, off, l, e, hg, fun j v hv => (b.cell (p := ⟨g, _, none⟩) hg).trans (hr j v hv), hl, hQ l x hq⟩
theorem mem_allW {H : Type} {P : Program} {e : TypeId} : ∀ (l : List (DataW H)) (d : DataW H), d ∈ l → ∀ m ∈ d.weights P e, m ∈ DataW.weightsAll P e l
  | [], d, h, m, hm => by cases h
  | y :: r, d, h, m, hm => by
    rw [DataW.weightsAll, List.mem_append]
    rcases List.mem_cons.1 h with rfl | h
    · exact .inl hm
    · exact .inr (mem_allW r d h m hm)
section
variable {H : Type} {enc : TypeId × Value → H} {w : World} {base : Nat} {held : Bool}
theorem cells_an : Try.prog.cellsOf 43 = 15 := by kernel_rfl
theorem cells_err : Try.prog.cellsOf 32 = 1 := by kernel_rfl
theorem cells_bool : Try.prog.cellsOf 4 = 1 := by kernel_rfl
theorem cells_texts : Try.prog.cellsOf 37 = 1 := by kernel_rfl
theorem cells_gen : Try.prog.cellsOf 39 = 2 := by kernel_rfl
theorem cells_healed : Try.prog.cellsOf 41 = 4 := by kernel_rfl
theorem open_flag {fuel : Nat} {v : Value} {t : TypeId} {x : DataW H × List MemPlace} (ht : Try.prog.underlying t = some .bool) (h : DataW.trod enc Try.prog w base (fun _ => true) held fuel t [v] = some x) : ∃ b, v = .bool b := by
  cases fuel with
  | zero => simp [DataW.trod] at h
  | succ n =>
    cases v <;> simp [DataW.trod, ht] at h
    rename_i b
    exact ⟨b, rfl⟩
theorem open_bytes2 {fuel : Nat} {v : Value} {x : DataW H × List MemPlace} (h : DataW.trod enc Try.prog w base (fun _ => true) held fuel 26 [v] = some x) (hw : ∀ m ∈ x.1.weights Try.prog 26, m ≤ 140737488351232) :
    ∃ (A : Option Addr) (n c : Nat) (bs : List Nat), v = .slice A n c ∧ Rd w w.heap.size A n (cb bs) ∧ (∀ y ∈ bs, y < 256) ∧ n ≤ c ∧ n ≤ 140737488351232 := by
  obtain ⟨A, n, c, bs, e, h1, h2, h3⟩ := open_bytes h hw
  refine ⟨A, n, c, bs, e, h1, h2, ?_, h3⟩
  rcases open_ints Try.underlying26 Try.underlying5 cells_u8 h with ⟨hcs, _⟩ | ⟨x3, l, c', zs, hcs, _, hl', _⟩
  · rw [e] at hcs
    have := (List.cons.inj hcs).1
    injection this with _ e1 e2; omega
  · rw [e] at hcs
    have := (List.cons.inj hcs).1
    injection this with _ e1 e2; omega
theorem open_txts {fuel : Nat} {v : Value} {x : DataW H × List MemPlace} (h : DataW.trod enc Try.prog w base (fun _ => true) held fuel 37 [v] = some x) (hw : ∀ m ∈ x.1.weights Try.prog 37, m ≤ 140737488351232) :
    ∃ (A : Option Addr) (n c : Nat) (l : List ByteArray), v = .slice A n c ∧ Rd w w.heap.size A n (cs l) ∧ n ≤ c ∧ n ≤ 8796093022000 ∧ ∀ t ∈ l, t.size ≤ 140737488351232 := by
  rcases open_strings Try.underlying37 Try.underlying9 cells_str h with ⟨hcs, hy⟩ | ⟨a, len, cap, ss, hcs, _, hl, hm, hz, hy, hcell, hsz⟩
  · obtain rfl := (List.cons.inj hcs).1
    exact ⟨none, 0, 0, [], rfl, Rd.nil, by omega, by omega, fun t ht => by cases ht⟩
  · obtain rfl := (List.cons.inj hcs).1
    simp only [if_true] at hz
    have hx : x.1 = .slice (strs (ss.take len)) (strs (ss.drop len)) := by rw [hy]
    have hlen : (ss.take len).length = len := by rw [List.length_take]; omega
    refine ⟨some a, len, cap, ss.take len, rfl, ⟨by rw [cs_len, hlen], fun hp => ?_⟩, hl, ?_, ?_⟩
    · obtain ⟨g, off, spot⟩ := a
      have h0 := hcell 0 (by omega)
      have hs : spot = none := by simpa [Addr.add] using World.cell?_spot h0
      subst hs
      refine ⟨g, off, rfl, ?_, fun i hi => ?_⟩
      · have := World.block_lt_of_cell? w _ h0; simpa [Addr.add] using this
      · have h1 := hcell i (by omega)
        have e : (⟨g, off, none⟩ : Addr).add i = ⟨g, off + i, none⟩ := by unfold Addr.add; split <;> simp_all
        rw [e] at h1
        rw [h1, cs_get _ _ (by omega), List.getD_eq_getElem?_getD, List.getD_eq_getElem?_getD, List.getElem?_take, if_pos hi]
    · have := hw (cap * 16) (by
        rw [hx]
        simp only [DataW.weights, Try.underlying37, List.mem_cons]
        left
        rw [show Try.prog.bytesOf 9 = 16 by kernel_rfl]
        have e : (strs (H := H) (ss.take len)).length + (strs (H := H) (ss.drop len)).length = cap := by simp only [strs, List.length_map, List.length_take, List.length_drop]; omega
        rw [e])
      omega
    · intro t ht
      have := hw t.data.toList.length (by
        rw [hx]
        simp only [DataW.weights, Try.underlying37, List.mem_cons, List.mem_append]
        right; left
        exact mem_allW _ (.lit (.string t.data.toList)) (List.mem_map.2 ⟨t, ht, rfl⟩) _ (by simp [DataW.weights]))
      rw [Array.length_toList] at this
      exact this
theorem open_txt2 {fuel : Nat} {v : Value} {t : TypeId} {x : DataW H × List MemPlace} (ht : Try.prog.underlying t = some .string) (h : DataW.trod enc Try.prog w base (fun _ => true) held fuel t [v] = some x) (hw : ∀ m ∈ x.1.weights Try.prog t, m ≤ 140737488351232) : ∃ s : ByteArray, v = .string s ∧ s.size ≤ 140737488351232 := by
  obtain ⟨z, e, e2, hwz⟩ := DataW.trod_string ht h
  refine ⟨z, (List.cons.inj e).1, ?_⟩
  have := hw z.data.toList.length (by rw [e2]; simp [DataW.weights])
  rw [Array.length_toList] at this
  exact this
theorem open_list {M : Type} [Inhabited M] {Q : World → Nat → List Value → M → Prop} {t e size fuel : Nat} {cs : List Value} {x : DataW H × List MemPlace} (ht : Try.prog.underlying t = some (.slice e)) (ce : Try.prog.cellsOf e = size) (hs : 0 < size)
    (op : ∀ (fuel : Nat) (l : List Value) (y : DataW H × List MemPlace), DataW.trod enc Try.prog w base (fun _ => true) held fuel e l = some y → (∀ m ∈ y.1.weights Try.prog e, m ≤ 140737488351232) → l.length = size ∧ ∃ z : M, Q w w.heap.size l z)
    (h : DataW.trod enc Try.prog w base (fun _ => true) held fuel t cs = some x) (hw : ∀ m ∈ x.1.weights Try.prog t, m ≤ 140737488351232) :
    ∃ A len cap ms, cs = [.slice A len cap] ∧ len ≤ cap ∧ Lst Q w w.heap.size size A len ms ∧ cap * Try.prog.bytesOf e ≤ 140737488351232 := by
  rcases Go.Deep.open_slice ht h with ⟨rfl, _⟩ | ⟨a, len, cap, m, n, D, Pl, rfl, _, hl, hm, hmm, hxe, hx⟩
  · exact ⟨none, 0, 0, [], rfl, Nat.le_refl _, ⟨rfl, fun i x hx => by cases hx⟩, by omega⟩
  simp only [if_true] at hmm
  subst hmm
  rw [ce] at hx
  have each : ∀ r, r < len → ∃ y : List Value × M, (∀ j v, y.1[j]? = some v → w.cell? ((a.add (r * size)).add j) = some v) ∧ y.1.length = size ∧ Q w w.heap.size y.1 y.2 := fun r hr => by
    obtain ⟨cs', hcs, htr⟩ := hx r (by omega)
    have hcell := (World.cells?_some hcs).2.2
    obtain ⟨hlen, z, hz⟩ := op _ cs' _ htr fun k hk => hw k (by
      rw [hxe]
      simp only [DataW.weights, ht, List.mem_cons, List.mem_append]
      right; left
      refine mem_allW _ (D r) ?_ k hk
      exact List.mem_map.2 ⟨r, List.mem_range.2 hr, rfl⟩)
    refine ⟨⟨cs', z⟩, fun j v hv => ?_, hlen, hz⟩
    have hj : j < size := by have := (List.getElem?_eq_some_iff.1 hv).1; simp only at this; omega
    exact (hcell j hj).trans (by simp only at hv; rw [hv])
  obtain ⟨y, hy⟩ := Go.Deep.choose_lt each
  refine ⟨some a, len, m, (List.range len).map fun r => (y r).2, rfl, hl, ⟨by simp, fun i z hz => ?_⟩, ?_⟩
  · have hi : i < len := by have := (List.getElem?_eq_some_iff.1 hz).1; simpa using this
    have hzz : (y i).2 = z := by
      rw [List.getElem?_map, List.getElem?_range hi] at hz
      simpa using hz
    obtain ⟨hc, hlen, hq⟩ := hy i hi
    obtain ⟨hc0, hlen0, _⟩ := hy 0 (by omega)
    obtain ⟨g, off, spot⟩ := a
    obtain ⟨v0, hv0⟩ : ∃ v, (y 0).1[0]? = some v := ⟨_, List.getElem?_eq_getElem (by omega)⟩
    have hs : spot = none := by simpa [Addr.add] using World.cell?_spot (hc0 0 v0 hv0)
    subst hs
    obtain ⟨v1, hv1⟩ : ∃ v, (y i).1[0]? = some v := ⟨_, List.getElem?_eq_getElem (by omega)⟩
    have h0 := hc 0 v1 hv1
    simp only [Addr.add_mid] at hc h0
    exact ⟨g, off, (y i).1, rfl, by have := World.block_lt_of_cell? w _ h0; simpa using this, hc, hlen, hzz ▸ hq⟩
  · have := hw (m * Try.prog.bytesOf e) (by
      rw [hxe]
      simp only [DataW.weights, ht, List.mem_cons, List.length_map, List.length_range]
      left
      generalize Try.prog.bytesOf e = q
      exact congrArg (· * q) (Nat.add_sub_cancel' hl).symm)
    exact this
theorem open_rqA (fuel : Nat) (l : List Value) (y : DataW H × List MemPlace) (h : DataW.trod enc Try.prog w base (fun _ => true) held fuel 28 l = some y) (hw : ∀ m ∈ y.1.weights Try.prog 28, m ≤ 140737488351232) : l.length = 8 ∧ ∃ R, RqA w w.heap.size l R := by
  have hlen : l.length = 8 := by
    obtain ⟨xs, m, rfl, hxe, hlen, hl, hf⟩ := DataW.trod_struct Try.underlying28 h
    rwa [cells_rq] at hlen
  refine ⟨hlen, ?_⟩
  obtain ⟨xs, m, rfl, hxe, _, hl, hf⟩ := DataW.trod_struct Try.underlying28 h
  obtain ⟨k, tag, key, after, off, num, delim, A, n, c, bs, rfl, hr, hb, hn, wk, wt, wo, wn, wd, wy, wa⟩ := open_rq h hw
  have t1 := wfu wt
  obtain ⟨tn, rfl⟩ : ∃ tn : Nat, tag = (tn : Int) := ⟨tag.toNat, by omega⟩
  obtain ⟨y7, h7⟩ := get_some xs 8 7 hl (by omega)
  have g7 := fld hf 7 26 7 rfl rfl rfl
  rw [cells_bytes] at g7
  obtain ⟨A', n', c', bs', e', _, _, hnc, _⟩ := open_bytes2 (part_of g7 (cs2 := [.slice A n c]) rfl h7) (fun m hm => by
    refine hw m ?_
    rw [hxe]
    simp only [DataW.weights, Try.underlying28]
    exact DataW.weights_mem_each (j := 7) (t := 26) (d := y7.1) rfl (by rw [List.getElem?_map, h7]; rfl) m hm)
  injection e' with _ e1 e2
  obtain ⟨y2, h2⟩ := get_some xs 8 2 hl (by omega)
  obtain ⟨y3, h3⟩ := get_some xs 8 3 hl (by omega)
  have g2 := fld hf 2 9 2 rfl rfl rfl
  have g3 := fld hf 3 9 3 rfl rfl rfl
  rw [cells_str] at g2 g3
  have hwx : ∀ (j : Nat) (t : TypeId) (y : DataW H × List MemPlace), xs[j]? = some y → ([3, 25, 9, 9, 3, 3, 3, 26] : List TypeId)[j]? = some t → ∀ m ∈ y.1.weights Try.prog t, m ≤ 140737488351232 := fun j t y hj ht m hm => by
    refine hw m ?_
    rw [hxe]
    simp only [DataW.weights, Try.underlying28]
    exact DataW.weights_mem_each (j := j) (t := t) (d := y.1) ht (by rw [List.getElem?_map, hj]; rfl) m hm
  obtain ⟨s2, e2', wy2⟩ := open_txt2 Try.underlying9 (part_of g2 (cs2 := [.string key]) rfl h2) (hwx 2 _ y2 h2 rfl)
  obtain ⟨s3, e3', wa2⟩ := open_txt2 Try.underlying9 (part_of g3 (cs2 := [.string after]) rfl h3) (hwx 3 _ y3 h3 rfl)
  injection e2' with e2'
  injection e3' with e3'
  subst e2' e3'
  exact ⟨⟨k, tn, key, after, off, num, delim, bs⟩, A, n, c, rfl, hr, by omega, ⟨by simp only; omega, (wfj wo).1, (wfj wo).2, (wfj wn).1, (wfj wn).2, (wfj wd).1, (wfj wd).2, hb⟩, wfj wk, wy2, wa2, hn⟩
set_option maxRecDepth 8000 in
theorem open_anA (fuel : Nat) (l : List Value) (y : DataW H × List MemPlace) (h : DataW.trod enc Try.prog w base (fun _ => true) held fuel 43 l = some y) (hw : ∀ m ∈ y.1.weights Try.prog 43, m ≤ 140737488351232) : l.length = 15 ∧ ∃ a, AnA w w.heap.size l a := by
  obtain ⟨xs, m, rfl, hxe, hlen, hl, hf⟩ := DataW.trod_struct Try.underlying43 h
  rw [cells_an] at hlen
  refine ⟨hlen, ?_⟩
  obtain ⟨v0, v1, v2, v3, v4, v5, v6, v7, v8, v9, v10, v11, v12, v13, v14, rfl⟩ : ∃ v0 v1 v2 v3 v4 v5 v6 v7 v8 v9 v10 v11 v12 v13 v14, l = [v0, v1, v2, v3, v4, v5, v6, v7, v8, v9, v10, v11, v12, v13, v14] := by
    match l, hlen with
    | [a, b, c, d, e, f, g, h, i, j, k, l, m, n, o], _ => exact ⟨a, b, c, d, e, f, g, h, i, j, k, l, m, n, o, rfl⟩
  obtain ⟨y0, h0⟩ := get_some xs 11 0 hl (by omega)
  obtain ⟨y1, h1⟩ := get_some xs 11 1 hl (by omega)
  obtain ⟨y2, h2⟩ := get_some xs 11 2 hl (by omega)
  obtain ⟨y3, h3⟩ := get_some xs 11 3 hl (by omega)
  obtain ⟨y4, h4⟩ := get_some xs 11 4 hl (by omega)
  obtain ⟨y5, h5⟩ := get_some xs 11 5 hl (by omega)
  obtain ⟨y6, h6⟩ := get_some xs 11 6 hl (by omega)
  obtain ⟨y7, h7⟩ := get_some xs 11 7 hl (by omega)
  obtain ⟨y8, h8⟩ := get_some xs 11 8 hl (by omega)
  obtain ⟨y9, h9⟩ := get_some xs 11 9 hl (by omega)
  obtain ⟨y10, h10⟩ := get_some xs 11 10 hl (by omega)
  have g0 := fld hf 0 3 0 rfl rfl rfl
  have g1 := fld hf 1 25 1 rfl rfl rfl
  have g2 := fld hf 2 32 2 rfl rfl rfl
  have g3 := fld hf 3 26 3 rfl rfl rfl
  have g4 := fld hf 4 37 4 rfl rfl rfl
  have g5 := fld hf 5 37 5 rfl rfl rfl
  have g6 := fld hf 6 9 6 rfl rfl rfl
  have g7 := fld hf 7 4 7 rfl rfl rfl
  have g8 := fld hf 8 39 8 rfl rfl rfl
  have g9 := fld hf 9 3 10 rfl rfl rfl
  have g10 := fld hf 10 41 11 rfl rfl rfl
  rw [cells_int] at g0 g9
  rw [cells_u64] at g1
  rw [cells_err] at g2
  rw [cells_bytes] at g3
  rw [cells_texts] at g4 g5
  rw [cells_str] at g6
  rw [cells_bool] at g7
  rw [cells_gen] at g8
  rw [cells_healed] at g10
  have hwx : ∀ (j : Nat) (t : TypeId) (y : DataW H × List MemPlace), xs[j]? = some y → ([3, 25, 32, 26, 37, 37, 9, 4, 39, 3, 41] : List TypeId)[j]? = some t → ∀ m ∈ y.1.weights Try.prog t, m ≤ 140737488351232 := fun j t y hj ht m hm => by
    refine hw m ?_
    rw [hxe]
    simp only [DataW.weights, Try.underlying43]
    exact DataW.weights_mem_each (j := j) (t := t) (d := y.1) ht (by rw [List.getElem?_map, hj]; rfl) m hm
  obtain ⟨k, rfl, wk⟩ := open_num Try.underlying3 (part_of g0 (cs2 := [v0]) rfl h0)
  obtain ⟨tag, rfl, wt⟩ := open_num Try.underlying25 (part_of g1 (cs2 := [v1]) rfl h1)
  obtain ⟨code, rfl, wc⟩ := open_num Try.underlying32 (part_of g2 (cs2 := [v2]) rfl h2)
  obtain ⟨A, n, c, bs, rfl, hr, hb, hnc, hn⟩ := open_bytes2 (part_of g3 (cs2 := [v3]) rfl h3) (hwx 3 _ y3 h3 rfl)
  obtain ⟨A2, n2, c2, ks, rfl, hr2, hnc2, hn2, hs2⟩ := open_txts (part_of g4 (cs2 := [v4]) rfl h4) (hwx 4 _ y4 h4 rfl)
  obtain ⟨A3, n3, c3, gs, rfl, hr3, hnc3, hn3, hs3⟩ := open_txts (part_of g5 (cs2 := [v5]) rfl h5) (hwx 5 _ y5 h5 rfl)
  obtain ⟨nx, rfl, wx⟩ := open_txt2 Try.underlying9 (part_of g6 (cs2 := [v6]) rfl h6) (hwx 6 _ y6 h6 rfl)
  obtain ⟨mo, rfl⟩ := open_flag Try.underlying4 (part_of g7 (cs2 := [v7]) rfl h7)
  obtain ⟨sz, rfl, ws⟩ := open_num Try.underlying3 (part_of g9 (cs2 := [v10]) rfl h9)
  have g8' := part_of g8 (cs2 := [v8, v9]) rfl h8
  obtain ⟨zs, m', _, _, _, hl', hf'⟩ := DataW.trod_struct Try.underlying39 g8'
  obtain ⟨z0, hz0⟩ := get_some zs 2 0 hl' (by omega)
  obtain ⟨z1, hz1⟩ := get_some zs 2 1 hl' (by omega)
  have q0 := fld hf' 0 3 0 rfl rfl rfl
  have q1 := fld hf' 1 3 1 rfl rfl rfl
  rw [cells_int] at q0 q1
  obtain ⟨ge, rfl, wge⟩ := open_num Try.underlying3 (part_of q0 (cs2 := [v8]) rfl hz0)
  obtain ⟨gc, rfl, wgc⟩ := open_num Try.underlying3 (part_of q1 (cs2 := [v9]) rfl hz1)
  have g10' := part_of g10 (cs2 := [v11, v12, v13, v14]) rfl h10
  obtain ⟨us, m3, _, _, _, hl3, hf3⟩ := DataW.trod_struct Try.underlying41 g10'
  obtain ⟨u0, hu0⟩ := get_some us 4 0 hl3 (by omega)
  obtain ⟨u1, hu1⟩ := get_some us 4 1 hl3 (by omega)
  obtain ⟨u2, hu2⟩ := get_some us 4 2 hl3 (by omega)
  obtain ⟨u3, hu3⟩ := get_some us 4 3 hl3 (by omega)
  have p0 := fld hf3 0 3 0 rfl rfl rfl
  have p1 := fld hf3 1 3 1 rfl rfl rfl
  have p2 := fld hf3 2 3 2 rfl rfl rfl
  have p3 := fld hf3 3 3 3 rfl rfl rfl
  rw [cells_int] at p0 p1 p2 p3
  obtain ⟨h1', rfl, w1⟩ := open_num Try.underlying3 (part_of p0 (cs2 := [v11]) rfl hu0)
  obtain ⟨h2', rfl, w2⟩ := open_num Try.underlying3 (part_of p1 (cs2 := [v12]) rfl hu1)
  obtain ⟨h3', rfl, w3⟩ := open_num Try.underlying3 (part_of p2 (cs2 := [v13]) rfl hu2)
  obtain ⟨h4', rfl, w4⟩ := open_num Try.underlying3 (part_of p3 (cs2 := [v14]) rfl hu3)
  have t1 := wfu wt
  obtain ⟨tn, rfl⟩ : ∃ tn : Nat, tag = (tn : Int) := ⟨tag.toNat, by omega⟩
  refine ⟨⟨k, tn, code, bs, ks, gs, nx, mo, ge, gc, sz, h1', h2', h3', h4'⟩, A, n, c, A2, n2, c2, A3, n3, c3, rfl, hr, hr2, hr3, hnc, hn, hnc2, hn2, hnc3, hn3, ⟨by simp only; omega, hb, ?_⟩, wfj wk, wfj wc, wx, hs2, hs3⟩
  rintro v (rfl | rfl | rfl | rfl | rfl | rfl | rfl)
  · exact wfj wge
  · exact wfj wgc
  · exact wfj ws
  · exact wfj w1
  · exact wfj w2
  · exact wfj w3
  · exact wfj w4
end
end Go.Proofs.Ytbcmjjcbjojakaa
end
section
/- Contracts of the laws' long and vast: how many bytes the messages may have. -/
namespace Go.Proofs.Ytbcmjjcbjojakaa
open Go.RowKit
set_option linter.unusedVariables false
set_option linter.unusedSimpArgs false
/-- How many bytes some texts have, and one more each. -/
def longP (ts : List ByteArray) : Nat := (ts.map fun t => t.size + 1).sum
def longQ : Nat → List ByteArray → Nat
  | v, [] => v
  | v, t :: ts => if v < 2147483648 then longQ (v + (t.size + 1)) ts else v
theorem longQ_stop {v : Nat} (ts : List ByteArray) (h : ¬ v < 2147483648) : longQ v ts = v := by
  cases ts with
  | nil => rfl
  | cons t ts => unfold longQ; rw [if_neg h]
theorem longQ_less : ∀ (ts : List ByteArray) (v : Nat), longQ v ts < 2147483648 → longQ v ts = v + longP ts
  | [], v, _ => rfl
  | t :: ts, v, h => by
    unfold longQ at h ⊢
    split at h
    · rename_i hv
      rw [if_pos hv, longQ_less ts _ h]; unfold longP; rw [List.map_cons, List.sum_cons]; omega
    · contradiction
theorem longQ_le : ∀ (ts : List ByteArray) (v : Nat), (∀ t ∈ ts, t.size ≤ 140737488351232) → v ≤ 140739635839000 → longQ v ts ≤ 140739635839000
  | [], v, _, hv => hv
  | t :: ts, v, h, hv => by
    unfold longQ
    split
    · refine longQ_le ts _ (fun x hx => h x (List.mem_cons_of_mem _ hx)) ?_
      have := h t (List.mem_cons_self ..)
      omega
    · exact hv
set_option maxRecDepth 8000 in
theorem long_any (w : World) (A : Option Addr) (n c B : Nat) (ts : List ByteArray) (hr : Rd w B A n (cs ts)) (hn : n ≤ 8796093022000) (hsz : ∀ t ∈ ts, t.size ≤ 140737488351232) :
    Calls Try.prog 79 #[.slice A n c] w fun e w' => e = .returned (.int .i64 (longQ 0 ts : Nat)) ∧ w' = w := by
  have hl : ts.length = n := by have := hr.1; rwa [cs_len] at this
  have HH : Hd (Rd w B A n (cs ts) ∧ (∀ t ∈ ts, t.size ≤ 140737488351232) ∧ ts.length = n) := ⟨hr, hsz, hl⟩
  obtain ⟨R, hR⟩ : ∃ R, longQ 0 ts = R := ⟨_, rfl⟩
  rw [hR]
  have HR := Hd.mk hR
  clear hr hsz hl hR
  go_enter Try.func79, Try.ntmps79
  go_wp2_with fail
  go_loopw [3, 4] (fun u3 u4 wr => ∃ i v : Nat, u3 = .int .i64 (v : Int) ∧ u4 = .int .i64 (i : Int) ∧ i ≤ n ∧ v ≤ 140739635839000 ∧ longQ v (ts.drop i) = R ∧ wr = w) (fun _ u4 _ => n - (intOf u4).toNat)
  case atStart => exact ⟨0, 0, rfl, rfl, Nat.zero_le _, by omega, HR.out, rfl⟩
  case round =>
    obtain ⟨i, v, rfl, rfl, hi, hv, hq, hw⟩ := hrel
    subst hw
    have HQ := Hd.mk hq
    clear hq
    by_cases hlt : i < n
    · have hki : (i : Int) < (n : Int) := by omega
      obtain ⟨t, ht⟩ : ∃ t, ts[i]? = some t := ⟨_, List.getElem?_eq_getElem (by have := HH.out.2.2; omega)⟩
      have hd : ts.drop i = t :: ts.drop (i + 1) := by
        rw [← List.getElem_cons_drop (h := by have := HH.out.2.2; omega)]
        congr 1
        rw [List.getElem?_eq_getElem (by have := HH.out.2.2; omega)] at ht
        injection ht
      by_cases hv2 : v < 2147483648
      · have hvi : (v : Int) < 2147483648 := by omega
        obtain ⟨g, off, hA, hg, hc⟩ := HH.out.1.2 (by omega)
        subst hA
        have dc : wr.cell? ⟨g, off + i, none⟩ = some (.string t) := by
          rw [hc i hlt]; unfold cs; rw [List.getElem?_map, ht]; rfl
        have hts := HH.out.2.1 t (List.mem_of_getElem? ht)
        obtain ⟨sz, hsz⟩ : ∃ q, t.size = q := ⟨_, rfl⟩
        have hszl : sz ≤ 140737488351232 := by rw [← hsz]; exact hts
        have HN : Hd (longQ (v + (sz + 1)) (ts.drop (i + 1)) = R) := ⟨by have := HQ.out; rw [hd] at this; unfold longQ at this; rw [if_pos hv2, hsz] at this; exact this⟩
        have hw1 : IntKind.i64.wrap ((sz : Int) + 1) = (sz : Int) + 1 := by rw [IntKind.wrap_i64]; omega
        have HLT := Hd.mk hlt
        have HB : Hd (longQ (v + (sz + 1)) (ts.drop (i + 1)) ≤ 140739635839000 ∧ v + (sz + 1) ≤ 140739635839000) := ⟨longQ_le _ _ (fun x hx => HH.out.2.1 x (List.mem_of_mem_drop hx)) (by omega), by omega⟩
        clear hc hg ht hts hd hlt hv2
        go_wp2_with fail
        go_roundw
        case rel => exact ⟨i + 1, v + (sz + 1), by go_num, by go_num, HLT.out, HB.out.2, HN.out, (by first | rfl | trivial)⟩
        case measure => simp [intOf]; have := HLT.out; omega
      · have hvi : ¬ (v : Int) < 2147483648 := by omega
        obtain rfl : R = v := by rw [← HQ.out, longQ_stop _ hv2]
        have hd2 : decide ((R : Int) < 2147483648) = false := decide_eq_false hvi
        clear hv2 hlt ht hd hv hvi
        go_wp2_with fail
        go_ret
        exact ⟨rfl, rfl⟩
    · have hki : ¬ (i : Int) < (n : Int) := by omega
      obtain rfl : R = v := by rw [← HQ.out, List.drop_of_length_le (by have := HH.out.2.2; omega)]; rfl
      clear hlt
      go_wp2_with fail
      go_ret
      exact ⟨rfl, rfl⟩
/-- How much a message counts. -/
def rqSz (R : Rq) : Nat := 64 + R.key.size + R.after.size + R.body.length
def anSz (a : An) : Nat := 64 + a.body.length + a.next.size + longP a.keys + longP a.groups
def vastQ {M : Type} (f : M → Nat) : Nat → List M → Nat
  | v, [] => v
  | v, x :: l => if v < 2147483648 then vastQ f (v + f x) l else v
theorem vastQ_stop {M : Type} {f : M → Nat} {v : Nat} (l : List M) (h : ¬ v < 2147483648) : vastQ f v l = v := by
  cases l with
  | nil => rfl
  | cons t ts => unfold vastQ; rw [if_neg h]
theorem vastQ_less {M : Type} {f g : M → Nat} : ∀ (l : List M) (v : Nat), (∀ x ∈ l, f x < 2147483648 → f x = g x) → vastQ f v l < 2147483648 → vastQ f v l = v + (l.map g).sum
  | [], v, _, _ => rfl
  | t :: ts, v, hfg, h => by
    unfold vastQ at h ⊢
    split at h
    · rename_i hv
      have hlow : ∀ (l : List M) (v : Nat), v ≤ vastQ f v l := by
        intro l
        induction l with
        | nil => intro v; exact Nat.le_refl _
        | cons x l ih => intro v; unfold vastQ; split <;> first | exact Nat.le_trans (Nat.le_add_right _ _) (ih _) | exact Nat.le_refl _
      have h1 := hlow ts (v + f t)
      rw [if_pos hv, vastQ_less ts _ (fun x hx => hfg x (List.mem_cons_of_mem _ hx)) h, List.map_cons, List.sum_cons, hfg t (List.mem_cons_self ..) (by omega)]; omega
    · contradiction
def anSq (a : An) : Nat := 64 + a.body.length + a.next.size + longQ 0 a.keys + longQ 0 a.groups
theorem anSq_eq (a : An) (h : anSq a < 2147483648) : anSq a = anSz a := by
  unfold anSq at h ⊢; unfold anSz
  have h1 := longQ_less a.keys 0 (by omega)
  have h2 := longQ_less a.groups 0 (by omega)
  omega
/-- Where the loops of vast stand. -/
structure Va (w W : World) (g1 : Nat) (l : Array Value) : Prop where
  b1 : W.heap[g1]? = some (.cells l 95)
  be : Below w.heap.size w W
  l1 : w.heap.size ≤ g1
theorem Va.at_ {w W : World} {g1 : Nat} {l : Array Value} (h : Va w W g1 l) (i : Nat) {v : Value} (hv : l[i]? = some v) : W.cell? ⟨g1, i, none⟩ = some v := by rw [cell_of_row W g1 i _ _ (0, 0) h.b1]; exact hv
theorem Va.below {w W W' : World} {g1 : Nat} {l : Array Value} (h : Va w W g1 l) (b : Below W.heap.size W W') : Va w W' g1 l := ⟨by rw [b.block g1 (Array.getElem?_eq_some_iff.1 h.b1).1]; exact h.b1, h.be.trans (b.mono h.be.size), h.l1⟩
theorem infoTalk : (Try.prog.info? 95).map (·.size) = some 4 := by kernel_rfl
theorem vastQ_le {M : Type} {f : M → Nat} : ∀ (l : List M) (v : Nat), (∀ x ∈ l, f x ≤ 703687441760000) → v ≤ 703689589243648 → vastQ f v l ≤ 703689589243648
  | [], v, _, hv => hv
  | t :: ts, v, h, hv => by
    unfold vastQ
    split
    · refine vastQ_le ts _ (fun x hx => h x (List.mem_cons_of_mem _ hx)) ?_
      have := h t (List.mem_cons_self ..)
      omega
    · exact hv
theorem drop_at {M : Type} {l : List M} {i : Nat} {x : M} (h : l[i]? = some x) : l.drop i = x :: l.drop (i + 1) := by
  obtain ⟨hi, hx⟩ := List.getElem?_eq_some_iff.1 h
  rw [← List.getElem_cons_drop (h := hi), hx]
theorem rqSz_le {w : World} {B : Nat} {l : List Value} {R : Rq} (h : RqA w B l R) : rqSz R ≤ 703687441760000 := by
  obtain ⟨A, n, c, e, hr, hnc, hb, hk, h1, h2, h3⟩ := h
  have := hr.1; rw [cb_length] at this
  unfold rqSz; omega
theorem anSq_le {w : World} {B : Nat} {l : List Value} {a : An} (h : AnA w B l a) : anSq a ≤ 703687441760000 := by
  obtain ⟨A, n, c, A2, n2, c2, A3, n3, c3, e, h1, h2, h3, _, hn, _, _, _, _, _, _, _, h4, h5, h6⟩ := h
  have := h1.1; rw [cb_length] at this
  have q1 := longQ_le a.keys 0 h5 (by omega)
  have q2 := longQ_le a.groups 0 h6 (by omega)
  unfold anSq; omega
set_option maxRecDepth 20000 in
set_option maxHeartbeats 8000000 in
/-- Is it vast? If not, the messages are small together. -/
theorem vast_any (w : World) (T : Bool) (A1 A2 A3 : Option Addr) (n1 c1 n2 c2 n3 c3 : Nat) (rs : List Rq) (ys : List An) (h1 : Lst RqA w w.heap.size 8 A1 n1 rs) (h2 : Lst AnA w w.heap.size 15 A2 n2 ys) (hn1 : n1 ≤ 140737488351232) (hn2 : n2 ≤ 140737488351232) :
    Calls Try.prog 41 #[.agg #[.bool T, .slice A1 n1 c1, .slice A2 n2 c2, .slice A3 n3 c3]] w fun e w' => ∃ b, e = .returned (.bool b) ∧ Below w.heap.size w w' ∧ (b = false → (rs.map rqSz).sum + (ys.map anSz).sum < 2147483648) := by
  obtain ⟨l, hl⟩ : ∃ l : Array Value, l = #[.bool T, .slice A1 n1 c1, .slice A2 n2 c2, .slice A3 n3 c3] := ⟨_, rfl⟩
  obtain ⟨w0, hw0⟩ : ∃ U, w.alloc (.cells #[.bool T, .slice A1 n1 c1, .slice A2 n2 c2, .slice A3 n3 c3] 95) = U := ⟨_, rfl⟩
  obtain ⟨g1, hg1⟩ : ∃ q, w.heap.size = q := ⟨_, rfl⟩
  have H0 : Hd (Va w w0 g1 l) := ⟨by rw [← hw0, ← hg1, hl]; exact ⟨heap_alloc_new w _, (Below.refl _ w).alloc (Nat.le_refl _) _, Nat.le_refl _⟩⟩
  have HH : Hd (Lst RqA w w.heap.size 8 A1 n1 rs ∧ Lst AnA w w.heap.size 15 A2 n2 ys ∧ l = #[.bool T, .slice A1 n1 c1, .slice A2 n2 c2, .slice A3 n3 c3]) := ⟨h1, h2, hl⟩
  have hrl : ∀ x ∈ rs, rqSz x ≤ 703687441760000 := fun x hx => by
    obtain ⟨i, hi⟩ := List.getElem?_of_mem hx
    obtain ⟨_, _, _, _, _, _, _, hq⟩ := h1.2 i x hi
    exact rqSz_le hq
  have hal : ∀ x ∈ ys, anSq x ≤ 703687441760000 := fun x hx => by
    obtain ⟨i, hi⟩ := List.getElem?_of_mem hx
    obtain ⟨_, _, _, _, _, _, _, hq⟩ := h2.2 i x hi
    exact anSq_le hq
  have HZ := Hd.mk (And.intro hrl hal)
  obtain ⟨R1, hR1⟩ : ∃ R, vastQ rqSz 0 rs = R := ⟨_, rfl⟩
  have hR1l : R1 ≤ 703689589243648 := by rw [← hR1]; exact vastQ_le rs 0 hrl (by omega)
  obtain ⟨R2, hR2⟩ : ∃ R, vastQ anSq R1 ys = R := ⟨_, rfl⟩
  have HR1 := Hd.mk hR1
  have HR2 := Hd.mk hR2
  clear h1 h2 hl hrl hal hR1 hR2
  go_enter Try.func41, Try.ntmps41
  go_upto_region 1 with fail
  try rw [hw0]
  try rw [hg1]
  clear hw0 hg1
  go_wp2_with fail
  go_loopw [3, 4] (fun u3 u4 wr => ∃ i v : Nat, u3 = .int .i64 (v : Int) ∧ u4 = .int .i64 (i : Int) ∧ i ≤ n1 ∧ v ≤ 703689589243648 ∧ vastQ rqSz v (rs.drop i) = R1 ∧ Va w wr g1 l) (fun _ u4 _ => n1 - (intOf u4).toNat)
  case atStart => exact ⟨0, 0, rfl, rfl, Nat.zero_le _, by omega, HR1.out, H0.out⟩
  case round =>
    obtain ⟨i, v, rfl, rfl, hi, hv, hq, hS⟩ := hrel
    have HQ := Hd.mk hq
    have HS := Hd.mk hS
    clear hq hS H0
    have d1 : wr.cell? ⟨g1, 1, none⟩ = some (.slice A1 n1 c1) := HS.out.at_ 1 (by rw [HH.out.2.2]; rfl)
    by_cases hgo : i < n1 ∧ v < 2147483648
    · have hki : (i : Int) < (n1 : Int) := by omega
      have hvi : (v : Int) < 2147483648 := by omega
      obtain ⟨x, hx⟩ : ∃ x, rs[i]? = some x := ⟨_, List.getElem?_eq_getElem (by have := HH.out.1.1; omega)⟩
      obtain ⟨q7, o7, cx, hq7, hl7, hr7, hc7, hx7⟩ := HH.out.1.at_ (fun _ _ q => q.below HS.out.be) HS.out.be hx
      subst hq7
      have hsz := rqSz_le hx7
      obtain ⟨Ab, nb, cb1, hcx, hrb, hnb, _, _, hk2, hk3, hn7⟩ := hx7
      have hbl := hrb.1
      rw [cb_length] at hbl
      obtain ⟨kl, hkl⟩ : ∃ q, x.key.size = q := ⟨_, rfl⟩
      obtain ⟨al, hal⟩ : ∃ q, x.after.size = q := ⟨_, rfl⟩
      have hrz : rqSz x = 64 + kl + al + nb := by unfold rqSz; omega
      have HN : Hd (vastQ rqSz (v + (64 + kl + al + nb)) (rs.drop (i + 1)) = R1) := ⟨by have := HQ.out; rw [drop_at hx] at this; unfold vastQ at this; rw [if_pos hgo.2, hrz] at this; exact this⟩
      have HC : Hd (wr.rangeAt q7 (o7 + i * 8) cx ∧ cx = [.int .i64 x.kind, .int .u64 (x.tag : Int), .string x.key, .string x.after, .int .i64 x.off, .int .i64 x.num, .int .i64 x.delim, .slice Ab nb cb1]) := ⟨hr7, hcx⟩
      have hrg : wr.rangeAt q7 (o7 + i * 8) [.int .i64 x.kind, .int .u64 (x.tag : Int), .string x.key, .string x.after, .int .i64 x.off, .int .i64 x.num, .int .i64 x.delim, .slice Ab nb cb1] := by rw [← HC.out.2]; exact HC.out.1
      have HRG := Hd.mk hrg
      have hkl2 : kl ≤ 140737488351232 := by omega
      have hal2 : al ≤ 140737488351232 := by omega
      have HLT := Hd.mk hgo
      clear hx hl7 hr7 hc7 hcx hrb hbl hrz hgo hsz hk2 hk3 hrg
      go_upto_region 5 with fail
      go_upto_region 6 with (first | (refine at_load (x := .tmp 22) ?_; refine wpList_load_mid rfl 28 (.tmp 22) rfl q7 (o7 + i * 8) rfl [.int .i64 x.kind, .int .u64 (x.tag : Int), .string x.key, .string x.after, .int .i64 x.off, .int .i64 x.num, .int .i64 x.delim, .slice Ab nb cb1] _ HRG.out Try.underlying28 rfl infoRq8 ?_) | (refine at_store (x := .tmp 5) ?_; refine wpList_boxed rfl 28 (.tmp 5) (.tmp 23) rfl wr.heap.size rfl #[.int .i64 x.kind, .int .u64 (x.tag : Int), .string x.key, .string x.after, .int .i64 x.off, .int .i64 x.num, .int .i64 x.delim, .slice Ab nb cb1] rfl rfl infoRq8 rfl (by simp [Value.oneCell']) ?_; intro w3 hB3))
      have HS3 := Hd.mk (HS.out.below hB3.out.2.1)
      obtain ⟨g5, hg5⟩ : ∃ q, wr.heap.size = q := ⟨_, rfl⟩
      rw [hg5] at hB3 ⊢
      have e2 : w3.cell? ⟨g5, 2, none⟩ = some (.string x.key) := cell_of_row w3 g5 2 _ _ (0, 0) hB3.out.1
      have e3 : w3.cell? ⟨g5, 3, none⟩ = some (.string x.after) := cell_of_row w3 g5 3 _ _ (0, 0) hB3.out.1
      have e7 : w3.cell? ⟨g5, 7, none⟩ = some (.slice Ab nb cb1) := cell_of_row w3 g5 7 _ _ (0, 0) hB3.out.1
      clear hB3 hg5 d1
      go_wp2_with fail
      go_roundw
      case rel => exact ⟨i + 1, v + (64 + kl + al + nb), by go_num, by go_num, HLT.out.1, by omega, HN.out, HS3.out⟩
      case measure => simp [intOf]; have := HLT.out.1; omega
    · have hvR : R1 = v := by
        rw [← HQ.out]
        by_cases h : i < n1
        · exact vastQ_stop _ (fun h2 => hgo ⟨h, h2⟩)
        · rw [List.drop_of_length_le (by have := HH.out.1.1; omega)]; rfl
      subst hvR
      have HNG := Hd.mk hgo
      go_upto_region 3 with fail
      go_cut [16] from 8 to 37 (fun r wx => r = .bool false ∧ wx = wr)
      case first =>
        by_cases h : i < n1
        · have hki : (i : Int) < (n1 : Int) := by omega
          have hvi : ¬ (R1 : Int) < 2147483648 := by have := HNG.out; omega
          have hd2 : decide ((R1 : Int) < 2147483648) = false := decide_eq_false hvi
          clear hgo h hvi
          go_wp2_with fail
          go_meet
          case rel => exact ⟨rfl, rfl⟩
        · have hki : ¬ (i : Int) < (n1 : Int) := by omega
          clear hgo h
          go_wp2_with fail
          go_meet
          case rel => exact ⟨rfl, rfl⟩
      case rest =>
        obtain ⟨hr16, hwc⟩ := hcut
        subst hr16
        rw [hwc]
        clear hwc d1 hgo hv
        go_wp2_with fail
        obtain ⟨wo, hwo⟩ : ∃ wo : World, wo = wr := ⟨_, rfl⟩
        subst hwo
        go_loopw [3, 6] (fun u3 u6 wr => ∃ i v : Nat, u3 = .int .i64 (v : Int) ∧ u6 = .int .i64 (i : Int) ∧ i ≤ n2 ∧ v ≤ 703689589243648 ∧ vastQ anSq v (ys.drop i) = R2 ∧ Va w wr g1 l) (fun _ u6 _ => n2 - (intOf u6).toNat)
        case atStart => exact ⟨0, R1, rfl, rfl, Nat.zero_le _, hR1l, HR2.out, HS.out⟩
        case round =>
          clear hi
          obtain ⟨i2, v, rfl, rfl, hi, hv, hq, hS⟩ := hrel
          have HQ2 := Hd.mk hq
          have HS2 := Hd.mk hS
          clear hq hS HS
          have d1 : wr.cell? ⟨g1, 2, none⟩ = some (.slice A2 n2 c2) := HS2.out.at_ 2 (by rw [HH.out.2.2]; rfl)
          by_cases hgo : i2 < n2 ∧ v < 2147483648
          · have hki : (i2 : Int) < (n2 : Int) := by omega
            have hvi : (v : Int) < 2147483648 := by omega
            obtain ⟨x, hx⟩ : ∃ x, ys[i2]? = some x := ⟨_, List.getElem?_eq_getElem (by have := HH.out.2.1.1; omega)⟩
            obtain ⟨q7, o7, cx, hq7, hl7, hr7, hc7, hx7⟩ := HH.out.2.1.at_ (fun _ _ q => q.below HS2.out.be) HS2.out.be hx
            subst hq7
            have hsz := anSq_le hx7
            obtain ⟨Ab, nb, cb1, Ak, nk, ck, Ag, ng, cg, hcx, hrb, hrk, hrg', _, hnb, _, hnk, _, hng, _, _, _, hnx, hsk, hsg⟩ := hx7
            have hbl := hrb.1
            rw [cb_length] at hbl
            obtain ⟨kl, hkl⟩ : ∃ q, x.next.size = q := ⟨_, rfl⟩
            obtain ⟨L1, hL1⟩ : ∃ q, longQ 0 x.keys = q := ⟨_, rfl⟩
            obtain ⟨L2, hL2⟩ : ∃ q, longQ 0 x.groups = q := ⟨_, rfl⟩
            have hL1l : L1 ≤ 140739635839000 := by rw [← hL1]; exact longQ_le _ 0 hsk (by omega)
            have hL2l : L2 ≤ 140739635839000 := by rw [← hL2]; exact longQ_le _ 0 hsg (by omega)
            have hrz : anSq x = 64 + nb + kl + L1 + L2 := by unfold anSq; omega
            have HN : Hd (vastQ anSq (v + (64 + nb + kl + L1 + L2)) (ys.drop (i2 + 1)) = R2) := ⟨by have := HQ2.out; rw [drop_at hx] at this; unfold vastQ at this; rw [if_pos hgo.2, hrz] at this; exact this⟩
            obtain ⟨lx, hlx⟩ : ∃ l : List Value, l = [.int .i64 x.kind, .int .u64 (x.tag : Int), .int .i64 x.code, .slice Ab nb cb1, .slice Ak nk ck, .slice Ag ng cg, .string x.next, .bool x.more, .int .i64 x.ge, .int .i64 x.gc, .int .i64 x.size, .int .i64 x.h1, .int .i64 x.h2, .int .i64 x.h3, .int .i64 x.h4] := ⟨_, rfl⟩
            have HRG : Hd (wr.rangeAt q7 (o7 + i2 * 15) [.int .i64 x.kind, .int .u64 (x.tag : Int), .int .i64 x.code, .slice Ab nb cb1, .slice Ak nk ck, .slice Ag ng cg, .string x.next, .bool x.more, .int .i64 x.ge, .int .i64 x.gc, .int .i64 x.size, .int .i64 x.h1, .int .i64 x.h2, .int .i64 x.h3, .int .i64 x.h4]) := ⟨by rw [← hcx]; exact hr7⟩
            have HK := Hd.mk (And.intro hrk (And.intro hrg' (And.intro hsk (And.intro hsg (And.intro hL1 hL2)))))
            have hkl2 : kl ≤ 140737488351232 := by omega
            have HLT := Hd.mk hgo
            clear hx hl7 hr7 hc7 hcx hrb hbl hrz hgo hsz hrk hrg' hsk hsg hnx hL1 hL2 hlx lx
            go_upto_region 10 with fail
            go_upto_region 11 with (first | (refine at_load (x := .tmp 52) ?_; refine wpList_load_mid rfl 43 (.tmp 52) rfl q7 (o7 + i2 * 15) rfl [.int .i64 x.kind, .int .u64 (x.tag : Int), .int .i64 x.code, .slice Ab nb cb1, .slice Ak nk ck, .slice Ag ng cg, .string x.next, .bool x.more, .int .i64 x.ge, .int .i64 x.gc, .int .i64 x.size, .int .i64 x.h1, .int .i64 x.h2, .int .i64 x.h3, .int .i64 x.h4] _ HRG.out Try.underlying43 rfl infoAn15 ?_) | (refine at_store (x := .tmp 7) ?_; refine wpList_boxed rfl 43 (.tmp 7) (.tmp 53) rfl wr.heap.size rfl #[.int .i64 x.kind, .int .u64 (x.tag : Int), .int .i64 x.code, .slice Ab nb cb1, .slice Ak nk ck, .slice Ag ng cg, .string x.next, .bool x.more, .int .i64 x.ge, .int .i64 x.gc, .int .i64 x.size, .int .i64 x.h1, .int .i64 x.h2, .int .i64 x.h3, .int .i64 x.h4] rfl rfl infoAn15 rfl (by simp [Value.oneCell']) ?_; intro w3 hB3))
            have HS3 := Hd.mk (HS2.out.below hB3.out.2.1)
            obtain ⟨g5, hg5⟩ : ∃ q, wr.heap.size = q := ⟨_, rfl⟩
            rw [hg5] at hB3 ⊢
            have HB3 : Hd (Below wr.heap.size wr w3) := ⟨by have := hB3.out.2.1; rw [← hg5] at this; exact this⟩
            have hcc : ∀ W, Below w3.heap.size w3 W → W.cell? ⟨g5, 3, none⟩ = some (.slice Ab nb cb1) ∧ W.cell? ⟨g5, 6, none⟩ = some (.string x.next) ∧ W.cell? ⟨g5, 4, none⟩ = some (.slice Ak nk ck) ∧ W.cell? ⟨g5, 5, none⟩ = some (.slice Ag ng cg) := fun W hW => by
              have e5 : W.heap[g5]? = _ := (hW.block g5 (Array.getElem?_eq_some_iff.1 hB3.out.1).1).trans hB3.out.1
              exact ⟨cell_of_row W g5 3 _ _ (0, 0) e5, cell_of_row W g5 6 _ _ (0, 0) e5, cell_of_row W g5 4 _ _ (0, 0) e5, cell_of_row W g5 5 _ _ (0, 0) e5⟩
            have HCC := Hd.mk hcc
            have HCL1 : ∀ W, Below w3.heap.size w3 W → Calls Try.prog 79 #[.slice Ak nk ck] W fun e w' => e = .returned (.int .i64 (L1 : Int)) ∧ w' = W := fun W hW => by
              rw [← HK.out.2.2.2.2.1]
              exact long_any W Ak nk ck w.heap.size x.keys (HK.out.1.below ((HB3.out.mono HS2.out.be.size).trans (hW.mono HS3.out.be.size))) hnk HK.out.2.2.1
            have HCL2 : ∀ W, Below w3.heap.size w3 W → Calls Try.prog 79 #[.slice Ag ng cg] W fun e w' => e = .returned (.int .i64 (L2 : Int)) ∧ w' = W := fun W hW => by
              rw [← HK.out.2.2.2.2.2]
              exact long_any W Ag ng cg w.heap.size x.groups (HK.out.2.1.below ((HB3.out.mono HS2.out.be.size).trans (hW.mono HS3.out.be.size))) hng HK.out.2.2.2.1
            have HCL := Hd.mk (And.intro HCL1 HCL2)
            have s1 : IntKind.i64.wrap ((64 : Int) + (nb : Int)) = 64 + (nb : Int) := by rw [IntKind.wrap_i64]; omega
            have s2 : IntKind.i64.wrap ((64 : Int) + (nb : Int) + (kl : Int)) = 64 + (nb : Int) + (kl : Int) := by rw [IntKind.wrap_i64]; omega
            have s3 : IntKind.i64.wrap ((64 : Int) + (nb : Int) + (kl : Int) + (L1 : Int)) = 64 + (nb : Int) + (kl : Int) + (L1 : Int) := by rw [IntKind.wrap_i64]; omega
            have s4 : IntKind.i64.wrap ((64 : Int) + (nb : Int) + (kl : Int) + (L1 : Int) + (L2 : Int)) = 64 + (nb : Int) + (kl : Int) + (L1 : Int) + (L2 : Int) := by rw [IntKind.wrap_i64]; omega
            have s5 : IntKind.i64.wrap ((v : Int) + ((64 : Int) + (nb : Int) + (kl : Int) + (L1 : Int) + (L2 : Int))) = ((v + (64 + nb + kl + L1 + L2) : Nat) : Int) := by rw [IntKind.wrap_i64]; omega
            have HVB : Hd (v + (64 + nb + kl + L1 + L2) ≤ 703689589243648) := ⟨by omega⟩
            have HWR := Hd.mk (And.intro s1 (And.intro s2 (And.intro s3 (And.intro s4 s5))))
            clear hB3 hg5 d1 HCL1 HCL2 hcc s1 s2 s3 s4 s5
            refine wp_region_held_drew (S := fun W => Below w3.heap.size w3 W) (by kernel_rfl) ((Below.refl _ w3).drew) (fun hHeld => ?_)
            refine wpAnyH_take (i := 0) (oi := ?oi1) (v := ?v1) ?hi1 (by kernel_rfl) (by kernel_rfl) (by kernel_rfl) ?hQ1 (Or.inl ⟨?hw1, ?hy1⟩) (by assumption) ?rest1
            case hi1 => simp only [List.getElem?_toArray, List.getElem?_cons_succ, List.getElem?_cons_zero]; rfl
            case hQ1 => exact fun _ _ _ h => h
            case hw1 => rfl
            case hy1 => (intro W hW; obtain ⟨e2, e3, e4, e5⟩ := HCC.out W hW; go_simp; all_goals rfl)
            simp only [Act.put, List.setIfInBounds_toArray, List.set_cons_zero, List.set_cons_succ]
            refine wpAnyH_take (i := 1) (oi := ?oi2) (v := ?v2) ?hi2 (by kernel_rfl) (by kernel_rfl) (by kernel_rfl) ?hQ2 (Or.inl ⟨?hw2, ?hy2⟩) (by assumption) ?rest2
            case hi2 => simp only [List.getElem?_toArray, List.getElem?_cons_succ, List.getElem?_cons_zero]; rfl
            case hQ2 => exact fun _ _ _ h => h
            case hw2 => rfl
            case hy2 => (intro W hW; obtain ⟨e2, e3, e4, e5⟩ := HCC.out W hW; go_simp; all_goals rfl)
            simp only [Act.put, List.setIfInBounds_toArray, List.set_cons_zero, List.set_cons_succ]
            refine wpAnyH_take (i := 2) (oi := ?oi3) (v := ?v3) ?hi3 (by kernel_rfl) (by kernel_rfl) (by kernel_rfl) ?hQ3 (Or.inl ⟨?hw3, ?hy3⟩) (by assumption) ?rest3
            case hi3 => simp only [List.getElem?_toArray, List.getElem?_cons_succ, List.getElem?_cons_zero]; rfl
            case hQ3 => exact fun _ _ _ h => h
            case hw3 => rfl
            case hy3 => (intro W hW; obtain ⟨e2, e3, e4, e5⟩ := HCC.out W hW; go_simp; all_goals rfl)
            simp only [Act.put, List.setIfInBounds_toArray, List.set_cons_zero, List.set_cons_succ]
            refine wpAnyH_take (i := 3) (oi := ?oi4) (v := ?v4) ?hi4 (by kernel_rfl) (by kernel_rfl) (by kernel_rfl) ?hQ4 (Or.inl ⟨?hw4, ?hy4⟩) (by assumption) ?rest4
            case hi4 => simp only [List.getElem?_toArray, List.getElem?_cons_succ, List.getElem?_cons_zero]; rfl
            case hQ4 => exact fun _ _ _ h => h
            case hw4 => rfl
            case hy4 => (intro W hW; obtain ⟨e2, e3, e4, e5⟩ := HCC.out W hW; go_simp; all_goals rfl)
            simp only [Act.put, List.setIfInBounds_toArray, List.set_cons_zero, List.set_cons_succ]
            refine wpAnyH_take (i := 4) (oi := ?oi5) (v := ?v5) ?hi5 (by kernel_rfl) (by kernel_rfl) (by kernel_rfl) ?hQ5 (Or.inl ⟨?hw5, ?hy5⟩) (by assumption) ?rest5
            case hi5 => simp only [List.getElem?_toArray, List.getElem?_cons_succ, List.getElem?_cons_zero]; rfl
            case hQ5 => exact fun _ _ _ h => h
            case hw5 => rfl
            case hy5 => (intro W hW; obtain ⟨e2, e3, e4, e5⟩ := HCC.out W hW; go_simp; all_goals rfl)
            simp only [Act.put, List.setIfInBounds_toArray, List.set_cons_zero, List.set_cons_succ]
            refine wpAnyH_take (i := 5) (oi := ?oi6) (v := ?v6) ?hi6 (by kernel_rfl) (by kernel_rfl) (by kernel_rfl) ?hQ6 (Or.inl ⟨?hw6, ?hy6⟩) (by assumption) ?rest6
            case hi6 => simp only [List.getElem?_toArray, List.getElem?_cons_succ, List.getElem?_cons_zero]; rfl
            case hQ6 => exact fun _ _ _ h => h
            case hw6 => rfl
            case hy6 => (intro W hW; obtain ⟨e2, e3, e4, e5⟩ := HCC.out W hW; go_simp; all_goals rfl)
            simp only [Act.put, List.setIfInBounds_toArray, List.set_cons_zero, List.set_cons_succ]
            refine wpAnyH_take (i := 6) (oi := ?oi7) (v := ?v7) ?hi7 (by kernel_rfl) (by kernel_rfl) (by kernel_rfl) ?hQ7 (Or.inl ⟨?hw7, ?hy7⟩) (by assumption) ?rest7
            case hi7 => simp only [List.getElem?_toArray, List.getElem?_cons_succ, List.getElem?_cons_zero]; rfl
            case hQ7 => exact fun _ _ _ h => h
            case hw7 => rfl
            case hy7 => (intro W hW; obtain ⟨e2, e3, e4, e5⟩ := HCC.out W hW; go_simp; all_goals rfl)
            simp only [Act.put, List.setIfInBounds_toArray, List.set_cons_zero, List.set_cons_succ]
            refine wpAnyH_take (i := 7) (oi := ?oi8) (v := ?v8) ?hi8 (by kernel_rfl) (by kernel_rfl) (by kernel_rfl) ?hQ8 (Or.inl ⟨?hw8, ?hy8⟩) (by assumption) ?rest8
            case hi8 => simp only [List.getElem?_toArray, List.getElem?_cons_succ, List.getElem?_cons_zero]; rfl
            case hQ8 => exact fun _ _ _ h => h
            case hw8 => rfl
            case hy8 => (intro W hW; obtain ⟨e2, e3, e4, e5⟩ := HCC.out W hW; go_simp; all_goals rfl)
            simp only [Act.put, List.setIfInBounds_toArray, List.set_cons_zero, List.set_cons_succ]
            refine wpAnyH_take (i := 8) (oi := ?oi9) (v := ?v9) ?hi9 (by kernel_rfl) (by kernel_rfl) (by kernel_rfl) ?hQ9 (Or.inl ⟨?hw9, ?hy9⟩) (by assumption) ?rest9
            case hi9 => simp only [List.getElem?_toArray, List.getElem?_cons_succ, List.getElem?_cons_zero]; rfl
            case hQ9 => exact fun _ _ _ h => h
            case hw9 => rfl
            case hy9 => (intro W hW; obtain ⟨e2, e3, e4, e5⟩ := HCC.out W hW; go_simp; all_goals rfl)
            simp only [Act.put, List.setIfInBounds_toArray, List.set_cons_zero, List.set_cons_succ]
            refine wpAnyH_take (i := 9) (oi := ?oi10) (v := ?v10) ?hi10 (by kernel_rfl) (by kernel_rfl) (by kernel_rfl) ?hQ10 (Or.inl ⟨?hw10, ?hy10⟩) (by assumption) ?rest10
            case hi10 => simp only [List.getElem?_toArray, List.getElem?_cons_succ, List.getElem?_cons_zero]; rfl
            case hQ10 => exact fun _ _ _ h => h
            case hw10 => rfl
            case hy10 => (intro W hW; obtain ⟨e2, e3, e4, e5⟩ := HCC.out W hW; go_simp; all_goals rfl)
            simp only [Act.put, List.setIfInBounds_toArray, List.set_cons_zero, List.set_cons_succ]
            refine wpAnyH_take (i := 10) (oi := ?oi11) (v := ?v11) ?hi11 (by kernel_rfl) (by kernel_rfl) (by kernel_rfl) ?hQ11 (Or.inl ⟨?hw11, ?hy11⟩) (by assumption) ?rest11
            case hi11 => simp only [List.getElem?_toArray, List.getElem?_cons_succ, List.getElem?_cons_zero]; rfl
            case hQ11 => exact fun _ _ _ h => h
            case hw11 => rfl
            case hy11 => (intro W hW; obtain ⟨e2, e3, e4, e5⟩ := HCC.out W hW; go_simp; all_goals rfl)
            simp only [Act.put, List.setIfInBounds_toArray, List.set_cons_zero, List.set_cons_succ]
            refine wpAnyH_take (i := 13) (oi := ?oi12) (v := ?v12) ?hi12 (by kernel_rfl) (by kernel_rfl) (by kernel_rfl) ?hQ12 (Or.inl ⟨?hw12, ?hy12⟩) (by assumption) ?rest12
            case hi12 => simp only [List.getElem?_toArray, List.getElem?_cons_succ, List.getElem?_cons_zero]; rfl
            case hQ12 => exact fun _ _ _ h => h
            case hw12 => rfl
            case hy12 => (intro W hW; obtain ⟨e2, e3, e4, e5⟩ := HCC.out W hW; go_simp; all_goals rfl)
            simp only [Act.put, List.setIfInBounds_toArray, List.set_cons_zero, List.set_cons_succ]
            refine wpAnyH_take (i := 14) (oi := ?oi13) (v := ?v13) ?hi13 (by kernel_rfl) (by kernel_rfl) (by kernel_rfl) ?hQ13 (Or.inl ⟨?hw13, ?hy13⟩) (by assumption) ?rest13
            case hi13 => simp only [List.getElem?_toArray, List.getElem?_cons_succ, List.getElem?_cons_zero]; rfl
            case hQ13 => exact fun _ _ _ h => h
            case hw13 => rfl
            case hy13 => (intro W hW; obtain ⟨e2, e3, e4, e5⟩ := HCC.out W hW; go_simp; all_goals rfl)
            simp only [Act.put, List.setIfInBounds_toArray, List.set_cons_zero, List.set_cons_succ]
            refine wpAnyH_ready (rs := [11]) (by kernel_rfl) (by simp) ?_
            refine AllReadyH.cons (i := 11) (o := ?oa) ?hoa (fun K hK => ?stepa) AllReadyH.nil
            case hoa => simp only [List.getElem?_toArray, List.getElem?_cons_succ, List.getElem?_cons_zero]; rfl
            go_simp
            refine (HCL.out.1 _ hHeld).mono ?_
            rintro e w6 ⟨rfl, hw6⟩
            subst hw6
            refine hK.out _ _ hHeld (fun hHeld => ?_)
            clear hK
            try simp only [Act.put, List.setIfInBounds_toArray, List.set_cons_zero, List.set_cons_succ]
            refine wpAnyH_take (i := 12) (oi := ?oi101) (v := ?v101) ?hi101 (by kernel_rfl) (by kernel_rfl) (by kernel_rfl) ?hQ101 (Or.inl ⟨?hw101, ?hy101⟩) (by assumption) ?rest101
            case hi101 => simp only [List.getElem?_toArray, List.getElem?_cons_succ, List.getElem?_cons_zero]; rfl
            case hQ101 => exact fun _ _ _ h => h
            case hw101 => rfl
            case hy101 => (intro W hW; obtain ⟨e2, e3, e4, e5⟩ := HCC.out W hW; go_simp; all_goals rfl)
            simp only [Act.put, List.setIfInBounds_toArray, List.set_cons_zero, List.set_cons_succ]
            refine wpAnyH_ready (rs := [15]) (by kernel_rfl) (by simp) ?_
            refine AllReadyH.cons (i := 15) (o := ?oc) ?hoc (fun K hK => ?stepc) AllReadyH.nil
            case hoc => simp only [List.getElem?_toArray, List.getElem?_cons_succ, List.getElem?_cons_zero]; rfl
            go_simp
            refine (HCL.out.2 _ hHeld).mono ?_
            rintro e w6 ⟨rfl, hw6⟩
            subst hw6
            refine hK.out _ _ hHeld (fun hHeld => ?_)
            clear hK
            try simp only [Act.put, List.setIfInBounds_toArray, List.set_cons_zero, List.set_cons_succ]
            refine wpAnyH_take (i := 16) (oi := ?oi201) (v := ?v201) ?hi201 (by kernel_rfl) (by kernel_rfl) (by kernel_rfl) ?hQ201 (Or.inl ⟨?hw201, ?hy201⟩) (by assumption) ?rest201
            case hi201 => simp only [List.getElem?_toArray, List.getElem?_cons_succ, List.getElem?_cons_zero]; rfl
            case hQ201 => exact fun _ _ _ h => h
            case hw201 => rfl
            case hy201 => (intro W hW; obtain ⟨e2, e3, e4, e5⟩ := HCC.out W hW; go_simp; all_goals rfl)
            simp only [Act.put, List.setIfInBounds_toArray, List.set_cons_zero, List.set_cons_succ]
            refine wpAnyH_take (i := 17) (oi := ?oi202) (v := ?v202) ?hi202 (by kernel_rfl) (by kernel_rfl) (by kernel_rfl) ?hQ202 (Or.inl ⟨?hw202, ?hy202⟩) (by assumption) ?rest202
            case hi202 => simp only [List.getElem?_toArray, List.getElem?_cons_succ, List.getElem?_cons_zero]; rfl
            case hQ202 => exact fun _ _ _ h => h
            case hw202 => rfl
            case hy202 => (intro W hW; obtain ⟨e2, e3, e4, e5⟩ := HCC.out W hW; go_simp; all_goals rfl)
            simp only [Act.put, List.setIfInBounds_toArray, List.set_cons_zero, List.set_cons_succ]
            refine wpAnyH_take (i := 18) (oi := ?oi203) (v := ?v203) ?hi203 (by kernel_rfl) (by kernel_rfl) (by kernel_rfl) ?hQ203 (Or.inl ⟨?hw203, ?hy203⟩) (by assumption) ?rest203
            case hi203 => simp only [List.getElem?_toArray, List.getElem?_cons_succ, List.getElem?_cons_zero]; rfl
            case hQ203 => exact fun _ _ _ h => h
            case hw203 => rfl
            case hy203 => (intro W hW; obtain ⟨e2, e3, e4, e5⟩ := HCC.out W hW; go_simp; all_goals rfl)
            simp only [Act.put, List.setIfInBounds_toArray, List.set_cons_zero, List.set_cons_succ]
            refine wpAnyH_done (by kernel_rfl) ?_ _
            go_wp2_with fail
            go_roundw
            case rel => exact ⟨i2 + 1, v + (64 + nb + kl + L1 + L2), (by simp only [HWR.out.1, HWR.out.2.1, HWR.out.2.2.1, HWR.out.2.2.2.1, HWR.out.2.2.2.2]), by go_num, HLT.out.1, HVB.out, HN.out, HS3.out.below hHeld⟩
            case measure => simp [intOf]; have := HLT.out.1; omega
          · have hvR : R2 = v := by
              rw [← HQ2.out]
              by_cases h : i2 < n2
              · exact vastQ_stop _ (fun h2 => hgo ⟨h, h2⟩)
              · rw [List.drop_of_length_le (by have := HH.out.2.1.1; omega)]; rfl
            subst hvR
            have HNG2 := Hd.mk hgo
            go_upto_region 8 with fail
            go_cut [46] from 38 to 71 (fun r wx => r = .bool false ∧ wx = wr)
            case first =>
              by_cases h : i2 < n2
              · have hki : (i2 : Int) < (n2 : Int) := by omega
                have hvi : ¬ (R2 : Int) < 2147483648 := by have := HNG2.out; omega
                have hd2 : decide ((R2 : Int) < 2147483648) = false := decide_eq_false hvi
                clear hgo h hvi
                go_wp2_with fail
                go_meet
                case rel => exact ⟨rfl, rfl⟩
              · have hki : ¬ (i2 : Int) < (n2 : Int) := by omega
                clear hgo h
                go_wp2_with fail
                go_meet
                case rel => exact ⟨rfl, rfl⟩
            case rest =>
              obtain ⟨hr46, hwc⟩ := hcut
              subst hr46
              rw [hwc]
              clear hwc d1 hgo hv
              have HFIN : Hd (∀ b, b = decide (2147483648 ≤ (R2 : Int)) → b = false → (rs.map rqSz).sum + (ys.map anSz).sum < 2147483648) := ⟨fun b hb h0 => by
                have h3 : R2 < 2147483648 := by
                  have := of_decide_eq_false (hb.symm.trans h0); omega
                have e2 := HR2.out
                have e1 := HR1.out
                have q2 := vastQ_less (f := anSq) (g := anSz) ys R1 (fun x _ hx => anSq_eq x hx) (by rw [e2]; exact h3)
                have q1 := vastQ_less (f := rqSz) (g := rqSz) rs 0 (fun x _ _ => rfl) (by rw [e1]; omega)
                omega⟩
              go_wp2_with fail
              all_goals
                go_ret
                refine ⟨_, rfl, HS2.out.be, fun h0 => HFIN.out _ ?_ h0⟩
                first | rfl | (simp_all; done) | (symm; simp; omega)
end Go.Proofs.Ytbcmjjcbjojakaa
end
section
/- Plain: how long the forms of messages are together, and where each ends. -/
namespace Go.Proofs.Ytbcmjjcbjojakaa
open Go.RowKit
set_option linter.unusedVariables false
theorem fmF_le : ∀ (f s : Nat) (c : List Nat), (fmF f s c).length ≤ 2 * c.length + 11
  | 0, s, c => by simp [fmF]
  | f + 1, s, c => by
    by_cases h : 0 < c.length
    · rw [fmF_step f s c h, List.length_append, chk_len]
      by_cases h2 : c.length ≤ 16384
      · have : c.drop (min c.length 16384) = [] := List.drop_of_length_le (by omega)
        rw [this, fmF_nil]; simp only [List.length_nil]; omega
      · have := fmF_le f (Crc.more s (c.take (min c.length 16384))) (c.drop (min c.length 16384))
        rw [List.length_drop] at this; omega
    · have : c = [] := List.eq_nil_of_length_eq_zero (by omega)
      subst this; rw [fmF_nil]; simp
theorem formP_le (c : List Nat) : (formP c).length ≤ 2 * c.length + 11 := fmF_le _ _ _
theorem uv_len2 (v : Nat) (h : v < 16384) : (uv v).length ≤ 2 := by
  unfold uv uvf
  split
  · simp
  · unfold uvf
    rw [if_pos (by omega)]; simp
theorem cutP_le (s : ByteArray) (m : Nat) : (cutP s m).size ≤ s.size := by
  unfold cutP
  split
  · rw [ByteArray.size_extract]; omega
  · omega
theorem fitRq_le (R : Rq) : (formP (rqC (fitP R))).length ≤ 3 * rqSz R := by
  have h0 := formP_le (rqC (fitP R))
  have gi : ∀ (p : Prop) [Decidable p] (l : List Nat) (m : Nat), l.length ≤ m → (if p then l else []).length ≤ m := fun p _ l m hl => by
    split
    · exact hl
    · simp
  have hs : ∀ (p : Prop) [Decidable p] (s t : ByteArray), s.size ≤ t.size → (us (if p then s else emS)).length ≤ 10 + t.size := fun p _ s t hst => by
    unfold us; rw [List.length_append, sb_len]
    have h1 := uv_len (if p then s else emS).size
    have : (if p then s else emS).size ≤ t.size := by
      split
      · exact hst
      · exact Nat.zero_le _
    omega
  have gb : (ub (fitP R).body).length ≤ 10 + R.body.length := by
    unfold ub; rw [List.length_append]
    have h1 := uv_len (fitP R).body.length
    have : (fitP R).body.length ≤ R.body.length := by
      unfold fitP; simp only
      split
      · rw [List.length_take]; omega
      · exact Nat.zero_le _
    omega
  have a1 := gi (cKey (fitP R).kind = true) _ _ (hs (fitK R.kind < 8) _ R.key (cutP_le R.key 1024))
  have a2 := gi (cBody (fitP R).kind = true) _ _ gb
  have a3 := gi (cAfter (fitP R).kind = true) _ _ (hs (fitK R.kind = 7) _ R.after (cutP_le R.after 1024))
  have a4 := gi (cOff (fitP R).kind = true) _ _ (uz_len (fitP R).off)
  have a5 := gi (cDelim (fitP R).kind = true) _ _ (uz_len (fitP R).delim)
  have a6 := gi (cNum (fitP R).kind = true) _ _ (uz_len (fitP R).num)
  have : (rqC (fitP R)).length ≤ 69 + R.key.size + R.after.size + R.body.length := by
    unfold rqC
    simp only [List.length_append, fx_len]
    have e1 : (fitP R).key = if fitK R.kind < 8 then cutP R.key 1024 else emS := rfl
    have e2 : (fitP R).after = if fitK R.kind = 7 then cutP R.after 1024 else emS := rfl
    rw [e1, e2]
    omega
  unfold rqSz; omega
theorem tx_le : ∀ (l : List ByteArray), (∀ t ∈ l, t.size ≤ 255) → (tx l).length ≤ 2 * longP l
  | [], _ => by simp [tx]
  | t :: l, h => by
    have h1 := tx_le l fun x hx => h x (List.mem_cons_of_mem _ hx)
    have h2 := uv_len2 t.size (by have := h t (List.mem_cons_self ..); omega)
    unfold tx at h1 ⊢
    unfold longP at h1 ⊢
    rw [List.flatMap_cons, List.length_append, List.length_append, sb_len, List.map_cons, List.sum_cons]
    omega
theorem longP_texts (ts : List ByteArray) (m : Nat) : longP (textsP ts m) ≤ longP ts := by
  unfold textsP longP
  rw [List.map_map]
  have : ∀ (l : List ByteArray), (l.map ((fun t => t.size + 1) ∘ fun t => cutP t 255)).sum ≤ (l.map fun t => t.size + 1).sum := by
    intro l
    induction l with
    | nil => exact Nat.le_refl _
    | cons t l ih =>
      simp only [List.map_cons, List.sum_cons, Function.comp]
      have := cutP_le t 255
      try simp only [Function.comp] at ih
      omega
  refine Nat.le_trans (this _) ?_
  conv => rhs; rw [← List.take_append_drop m ts, List.map_append, List.sum_append]
  omega
theorem ut_le (ts : List ByteArray) (h : ∀ t ∈ ts, t.size ≤ 255) : (ut ts).length ≤ 10 + 2 * longP ts := by
  unfold ut; rw [List.length_append]
  have := uv_len ts.length; have := tx_le ts h; omega
open Classical in
theorem fitAn_le (a : An) : (formP (anC (fitAnP a))).length ≤ 7 * anSz a := by
  have h0 := formP_le (anC (fitAnP a))
  have gi : ∀ (p : Prop) [Decidable p] (l : List Nat) (m : Nat), l.length ≤ m → (if p then l else []).length ≤ m := fun p _ l m hl => by
    split
    · exact hl
    · simp
  have hft := fitAnP_fit a
  have hk : ∀ t ∈ (fitAnP a).keys, t.size ≤ 255 := hft.2.1.2
  have hg : ∀ t ∈ (fitAnP a).groups, t.size ≤ 255 := hft.2.2.1.2
  have lk : longP (fitAnP a).keys ≤ longP a.keys := by
    unfold fitAnP; simp only
    split
    · exact longP_texts _ _
    · split
      · exact longP_texts _ _
      · exact Nat.zero_le _
  have lg : longP (fitAnP a).groups ≤ longP a.groups := by
    unfold fitAnP; simp only
    split
    · exact longP_texts _ _
    · exact Nat.zero_le _
  have gb : (ub (fitAnP a).body).length ≤ 10 + a.body.length := by
    unfold ub; rw [List.length_append]
    have h1 := uv_len (fitAnP a).body.length
    have : (fitAnP a).body.length ≤ a.body.length := by
      unfold fitAnP; simp only
      split
      · rw [List.length_take]; omega
      · exact Nat.zero_le _
    omega
  have gn : (us (fitAnP a).next).length ≤ 10 + a.next.size := by
    unfold us; rw [List.length_append, sb_len]
    have h1 := uv_len (fitAnP a).next.size
    have : (fitAnP a).next.size ≤ a.next.size := by
      unfold fitAnP; simp only
      split
      · exact cutP_le _ _
      · exact Nat.zero_le _
    omega
  have k1 := ut_le _ hk
  have k2 := ut_le _ hg
  have u1 := uv_len (fitAnP a).code.toNat
  have a1 := gi ((fitAnP a).kind = 8) (uz (fitAnP a).h1 ++ uz (fitAnP a).h2 ++ uz (fitAnP a).h3 ++ uz (fitAnP a).h4) 40 (by simp only [List.length_append]; have := uz_len (fitAnP a).h1; have := uz_len (fitAnP a).h2; have := uz_len (fitAnP a).h3; have := uz_len (fitAnP a).h4; omega)
  have a2 := gi (tBody (fitAnP a)) _ _ gb
  have a3 := gi (tGen (fitAnP a)) (uz (fitAnP a).ge ++ uz (fitAnP a).gc ++ uz (fitAnP a).size) 30 (by simp only [List.length_append]; have := uz_len (fitAnP a).ge; have := uz_len (fitAnP a).gc; have := uz_len (fitAnP a).size; omega)
  have a4 := gi (tKeys (fitAnP a)) _ _ k1
  have a5 := gi (tPage (fitAnP a)) (ut (fitAnP a).groups ++ us (fitAnP a).next ++ [if (fitAnP a).more = true then 1 else 0]) (10 + 2 * longP (fitAnP a).groups + (10 + a.next.size) + 1) (by simp only [List.length_append, List.length_cons, List.length_nil]; omega)
  have : (anC (fitAnP a)).length ≤ 130 + a.body.length + a.next.size + 2 * longP a.keys + 2 * longP a.groups := by
    unfold anC
    simp only [List.length_append, fx_len] at a1 a2 a3 a4 a5 ⊢
    omega
  unfold anSz; omega
theorem tx_le2 : ∀ (l : List ByteArray), (∀ t ∈ l, t.size ≤ 255) → (tx l).length ≤ 257 * l.length
  | [], _ => by simp [tx]
  | t :: l, h => by
    have h1 := tx_le2 l fun x hx => h x (List.mem_cons_of_mem _ hx)
    have h3 := h t (List.mem_cons_self ..)
    have h2 := uv_len2 t.size (by omega)
    unfold tx at h1 ⊢
    rw [List.flatMap_cons, List.length_append, List.length_append, sb_len, List.length_cons]
    omega
open Classical in
theorem anC_len {a : An} (h : anFit a) : (anC a).length ≤ 33554432 := by
  have gi : ∀ (p : Prop) [Decidable p] (l : List Nat) (m : Nat), l.length ≤ m → (if p then l else []).length ≤ m := fun p _ l m hl => by
    split
    · exact hl
    · simp
  obtain ⟨f1, f2, f3, f4⟩ := h
  have n2 : a.keys.length ≤ 65536 := by have := f2.1; split at this <;> omega
  have n3 : a.groups.length ≤ 1000 := f3.1
  have k1 := tx_le2 _ f2.2
  have k2 := tx_le2 _ f3.2
  have q1 := uv_len a.keys.length
  have q2 := uv_len a.groups.length
  have q3 := uv_len a.body.length
  have q4 := uv_len a.next.size
  have u1 := uv_len a.code.toNat
  have a1 := gi (a.kind = 8) (uz a.h1 ++ uz a.h2 ++ uz a.h3 ++ uz a.h4) 40 (by simp only [List.length_append]; have := uz_len a.h1; have := uz_len a.h2; have := uz_len a.h3; have := uz_len a.h4; omega)
  have a2 := gi (tBody a) (ub a.body) 1048586 (by unfold ub; rw [List.length_append]; omega)
  have a3 := gi (tGen a) (uz a.ge ++ uz a.gc ++ uz a.size) 30 (by simp only [List.length_append]; have := uz_len a.ge; have := uz_len a.gc; have := uz_len a.size; omega)
  have a4 := gi (tKeys a) (ut a.keys) 16842800 (by unfold ut; rw [List.length_append]; omega)
  have a5 := gi (tPage a) (ut a.groups ++ us a.next ++ [if a.more = true then 1 else 0]) 300000 (by unfold ut us; simp only [List.length_append, List.length_cons, List.length_nil, sb_len]; omega)
  unfold anC
  simp only [List.length_append, fx_len] at a1 a2 a3 a4 a5 ⊢
  omega
theorem rqC_pos (R : Rq) : 0 < (rqC R).length := by unfold rqC; simp only [List.length_append, fx_len]; omega
open Classical in
theorem anC_pos (a : An) : 0 < (anC a).length := by unfold anC; simp only [List.length_append, fx_len]; omega
/-- All the forms. -/
theorem pre_sum {M N : Type} (f : N → M) (cont : M → List Nat) (sz : N → Nat) (K : Nat) : ∀ (l : List N), (∀ x ∈ l, (formP (cont (f x))).length ≤ K * sz x) → (preF cont (l.map f) (l.map f).length).length ≤ K * (l.map sz).sum := by
  intro l h
  unfold preF
  rw [List.take_length]
  induction l with
  | nil => simp
  | cons x l ih =>
    have := h x (List.mem_cons_self ..)
    have ih := ih fun y hy => h y (List.mem_cons_of_mem _ hy)
    rw [List.map_cons, List.flatMap_cons, List.length_append, List.map_cons, List.sum_cons, Nat.mul_add]
    omega
/-- Where each form ends. -/
def endsC {M : Type} (cont : M → List Nat) (ms : List M) (k : Nat) : List Value := (List.range k).map fun i => .int .i64 ((preF cont ms (i + 1)).length : Int)
theorem endsC_len {M : Type} (cont : M → List Nat) (ms : List M) (k : Nat) : (endsC cont ms k).length = k := by simp [endsC]
theorem endsC_next {M : Type} (cont : M → List Nat) (ms : List M) (k : Nat) : endsC cont ms (k + 1) = endsC cont ms k ++ [.int .i64 ((preF cont ms (k + 1)).length : Int)] := by
  unfold endsC; rw [List.range_succ, List.map_append]; rfl
theorem endsC_get {M : Type} {cont : M → List Nat} {ms : List M} {k i : Nat} (h : i < k) : (endsC cont ms k)[i]? = some (.int .i64 ((preF cont ms (i + 1)).length : Int)) := by
  unfold endsC; rw [List.getElem?_map, List.getElem?_range h]; rfl
/-- What said answers. -/
def SaidDone {M : Type} (cont : M → List Nat) (ms : List M) (w : World) (e : Ending) (w' : World) : Prop :=
  ∃ v ve, e = .returned (.tuple #[v, ve, .bool true]) ∧ w'.ownsRow w.heap.size 5 1 v (preF cont ms ms.length).length (cb (preF cont ms ms.length)) ∧ w'.ownsRow w.heap.size 3 1 ve ms.length (endsC cont ms ms.length) ∧ Apart v ve ∧ Below w.heap.size w w'
end Go.Proofs.Ytbcmjjcbjojakaa
end
section
/- Contracts of the laws' fit and fitAnswer: out of any message one that may be. (tools/fitgen.py prints it.) -/
namespace Go.Proofs.Ytbcmjjcbjojakaa
open Go.RowKit
set_option linter.unusedVariables false
set_option linter.unusedSimpArgs false
/-- Where fit stands: the box of what came in, the result's, the new message's. -/
structure Ft (w W : World) (t g1 gx gq : Nat) (c1 : List Value) (zs : Array Value) (M : Wm) : Prop where
  b1 : W.heap[g1]? = some (.cells c1.toArray t)
  res : W.heap[gx]? = some (.cells zs t)
  box : W.heap[gq]? = some (.cells M.cells.toArray t)
  be : Below w.heap.size w W
  ok : M.ok W (gq + 1)
  l1 : w.heap.size ≤ g1
  l2 : g1 < gx
  l3 : gx < gq
/-- Ahead of the new message. -/
structure Fa (w W : World) (t g1 gx : Nat) (c1 : List Value) (zs : Array Value) : Prop where
  b1 : W.heap[g1]? = some (.cells c1.toArray t)
  res : W.heap[gx]? = some (.cells zs t)
  be : Below w.heap.size w W
  l1 : w.heap.size ≤ g1
  l2 : g1 < gx
section
variable {w W W' : World} {t g1 gx gq : Nat} {c1 : List Value} {zs : Array Value} {M M' : Wm}
theorem Fa.start (w : World) (t : Nat) (c1 : List Value) (zs : Array Value) : Fa w ((w.alloc (.cells c1.toArray t)).alloc (.cells zs t)) t w.heap.size (w.heap.size + 1) c1 zs where
  b1 := by
    have b := (Below.refl _ (w.alloc (.cells c1.toArray t))).alloc (Nat.le_refl _) (.cells zs t)
    rw [b.block w.heap.size (by simp)]; exact heap_alloc_new w _
  res := by have := heap_alloc_new (w.alloc (.cells c1.toArray t)) (.cells zs t); simpa using this
  be := ((Below.refl _ w).alloc (Nat.le_refl _) _).alloc (by simp) _
  l1 := Nat.le_refl _
  l2 := by omega
theorem Fa.at1 (h : Fa w W t g1 gx c1 zs) (i : Nat) {v : Value} (hv : c1[i]? = some v) : W.cell? ⟨g1, i, none⟩ = some v := by rw [cell_of_row W g1 i _ _ (0, 0) h.b1]; simpa using hv
theorem Fa.z1 (h : Fa w W t g1 gx c1 zs) (i : Nat) : W.frozen? ⟨g1, i, none⟩ = false := by simp [World.frozen?, h.b1]
theorem Fa.below (h : Fa w W t g1 gx c1 zs) (b : Below W.heap.size W W') : Fa w W' t g1 gx c1 zs where
  b1 := by rw [b.block g1 (Array.getElem?_eq_some_iff.1 h.b1).1]; exact h.b1
  res := by rw [b.block gx (Array.getElem?_eq_some_iff.1 h.res).1]; exact h.res
  be := h.be.trans (b.mono h.be.size)
  l1 := h.l1
  l2 := h.l2
theorem Fa.set (h : Fa w W t g1 gx c1 zs) (i : Nat) (u : Value) : Fa w (W.setCell ⟨g1, i, none⟩ u) t g1 gx (c1.set i u) zs where
  b1 := by rw [heap_set W g1 i u _ _ h.b1]; simp
  res := by rw [Below.heap_setCell _ _ _ _ (by show gx ≠ g1; have := h.l2; omega)]; exact h.res
  be := h.be.setCell h.l1 _
  l1 := h.l1
  l2 := h.l2
theorem Fa.boxed (h : Fa w W t g1 gx c1 zs) (hB : W'.heap[W.heap.size]? = some (.cells M.cells.toArray t) ∧ Below W.heap.size W W' ∧ W'.heap.size = W.heap.size + 1) (hok : ∀ b, M.ok W' b) : Ft w W' t g1 gx W.heap.size c1 zs M where
  b1 := (h.below hB.2.1).b1
  res := (h.below hB.2.1).res
  box := hB.1
  be := (h.below hB.2.1).be
  ok := hok _
  l1 := h.l1
  l2 := h.l2
  l3 := (Array.getElem?_eq_some_iff.1 h.res).1
theorem Ft.lt (h : Ft w W t g1 gx gq c1 zs M) : gq < W.heap.size := (Array.getElem?_eq_some_iff.1 h.box).1
theorem Ft.below (h : Ft w W t g1 gx gq c1 zs M) (b : Below W.heap.size W W') : Ft w W' t g1 gx gq c1 zs M where
  b1 := by rw [b.block g1 (Array.getElem?_eq_some_iff.1 h.b1).1]; exact h.b1
  res := by rw [b.block gx (Array.getElem?_eq_some_iff.1 h.res).1]; exact h.res
  box := by rw [b.block gq h.lt]; exact h.box
  be := h.be.trans (b.mono h.be.size)
  ok := h.ok.below b
  l1 := h.l1
  l2 := h.l2
  l3 := h.l3
theorem Ft.set (h : Ft w W t g1 gx gq c1 zs M) (i : Nat) (u : Value) (hM : M'.cells = M.cells.set i u) (hok : M'.ok W (gq + 1)) : Ft w (W.setCell ⟨gq, i, none⟩ u) t g1 gx gq c1 zs M' where
  b1 := by rw [Below.heap_setCell _ _ _ _ (by show g1 ≠ gq; have := h.l2; have := h.l3; omega)]; exact h.b1
  res := by rw [Below.heap_setCell _ _ _ _ (by show gx ≠ gq; have := h.l3; omega)]; exact h.res
  box := by rw [heap_set W gq i u _ _ h.box, hM]; simp
  be := h.be.setCell (by show w.heap.size ≤ gq; have := h.l1; have := h.l2; have := h.l3; omega) _
  ok := hok.chg ((Chg.refl [gq] W).setCell (by simp) u) fun r hr k hk => by have := (hok.lt hr hk).1; simp; omega
  l1 := h.l1
  l2 := h.l2
  l3 := h.l3
theorem Ft.at1 (h : Ft w W t g1 gx gq c1 zs M) (i : Nat) {v : Value} (hv : c1[i]? = some v) : W.cell? ⟨g1, i, none⟩ = some v := by rw [cell_of_row W g1 i _ _ (0, 0) h.b1]; simpa using hv
theorem Ft.range1 (h : Ft w W t g1 gx gq c1 zs M) : W.rangeAt g1 0 c1 := fun j v hj => by rw [Nat.zero_add]; exact h.at1 j hj
theorem Ft.at3 (h : Ft w W t g1 gx gq c1 zs M) (i : Nat) {v : Value} (hv : M.cells[i]? = some v) : W.cell? ⟨gq, i, none⟩ = some v := by rw [cell_of_row W gq i _ _ (0, 0) h.box]; simpa using hv
theorem Ft.z3 (h : Ft w W t g1 gx gq c1 zs M) (i : Nat) : W.frozen? ⟨gq, i, none⟩ = false := by simp [World.frozen?, h.box]
/-- What fit answers. -/
theorem Ft.done (h : Ft w W t g1 gx gq c1 zs M) (hg : W.grownBy W' (some gx)) : M.ok W' w.heap.size ∧ Below w.heap.size w W' := by
  have hc : Chg [gx] W W' := ⟨hg.os, hg.tape, hg.output, hg.size, fun k hk hm => hg.block k hk (by simpa using hm)⟩
  have h1 := h.l1; have h2 := h.l2; have h3 := h.l3
  refine ⟨(h.ok.chg hc fun r hr k hk => by have := (h.ok.lt hr hk).1; simp; omega).lower (by omega), ?_⟩
  exact h.be.trans ⟨hg.os, hg.tape, hg.output, hg.size, fun k hk => hg.block k (Nat.lt_of_lt_of_le hk h.be.size) (by intro e; injection e; omega)⟩
end
theorem rqW_ok0 (R : Rq) (w : World) (hb : R.body = []) (b : Nat) : (rqW R (.slice none 0 0)).ok w b := fun r hr => by
  rw [List.mem_singleton.1 hr, hb]; exact World.ownsRow_nil _ _ _ _
theorem rqW_ok1 {R : Rq} {w : World} {b : Nat} {v : Value} {l : List Nat} (hb : R.body = l) (h : w.ownsRow b 5 1 v l.length (cb l)) : (rqW R v).ok w b := fun r hr => by
  rw [List.mem_singleton.1 hr, hb]; simp only [cb_length]; exact h
theorem anW_ok {a : An} {w : World} {b : Nat} {v1 v2 v3 : Value} (h1 : w.ownsRow b 5 1 v1 a.body.length (cb a.body)) (h2 : w.ownsRow b 9 1 v2 a.keys.length (cs a.keys)) (h3 : w.ownsRow b 9 1 v3 a.groups.length (cs a.groups)) : (anW a v1 v2 v3).ok w b := fun r hr => by
  unfold anW at hr
  simp only [List.mem_cons, List.not_mem_nil, or_false] at hr
  rcases hr with rfl | rfl | rfl
  · simp only [cb_length]; exact h1
  · simp only [cs_len]; exact h2
  · simp only [cs_len]; exact h3
theorem anW_ok0 (a : An) (w : World) (h1 : a.body = []) (h2 : a.keys = []) (h3 : a.groups = []) (b : Nat) : (anW a (.slice none 0 0) (.slice none 0 0) (.slice none 0 0)).ok w b :=
  anW_ok (by rw [h1]; exact World.ownsRow_nil _ _ _ _) (by rw [h2]; exact World.ownsRow_nil _ _ _ _) (by rw [h3]; exact World.ownsRow_nil _ _ _ _)
theorem fitK_in {k : Int} (h : ¬ (k < 1 ∨ 8 < k)) : fitK k = k := if_neg h
theorem fitK_out {k : Int} (h : k < 1 ∨ 8 < k) : fitK k = 1 + k % 8 := if_pos h
theorem cut_run {w : World} (A : Option Addr) (n c most : Nat) (body : List Nat) {B : Nat} (hr : Rd w B A n (cb body)) (hnc : n ≤ c) :
    (Instr.slice 26 (.slice A n c) none (some (.int .i64 ((min n most : Nat) : Int))) none).run Try.prog w = .ok (.slice A (min n most) c) w ∧ Rd w B A (min n most) (cb (body.take most)) := by
  refine ⟨run_cut_to elB A n c (min n most) (by omega), ?_⟩
  have h1 := hr.take (show min n most ≤ n by omega)
  rw [cb, List.map_take]
  have hl : (cb body).length = n := hr.1
  have : (cb body).take (min n most) = (cb body).take most := by
    by_cases hm : n ≤ most
    · rw [Nat.min_eq_left hm, List.take_of_length_le (by omega), List.take_of_length_le (by omega)]
    · rw [Nat.min_eq_right (by omega)]
  rw [this] at h1
  exact h1
set_option maxRecDepth 20000 in
set_option maxHeartbeats 8000000 in
theorem fit_any0 (w : World) (R : Rq) (k off num delim : Int) (tag : Nat) (key after : ByteArray) (body : List Nat) (hR : R = ⟨k, tag, key, after, off, num, delim, body⟩) (A : Option Addr) (n c : Nat) (hr : Rd w w.heap.size A n (cb body)) (hnc : n ≤ c) (hk : I64 k) (h1 : key.size ≤ maxLen) (h2 : after.size ≤ maxLen) :
    Calls Try.prog 33 #[.agg #[.int .i64 k, .int .u64 (tag : Int), .string key, .string after, .int .i64 off, .int .i64 num, .int .i64 delim, .slice A n c]] w fun e w' => ∃ vb, e = .returned (.agg (rqW (fitP R) vb).cells.toArray) ∧ (rqW (fitP R) vb).ok w' w.heap.size ∧ Below w.heap.size w w' := by
  obtain ⟨c1, hc1⟩ : ∃ c1 : List Value, c1 = [.int .i64 k, .int .u64 (tag : Int), .string key, .string after, .int .i64 off, .int .i64 num, .int .i64 delim, .slice A n c] := ⟨_, rfl⟩
  obtain ⟨w0, hw0⟩ : ∃ U, (w.alloc (.cells #[.int .i64 k, .int .u64 (tag : Int), .string key, .string after, .int .i64 off, .int .i64 num, .int .i64 delim, .slice A n c] 28)).alloc (.cells #[.int .i64 0, .int .u64 0, .string emS, .string emS, .int .i64 0, .int .i64 0, .int .i64 0, .slice none 0 0] 28) = U := ⟨_, rfl⟩
  obtain ⟨g1, hg1⟩ : ∃ q, w.heap.size = q := ⟨_, rfl⟩
  obtain ⟨gx, hgx⟩ : ∃ q, g1 + 1 = q := ⟨_, rfl⟩
  have H0 : Hd (Fa w w0 28 g1 gx c1 rq0) := ⟨by rw [← hw0, ← hgx, ← hg1, hc1]; exact Fa.start w _ _ _⟩
  have HH : Hd (Rd w w.heap.size A n (cb body) ∧ n ≤ c ∧ I64 k ∧ key.size ≤ maxLen ∧ after.size ≤ maxLen ∧ c1 = [.int .i64 k, .int .u64 (tag : Int), .string key, .string after, .int .i64 off, .int .i64 num, .int .i64 delim, .slice A n c]) := ⟨hr, hnc, hk, h1, h2, hc1⟩
  have HR := Hd.mk hR
  clear hr hnc hk h1 h2 hc1 hR
  go_enter Try.func33, Try.ntmps33
  go_upto_region 1 with fail
  have hz : (⟨#[]⟩ : ByteArray) = emS := rfl
  try rw [hz]
  rw [hw0]
  try rw [hg1]
  try rw [hgx]
  clear hw0 hz hg1 hgx
  have c0 : w0.cell? ⟨g1, 0, none⟩ = some (.int .i64 k) := H0.out.at1 0 (by rw [HH.out.2.2.2.2.2]; rfl)
  obtain ⟨b0, hb0⟩ : ∃ b, decide (k < 1 ∨ 8 < k) = b := ⟨_, rfl⟩
  have HB0 := Hd.mk hb0
  clear hb0
  go_cut [11] from 4 (fun r wx => r = .bool b0 ∧ wx = w0)
  case first =>
    by_cases q1 : k < 1
    · have e1 : b0 = true := by rw [← HB0.out]; exact decide_eq_true (.inl q1)
      subst e1
      go_wp2_with fail
      go_meet
      case rel => exact ⟨rfl, rfl⟩
    · by_cases q2 : 8 < k
      · have e1 : b0 = true := by rw [← HB0.out]; exact decide_eq_true (.inr q2)
        subst e1
        go_wp2_with fail
        go_meet
        case rel => exact ⟨rfl, rfl⟩
      · have e1 : b0 = false := by rw [← HB0.out]; exact decide_eq_false (fun h => h.elim q1 q2)
        subst e1
        go_wp2_with fail
        go_meet
        case rel => exact ⟨rfl, rfl⟩
  case rest =>
    obtain ⟨hr11, hwc⟩ := hcut
    subst hr11
    rw [hwc]
    clear hwc
    go_upto_if 11 with fail
    go_cut [] from 12 (fun wx => Fa w wx 28 g1 gx (c1.set 0 (.int .i64 (fitK k))) rq0)
    case first =>
      rcases hbb : b0 with _ | _
      · subst hbb
        go_wp2_with fail
        go_meet
        case rel =>
          have hs : c1.set 0 (.int .i64 (fitK k)) = c1 := by rw [fitK_in (of_decide_eq_false HB0.out), HH.out.2.2.2.2.2]; rfl
          rw [hs]; exact H0.out
      · subst hbb
        go_wp2_with fail
        refine (pick_any w0 k 8 HH.out.2.2.1 (by omega) (by omega)).mono ?_
        rintro e wz ⟨rfl, hw9⟩
        subst hw9
        have h88 := And.intro (Int.emod_nonneg k (b := 8) (by omega)) (Int.emod_lt_of_pos k (b := 8) (by omega))
        obtain ⟨m, hm⟩ : ∃ m, k % 8 = m := ⟨_, rfl⟩
        rw [hm] at h88 ⊢
        have hwr : IntKind.i64.wrap (1 + m) = 1 + m := by rw [IntKind.wrap_i64]; omega
        have z0 := H0.out.z1 0
        go_upto_region 3 with fail
        go_meet
        case rel =>
          rw [fitK_out (of_decide_eq_true HB0.out), hm]
          (first | exact H0.out.set 0 _ | (simp only [hwr]; exact H0.out.set 0 _))
    case rest =>
      have HF := Hd.mk hcut
      clear hcut H0 c0 HB0
      obtain ⟨w1, hw1⟩ : ∃ U : World, wc = U := ⟨_, rfl⟩
      subst hw1
      obtain ⟨K, hK⟩ : ∃ K, fitK k = K := ⟨_, rfl⟩
      have HK := Hd.mk hK
      have hKl := fitK_le k
      rw [hK] at hKl HF
      clear hK
      obtain ⟨cK, hcK⟩ : ∃ c2, c1.set 0 (.int .i64 K) = c2 := ⟨_, rfl⟩
      rw [hcK] at HF
      have HCK : Hd (cK = [.int .i64 K, .int .u64 (tag : Int), .string key, .string after, .int .i64 off, .int .i64 num, .int .i64 delim, .slice A n c]) := ⟨by rw [← hcK, HH.out.2.2.2.2.2]; rfl⟩
      clear hcK
      have c0 : wc.cell? ⟨g1, 0, none⟩ = some (.int .i64 K) := HF.out.at1 0 (by rw [HCK.out]; rfl)
      have c1_ : wc.cell? ⟨g1, 1, none⟩ = some (.int .u64 (tag : Int)) := HF.out.at1 1 (by rw [HCK.out]; rfl)
      go_upto_region 4 with (refine at_store (x := .tmp 3) ?_; refine wpList_boxed rfl 28 (.tmp 3) (.tmp 21) rfl wc.heap.size rfl (rqW (⟨K, tag, emS, emS, 0, 0, 0, []⟩ : Rq) (.slice none 0 0)).cells.toArray rfl rfl infoRq8 rfl (by simp [rqW, Value.oneCell']) ?_; intro w3 hB3)
      have HS := Hd.mk (HF.out.boxed (M := rqW (⟨K, tag, emS, emS, 0, 0, 0, []⟩ : Rq) (.slice none 0 0)) hB3.out (fun b => rqW_ok0 _ _ rfl b))
      obtain ⟨gq, hgq⟩ : ∃ q, wc.heap.size = q := ⟨_, rfl⟩
      rw [hgq] at HS ⊢
      clear hB3 hgq HF c0 c1_
      obtain ⟨cKs, hKs⟩ : ∃ l : List Int, l = [1, 2, 3, 4, 5, 6, 7, 8] := ⟨_, rfl⟩
      clear hKs cKs
      have hcase : K = 1 ∨ K = 2 ∨ K = 3 ∨ K = 4 ∨ K = 5 ∨ K = 6 ∨ K = 7 ∨ K = 8 := by omega
      clear hKl
      rcases hcase with rfl | rfl | rfl | rfl | rfl | rfl | rfl | rfl
      · skip
        have c0 : w3.cell? ⟨g1, 0, none⟩ = some (.int .i64 1) := HS.out.at1 0 (by rw [HCK.out]; rfl)
        have c2 : w3.cell? ⟨g1, 2, none⟩ = some (.string key) := HS.out.at1 2 (by rw [HCK.out]; rfl)
        go_wp2_with fail
        refine (cut_any w3 key 1024 HH.out.2.2.2.1 (by omega)).mono ?_
        rintro e z1 ⟨rfl, hz1⟩
        subst hz1
        have z9 := HS.out.z3 2
        have d9 : w3.cell? ⟨gq, 2, none⟩ = some (.string emS) := HS.out.at3 2 rfl
        go_upto_region 6 with fail
        obtain ⟨u2, hu2⟩ : ∃ U, w3.setCell ⟨gq, 2, none⟩ (.string (cutP key 1024)) = U := ⟨_, rfl⟩
        rw [hu2]
        have HU2 : Hd (Ft w u2 28 g1 gx gq cK rq0 (rqW (⟨1, tag, (cutP key 1024), emS, 0, 0, 0, []⟩ : Rq) (.slice none 0 0))) := ⟨by rw [← hu2]; exact HS.out.set (M' := (rqW (⟨1, tag, (cutP key 1024), emS, 0, 0, 0, []⟩ : Rq) (.slice none 0 0))) 2 _ rfl (fun r hr => HS.out.ok r hr)⟩
        clear hu2 z9 d9 HS c0 c2
        have c0 : u2.cell? ⟨g1, 0, none⟩ = some (.int .i64 1) := HU2.out.at1 0 (by rw [HCK.out]; rfl)
        have c7 : u2.cell? ⟨g1, 7, none⟩ = some (.slice A n c) := HU2.out.at1 7 (by rw [HCK.out]; rfl)
        obtain ⟨hcut, hrc⟩ := cut_run A n c 1048576 body ((HH.out.1.below HU2.out.be)) HH.out.2.1
        have HRC := Hd.mk hrc
        clear hrc
        by_cases hle : n ≤ 1048576
        · skip
          have hmn : min n 1048576 = n := by omega
          rw [hmn] at hcut HRC
          clear hmn
          have HLE := Hd.mk hle
          have hle2 : (n : Int) ≤ 1048576 := by omega
          clear hle
          go_wp2_with fail
          refine (copyB_any u2 A n c w.heap.size _ HRC.out (by have := HLE.out; omega)).mono ?_
          rintro e wz ⟨A3, c3, rfl, ho3, hn3, hb3⟩
          have HZ := Hd.mk (HU2.out.below hb3)
          have HO3 : Hd (wz.ownsRow (gq + 1) 5 1 (.slice A3 n c3) (body.take 1048576).length (cb (body.take 1048576))) := ⟨by have hl := HRC.out.1; rw [cb_length] at hl; rw [hl]; exact own_base ho3 HU2.out.lt⟩
          clear ho3 hn3 hb3 hcut HU2 c0 c7
          have c0 : wz.cell? ⟨g1, 0, none⟩ = some (.int .i64 1) := HZ.out.at1 0 (by rw [HCK.out]; rfl)
          have z9 := HZ.out.z3 7
          have d9 : wz.cell? ⟨gq, 7, none⟩ = some (.slice none 0 0) := HZ.out.at3 7 rfl
          go_upto_region 8 with fail
          obtain ⟨u3, hu3⟩ : ∃ U, wz.setCell ⟨gq, 7, none⟩ (.slice A3 n c3) = U := ⟨_, rfl⟩
          rw [hu3]
          have HU3 : Hd (Ft w u3 28 g1 gx gq cK rq0 (rqW (⟨1, tag, (cutP key 1024), emS, 0, 0, 0, (body.take 1048576)⟩ : Rq) (.slice A3 n c3))) := ⟨by rw [← hu3]; exact HZ.out.set (M' := (rqW (⟨1, tag, (cutP key 1024), emS, 0, 0, 0, (body.take 1048576)⟩ : Rq) (.slice A3 n c3))) 7 _ rfl (rqW_ok1 rfl HO3.out)⟩
          clear hu3 z9 d9 HZ c0
          have c0 : u3.cell? ⟨g1, 0, none⟩ = some (.int .i64 1) := HU3.out.at1 0 (by rw [HCK.out]; rfl)
          go_upto_region 15 with fail
          have hbx := HU3.out.box
          have hrs := HU3.out.res
          go_wp2_with (first | (refine at_load (x := .tmp 3) ?_; refine wpList_load_row rfl 28 (.tmp 3) rfl gq rfl 28 (rqW (⟨1, tag, (cutP key 1024), emS, 0, 0, 0, (body.take 1048576)⟩ : Rq) (.slice A3 n c3)).cells.toArray (0, 0) _ hbx Try.underlying28 rfl infoRq8 ?_) | (refine at_store (x := .tmp 2) ?_; refine wpList_stored rfl 28 (.tmp 2) (.tmp 68) rfl gx (rqW (⟨1, tag, (cutP key 1024), emS, 0, 0, 0, (body.take 1048576)⟩ : Rq) (.slice A3 n c3)).cells.toArray rfl rfl 28 rq0 hrs infoRq8 rfl (by simp [rqW, Value.oneCell']) ?_; intro wy hBy))
          (try simp only [Exit.inBlock, Exit.then])
          refine bodyPost_ret (results_cell1 rfl _ _ gx 28 (rqW (⟨1, tag, (cutP key 1024), emS, 0, 0, 0, (body.take 1048576)⟩ : Rq) (.slice A3 n c3)).cells.toArray (0, 0) _ rfl hBy.out.1 Try.underlying28 rfl infoRq8) rfl ?_
          have hRR : fitP R = (⟨1, tag, (cutP key 1024), emS, 0, 0, 0, (body.take 1048576)⟩ : Rq) := by rw [HR.out]; unfold fitP; simp only [HK.out]; rfl
          rw [hRR]
          exact ⟨(.slice A3 n c3), rfl, HU3.out.done hBy.out.2.1⟩
        · skip
          have hmn : min n 1048576 = 1048576 := by omega
          rw [hmn] at hcut HRC
          clear hmn
          have hcut2 : (Instr.slice 26 (.slice A n c) none (some (.int .i64 1048576)) none).run Try.prog u2 = .ok (.slice A 1048576 c) u2 := hcut
          have HLE := Hd.mk hle
          have hle2 : ¬ ((n : Int) ≤ 1048576) := by omega
          have hle3 : ¬ ((n : Int) < 1048576) := by omega
          clear hle
          go_wp2_with fail
          refine (copyB_any u2 A 1048576 c w.heap.size _ HRC.out (by have := HLE.out; omega)).mono ?_
          rintro e wz ⟨A3, c3, rfl, ho3, hn3, hb3⟩
          have HZ := Hd.mk (HU2.out.below hb3)
          have HO3 : Hd (wz.ownsRow (gq + 1) 5 1 (.slice A3 1048576 c3) (body.take 1048576).length (cb (body.take 1048576))) := ⟨by have hl := HRC.out.1; rw [cb_length] at hl; rw [hl]; exact own_base ho3 HU2.out.lt⟩
          clear ho3 hn3 hb3 hcut HU2 c0 c7
          have c0 : wz.cell? ⟨g1, 0, none⟩ = some (.int .i64 1) := HZ.out.at1 0 (by rw [HCK.out]; rfl)
          have z9 := HZ.out.z3 7
          have d9 : wz.cell? ⟨gq, 7, none⟩ = some (.slice none 0 0) := HZ.out.at3 7 rfl
          go_upto_region 8 with fail
          obtain ⟨u3, hu3⟩ : ∃ U, wz.setCell ⟨gq, 7, none⟩ (.slice A3 1048576 c3) = U := ⟨_, rfl⟩
          rw [hu3]
          have HU3 : Hd (Ft w u3 28 g1 gx gq cK rq0 (rqW (⟨1, tag, (cutP key 1024), emS, 0, 0, 0, (body.take 1048576)⟩ : Rq) (.slice A3 1048576 c3))) := ⟨by rw [← hu3]; exact HZ.out.set (M' := (rqW (⟨1, tag, (cutP key 1024), emS, 0, 0, 0, (body.take 1048576)⟩ : Rq) (.slice A3 1048576 c3))) 7 _ rfl (rqW_ok1 rfl HO3.out)⟩
          clear hu3 z9 d9 HZ c0
          have c0 : u3.cell? ⟨g1, 0, none⟩ = some (.int .i64 1) := HU3.out.at1 0 (by rw [HCK.out]; rfl)
          go_upto_region 15 with fail
          have hbx := HU3.out.box
          have hrs := HU3.out.res
          go_wp2_with (first | (refine at_load (x := .tmp 3) ?_; refine wpList_load_row rfl 28 (.tmp 3) rfl gq rfl 28 (rqW (⟨1, tag, (cutP key 1024), emS, 0, 0, 0, (body.take 1048576)⟩ : Rq) (.slice A3 1048576 c3)).cells.toArray (0, 0) _ hbx Try.underlying28 rfl infoRq8 ?_) | (refine at_store (x := .tmp 2) ?_; refine wpList_stored rfl 28 (.tmp 2) (.tmp 68) rfl gx (rqW (⟨1, tag, (cutP key 1024), emS, 0, 0, 0, (body.take 1048576)⟩ : Rq) (.slice A3 1048576 c3)).cells.toArray rfl rfl 28 rq0 hrs infoRq8 rfl (by simp [rqW, Value.oneCell']) ?_; intro wy hBy))
          (try simp only [Exit.inBlock, Exit.then])
          refine bodyPost_ret (results_cell1 rfl _ _ gx 28 (rqW (⟨1, tag, (cutP key 1024), emS, 0, 0, 0, (body.take 1048576)⟩ : Rq) (.slice A3 1048576 c3)).cells.toArray (0, 0) _ rfl hBy.out.1 Try.underlying28 rfl infoRq8) rfl ?_
          have hRR : fitP R = (⟨1, tag, (cutP key 1024), emS, 0, 0, 0, (body.take 1048576)⟩ : Rq) := by rw [HR.out]; unfold fitP; simp only [HK.out]; rfl
          rw [hRR]
          exact ⟨(.slice A3 1048576 c3), rfl, HU3.out.done hBy.out.2.1⟩
      · skip
        have c0 : w3.cell? ⟨g1, 0, none⟩ = some (.int .i64 2) := HS.out.at1 0 (by rw [HCK.out]; rfl)
        have c2 : w3.cell? ⟨g1, 2, none⟩ = some (.string key) := HS.out.at1 2 (by rw [HCK.out]; rfl)
        go_wp2_with fail
        refine (cut_any w3 key 1024 HH.out.2.2.2.1 (by omega)).mono ?_
        rintro e z1 ⟨rfl, hz1⟩
        subst hz1
        have z9 := HS.out.z3 2
        have d9 : w3.cell? ⟨gq, 2, none⟩ = some (.string emS) := HS.out.at3 2 rfl
        go_upto_region 6 with fail
        obtain ⟨u2, hu2⟩ : ∃ U, w3.setCell ⟨gq, 2, none⟩ (.string (cutP key 1024)) = U := ⟨_, rfl⟩
        rw [hu2]
        have HU2 : Hd (Ft w u2 28 g1 gx gq cK rq0 (rqW (⟨2, tag, (cutP key 1024), emS, 0, 0, 0, []⟩ : Rq) (.slice none 0 0))) := ⟨by rw [← hu2]; exact HS.out.set (M' := (rqW (⟨2, tag, (cutP key 1024), emS, 0, 0, 0, []⟩ : Rq) (.slice none 0 0))) 2 _ rfl (fun r hr => HS.out.ok r hr)⟩
        clear hu2 z9 d9 HS c0 c2
        have c0 : u2.cell? ⟨g1, 0, none⟩ = some (.int .i64 2) := HU2.out.at1 0 (by rw [HCK.out]; rfl)
        go_upto_region 15 with fail
        have hbx := HU2.out.box
        have hrs := HU2.out.res
        go_wp2_with (first | (refine at_load (x := .tmp 3) ?_; refine wpList_load_row rfl 28 (.tmp 3) rfl gq rfl 28 (rqW (⟨2, tag, (cutP key 1024), emS, 0, 0, 0, []⟩ : Rq) (.slice none 0 0)).cells.toArray (0, 0) _ hbx Try.underlying28 rfl infoRq8 ?_) | (refine at_store (x := .tmp 2) ?_; refine wpList_stored rfl 28 (.tmp 2) (.tmp 68) rfl gx (rqW (⟨2, tag, (cutP key 1024), emS, 0, 0, 0, []⟩ : Rq) (.slice none 0 0)).cells.toArray rfl rfl 28 rq0 hrs infoRq8 rfl (by simp [rqW, Value.oneCell']) ?_; intro wy hBy))
        (try simp only [Exit.inBlock, Exit.then])
        refine bodyPost_ret (results_cell1 rfl _ _ gx 28 (rqW (⟨2, tag, (cutP key 1024), emS, 0, 0, 0, []⟩ : Rq) (.slice none 0 0)).cells.toArray (0, 0) _ rfl hBy.out.1 Try.underlying28 rfl infoRq8) rfl ?_
        have hRR : fitP R = (⟨2, tag, (cutP key 1024), emS, 0, 0, 0, []⟩ : Rq) := by rw [HR.out]; unfold fitP; simp only [HK.out]; rfl
        rw [hRR]
        exact ⟨(.slice none 0 0), rfl, HU2.out.done hBy.out.2.1⟩
      · skip
        have c0 : w3.cell? ⟨g1, 0, none⟩ = some (.int .i64 3) := HS.out.at1 0 (by rw [HCK.out]; rfl)
        have c2 : w3.cell? ⟨g1, 2, none⟩ = some (.string key) := HS.out.at1 2 (by rw [HCK.out]; rfl)
        go_wp2_with fail
        refine (cut_any w3 key 1024 HH.out.2.2.2.1 (by omega)).mono ?_
        rintro e z1 ⟨rfl, hz1⟩
        subst hz1
        have z9 := HS.out.z3 2
        have d9 : w3.cell? ⟨gq, 2, none⟩ = some (.string emS) := HS.out.at3 2 rfl
        go_upto_region 6 with fail
        obtain ⟨u2, hu2⟩ : ∃ U, w3.setCell ⟨gq, 2, none⟩ (.string (cutP key 1024)) = U := ⟨_, rfl⟩
        rw [hu2]
        have HU2 : Hd (Ft w u2 28 g1 gx gq cK rq0 (rqW (⟨3, tag, (cutP key 1024), emS, 0, 0, 0, []⟩ : Rq) (.slice none 0 0))) := ⟨by rw [← hu2]; exact HS.out.set (M' := (rqW (⟨3, tag, (cutP key 1024), emS, 0, 0, 0, []⟩ : Rq) (.slice none 0 0))) 2 _ rfl (fun r hr => HS.out.ok r hr)⟩
        clear hu2 z9 d9 HS c0 c2
        have c0 : u2.cell? ⟨g1, 0, none⟩ = some (.int .i64 3) := HU2.out.at1 0 (by rw [HCK.out]; rfl)
        have c5 : u2.cell? ⟨g1, 5, none⟩ = some (.int .i64 num) := HU2.out.at1 5 (by rw [HCK.out]; rfl)
        have z9 := HU2.out.z3 5
        have d9 : u2.cell? ⟨gq, 5, none⟩ = some (.int .i64 0) := HU2.out.at3 5 rfl
        go_upto_region 10 with fail
        obtain ⟨u3, hu3⟩ : ∃ U, u2.setCell ⟨gq, 5, none⟩ (.int .i64 num) = U := ⟨_, rfl⟩
        rw [hu3]
        have HU3 : Hd (Ft w u3 28 g1 gx gq cK rq0 (rqW (⟨3, tag, (cutP key 1024), emS, 0, num, 0, []⟩ : Rq) (.slice none 0 0))) := ⟨by rw [← hu3]; exact HU2.out.set (M' := (rqW (⟨3, tag, (cutP key 1024), emS, 0, num, 0, []⟩ : Rq) (.slice none 0 0))) 5 _ rfl (fun r hr => HU2.out.ok r hr)⟩
        clear hu3 z9 d9 HU2 c0 c5
        have c0 : u3.cell? ⟨g1, 0, none⟩ = some (.int .i64 3) := HU3.out.at1 0 (by rw [HCK.out]; rfl)
        have c4 : u3.cell? ⟨g1, 4, none⟩ = some (.int .i64 off) := HU3.out.at1 4 (by rw [HCK.out]; rfl)
        have z9 := HU3.out.z3 4
        have d9 : u3.cell? ⟨gq, 4, none⟩ = some (.int .i64 0) := HU3.out.at3 4 rfl
        go_upto_region 12 with fail
        obtain ⟨u4, hu4⟩ : ∃ U, u3.setCell ⟨gq, 4, none⟩ (.int .i64 off) = U := ⟨_, rfl⟩
        rw [hu4]
        have HU4 : Hd (Ft w u4 28 g1 gx gq cK rq0 (rqW (⟨3, tag, (cutP key 1024), emS, off, num, 0, []⟩ : Rq) (.slice none 0 0))) := ⟨by rw [← hu4]; exact HU3.out.set (M' := (rqW (⟨3, tag, (cutP key 1024), emS, off, num, 0, []⟩ : Rq) (.slice none 0 0))) 4 _ rfl (fun r hr => HU3.out.ok r hr)⟩
        clear hu4 z9 d9 HU3 c0 c4
        have c0 : u4.cell? ⟨g1, 0, none⟩ = some (.int .i64 3) := HU4.out.at1 0 (by rw [HCK.out]; rfl)
        go_upto_region 15 with fail
        have hbx := HU4.out.box
        have hrs := HU4.out.res
        go_wp2_with (first | (refine at_load (x := .tmp 3) ?_; refine wpList_load_row rfl 28 (.tmp 3) rfl gq rfl 28 (rqW (⟨3, tag, (cutP key 1024), emS, off, num, 0, []⟩ : Rq) (.slice none 0 0)).cells.toArray (0, 0) _ hbx Try.underlying28 rfl infoRq8 ?_) | (refine at_store (x := .tmp 2) ?_; refine wpList_stored rfl 28 (.tmp 2) (.tmp 68) rfl gx (rqW (⟨3, tag, (cutP key 1024), emS, off, num, 0, []⟩ : Rq) (.slice none 0 0)).cells.toArray rfl rfl 28 rq0 hrs infoRq8 rfl (by simp [rqW, Value.oneCell']) ?_; intro wy hBy))
        (try simp only [Exit.inBlock, Exit.then])
        refine bodyPost_ret (results_cell1 rfl _ _ gx 28 (rqW (⟨3, tag, (cutP key 1024), emS, off, num, 0, []⟩ : Rq) (.slice none 0 0)).cells.toArray (0, 0) _ rfl hBy.out.1 Try.underlying28 rfl infoRq8) rfl ?_
        have hRR : fitP R = (⟨3, tag, (cutP key 1024), emS, off, num, 0, []⟩ : Rq) := by rw [HR.out]; unfold fitP; simp only [HK.out]; rfl
        rw [hRR]
        exact ⟨(.slice none 0 0), rfl, HU4.out.done hBy.out.2.1⟩
      · skip
        have c0 : w3.cell? ⟨g1, 0, none⟩ = some (.int .i64 4) := HS.out.at1 0 (by rw [HCK.out]; rfl)
        have c2 : w3.cell? ⟨g1, 2, none⟩ = some (.string key) := HS.out.at1 2 (by rw [HCK.out]; rfl)
        go_wp2_with fail
        refine (cut_any w3 key 1024 HH.out.2.2.2.1 (by omega)).mono ?_
        rintro e z1 ⟨rfl, hz1⟩
        subst hz1
        have z9 := HS.out.z3 2
        have d9 : w3.cell? ⟨gq, 2, none⟩ = some (.string emS) := HS.out.at3 2 rfl
        go_upto_region 6 with fail
        obtain ⟨u2, hu2⟩ : ∃ U, w3.setCell ⟨gq, 2, none⟩ (.string (cutP key 1024)) = U := ⟨_, rfl⟩
        rw [hu2]
        have HU2 : Hd (Ft w u2 28 g1 gx gq cK rq0 (rqW (⟨4, tag, (cutP key 1024), emS, 0, 0, 0, []⟩ : Rq) (.slice none 0 0))) := ⟨by rw [← hu2]; exact HS.out.set (M' := (rqW (⟨4, tag, (cutP key 1024), emS, 0, 0, 0, []⟩ : Rq) (.slice none 0 0))) 2 _ rfl (fun r hr => HS.out.ok r hr)⟩
        clear hu2 z9 d9 HS c0 c2
        have c0 : u2.cell? ⟨g1, 0, none⟩ = some (.int .i64 4) := HU2.out.at1 0 (by rw [HCK.out]; rfl)
        go_upto_region 15 with fail
        have hbx := HU2.out.box
        have hrs := HU2.out.res
        go_wp2_with (first | (refine at_load (x := .tmp 3) ?_; refine wpList_load_row rfl 28 (.tmp 3) rfl gq rfl 28 (rqW (⟨4, tag, (cutP key 1024), emS, 0, 0, 0, []⟩ : Rq) (.slice none 0 0)).cells.toArray (0, 0) _ hbx Try.underlying28 rfl infoRq8 ?_) | (refine at_store (x := .tmp 2) ?_; refine wpList_stored rfl 28 (.tmp 2) (.tmp 68) rfl gx (rqW (⟨4, tag, (cutP key 1024), emS, 0, 0, 0, []⟩ : Rq) (.slice none 0 0)).cells.toArray rfl rfl 28 rq0 hrs infoRq8 rfl (by simp [rqW, Value.oneCell']) ?_; intro wy hBy))
        (try simp only [Exit.inBlock, Exit.then])
        refine bodyPost_ret (results_cell1 rfl _ _ gx 28 (rqW (⟨4, tag, (cutP key 1024), emS, 0, 0, 0, []⟩ : Rq) (.slice none 0 0)).cells.toArray (0, 0) _ rfl hBy.out.1 Try.underlying28 rfl infoRq8) rfl ?_
        have hRR : fitP R = (⟨4, tag, (cutP key 1024), emS, 0, 0, 0, []⟩ : Rq) := by rw [HR.out]; unfold fitP; simp only [HK.out]; rfl
        rw [hRR]
        exact ⟨(.slice none 0 0), rfl, HU2.out.done hBy.out.2.1⟩
      · skip
        have c0 : w3.cell? ⟨g1, 0, none⟩ = some (.int .i64 5) := HS.out.at1 0 (by rw [HCK.out]; rfl)
        have c2 : w3.cell? ⟨g1, 2, none⟩ = some (.string key) := HS.out.at1 2 (by rw [HCK.out]; rfl)
        go_wp2_with fail
        refine (cut_any w3 key 1024 HH.out.2.2.2.1 (by omega)).mono ?_
        rintro e z1 ⟨rfl, hz1⟩
        subst hz1
        have z9 := HS.out.z3 2
        have d9 : w3.cell? ⟨gq, 2, none⟩ = some (.string emS) := HS.out.at3 2 rfl
        go_upto_region 6 with fail
        obtain ⟨u2, hu2⟩ : ∃ U, w3.setCell ⟨gq, 2, none⟩ (.string (cutP key 1024)) = U := ⟨_, rfl⟩
        rw [hu2]
        have HU2 : Hd (Ft w u2 28 g1 gx gq cK rq0 (rqW (⟨5, tag, (cutP key 1024), emS, 0, 0, 0, []⟩ : Rq) (.slice none 0 0))) := ⟨by rw [← hu2]; exact HS.out.set (M' := (rqW (⟨5, tag, (cutP key 1024), emS, 0, 0, 0, []⟩ : Rq) (.slice none 0 0))) 2 _ rfl (fun r hr => HS.out.ok r hr)⟩
        clear hu2 z9 d9 HS c0 c2
        have c0 : u2.cell? ⟨g1, 0, none⟩ = some (.int .i64 5) := HU2.out.at1 0 (by rw [HCK.out]; rfl)
        go_upto_region 15 with fail
        have hbx := HU2.out.box
        have hrs := HU2.out.res
        go_wp2_with (first | (refine at_load (x := .tmp 3) ?_; refine wpList_load_row rfl 28 (.tmp 3) rfl gq rfl 28 (rqW (⟨5, tag, (cutP key 1024), emS, 0, 0, 0, []⟩ : Rq) (.slice none 0 0)).cells.toArray (0, 0) _ hbx Try.underlying28 rfl infoRq8 ?_) | (refine at_store (x := .tmp 2) ?_; refine wpList_stored rfl 28 (.tmp 2) (.tmp 68) rfl gx (rqW (⟨5, tag, (cutP key 1024), emS, 0, 0, 0, []⟩ : Rq) (.slice none 0 0)).cells.toArray rfl rfl 28 rq0 hrs infoRq8 rfl (by simp [rqW, Value.oneCell']) ?_; intro wy hBy))
        (try simp only [Exit.inBlock, Exit.then])
        refine bodyPost_ret (results_cell1 rfl _ _ gx 28 (rqW (⟨5, tag, (cutP key 1024), emS, 0, 0, 0, []⟩ : Rq) (.slice none 0 0)).cells.toArray (0, 0) _ rfl hBy.out.1 Try.underlying28 rfl infoRq8) rfl ?_
        have hRR : fitP R = (⟨5, tag, (cutP key 1024), emS, 0, 0, 0, []⟩ : Rq) := by rw [HR.out]; unfold fitP; simp only [HK.out]; rfl
        rw [hRR]
        exact ⟨(.slice none 0 0), rfl, HU2.out.done hBy.out.2.1⟩
      · skip
        have c0 : w3.cell? ⟨g1, 0, none⟩ = some (.int .i64 6) := HS.out.at1 0 (by rw [HCK.out]; rfl)
        have c2 : w3.cell? ⟨g1, 2, none⟩ = some (.string key) := HS.out.at1 2 (by rw [HCK.out]; rfl)
        go_wp2_with fail
        refine (cut_any w3 key 1024 HH.out.2.2.2.1 (by omega)).mono ?_
        rintro e z1 ⟨rfl, hz1⟩
        subst hz1
        have z9 := HS.out.z3 2
        have d9 : w3.cell? ⟨gq, 2, none⟩ = some (.string emS) := HS.out.at3 2 rfl
        go_upto_region 6 with fail
        obtain ⟨u2, hu2⟩ : ∃ U, w3.setCell ⟨gq, 2, none⟩ (.string (cutP key 1024)) = U := ⟨_, rfl⟩
        rw [hu2]
        have HU2 : Hd (Ft w u2 28 g1 gx gq cK rq0 (rqW (⟨6, tag, (cutP key 1024), emS, 0, 0, 0, []⟩ : Rq) (.slice none 0 0))) := ⟨by rw [← hu2]; exact HS.out.set (M' := (rqW (⟨6, tag, (cutP key 1024), emS, 0, 0, 0, []⟩ : Rq) (.slice none 0 0))) 2 _ rfl (fun r hr => HS.out.ok r hr)⟩
        clear hu2 z9 d9 HS c0 c2
        have c0 : u2.cell? ⟨g1, 0, none⟩ = some (.int .i64 6) := HU2.out.at1 0 (by rw [HCK.out]; rfl)
        go_upto_region 15 with fail
        have hbx := HU2.out.box
        have hrs := HU2.out.res
        go_wp2_with (first | (refine at_load (x := .tmp 3) ?_; refine wpList_load_row rfl 28 (.tmp 3) rfl gq rfl 28 (rqW (⟨6, tag, (cutP key 1024), emS, 0, 0, 0, []⟩ : Rq) (.slice none 0 0)).cells.toArray (0, 0) _ hbx Try.underlying28 rfl infoRq8 ?_) | (refine at_store (x := .tmp 2) ?_; refine wpList_stored rfl 28 (.tmp 2) (.tmp 68) rfl gx (rqW (⟨6, tag, (cutP key 1024), emS, 0, 0, 0, []⟩ : Rq) (.slice none 0 0)).cells.toArray rfl rfl 28 rq0 hrs infoRq8 rfl (by simp [rqW, Value.oneCell']) ?_; intro wy hBy))
        (try simp only [Exit.inBlock, Exit.then])
        refine bodyPost_ret (results_cell1 rfl _ _ gx 28 (rqW (⟨6, tag, (cutP key 1024), emS, 0, 0, 0, []⟩ : Rq) (.slice none 0 0)).cells.toArray (0, 0) _ rfl hBy.out.1 Try.underlying28 rfl infoRq8) rfl ?_
        have hRR : fitP R = (⟨6, tag, (cutP key 1024), emS, 0, 0, 0, []⟩ : Rq) := by rw [HR.out]; unfold fitP; simp only [HK.out]; rfl
        rw [hRR]
        exact ⟨(.slice none 0 0), rfl, HU2.out.done hBy.out.2.1⟩
      · skip
        have c0 : w3.cell? ⟨g1, 0, none⟩ = some (.int .i64 7) := HS.out.at1 0 (by rw [HCK.out]; rfl)
        have c2 : w3.cell? ⟨g1, 2, none⟩ = some (.string key) := HS.out.at1 2 (by rw [HCK.out]; rfl)
        go_wp2_with fail
        refine (cut_any w3 key 1024 HH.out.2.2.2.1 (by omega)).mono ?_
        rintro e z1 ⟨rfl, hz1⟩
        subst hz1
        have z9 := HS.out.z3 2
        have d9 : w3.cell? ⟨gq, 2, none⟩ = some (.string emS) := HS.out.at3 2 rfl
        go_upto_region 6 with fail
        obtain ⟨u2, hu2⟩ : ∃ U, w3.setCell ⟨gq, 2, none⟩ (.string (cutP key 1024)) = U := ⟨_, rfl⟩
        rw [hu2]
        have HU2 : Hd (Ft w u2 28 g1 gx gq cK rq0 (rqW (⟨7, tag, (cutP key 1024), emS, 0, 0, 0, []⟩ : Rq) (.slice none 0 0))) := ⟨by rw [← hu2]; exact HS.out.set (M' := (rqW (⟨7, tag, (cutP key 1024), emS, 0, 0, 0, []⟩ : Rq) (.slice none 0 0))) 2 _ rfl (fun r hr => HS.out.ok r hr)⟩
        clear hu2 z9 d9 HS c0 c2
        have c0 : u2.cell? ⟨g1, 0, none⟩ = some (.int .i64 7) := HU2.out.at1 0 (by rw [HCK.out]; rfl)
        have c5 : u2.cell? ⟨g1, 5, none⟩ = some (.int .i64 num) := HU2.out.at1 5 (by rw [HCK.out]; rfl)
        have z9 := HU2.out.z3 5
        have d9 : u2.cell? ⟨gq, 5, none⟩ = some (.int .i64 0) := HU2.out.at3 5 rfl
        go_upto_region 10 with fail
        obtain ⟨u3, hu3⟩ : ∃ U, u2.setCell ⟨gq, 5, none⟩ (.int .i64 num) = U := ⟨_, rfl⟩
        rw [hu3]
        have HU3 : Hd (Ft w u3 28 g1 gx gq cK rq0 (rqW (⟨7, tag, (cutP key 1024), emS, 0, num, 0, []⟩ : Rq) (.slice none 0 0))) := ⟨by rw [← hu3]; exact HU2.out.set (M' := (rqW (⟨7, tag, (cutP key 1024), emS, 0, num, 0, []⟩ : Rq) (.slice none 0 0))) 5 _ rfl (fun r hr => HU2.out.ok r hr)⟩
        clear hu3 z9 d9 HU2 c0 c5
        have c0 : u3.cell? ⟨g1, 0, none⟩ = some (.int .i64 7) := HU3.out.at1 0 (by rw [HCK.out]; rfl)
        have c3 : u3.cell? ⟨g1, 3, none⟩ = some (.string after) := HU3.out.at1 3 (by rw [HCK.out]; rfl)
        go_wp2_with fail
        refine (cut_any u3 after 1024 HH.out.2.2.2.2.1 (by omega)).mono ?_
        rintro e z4 ⟨rfl, hz4⟩
        subst hz4
        have z9 := HU3.out.z3 3
        have d9 : u3.cell? ⟨gq, 3, none⟩ = some (.string emS) := HU3.out.at3 3 rfl
        go_upto_region 14 with fail
        obtain ⟨u5, hu5⟩ : ∃ U, u3.setCell ⟨gq, 3, none⟩ (.string (cutP after 1024)) = U := ⟨_, rfl⟩
        rw [hu5]
        have HU5 : Hd (Ft w u5 28 g1 gx gq cK rq0 (rqW (⟨7, tag, (cutP key 1024), (cutP after 1024), 0, num, 0, []⟩ : Rq) (.slice none 0 0))) := ⟨by rw [← hu5]; exact HU3.out.set (M' := (rqW (⟨7, tag, (cutP key 1024), (cutP after 1024), 0, num, 0, []⟩ : Rq) (.slice none 0 0))) 3 _ rfl (fun r hr => HU3.out.ok r hr)⟩
        clear hu5 z9 d9 HU3 c0 c3
        have c0 : u5.cell? ⟨g1, 0, none⟩ = some (.int .i64 7) := HU5.out.at1 0 (by rw [HCK.out]; rfl)
        have c6 : u5.cell? ⟨g1, 6, none⟩ = some (.int .i64 delim) := HU5.out.at1 6 (by rw [HCK.out]; rfl)
        have z9 := HU5.out.z3 6
        have d9 : u5.cell? ⟨gq, 6, none⟩ = some (.int .i64 0) := HU5.out.at3 6 rfl
        go_upto_region 15 with fail
        obtain ⟨u6, hu6⟩ : ∃ U, u5.setCell ⟨gq, 6, none⟩ (.int .i64 delim) = U := ⟨_, rfl⟩
        rw [hu6]
        have HU6 : Hd (Ft w u6 28 g1 gx gq cK rq0 (rqW (⟨7, tag, (cutP key 1024), (cutP after 1024), 0, num, delim, []⟩ : Rq) (.slice none 0 0))) := ⟨by rw [← hu6]; exact HU5.out.set (M' := (rqW (⟨7, tag, (cutP key 1024), (cutP after 1024), 0, num, delim, []⟩ : Rq) (.slice none 0 0))) 6 _ rfl (fun r hr => HU5.out.ok r hr)⟩
        clear hu6 z9 d9 HU5 c0 c6
        have c0 : u6.cell? ⟨g1, 0, none⟩ = some (.int .i64 7) := HU6.out.at1 0 (by rw [HCK.out]; rfl)
        go_upto_region 15 with fail
        have hbx := HU6.out.box
        have hrs := HU6.out.res
        go_wp2_with (first | (refine at_load (x := .tmp 3) ?_; refine wpList_load_row rfl 28 (.tmp 3) rfl gq rfl 28 (rqW (⟨7, tag, (cutP key 1024), (cutP after 1024), 0, num, delim, []⟩ : Rq) (.slice none 0 0)).cells.toArray (0, 0) _ hbx Try.underlying28 rfl infoRq8 ?_) | (refine at_store (x := .tmp 2) ?_; refine wpList_stored rfl 28 (.tmp 2) (.tmp 68) rfl gx (rqW (⟨7, tag, (cutP key 1024), (cutP after 1024), 0, num, delim, []⟩ : Rq) (.slice none 0 0)).cells.toArray rfl rfl 28 rq0 hrs infoRq8 rfl (by simp [rqW, Value.oneCell']) ?_; intro wy hBy))
        (try simp only [Exit.inBlock, Exit.then])
        refine bodyPost_ret (results_cell1 rfl _ _ gx 28 (rqW (⟨7, tag, (cutP key 1024), (cutP after 1024), 0, num, delim, []⟩ : Rq) (.slice none 0 0)).cells.toArray (0, 0) _ rfl hBy.out.1 Try.underlying28 rfl infoRq8) rfl ?_
        have hRR : fitP R = (⟨7, tag, (cutP key 1024), (cutP after 1024), 0, num, delim, []⟩ : Rq) := by rw [HR.out]; unfold fitP; simp only [HK.out]; rfl
        rw [hRR]
        exact ⟨(.slice none 0 0), rfl, HU6.out.done hBy.out.2.1⟩
      · skip
        have c0 : w3.cell? ⟨g1, 0, none⟩ = some (.int .i64 8) := HS.out.at1 0 (by rw [HCK.out]; rfl)
        go_upto_region 15 with fail
        have hbx := HS.out.box
        have hrs := HS.out.res
        go_wp2_with (first | (refine at_load (x := .tmp 3) ?_; refine wpList_load_row rfl 28 (.tmp 3) rfl gq rfl 28 (rqW (⟨8, tag, emS, emS, 0, 0, 0, []⟩ : Rq) (.slice none 0 0)).cells.toArray (0, 0) _ hbx Try.underlying28 rfl infoRq8 ?_) | (refine at_store (x := .tmp 2) ?_; refine wpList_stored rfl 28 (.tmp 2) (.tmp 68) rfl gx (rqW (⟨8, tag, emS, emS, 0, 0, 0, []⟩ : Rq) (.slice none 0 0)).cells.toArray rfl rfl 28 rq0 hrs infoRq8 rfl (by simp [rqW, Value.oneCell']) ?_; intro wy hBy))
        (try simp only [Exit.inBlock, Exit.then])
        refine bodyPost_ret (results_cell1 rfl _ _ gx 28 (rqW (⟨8, tag, emS, emS, 0, 0, 0, []⟩ : Rq) (.slice none 0 0)).cells.toArray (0, 0) _ rfl hBy.out.1 Try.underlying28 rfl infoRq8) rfl ?_
        have hRR : fitP R = (⟨8, tag, emS, emS, 0, 0, 0, []⟩ : Rq) := by rw [HR.out]; unfold fitP; simp only [HK.out]; rfl
        rw [hRR]
        exact ⟨(.slice none 0 0), rfl, HS.out.done hBy.out.2.1⟩
end Go.Proofs.Ytbcmjjcbjojakaa
end
