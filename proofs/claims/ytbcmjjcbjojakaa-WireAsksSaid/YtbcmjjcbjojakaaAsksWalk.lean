/- The walk of WireAsks: it returns true for every input. -/
import Derived.Test.YtbcmjjcbjojakaaAskR
import Derived.Test.YtbcmjjcbjojakaaBag
import Derived.Test.YtbcmjjcbjojakaaApartB
namespace Go.Proofs.Ytbcmjjcbjojakaa
open Go.RowKit
set_option linter.unusedVariables false
set_option linter.unusedSimpArgs false
theorem copied_any (w : World) (A : Option Addr) (n c B : Nat) (bs : List Nat) (hr : Rd w B A n (cb bs)) (hn : n ≤ 140737488355328) : Calls Try.prog 17 #[.slice A n c] w fun e w' => ∃ A' c', e = .returned (.slice A' n c') ∧ w'.ownsRow w.heap.size 5 1 (.slice A' n c') n (cb bs) ∧ n ≤ c' ∧ Below w.heap.size w w' := by
  have HH := Hd.mk hr
  have h63 : Hd (0 + n ≤ maxLen) := ⟨by unfold maxLen; omega⟩
  have hby : Hd ((0 + n) * 1 ≤ 140737488355328) := ⟨by omega⟩
  clear hr
  go_enter Try.func17, Try.ntmps17
  go_wp2_with (at_builtin; refine wpList_app elB rfl (.const (.slice none 0 0)) (.tmp 3) rfl w.heap.size (.slice none 0 0) 0 [] rfl (World.ownsRow_nil ..) B A n c (cb bs) rfl HH.out (cb_one bs) h63.out hby.out (Nat.le_refl _) ?_; intro v1 w1 hO1; have H1 : Hd (Onto w w1 w.heap.size 5 (.slice none 0 0) v1 n (cb bs)) := ⟨by simpa using hO1⟩; clear hO1)
  go_ret
  obtain ⟨A', c', rfl, hc, _⟩ := own_form H1.out.own
  exact ⟨A', c', rfl, H1.out.own, hc, H1.out.below (fun k hk => by cases hk) (Nat.le_refl _)⟩
theorem Bag.set {W : World} {base : Nat} {RL : List (Nat × Value × List Value)} {X : List Nat} (H : Bag W base RL X) {a : Addr} (ha : a.block < base) (u : Value) : Bag (W.setCell a u) base RL X :=
  ⟨fun x hx => ownsRow_setCell_below (H.own x hx) ha u, H.apart, H.off, fun k hk => by have := H.ltX k hk; simpa [World.setCell] using this⟩
theorem Bag.one {W : World} {base : Nat} (H : Bag W base [] []) {e n : Nat} {v : Value} {xs : List Value} (o : W.ownsRow base e 1 v n xs) : Bag W base [(e, v, xs)] [] := by
  have hl : xs.length = n := by simpa using o.1
  refine ⟨fun x hx => ?_, fun i j x y hx hy hij => ?_, fun x _ k hk => absurd hk List.not_mem_nil, fun k hk => absurd hk List.not_mem_nil⟩
  · rw [List.mem_singleton.1 hx]; simp only; rw [hl]; exact o
  · have h1 := (List.getElem?_eq_some_iff.1 hx).1
    have h2 := (List.getElem?_eq_some_iff.1 hy).1
    simp at h1 h2; omega
/-- Where WireAsks stands. -/
structure AW (w W : World) (g : Nat) (k : Int) (tag : Nat) (key after : ByteArray) (off num delim : Int) (V : Value) (RL : List (Nat × Value × List Value)) : Prop where
  box : W.heap[g]? = some (.cells #[.int .i64 k, .int .u64 (tag : Int), .string key, .string after, .int .i64 off, .int .i64 num, .int .i64 delim, V] 28)
  bag : Bag W (g + 1) RL []
  bel : Below g w W
section
variable {w W W' : World} {g : Nat} {k : Int} {tag : Nat} {key after : ByteArray} {off num delim : Int} {V V' : Value} {RL : List (Nat × Value × List Value)}
theorem AW.lt (H : AW w W g k tag key after off num delim V RL) : g < W.heap.size := (Array.getElem?_eq_some_iff.1 H.box).1
theorem AW.keep (H : AW w W g k tag key after off num delim V RL) (b : Below W.heap.size W W') : AW w W' g k tag key after off num delim V RL :=
  ⟨by rw [b.block g H.lt]; exact H.box, H.bag.keep b, H.bel.trans (b.mono (Nat.le_of_lt H.lt))⟩
theorem AW.push (H : AW w W g k tag key after off num delim V RL) {n : Nat} {v : Value} {xs : List Value} {e : Nat} (hn : xs.length = n) (b : Below W.heap.size W W') (o : W'.ownsRow W.heap.size e 1 v n xs) : AW w W' g k tag key after off num delim V (RL ++ [(e, v, xs)]) :=
  ⟨by rw [b.block g H.lt]; exact H.box, H.bag.push H.lt hn b o, H.bel.trans (b.mono (Nat.le_of_lt H.lt))⟩
theorem AW.body (H : AW w W g k tag key after off num delim V RL) (V' : Value) : AW w (W.setCell ⟨g, 7, none⟩ V') g k tag key after off num delim V' RL :=
  ⟨by rw [heap_set W g 7 V' _ _ H.box]; rfl, H.bag.set (Nat.lt_succ_self g) _, H.bel.setCell (Nat.le_refl _) _⟩
end
/-- The next bytes. -/
def turnB (b : Nat) (i : Nat) : Nat := (b * 3 + i + 1) % 256
set_option maxRecDepth 20000 in
set_option maxHeartbeats 4000000 in
theorem asks_walk (w : World) (k : Int) (tag : Nat) (key after : ByteArray) (off num delim : Int) (body : List Nat) (A : Option Addr) (n c : Nat) (hr : Rd w w.heap.size A n (cb body)) (hb : ∀ x ∈ body, x < 256) (htag : tag < 18446744073709551616) (o1 : -9223372036854775808 ≤ off) (o2 : off ≤ 9223372036854775807) (n1 : -9223372036854775808 ≤ num) (n2 : num ≤ 9223372036854775807) (d1 : -9223372036854775808 ≤ delim) (d2 : delim ≤ 9223372036854775807) (hn : n ≤ 140737488351232) :
    Calls Try.prog 5 #[.agg #[.int .i64 k, .int .u64 (tag : Int), .string key, .string after, .int .i64 off, .int .i64 num, .int .i64 delim, .slice A n c]] w fun e w' => e = .returned (.bool true) ∧ Below w.heap.size w w' := by
  have HQ : Hd (∀ bs : List Nat, (∀ x ∈ bs, x < 256) → RqB ⟨k, tag, key, after, off, num, delim, bs⟩) := ⟨fun bs h => ⟨htag, o1, o2, n1, n2, d1, d2, h⟩⟩
  have hbl : body.length = n := by have := hr.1; rwa [cb_length] at this
  have HH : Hd (Rd w w.heap.size A n (cb body) ∧ (∀ x ∈ body, x < 256) ∧ body.length = n) := ⟨hr, hb, hbl⟩
  obtain ⟨g, hg⟩ : ∃ g, w.heap.size = g := ⟨_, rfl⟩
  have H0 : Hd (AW w (w.alloc (.cells #[.int .i64 k, .int .u64 (tag : Int), .string key, .string after, .int .i64 off, .int .i64 num, .int .i64 delim, .slice A n c] 28)) g k tag key after off num delim (.slice A n c) []) :=
    ⟨by rw [← hg]; exact heap_alloc_new w _, Bag.nil _ _, by rw [← hg]; exact (Below.refl _ w).alloc (Nat.le_refl _) _⟩
  have HG := Hd.mk hg
  clear hr hb hbl htag o1 o2 n1 n2 d1 d2 hg
  go_enter Try.func5, Try.ntmps5
  go_upto_region 1 with fail
  obtain ⟨w0, hw0⟩ : ∃ w0, w.alloc (.cells #[.int .i64 k, .int .u64 (tag : Int), .string key, .string after, .int .i64 off, .int .i64 num, .int .i64 delim, .slice A n c] 28) = w0 := ⟨_, rfl⟩
  rw [hw0] at H0 ⊢
  rw [HG.out]
  clear hw0
  have c7 : w0.cell? ⟨g, 7, none⟩ = some (.slice A n c) := by rw [cell_of_row _ g 7 _ _ (0, 0) H0.out.box]; rfl
  go_wp2_with fail
  clear c7
  refine (lent_any w0 A n c g body (HG.out ▸ (HH.out.1.below (HG.out ▸ H0.out.bel))) (by omega) (Nat.le_of_lt H0.out.lt)).mono ?_
  rintro e w1 ⟨gl, cap, rfl, ho, hb, hg1, hg2, hc⟩
  have HC := Hd.mk hc
  have H1 : Hd (AW w w1 g k tag key after off num delim (.slice A n c) ([] ++ [(5, .slice (some ⟨gl, 0, none⟩) (n + 64) cap, cb (body ++ marks))])) := ⟨H0.out.push (by rw [cb_length, List.length_append, marks_len, HH.out.2.2]) hb ho⟩
  clear ho hb hg1 hg2 hc H0
  go_wp2_with fail
  go_loopw [4] (fun u4 wr => ∃ (tn : Nat) (V : Value) (bs : List Nat), tn ≤ 2 ∧ u4 = .int .i64 (tn : Int) ∧ bs.length = n ∧ (∀ x ∈ bs, x < 256) ∧ AW w wr g k tag key after off num delim V [(5, .slice (some ⟨gl, 0, none⟩) (n + 64) cap, cb (bs ++ marks))]) (fun u4 _ => 2 - (intOf u4).toNat)
  case atStart => exact ⟨0, _, body, by omega, rfl, HH.out.2.2, HH.out.2.1, H1.out⟩
  case round =>
    clear H1
    obtain ⟨tn, V, bs, htn, rfl, hbl, hbb, hA⟩ := hrel
    have H2 := Hd.mk (And.intro hbl (And.intro hbb hA))
    clear hbl hbb hA
    obtain ⟨wo, hwo⟩ : ∃ wo : World, wo = wr := ⟨_, rfl⟩
    subst hwo
    by_cases htt : tn < 2
    · have hti : (tn : Int) < 2 := by omega
      have HL : Hd (∀ W V RL, AW w W g k tag key after off num delim V ((5, .slice (some ⟨gl, 0, none⟩) (n + 64) cap, cb (bs ++ marks)) :: RL) → Rd W W.heap.size (some ⟨gl, 0, none⟩) n (cb bs)) := ⟨fun W V RL h => by
        have h := (h.bag.rd 0 rfl).take (h := n) (by omega)
        rw [cb, ← List.map_take, List.take_left' H2.out.1] at h
        exact h⟩
      go_wp2_with fail
      refine (copied_any wo (some ⟨gl, 0, none⟩) n cap wo.heap.size bs (HL.out wo _ _ H2.out.2.2) (by omega)).mono ?_
      rintro e w2 ⟨A2, c2, rfl, ho, hc2, hb⟩
      have H3 := Hd.mk (H2.out.2.2.push (by rw [cb_length]; exact H2.out.1) hb ho)
      clear ho hb
      go_wp2_with fail
      refine (copied_any w2 (some ⟨gl, 0, none⟩) n cap w2.heap.size bs (HL.out w2 _ _ H3.out) (by omega)).mono ?_
      rintro e w3 ⟨A3, c3, rfl, ho, hc3, hb⟩
      have H4 := Hd.mk (H3.out.push (by rw [cb_length]; exact H2.out.1) hb ho)
      clear ho hb H3
      have d7 : w3.cell? ⟨g, 7, none⟩ = some V := by rw [cell_of_row _ g 7 _ _ (0, 0) H4.out.box]; rfl
      have z7 : w3.frozen? ⟨g, 7, none⟩ = false := by simp [World.frozen?, H4.out.box]
      have H5 := Hd.mk (H4.out.body (.slice A3 n c3))
      clear H4
      go_upto_region 7 with fail
      obtain ⟨w4, hw4⟩ : ∃ W, w3.setCell ⟨g, 7, none⟩ (.slice A3 n c3) = W := ⟨_, rfl⟩
      rw [hw4] at H5 ⊢
      clear hw4 d7 z7
      go_wp2_with (refine at_load ?_; refine wpList_load_row rfl 28 (.tmp 1) rfl g rfl 28 #[.int .i64 k, .int .u64 (tag : Int), .string key, .string after, .int .i64 off, .int .i64 num, .int .i64 delim, .slice A3 n c3] (0, 0) _ H5.out.box Try.underlying28 rfl infoRq ?_)
      refine (refAsk_any w4 ⟨k, tag, key, after, off, num, delim, bs⟩ A3 n c3 (H5.out.bag.rd 2 rfl) (HQ.out bs H2.out.2.1) hc3).mono ?_
      rintro e w5 ⟨v5, rfl, hO⟩
      obtain ⟨F, E, hFE⟩ : ∃ F E, askP ⟨k, tag, key, after, off, num, delim, bs⟩ = (F, E) := ⟨_, _, rfl⟩
      have HFE := Hd.mk hFE
      rw [hFE] at hO ⊢
      simp only at hO ⊢
      have H6 := Hd.mk (H5.out.push (by rw [cb_length]) (hO.below (fun k hk => by cases hk) (Nat.le_refl _)) hO.own)
      obtain ⟨A5, c5, e5, _, _⟩ := own_form hO.own
      subst e5
      clear hO hFE H5
      have d7 : w5.cell? ⟨g, 7, none⟩ = some (.slice A3 n c3) := by rw [cell_of_row _ g 7 _ _ (0, 0) H6.out.box]; rfl
      have z7 : w5.frozen? ⟨g, 7, none⟩ = false := by simp [World.frozen?, H6.out.box]
      have H7 := Hd.mk (H6.out.body (.slice (some ⟨gl, 0, none⟩) n cap))
      clear H6
      go_upto_region 9 with fail
      obtain ⟨w6, hw6⟩ : ∃ W, w5.setCell ⟨g, 7, none⟩ (.slice (some ⟨gl, 0, none⟩) n cap) = W := ⟨_, rfl⟩
      rw [hw6] at H7 ⊢
      clear hw6 d7 z7
      go_wp2_with (refine at_load ?_; refine wpList_load_row rfl 28 (.tmp 1) rfl g rfl 28 #[.int .i64 k, .int .u64 (tag : Int), .string key, .string after, .int .i64 off, .int .i64 num, .int .i64 delim, .slice (some ⟨gl, 0, none⟩) n cap] (0, 0) _ H7.out.box Try.underlying28 rfl infoRq ?_)
      refine (ask_any w6 ⟨k, tag, key, after, off, num, delim, bs⟩ (some ⟨gl, 0, none⟩) n cap (HL.out w6 _ _ H7.out) (HQ.out bs H2.out.2.1) (by have := HC.out; omega)).mono ?_
      rintro e w7 ⟨v7, rfl, hO⟩
      rw [HFE.out] at hO ⊢
      simp only at hO ⊢
      have H8 := Hd.mk (H7.out.push (by rw [cb_length]) (hO.below (fun k hk => by cases hk) (Nat.le_refl _)) hO.own)
      obtain ⟨A7, c7, e7, _, _⟩ := own_form hO.own
      subst e7
      clear hO H7
      have f1 : (convert 26 9 (.slice A5 F.length c5)).run Try.prog w7 = .ok (.string (bstr F)) w7 := conv_any (H8.out.bag.rd 3 rfl)
      have f2 : (convert 26 9 (.slice A7 F.length c7)).run Try.prog w7 = .ok (.string (bstr F)) w7 := conv_any (H8.out.bag.rd 4 rfl)
      obtain ⟨S, hS⟩ : ∃ S, bstr F = S := ⟨_, rfl⟩
      rw [hS] at f1 f2
      have e1 : (S.toList != S.toList) = false := by simp
      have e2 : (E != E) = false := by simp
      clear hS
      go_wp2_with fail
      have hun := H8.out.bag.own _ (List.mem_cons_self ..)
      simp only [cb_length, List.length_append, marks_len, H2.out.1] at hun
      refine (unmarked_any w7 (g + 1) gl n cap w7.heap.size A2 c2 bs hun (H8.out.bag.rd 1 rfl) (by omega) HC.out).mono ?_
      rintro e w8 ⟨rfl, hw8⟩
      subst hw8
      have HU := Hd.mk (And.intro hun (And.intro H8.out.box H8.out.bel))
      clear hun f1 f2 e1 e2 H8
      go_wp2_with fail
      go_loopw [10] (fun u10 wr => ∃ (i : Nat) (bs' : List Nat), i ≤ n ∧ u10 = .int .i64 (i : Int) ∧ bs'.length = n ∧ (∀ x ∈ bs', x < 256) ∧ wr.ownsRow (g + 1) 5 1 (.slice (some ⟨gl, 0, none⟩) (n + 64) cap) (n + 64) (cb (bs' ++ marks)) ∧ wr.heap[g]? = some (.cells #[.int .i64 k, .int .u64 (tag : Int), .string key, .string after, .int .i64 off, .int .i64 num, .int .i64 delim, .slice (some ⟨gl, 0, none⟩) n cap] 28) ∧ Below g w wr) (fun u10 _ => n - (intOf u10).toNat)
      case atStart => exact ⟨0, bs, by omega, rfl, H2.out.1, H2.out.2.1, HU.out⟩
      case round =>
        obtain ⟨i, bs', hi, rfl, b1, b2, b3, b4, b5⟩ := hrel
        have H9 := Hd.mk (And.intro b1 (And.intro b2 (And.intro b3 (And.intro b4 b5))))
        by_cases hlt : i < n
        · have hii : (i : Int) < (n : Int) := by omega
          have hx : bs'.getD i 0 < 256 := by
            rw [List.getD_eq_getElem?_getD, List.getElem?_eq_getElem (by omega)]; exact b2 _ (List.getElem_mem _)
          have hg := b3.lt gl rfl
          obtain ⟨hc1, hc2⟩ := own_at b3 (j := i) (u := .int .u8 ((bs'.getD i 0 : Nat) : Int)) (by rw [cb_append, List.getElem?_append_left (by rw [cb_length]; omega), cb_get _ _ (by omega)])
          obtain ⟨x, hxx⟩ : ∃ x, bs'.getD i 0 = x := ⟨_, rfl⟩
          rw [hxx] at hx hc1
          clear b1 b2 b3 b4 b5 hxx
          go_wp2_with fail
          go_roundw
          case rel =>
            obtain ⟨z, hz⟩ : ∃ z, (x * 3 + i + 1) % 256 = z := ⟨_, rfl⟩
            have hzi : ((x : Int) * 3 + (i : Int) + 1) % 256 = (z : Int) := by omega
            rw [hzi]
            refine ⟨i + 1, bs'.set i z, by omega, by go_num, by rw [List.length_set]; exact H9.out.1, fun y hy => ?_, ?_, ?_, H9.out.2.2.2.2.setCell (show g ≤ gl by have := hg.1; omega) _⟩
            · rcases List.mem_or_eq_of_mem_set hy with h | h
              · exact H9.out.2.1 y h
              · omega
            · have := own_set1 (u := .int .u8 (z : Int)) H9.out.2.2.1 (j := i) (by omega)
              rw [← List.set_append_left _ _ (by rw [H9.out.1]; exact hlt), show (cb (bs' ++ marks)).set i (.int .u8 (z : Int)) = cb ((bs' ++ marks).set i z) by unfold cb; rw [List.map_set]; rfl] at *
              exact this
            · rw [Below.heap_setCell _ _ _ _ (by show g ≠ gl; have := hg.1; omega)]; exact H9.out.2.2.2.1
          case measure => simp [intOf]; omega
        · have hin : i = n := by omega
          subst hin
          clear b1 b2 b3 b4 b5
          go_wp2_with fail
          go_roundw
          case rel => exact ⟨tn + 1, _, bs', by omega, by go_num, H9.out.1, H9.out.2.1, H9.out.2.2.2.1, (Bag.nil _ _).one H9.out.2.2.1, H9.out.2.2.2.2⟩
          case measure => simp [intOf]; omega
    · have htt2 : tn = 2 := by omega
      subst htt2
      go_wp2_with fail
      go_ret
      exact ⟨rfl, by rw [HG.out]; exact H2.out.2.2.bel⟩
end Go.Proofs.Ytbcmjjcbjojakaa
